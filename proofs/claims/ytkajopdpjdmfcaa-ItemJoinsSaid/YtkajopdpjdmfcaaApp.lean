/- append onto a row of the call's own, the source any slice that reads. Condition: what comes of it has room. -/
import Derived.Test.YtkajopdpjdmfcaaText
import Derived.Laws.OwnMore
namespace Go.Ice
open Go.RowKit

/-- What a slice's element type is: its cells, its bytes, its zero. -/
structure Elem (P : Program) (t e size bytes : Nat) (z : Value) : Prop where
  ht : P.underlying t = some (.slice e)
  hi : ∃ i, P.info? e = some i ∧ i.zero = some z ∧ i.size = size ∧ i.bytes = bytes
  hzs : z.cells.size = size
  hsz : 0 < size

theorem append_sl {P : Program} {t ty e bytes : Nat} {z : Value} (E : Elem P t e 1 bytes z) {w : World} {base : Nat} {v x : Value} {n : Nat} {xs news : List Value}
    (hown : w.ownsRow base e 1 v n xs) (hx : IsSl w x news) (h1 : ∀ u ∈ news, u.oneCell' = true) (hroom : (n + news.length) * bytes ≤ 140737488355328) (h63 : n + news.length ≤ maxLen) (hbase : base ≤ w.heap.size) :
    ∃ v' w', (Builtin.append_ #[t, t] ty #[v, x]).run P w = .ok v' w' ∧ w'.ownsRow base e 1 v' (n + news.length) (xs ++ news) ∧ w.grownBy w' v.ownBlock ∧ (v' = .slice none 0 0 ↔ v = .slice none 0 0 ∧ news = []) := by
  obtain ⟨ht, ⟨i, hi, hz, hs, hb⟩, hzs, hsz⟩ := E
  rcases hx with ⟨rfl, rfl | ⟨a, c, rfl⟩⟩ | ⟨h0, b, off, cap, rfl, g1, g2, g3, g4⟩
  · exact ⟨v, w, run_append_owned_none w base t ty e i 1 ht hi v n xs hown, by simpa using hown, World.grownBy.refl w _, by simp⟩
  · obtain ⟨v', w', hr, h2, h3, h4⟩ := run_append_own (P := P) w base t ty e i z 1 bytes ht hi hz hs hb hzs hsz v n xs hown a 0 c [] rfl (fun j u hu => by simp at hu) (by simp) h63 hroom hbase
    exact ⟨v', w', hr, h2, h3, by rw [h4]; simp⟩
  · obtain ⟨v', w', hr, h2, h3, h4⟩ := run_append_own (P := P) w base t ty e i z 1 bytes ht hi hz hs hb hzs hsz v n xs hown ⟨b, off, none⟩ news.length cap news (by simp) (fun j u hu => by
      have hj : j < news.length := by
        rcases Nat.lt_or_ge j news.length with h | h
        · exact h
        · rw [List.getElem?_eq_none h] at hu; cases hu
      have : (⟨b, off, none⟩ : Addr).add j = ⟨b, off + j, none⟩ := Addr.add_lit _ _ _
      rw [this, g4 j hj, hu]) h1 h63 hroom hbase
    exact ⟨v', w', hr, h2, h3, by rw [h4, List.length_eq_zero_iff]⟩

/-- An append in a walk, its run known. -/
theorem wpList_append_eq {P : Program} {ops : Array Oper} {rest : List Oper} {o : Oper} {a : Act} {w : World} {Q : Exit → Act → World → Prop} (hgd : o.guard = none) (s x : Operand) (t : TypeId)
    (ho : o.op = .call { callee := .builtin .append, args := #[s, x], argTypes := #[t, t] }) {v vx v' : Value} {w' : World} (hs : a.eval s = v) (hx : a.eval x = vx)
    (hrun : (Builtin.append_ #[t, t] o.type #[v, vx]).run P w = .ok v' w') (h : wpList P ops Q rest (a.put o.dst v') w') : wpList P ops Q (o :: rest) a w :=
  wpList_plain hgd fun _ hK => by
    unfold Oper.wp execOp
    simp only [ho, resolve, invoke, builtin, Sem.run_bind, Sem.run_pure, Result.andThen_ok, List.map_toArray, List.map_cons, List.map_nil, hs, hx, hrun]
    exact hK _ _ h

/-- A new block of cells, as a slice. -/
theorem isSl_new (w : World) (cs : List Value) (e : TypeId) (cap : Nat) (hc : cs.length ≤ cap) (hm : cap ≤ maxLen) (fz : Nat × Nat) : IsSl (w.alloc (.cells cs.toArray e fz)) (.slice (some ⟨w.heap.size, 0, none⟩) cs.length cap) cs :=
  isSl_mk hc hm (by simp) fun j hj => by
    rw [Nat.zero_add, World.cell?_alloc_mark]; simp

theorem IsSl.alloc {w : World} {v : Value} {cs : List Value} (h : IsSl w v cs) (o : Obj) : IsSl (w.alloc o) v cs :=
  h.below ((Below.refl w.heap.size w).alloc (Nat.le_refl _) o) (Nat.le_refl _)

theorem own_new (w : World) (e : TypeId) (base : Nat) (hb : base ≤ w.heap.size) : (w.alloc (.cells #[] e)).ownsRow base e 1 (.slice (some ⟨w.heap.size, 0, none⟩) 0 0) 0 [] :=
  World.ownsRow_made w #[] 0 hb (by decide) rfl

end Go.Ice
