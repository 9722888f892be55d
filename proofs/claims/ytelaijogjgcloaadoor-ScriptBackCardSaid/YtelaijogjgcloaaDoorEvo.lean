/- Rows of events that a call has made itself. No condition. -/
import Derived.Test.YtelaijogjgcloaaDoorPar
set_option linter.unusedVariables false
set_option linter.unusedSimpArgs false
namespace Go.Proofs.YtelaijogjgcloaaDoor
open Go.RowKit Go.Ice Go.Scr

theorem elemEv : Elem Tryd.prog 24 41 5 72 (.agg #[.int .i64 0, .int .i64 0, .int .i64 0, .slice none 0 0, .slice none 0 0]) :=
  ⟨Tryd.underlying24, by
    obtain ⟨i0, hi, hz0, hz1, hz2⟩ := info_parts (show (Tryd.prog.info? 41).map (fun i => (i.zero, i.size, i.bytes)) = some (some (.agg #[.int .i64 0, .int .i64 0, .int .i64 0, .slice none 0 0, .slice none 0 0]), 5, 72) by kernel_rfl)
    exact ⟨i0, hi, hz0, hz1, hz2⟩, rfl, by decide⟩
/-- An event's five cells, its rows made behind B. -/
structure EvF (B : Nat) (W : World) (x : Ev) (c : Nat → Value) : Prop where
  c0 : c 0 = .int .i64 x.kind
  c1 : c 1 = .int .i64 x.conn
  c2 : c 2 = .int .i64 x.n
  bs : BytesAt W (c 3) x.bytes
  ks : BoolsAt W (c 4) x.keep
  fb : Fresh B W (c 3) 5
  fk : Fresh B W (c 4) 4
theorem EvF.below {B : Nat} {W W' : World} {x : Ev} {c : Nat → Value} (h : EvF B W x c) (hb : Below W.heap.size W W') : EvF B W' x c :=
  ⟨h.c0, h.c1, h.c2, h.bs.below hb (Nat.le_refl _), h.ks.below hb (Nat.le_refl _), h.fb.below hb, h.fk.below hb⟩
theorem isSl_frmS {w w' : World} {S : Nat → Prop} {v : Value} {cs : List Value} (h2 : IsSl w v cs) (h3 : ∀ a n c, v = .slice (some a) n c → ¬ S a.block) (hf : Frm S w w') : IsSl w' v cs := by
  rcases h2 with h2 | ⟨h0, b, off, cap, rfl, g1, g2, g3, g4⟩
  · exact .inl h2
  · exact .inr ⟨h0, b, off, cap, rfl, g1, g2, Nat.lt_of_lt_of_le g3 hf.size, fun j hj => by
      have hn : ¬ S b := h3 _ _ _ rfl
      rw [hf.cell (p := ⟨b, off + j, none⟩) g3 hn]; exact g4 j hj⟩
theorem Fresh.frmS {B : Nat} {S : Nat → Prop} {w w' : World} {u : Value} {e : TypeId} (h : Fresh B w u e) (h3 : ∀ a n c, u = .slice (some a) n c → ¬ S a.block) (hf : Frm S w w') : Fresh B w' u e := fun a n c hu => by
  obtain ⟨h1, cs, h2, h4⟩ := h a n c hu
  exact ⟨h1, cs, (hf.block _ (blk_lt h2) (h3 a n c hu)).trans h2, h4⟩
theorem EvF.frm {B : Nat} {S : Nat → Prop} {W W' : World} {x : Ev} {c : Nat → Value} (h : EvF B W x c) (hf : Frm S W W') (h5 : ∀ k cs, B ≤ k → W.heap[k]? = some (.cells cs 5 (0, 0)) → ¬ S k) (h4 : ∀ k cs, B ≤ k → W.heap[k]? = some (.cells cs 4 (0, 0)) → ¬ S k) : EvF B W' x c := by
  have g5 : ∀ a n d, c 3 = .slice (some a) n d → ¬ S a.block := fun a n d e => by obtain ⟨q1, cs, q2, _⟩ := h.fb a n d e; exact h5 _ cs q1 q2
  have g4 : ∀ a n d, c 4 = .slice (some a) n d → ¬ S a.block := fun a n d e => by obtain ⟨q1, cs, q2, _⟩ := h.fk a n d e; exact h4 _ cs q1 q2
  exact ⟨h.c0, h.c1, h.c2, isSl_frmS h.bs g5 hf, isSl_frmS h.ks g4 hf, h.fb.frmS g5 hf, h.fk.frmS g4 hf⟩
theorem EvF.at {B : Nat} {W : World} {x : Ev} {c : Nat → Value} (h : EvF B W x c) : EvAt W (.agg #[c 0, c 1, c 2, c 3, c 4]) x :=
  ⟨c 3, c 4, by rw [h.c0, h.c1, h.c2]; rfl, h.bs, h.ks⟩
/-- A row of events of one's own, behind B. -/
def EvsOwn (B : Nat) (W : World) (v : Value) (l : List Ev) : Prop := ∃ X : Nat → Nat → Value, W.ownsRow B 41 5 v l.length (flat l.length 5 X) ∧ ∀ i x, l[i]? = some x → EvF B W x (X i)
theorem EvsOwn.nil (B : Nat) (W : World) : EvsOwn B W (.slice none 0 0) [] := ⟨fun _ _ => .int .i64 0, World.ownsRow_nil _ _ _ _, fun i x h => by simp at h⟩
theorem EvsOwn.at {B : Nat} {W : World} {v : Value} {l : List Ev} (h : EvsOwn B W v l) : EvsAt W v l := by
  obtain ⟨X, h1, h2⟩ := h
  exact ⟨X, own_rowAt h1, fun i x hi => (h2 i x hi).at⟩
theorem EvsOwn.form {B : Nat} {W : World} {v : Value} {l : List Ev} (h : EvsOwn B W v l) : ∃ a cap, v = .slice a l.length cap := by
  obtain ⟨X, h1, h2⟩ := h
  exact own_slice h1
theorem EvsOwn.below {B : Nat} {W W' : World} {v : Value} {l : List Ev} (h : EvsOwn B W v l) (hb : Below W.heap.size W W') : EvsOwn B W' v l := by
  obtain ⟨X, h1, h2⟩ := h
  exact ⟨X, own_below h1 hb, fun i x hi => (h2 i x hi).below hb⟩
theorem EvsOwn.keep {B S : Nat} {W W' : World} {v : Value} {l : List Ev} (h : EvsOwn B W v l) (hS : S < B) (hf : Frm (fun k => k = S) W W') : EvsOwn B W' v l := by
  obtain ⟨X, h1, h2⟩ := h
  exact ⟨X, own_frm h1 hf (fun k hk => by omega), fun i x hi => (h2 i x hi).frm hf (fun k cs hk _ => by omega) (fun k cs hk _ => by omega)⟩
theorem EvsOwn.mono {B B' : Nat} {W : World} {v : Value} {l : List Ev} (h : EvsOwn B W v l) (hB : B' ≤ B) : EvsOwn B' W v l := by
  obtain ⟨X, ⟨h0, h1⟩, h2⟩ := h
  refine ⟨X, ⟨h0, ?_⟩, fun i x hi => ?_⟩
  · rcases h1 with h1 | ⟨g, cap, cur, hv, hb, r⟩
    · exact .inl h1
    · exact .inr ⟨g, cap, cur, hv, Nat.le_trans hB hb, r⟩
  · have h := h2 i x hi
    exact ⟨h.c0, h.c1, h.c2, h.bs, h.ks, h.fb.mono hB, h.fk.mono hB⟩
theorem EvsOwn.ne {B S : Nat} {W : World} {v : Value} {l : List Ev} (h : EvsOwn B W v l) {cs : Array Value} {t : TypeId} (hS : W.heap[S]? = some (.cells cs t (0, 0))) (ht : t ≠ 41) : v.ownBlock ≠ some S := by
  obtain ⟨X, h1, h2⟩ := h
  exact fun e => block_apart h1 hS (Ne.symm ht) e.symm
theorem EvsOwn.append {B : Nat} {W : World} {v sx : Value} {l : List Ev} {x : Ev} {c : Nat → Value} (h : EvsOwn B W v l) (hx : EvF B W x c) (hs : IsSlK W 5 1 sx [c 0, c 1, c 2, c 3, c 4]) (h1c : ∀ j, j < 5 → (c j).oneCell' = true) (hB : B ≤ W.heap.size) (hl : l.length ≤ 10000000) :
    ∃ v' w', (Builtin.append_ #[24, 24] 24 #[v, sx]).run Tryd.prog W = .ok v' w' ∧ EvsOwn B w' v' (l ++ [x]) ∧ Frm (fun k => v.ownBlock = some k) W w' := by
  obtain ⟨X, h1, h2⟩ := h
  obtain ⟨v', w', hr, ho, hg, _⟩ := app_at (P := Tryd.prog) (ty := 24) elemEv h1 hs (fun u hu => by
    simp only [List.mem_cons, List.mem_nil_iff, or_false] at hu
    rcases hu with rfl | rfl | rfl | rfl | rfl
    · exact h1c 0 (by omega)
    · exact h1c 1 (by omega)
    · exact h1c 2 (by omega)
    · exact h1c 3 (by omega)
    · exact h1c 4 (by omega)) (by omega) (by unfold maxLen; omega) hB
  have hf : Frm (fun k => v.ownBlock = some k) W w' := ⟨hg.os, hg.tape, hg.output, hg.size, fun k hk hs => hg.block k hk (fun e => hs e.symm)⟩
  have hne : ∀ (t : TypeId), t ≠ 41 → ∀ k cs, B ≤ k → W.heap[k]? = some (.cells cs t (0, 0)) → ¬ (v.ownBlock = some k) := fun t ht k cs _ hk e => block_apart h1 hk (Ne.symm ht) e.symm
  refine ⟨v', w', hr, ⟨fun i j => if i < l.length then X i j else c j, ?_, fun i y hi => ?_⟩, hf⟩
  · have e : flat l.length 5 X ++ [c 0, c 1, c 2, c 3, c 4] = flat (l.length + 1) 5 (fun i j => if i < l.length then X i j else c j) := by
      rw [show [c 0, c 1, c 2, c 3, c 4] = flat 1 5 (fun _ j => c j) from rfl, flat_append]
    rw [e] at ho
    rw [List.length_append]
    exact ho
  · rcases Nat.lt_or_ge i l.length with hlt | hge
    · have e : (fun j => if i < l.length then X i j else c j) = X i := by funext j; rw [if_pos hlt]
      show EvF B w' y (fun j => if i < l.length then X i j else c j)
      rw [e]
      rw [List.getElem?_append_left hlt] at hi
      exact (h2 i y hi).frm hf (hne 5 (by decide)) (hne 4 (by decide))
    · have hi0 : i = l.length := by
        have := (List.getElem?_eq_some_iff.1 hi).1
        rw [List.length_append] at this; simp at this; omega
      subst hi0
      rw [List.getElem?_append_right (Nat.le_refl _), Nat.sub_self] at hi
      simp at hi
      subst hi
      have e : (fun j => if l.length < l.length then X l.length j else c j) = c := by funext j; rw [if_neg (by omega)]
      show EvF B w' x (fun j => if l.length < l.length then X l.length j else c j)
      rw [e]
      exact hx.frm hf (hne 5 (by decide)) (hne 4 (by decide))
/-- An append in a walk, its run known. -/
theorem wpList_append_eq {P : Program} {ops : Array Oper} {rest : List Oper} {o : Oper} {a : Act} {w : World} {Q : Exit → Act → World → Prop} (hgd : o.guard = none) (s x : Operand) (t : TypeId)
    (ho : o.op = .call { callee := .builtin .append, args := #[s, x], argTypes := #[t, t] }) {v vx v' : Value} {w' : World} (hs : a.eval s = v) (hx : a.eval x = vx)
    (hrun : (Builtin.append_ #[t, t] o.type #[v, vx]).run P w = .ok v' w') (h : wpList P ops Q rest (a.put o.dst v') w') : wpList P ops Q (o :: rest) a w :=
  wpList_plain hgd fun _ hK => by
    unfold Oper.wp
    have : (execOp a.eval o).run P w = .ok (.value v') w' := by
      unfold execOp
      simp only [ho, resolve, invoke, builtin, Sem.run_bind, Sem.run_pure, Result.andThen_ok, List.map_toArray, List.map_cons, List.map_nil, hs, hx, hrun]
    rw [this]
    exact hK _ _ h
end Go.Proofs.YtelaijogjgcloaaDoor
