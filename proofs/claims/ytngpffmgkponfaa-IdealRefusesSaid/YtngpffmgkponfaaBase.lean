/- Small lemmas on slices and blocks in memory that the walks of this seat share. No condition. -/
import Derived.Test.YtngpffmgkponfaaRows
import Derived.WalkKit
import Derived.ProofKit
import Derived.OpenShut
import Derived.WalkLawsBesides
import Derived.WalkSpells
import Derived.Lib.Hide
import Derived.Lib.OthersKept
import Derived.Laws.OwnMore
import Derived.ArgAppend
import Derived.Lib.SlBytesConst
import Derived.Deep.QuietTactic
import Derived.BigQuiet
import Derived.BigRegion
import Derived.Deep.LoopGhost
import Derived.Deep.RegionWith
import Derived.Deep.Cut
import Derived.Outline
import Derived.Maps.AppendAt
import Derived.Laws.ResultCell
namespace Go.Ice
open Go.RowKit

/-- A byte as a value. -/
def u8v (c : UInt8) : Value := .int .u8 c.toNat

/-- The slice value v reads as the cells cs in w. -/
def IsSl (w : World) (v : Value) (cs : List Value) : Prop :=
  (cs = [] ∧ (v = .slice none 0 0 ∨ ∃ a cap, v = .slice (some a) 0 cap)) ∨
  (0 < cs.length ∧ ∃ b off cap, v = .slice (some ⟨b, off, none⟩) cs.length cap ∧ cs.length ≤ cap ∧ cap ≤ maxLen ∧ b < w.heap.size ∧
    ∀ j, j < cs.length → w.cell? ⟨b, off + j, none⟩ = cs[j]?)

theorem IsSl.below {B : Nat} {w w' : World} {v : Value} {cs : List Value} (h : IsSl w v cs) (hb : Below B w w') (hB : w.heap.size ≤ B) : IsSl w' v cs := by
  rcases h with h | ⟨h0, b, off, cap, hv, h1, h2, h3, h4⟩
  · exact .inl h
  · refine .inr ⟨h0, b, off, cap, hv, h1, h2, by have := hb.size; omega, fun j hj => ?_⟩
    rw [hb.cell (p := ⟨b, off + j, none⟩) (by simp; omega)]
    exact h4 j hj

theorem IsSl.form {w : World} {v : Value} {cs : List Value} (h : IsSl w v cs) : ∃ a cap, v = .slice a cs.length cap ∧ cs.length ≤ maxLen := by
  rcases h with ⟨rfl, rfl | ⟨a, cap, rfl⟩⟩ | ⟨h0, b, off, cap, hv, h1, h2, h3, h4⟩
  · exact ⟨_, _, rfl, by decide⟩
  · exact ⟨_, _, rfl, by decide⟩
  · exact ⟨_, _, hv, by omega⟩

theorem isSl_mk {w : World} {cs : List Value} {b off cap : Nat} (h1 : cs.length ≤ cap) (h2 : cap ≤ maxLen) (h3 : b < w.heap.size) (h4 : ∀ j, j < cs.length → w.cell? ⟨b, off + j, none⟩ = cs[j]?) :
    IsSl w (.slice (some ⟨b, off, none⟩) cs.length cap) cs := by
  rcases Nat.eq_zero_or_pos cs.length with h | h
  · obtain rfl := List.length_eq_zero_iff.1 h
    exact .inl ⟨rfl, .inr ⟨_, _, rfl⟩⟩
  · exact .inr ⟨h, b, off, cap, rfl, h1, h2, h3, h4⟩

/-- All blocks but those of S are as they were; the streams too. -/
structure Frm (S : Nat → Prop) (w w' : World) : Prop where
  os : w'.os = w.os
  tape : w'.tape = w.tape
  output : w'.output = w.output
  size : w.heap.size ≤ w'.heap.size
  block : ∀ k, k < w.heap.size → ¬ S k → w'.heap[k]? = w.heap[k]?

theorem Frm.refl (S : Nat → Prop) (w : World) : Frm S w w := ⟨rfl, rfl, rfl, Nat.le_refl _, fun _ _ _ => rfl⟩
theorem Frm.trans {S : Nat → Prop} {a b c : World} (h : Frm S a b) (k : Frm S b c) : Frm S a c :=
  ⟨k.os.trans h.os, k.tape.trans h.tape, k.output.trans h.output, Nat.le_trans h.size k.size, fun i hi hs => (k.block i (Nat.lt_of_lt_of_le hi h.size) hs).trans (h.block i hi hs)⟩
theorem Frm.mono {S T : Nat → Prop} {w w' : World} (h : Frm S w w') (hst : ∀ k, k < w.heap.size → S k → T k) : Frm T w w' :=
  ⟨h.os, h.tape, h.output, h.size, fun k hk ht => h.block k hk (fun hs => ht (hst k hk hs))⟩
theorem Frm.drew {S : Nat → Prop} {a w : World} (h : Frm S a w) : Frm S a w.drew := ⟨h.os, h.tape, h.output, h.size, h.block⟩
theorem Frm.setCell {S : Nat → Prop} {a w : World} (h : Frm S a w) {p : Addr} (hp : S p.block ∨ a.heap.size ≤ p.block) (u : Value) : Frm S a (w.setCell p u) :=
  ⟨h.os, h.tape, h.output, by have := h.size; simpa [World.setCell] using this, fun k hk hs => by
    rw [Below.heap_setCell _ _ _ _ (by rcases hp with hp | hp; · intro e; rw [e] at hs; exact hs hp
                                       · omega)]
    exact h.block k hk hs⟩
theorem Frm.alloc {S : Nat → Prop} {a w : World} (h : Frm S a w) (o : Obj) : Frm S a (w.alloc o) :=
  ⟨h.os, h.tape, h.output, by have := h.size; simp; omega, fun k hk hs => by
    rw [Below.heap_alloc _ _ _ (by have := h.size; omega)]; exact h.block k hk hs⟩
theorem frm_of_below {w w' : World} {B : Nat} (h : Below B w w') : Frm (fun k => B ≤ k) w w' := ⟨h.os, h.tape, h.output, h.size, fun k _ hs => h.block k (by omega)⟩
theorem Frm.below {w w' : World} {B : Nat} {S : Nat → Prop} (h : Frm S w w') (hs : ∀ k, k < B → ¬ S k) (hB : B ≤ w.heap.size) : Below B w w' :=
  ⟨h.os, h.tape, h.output, h.size, fun k hk => h.block k (by omega) (hs k hk)⟩
theorem Frm.cell {S : Nat → Prop} {w w' : World} (h : Frm S w w') {p : Addr} (hp : p.block < w.heap.size) (hs : ¬ S p.block) : w'.cell? p = w.cell? p := World.cell?_of_block (w := w) (h.block p.block hp hs)

theorem strOf_u8 (bs : List UInt8) : strOfNums (bs.map fun c => (c.toNat : Int)) = ⟨bs.toArray⟩ := by
  simp [strOfNums, List.map_map, Function.comp_def]

/-- string(b) of a slice of bytes. -/
theorem convert_sl {P : Program} (src e : TypeId) (hs : P.underlying src = some (.slice e)) (he : P.underlying e = some (.int .u8)) {w : World} {v : Value} {bs : List UInt8} (h : IsSl w v (bs.map u8v))
    (dst : TypeId) (hd : P.underlying dst = some .string) : (convert src dst v).run P w = .ok (.string ⟨bs.toArray⟩) w := by
  rcases h with ⟨h, hv⟩ | ⟨h0, b, off, cap, rfl, h1, h2, h3, h4⟩
  · obtain rfl : bs = [] := by simpa using h
    rcases hv with rfl | ⟨a, cap, rfl⟩
    · exact run_convert_bytes_nil (P := P) w src e hs he 0 0 dst hd
    · rw [run_convert_bytes_string w src dst e _ _ _ hs he hd, run_bytesToString w a 0 cap [] (run_loadCells_list (P := P) w a [] (fun j v hj => by simp at hj))]
      rfl
  · rw [List.length_map] at *
    rw [run_convert_bytes_arg (P := P) w src e hs he b off bs.length cap (bs.map fun c => (c.toNat : Int)) (by simp) (fun i hi => by
      rw [h4 i hi]
      simp [u8v, List.getD_eq_getElem?_getD, hi]) dst hd, strOf_u8]

/-- A slice of integers that came in: nil, or a row of 'cap' numbers. -/
def IsRow (k : IntKind) (w : World) (a : Option Addr) (len cap : Nat) (zs : List Int) : Prop :=
  (a = none ∧ len = 0 ∧ cap = 0 ∧ zs = []) ∨
  ∃ x, a = some x ∧ len ≤ cap ∧ cap ≤ maxLen ∧ zs.length = cap ∧ (∀ i, i < zs.length → w.cell? (x.add i) = some (.int k (zs.getD i 0))) ∧ ∀ n ∈ zs, (Lit.int k n).wf = true

/-- What was read ahead of a call that turns nothing old reads behind it as before. -/
theorem trodAll_below {H : Type} {enc : TypeId × Value → H} {P : Program} (hl : laidOutB P = true) {W W' : World} (hb : Below W.heap.size W W') :
    ∀ (ts : List TypeId) (vs : List Value) (ds : List (DataW H)) (ps : List MemPlace), (∀ t ∈ ts, P.readableRec t = true ∧ t < P.types.size) →
      DataW.TrodAll enc P W 0 (fun _ => true) true ts vs ds ps → (∀ x ∈ ps, x.block < W.heap.size) → DataW.TrodAll enc P W' 0 (fun b => decide (b < W.heap.size)) true ts vs ds ps := by
  intro ts
  induction ts with
  | nil =>
    intro vs ds ps _ h _
    obtain ⟨rfl, rfl, rfl⟩ := ChangeShapes.trodAll_nil h
    exact ChangeShapes.trodAll_mk0
  | cons t ts ih =>
    intro vs ds ps ht h hlt
    obtain ⟨v, vs', d, ds', p, q, rfl, rfl, rfl, h1, h2⟩ := ChangeShapes.trodAll_cons h
    obtain ⟨hr, hrow⟩ := ht t (by simp)
    exact trodAll_cons_mk (Below.trod hl hr hrow h1 hb (fun x hx => hlt x (by simp [hx]))) (ih _ _ _ (fun t' ht' => ht t' (by simp [ht'])) h2 (fun x hx => hlt x (by simp [hx])))

/-- What came in as numbers of a byte each reads as bytes. -/
theorem IsRow.bytes {w : World} {a : Option Addr} {len cap : Nat} {zs : List Int} (h : IsRow .u8 w a len cap zs) : ∃ bs : List UInt8, bs.length = len ∧ IsSl w (.slice a len cap) (bs.map u8v) := by
  rcases h with ⟨rfl, rfl, rfl, rfl⟩ | ⟨x, rfl, h1, h2, h3, h4, h5⟩
  · exact ⟨[], rfl, .inl ⟨rfl, .inl rfl⟩⟩
  · rcases Nat.eq_zero_or_pos len with h0 | h0
    · subst h0
      exact ⟨[], rfl, .inl ⟨rfl, .inr ⟨_, _, rfl⟩⟩⟩
    · obtain ⟨b, off, rfl, hc⟩ := ints_at h4 (by omega)
      have hb : b < w.heap.size := World.block_lt_of_cell? w ⟨b, off + 0, none⟩ (hc 0 (by omega))
      have hl : ((zs.take len).map fun n => UInt8.ofNat n.toNat).length = len := by rw [List.length_map, List.length_take]; omega
      refine ⟨(zs.take len).map fun n => UInt8.ofNat n.toNat, hl, ?_⟩
      have := isSl_mk (w := w) (cs := ((zs.take len).map fun n => UInt8.ofNat n.toNat).map u8v) (b := b) (off := off) (cap := cap) (by rw [List.length_map, hl]; exact h1) h2 hb (fun j hj => by
        rw [List.length_map, hl] at hj
        have hz : j < zs.length := by omega
        rw [hc j hz, List.getElem?_map, List.getElem?_map, List.getElem?_take_of_lt hj, List.getElem?_eq_getElem hz, List.getD_eq_getElem?_getD, List.getElem?_eq_getElem hz]
        have hw := bounds_u8 (h5 _ (List.getElem_mem hz))
        simp only [Option.getD_some, Option.map_some, u8v, UInt8.toNat_ofNat']
        congr 2
        omega)
      rw [List.length_map, hl] at this
      exact this

theorem ret_int {k : IntKind} {a b : Int} (h : a = b) : Ending.returned (.int k a) = .returned (.int k b) := by rw [h]
theorem ret_bool {a b : Bool} (h : a = b) : Ending.returned (.bool a) = .returned (.bool b) := by rw [h]

theorem own_isSl {w : World} {base : Nat} {e : TypeId} {v : Value} {n : Nat} {xs : List Value} (h : w.ownsRow base e 1 v n xs) : IsSl w v xs := by
  obtain ⟨hl, h⟩ := h
  rcases h with ⟨h, h'⟩ | ⟨g', cap', cur, h1, h2, h3, h4, h5, h6, h7⟩
  · exact .inl ⟨List.length_eq_zero_iff.1 (by omega), .inl h⟩
  · have hlt : g' < w.heap.size := (Array.getElem?_eq_some_iff.1 h3).1
    obtain rfl : n = xs.length := by omega
    rw [h1]
    refine isSl_mk h4 h5 hlt fun j hj => ?_
    have e : xs[j]? = (cur.toList.take (xs.length * 1))[j]? := by rw [h7]
    rw [e, List.getElem?_take_of_lt (by omega)]
    simp [World.cell?, h3]

theorem own_base {w : World} {base base' : Nat} {e : TypeId} {size : Nat} {v : Value} {n : Nat} {xs : List Value} (h : w.ownsRow base' e size v n xs) (hb : base ≤ base') : w.ownsRow base e size v n xs := by
  obtain ⟨h1, h2⟩ := h
  refine ⟨h1, ?_⟩
  rcases h2 with h2 | ⟨g, cap, cur, hv, hg, r⟩
  · exact .inl h2
  · exact .inr ⟨g, cap, cur, hv, Nat.le_trans hb hg, r⟩

/-- What a slice's element type is: its cells, its bytes, its zero. -/
structure Elem (P : Program) (t e size bytes : Nat) (z : Value) : Prop where
  ht : P.underlying t = some (.slice e)
  hi : ∃ i, P.info? e = some i ∧ i.zero = some z ∧ i.size = size ∧ i.bytes = bytes
  hzs : z.cells.size = size
  hsz : 0 < size

theorem append_sl {P : Program} {t ty e bytes : Nat} {z : Value} (E : Elem P t e 1 bytes z) {w : World} {base : Nat} {v x : Value} {n : Nat} {xs news : List Value}
    (hown : w.ownsRow base e 1 v n xs) (hx : IsSl w x news) (h1 : ∀ u ∈ news, u.oneCell' = true) (hroom : (n + news.length) * bytes ≤ 140737488355328) (h63 : n + news.length ≤ maxLen) (hbase : base ≤ w.heap.size) :
    ∃ v' w', (Builtin.append_ #[t, t] ty #[v, x]).run P w = .ok v' w' ∧ w'.ownsRow base e 1 v' (n + news.length) (xs ++ news) ∧ w.grownBy w' v.ownBlock ∧ (v' = .slice none 0 0 ↔ v = .slice none 0 0 ∧ news = []) := by
  obtain ⟨ht, ⟨i, hi, hz, hs, hb⟩, hzs, hsz⟩ := E
  rcases hx with ⟨rfl, rfl | ⟨a, c, rfl⟩⟩ | ⟨h0, b, off, cap, rfl, g1, g2, g3, g4⟩
  · exact ⟨v, w, run_append_owned_none w base t ty e i 1 ht hi v n xs hown, by simpa using hown, World.grownBy.refl w _, by simp⟩
  · obtain ⟨v', w', hr, h2, h3, h4⟩ := run_append_own (P := P) w base t ty e i z 1 bytes ht hi hz hs hb hzs hsz v n xs hown a 0 c [] rfl (fun j u hu => by simp at hu) (by simp) h63 hroom hbase
    exact ⟨v', w', hr, h2, h3, by rw [h4]; simp⟩
  · obtain ⟨v', w', hr, h2, h3, h4⟩ := run_append_own (P := P) w base t ty e i z 1 bytes ht hi hz hs hb hzs hsz v n xs hown ⟨b, off, none⟩ news.length cap news (by simp) (fun j u hu => by
      have hj : j < news.length := by
        rcases Nat.lt_or_ge j news.length with h | h
        · exact h
        · rw [List.getElem?_eq_none h] at hu; cases hu
      have : (⟨b, off, none⟩ : Addr).add j = ⟨b, off + j, none⟩ := Addr.add_lit _ _ _
      rw [this, g4 j hj, hu]) h1 h63 hroom hbase
    exact ⟨v', w', hr, h2, h3, by rw [h4, List.length_eq_zero_iff]⟩

/-- An append in a walk, its run known. -/
theorem wpList_append_eq {P : Program} {ops : Array Oper} {rest : List Oper} {o : Oper} {a : Act} {w : World} {Q : Exit → Act → World → Prop} (hgd : o.guard = none) (s x : Operand) (t : TypeId)
    (ho : o.op = .call { callee := .builtin .append, args := #[s, x], argTypes := #[t, t] }) {v vx v' : Value} {w' : World} (hs : a.eval s = v) (hx : a.eval x = vx)
    (hrun : (Builtin.append_ #[t, t] o.type #[v, vx]).run P w = .ok v' w') (h : wpList P ops Q rest (a.put o.dst v') w') : wpList P ops Q (o :: rest) a w :=
  wpList_plain hgd fun _ hK => by
    unfold Oper.wp execOp
    simp only [ho, resolve, invoke, builtin, Sem.run_bind, Sem.run_pure, Result.andThen_ok, List.map_toArray, List.map_cons, List.map_nil, hs, hx, hrun]
    exact hK _ _ h

/-- A new block of cells, as a slice. -/
theorem isSl_new (w : World) (cs : List Value) (e : TypeId) (cap : Nat) (hc : cs.length ≤ cap) (hm : cap ≤ maxLen) (fz : Nat × Nat) : IsSl (w.alloc (.cells cs.toArray e fz)) (.slice (some ⟨w.heap.size, 0, none⟩) cs.length cap) cs :=
  isSl_mk hc hm (by simp) fun j hj => by
    rw [Nat.zero_add, World.cell?_alloc_mark]; simp

theorem IsSl.alloc {w : World} {v : Value} {cs : List Value} (h : IsSl w v cs) (o : Obj) : IsSl (w.alloc o) v cs :=
  h.below ((Below.refl w.heap.size w).alloc (Nat.le_refl _) o) (Nat.le_refl _)

theorem own_new (w : World) (e : TypeId) (base : Nat) (hb : base ≤ w.heap.size) : (w.alloc (.cells #[] e)).ownsRow base e 1 (.slice (some ⟨w.heap.size, 0, none⟩) 0 0) 0 [] :=
  World.ownsRow_made w #[] 0 hb (by decide) rfl


/-- A block of N cells, none frozen: cell k holds X k. -/
def Row (w : World) (b : Nat) (e : TypeId) (N : Nat) (X : Nat → Value) : Prop := ∃ c, w.heap[b]? = some (.cells c e (0, 0)) ∧ c.size = N ∧ ∀ k, k < N → c[k]? = some (X k)

section
variable {w w' : World} {b N : Nat} {e : TypeId} {X Y : Nat → Value}
theorem Row.lt (h : Row w b e N X) : b < w.heap.size := by
  obtain ⟨c, h1, _⟩ := h
  exact (Array.getElem?_eq_some_iff.1 h1).1
theorem Row.cell (h : Row w b e N X) {k : Nat} (hk : k < N) : w.cell? ⟨b, k, none⟩ = some (X k) := by
  obtain ⟨c, h1, h2, h3⟩ := h
  simp [World.cell?, h1, h3 k hk]
theorem Row.frozen (h : Row w b e N X) (k : Nat) : w.frozen? ⟨b, k, none⟩ = false := by
  obtain ⟨c, h1, h2, h3⟩ := h
  simp [World.frozen?, h1]
theorem Row.drew (h : Row w b e N X) : Row w.drew b e N X := h
theorem Row.drewN (h : Row w b e N X) (n : Nat) : Row (w.drewN n) b e N X := h
theorem Row.alloc (h : Row w b e N X) (o : Obj) : Row (w.alloc o) b e N X := by
  obtain ⟨c, h1, h2⟩ := h
  exact ⟨c, (Below.heap_alloc w o b (Array.getElem?_eq_some_iff.1 h1).1).trans h1, h2⟩
theorem Row.set (h : Row w b e N X) (j : Nat) (v : Value) : Row (w.setCell ⟨b, j, none⟩ v) b e N (fun k => if k = j then v else X k) := by
  obtain ⟨c, h1, h2, h3⟩ := h
  refine ⟨c.setIfInBounds j v, ?_, by simp [h2], ?_⟩
  · simp [World.setCell, Array.getElem?_modify, h1]
  · intro k hk
    have h4 := h3 k hk
    have hlt : k < c.size := (Array.getElem?_eq_some_iff.1 h4).1
    by_cases e : k = j
    · subst e; simp [hlt]
    · simp [e, Ne.symm e, h4]
theorem Row.far (h : Row w b e N X) {p : Addr} (hp : b ≠ p.block) (v : Value) : Row (w.setCell p v) b e N X := by
  obtain ⟨c, h1, h2⟩ := h
  exact ⟨c, (Below.heap_setCell w p v b hp).trans h1, h2⟩
theorem Row.congr (h : Row w b e N X) (hxy : ∀ k, k < N → X k = Y k) : Row w b e N Y := by
  obtain ⟨c, h1, h2, h3⟩ := h
  exact ⟨c, h1, h2, fun k hk => by rw [h3 k hk, hxy k hk]⟩
theorem Row.below {B : Nat} (h : Row w b e N X) (hb : Below B w w') (hg : b < B) : Row w' b e N X := by
  obtain ⟨c, h1, h2⟩ := h
  exact ⟨c, (hb.block b hg).trans h1, h2⟩
theorem Row.frm {S : Nat → Prop} (h : Row w b e N X) (hb : Frm S w w') (hs : ¬ S b) : Row w' b e N X := by
  have hlt := h.lt
  obtain ⟨c, h1, h2⟩ := h
  exact ⟨c, (hb.block b hlt hs).trans h1, h2⟩
theorem Row.new (w : World) (e : TypeId) (cs : Array Value) : Row (w.alloc (.cells cs e)) w.heap.size e cs.size (fun k => cs.getD k undef) :=
  ⟨cs, heap_alloc_new w _, rfl, fun k hk => by simp [hk]⟩
end

end Go.Ice
