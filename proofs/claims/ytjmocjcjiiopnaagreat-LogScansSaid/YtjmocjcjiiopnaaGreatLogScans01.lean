/- Small lemmas on slices and blocks in memory that the walks of this seat share. No condition. Slices of structs and blocks in memory: small lemmas that the walks share. No condition. A boxed argument, its block carried along; rows of structs as flat lists of cells. No condition. -/
import Derived.Test.YtjmocjcjiiopnaaGreatRows
import Derived.WalkKit
import Derived.ProofKit
import Derived.OpenShut
import Derived.WalkLawsBesides
import Derived.WalkSpells
import Derived.Lib.Hide
import Derived.Lib.OthersKept
import Derived.Laws.OwnMore
import Derived.ArgAppend
import Derived.Lib.SlBytesConst
import Derived.Deep.QuietTactic
import Derived.BigQuiet
import Derived.BigRegion
import Derived.Deep.LoopGhost
import Derived.Deep.RegionWith
import Derived.Deep.Cut
import Derived.Outline
import Derived.Maps.AppendAt
import Derived.Laws.ResultCell

section
namespace Go.Ice
open Go.RowKit

/-- A byte as a value. -/
def u8v (c : UInt8) : Value := .int .u8 c.toNat

/-- The slice value v reads as the cells cs in w. -/
def IsSl (w : World) (v : Value) (cs : List Value) : Prop :=
  (cs = [] ∧ (v = .slice none 0 0 ∨ ∃ a cap, v = .slice (some a) 0 cap)) ∨
  (0 < cs.length ∧ ∃ b off cap, v = .slice (some ⟨b, off, none⟩) cs.length cap ∧ cs.length ≤ cap ∧ cap ≤ maxLen ∧ b < w.heap.size ∧
    ∀ j, j < cs.length → w.cell? ⟨b, off + j, none⟩ = cs[j]?)

theorem IsSl.below {B : Nat} {w w' : World} {v : Value} {cs : List Value} (h : IsSl w v cs) (hb : Below B w w') (hB : w.heap.size ≤ B) : IsSl w' v cs := by
  rcases h with h | ⟨h0, b, off, cap, hv, h1, h2, h3, h4⟩
  · exact .inl h
  · refine .inr ⟨h0, b, off, cap, hv, h1, h2, by have := hb.size; omega, fun j hj => ?_⟩
    rw [hb.cell (p := ⟨b, off + j, none⟩) (by simp; omega)]
    exact h4 j hj

theorem IsSl.form {w : World} {v : Value} {cs : List Value} (h : IsSl w v cs) : ∃ a cap, v = .slice a cs.length cap ∧ cs.length ≤ maxLen := by
  rcases h with ⟨rfl, rfl | ⟨a, cap, rfl⟩⟩ | ⟨h0, b, off, cap, hv, h1, h2, h3, h4⟩
  · exact ⟨_, _, rfl, by decide⟩
  · exact ⟨_, _, rfl, by decide⟩
  · exact ⟨_, _, hv, by omega⟩

theorem isSl_mk {w : World} {cs : List Value} {b off cap : Nat} (h1 : cs.length ≤ cap) (h2 : cap ≤ maxLen) (h3 : b < w.heap.size) (h4 : ∀ j, j < cs.length → w.cell? ⟨b, off + j, none⟩ = cs[j]?) :
    IsSl w (.slice (some ⟨b, off, none⟩) cs.length cap) cs := by
  rcases Nat.eq_zero_or_pos cs.length with h | h
  · obtain rfl := List.length_eq_zero_iff.1 h
    exact .inl ⟨rfl, .inr ⟨_, _, rfl⟩⟩
  · exact .inr ⟨h, b, off, cap, rfl, h1, h2, h3, h4⟩

/-- All blocks but those of S are as they were; the streams too. -/
structure Frm (S : Nat → Prop) (w w' : World) : Prop where
  os : w'.os = w.os
  tape : w'.tape = w.tape
  output : w'.output = w.output
  size : w.heap.size ≤ w'.heap.size
  block : ∀ k, k < w.heap.size → ¬ S k → w'.heap[k]? = w.heap[k]?

theorem Frm.refl (S : Nat → Prop) (w : World) : Frm S w w := ⟨rfl, rfl, rfl, Nat.le_refl _, fun _ _ _ => rfl⟩
theorem Frm.trans {S : Nat → Prop} {a b c : World} (h : Frm S a b) (k : Frm S b c) : Frm S a c :=
  ⟨k.os.trans h.os, k.tape.trans h.tape, k.output.trans h.output, Nat.le_trans h.size k.size, fun i hi hs => (k.block i (Nat.lt_of_lt_of_le hi h.size) hs).trans (h.block i hi hs)⟩
theorem Frm.mono {S T : Nat → Prop} {w w' : World} (h : Frm S w w') (hst : ∀ k, k < w.heap.size → S k → T k) : Frm T w w' :=
  ⟨h.os, h.tape, h.output, h.size, fun k hk ht => h.block k hk (fun hs => ht (hst k hk hs))⟩
theorem Frm.drew {S : Nat → Prop} {a w : World} (h : Frm S a w) : Frm S a w.drew := ⟨h.os, h.tape, h.output, h.size, h.block⟩
theorem Frm.setCell {S : Nat → Prop} {a w : World} (h : Frm S a w) {p : Addr} (hp : S p.block ∨ a.heap.size ≤ p.block) (u : Value) : Frm S a (w.setCell p u) :=
  ⟨h.os, h.tape, h.output, by have := h.size; simpa [World.setCell] using this, fun k hk hs => by
    rw [Below.heap_setCell _ _ _ _ (by rcases hp with hp | hp; · intro e; rw [e] at hs; exact hs hp
                                       · omega)]
    exact h.block k hk hs⟩
theorem Frm.alloc {S : Nat → Prop} {a w : World} (h : Frm S a w) (o : Obj) : Frm S a (w.alloc o) :=
  ⟨h.os, h.tape, h.output, by have := h.size; simp; omega, fun k hk hs => by
    rw [Below.heap_alloc _ _ _ (by have := h.size; omega)]; exact h.block k hk hs⟩
theorem frm_of_below {w w' : World} {B : Nat} (h : Below B w w') : Frm (fun k => B ≤ k) w w' := ⟨h.os, h.tape, h.output, h.size, fun k _ hs => h.block k (by omega)⟩
theorem Frm.below {w w' : World} {B : Nat} {S : Nat → Prop} (h : Frm S w w') (hs : ∀ k, k < B → ¬ S k) (hB : B ≤ w.heap.size) : Below B w w' :=
  ⟨h.os, h.tape, h.output, h.size, fun k hk => h.block k (by omega) (hs k hk)⟩
theorem Frm.cell {S : Nat → Prop} {w w' : World} (h : Frm S w w') {p : Addr} (hp : p.block < w.heap.size) (hs : ¬ S p.block) : w'.cell? p = w.cell? p := World.cell?_of_block (w := w) (h.block p.block hp hs)

theorem strOf_u8 (bs : List UInt8) : strOfNums (bs.map fun c => (c.toNat : Int)) = ⟨bs.toArray⟩ := by
  simp [strOfNums, List.map_map, Function.comp_def]

/-- string(b) of a slice of bytes. -/
theorem convert_sl {P : Program} (src e : TypeId) (hs : P.underlying src = some (.slice e)) (he : P.underlying e = some (.int .u8)) {w : World} {v : Value} {bs : List UInt8} (h : IsSl w v (bs.map u8v))
    (dst : TypeId) (hd : P.underlying dst = some .string) : (convert src dst v).run P w = .ok (.string ⟨bs.toArray⟩) w := by
  rcases h with ⟨h, hv⟩ | ⟨h0, b, off, cap, rfl, h1, h2, h3, h4⟩
  · obtain rfl : bs = [] := by simpa using h
    rcases hv with rfl | ⟨a, cap, rfl⟩
    · exact run_convert_bytes_nil (P := P) w src e hs he 0 0 dst hd
    · rw [run_convert_bytes_string w src dst e _ _ _ hs he hd, run_bytesToString w a 0 cap [] (run_loadCells_list (P := P) w a [] (fun j v hj => by simp at hj))]
      rfl
  · rw [List.length_map] at *
    rw [run_convert_bytes_arg (P := P) w src e hs he b off bs.length cap (bs.map fun c => (c.toNat : Int)) (by simp) (fun i hi => by
      rw [h4 i hi]
      simp [u8v, List.getD_eq_getElem?_getD, hi]) dst hd, strOf_u8]

/-- A slice of integers that came in: nil, or a row of 'cap' numbers. -/
def IsRow (k : IntKind) (w : World) (a : Option Addr) (len cap : Nat) (zs : List Int) : Prop :=
  (a = none ∧ len = 0 ∧ cap = 0 ∧ zs = []) ∨
  ∃ x, a = some x ∧ len ≤ cap ∧ cap ≤ maxLen ∧ zs.length = cap ∧ (∀ i, i < zs.length → w.cell? (x.add i) = some (.int k (zs.getD i 0))) ∧ ∀ n ∈ zs, (Lit.int k n).wf = true

/-- What was read ahead of a call that turns nothing old reads behind it as before. -/
theorem trodAll_below {H : Type} {enc : TypeId × Value → H} {P : Program} (hl : laidOutB P = true) {W W' : World} (hb : Below W.heap.size W W') :
    ∀ (ts : List TypeId) (vs : List Value) (ds : List (DataW H)) (ps : List MemPlace), (∀ t ∈ ts, P.readableRec t = true ∧ t < P.types.size) →
      DataW.TrodAll enc P W 0 (fun _ => true) true ts vs ds ps → (∀ x ∈ ps, x.block < W.heap.size) → DataW.TrodAll enc P W' 0 (fun b => decide (b < W.heap.size)) true ts vs ds ps := by
  intro ts
  induction ts with
  | nil =>
    intro vs ds ps _ h _
    obtain ⟨rfl, rfl, rfl⟩ := ChangeShapes.trodAll_nil h
    exact ChangeShapes.trodAll_mk0
  | cons t ts ih =>
    intro vs ds ps ht h hlt
    obtain ⟨v, vs', d, ds', p, q, rfl, rfl, rfl, h1, h2⟩ := ChangeShapes.trodAll_cons h
    obtain ⟨hr, hrow⟩ := ht t (by simp)
    exact trodAll_cons_mk (Below.trod hl hr hrow h1 hb (fun x hx => hlt x (by simp [hx]))) (ih _ _ _ (fun t' ht' => ht t' (by simp [ht'])) h2 (fun x hx => hlt x (by simp [hx])))

/-- What came in as numbers of a byte each reads as bytes. -/
theorem IsRow.bytes {w : World} {a : Option Addr} {len cap : Nat} {zs : List Int} (h : IsRow .u8 w a len cap zs) : ∃ bs : List UInt8, bs.length = len ∧ IsSl w (.slice a len cap) (bs.map u8v) := by
  rcases h with ⟨rfl, rfl, rfl, rfl⟩ | ⟨x, rfl, h1, h2, h3, h4, h5⟩
  · exact ⟨[], rfl, .inl ⟨rfl, .inl rfl⟩⟩
  · rcases Nat.eq_zero_or_pos len with h0 | h0
    · subst h0
      exact ⟨[], rfl, .inl ⟨rfl, .inr ⟨_, _, rfl⟩⟩⟩
    · obtain ⟨b, off, rfl, hc⟩ := ints_at h4 (by omega)
      have hb : b < w.heap.size := World.block_lt_of_cell? w ⟨b, off + 0, none⟩ (hc 0 (by omega))
      have hl : ((zs.take len).map fun n => UInt8.ofNat n.toNat).length = len := by rw [List.length_map, List.length_take]; omega
      refine ⟨(zs.take len).map fun n => UInt8.ofNat n.toNat, hl, ?_⟩
      have := isSl_mk (w := w) (cs := ((zs.take len).map fun n => UInt8.ofNat n.toNat).map u8v) (b := b) (off := off) (cap := cap) (by rw [List.length_map, hl]; exact h1) h2 hb (fun j hj => by
        rw [List.length_map, hl] at hj
        have hz : j < zs.length := by omega
        rw [hc j hz, List.getElem?_map, List.getElem?_map, List.getElem?_take_of_lt hj, List.getElem?_eq_getElem hz, List.getD_eq_getElem?_getD, List.getElem?_eq_getElem hz]
        have hw := bounds_u8 (h5 _ (List.getElem_mem hz))
        simp only [Option.getD_some, Option.map_some, u8v, UInt8.toNat_ofNat']
        congr 2
        omega)
      rw [List.length_map, hl] at this
      exact this

theorem ret_int {k : IntKind} {a b : Int} (h : a = b) : Ending.returned (.int k a) = .returned (.int k b) := by rw [h]
theorem ret_bool {a b : Bool} (h : a = b) : Ending.returned (.bool a) = .returned (.bool b) := by rw [h]

theorem own_isSl {w : World} {base : Nat} {e : TypeId} {v : Value} {n : Nat} {xs : List Value} (h : w.ownsRow base e 1 v n xs) : IsSl w v xs := by
  obtain ⟨hl, h⟩ := h
  rcases h with ⟨h, h'⟩ | ⟨g', cap', cur, h1, h2, h3, h4, h5, h6, h7⟩
  · exact .inl ⟨List.length_eq_zero_iff.1 (by omega), .inl h⟩
  · have hlt : g' < w.heap.size := (Array.getElem?_eq_some_iff.1 h3).1
    obtain rfl : n = xs.length := by omega
    rw [h1]
    refine isSl_mk h4 h5 hlt fun j hj => ?_
    have e : xs[j]? = (cur.toList.take (xs.length * 1))[j]? := by rw [h7]
    rw [e, List.getElem?_take_of_lt (by omega)]
    simp [World.cell?, h3]

theorem own_base {w : World} {base base' : Nat} {e : TypeId} {size : Nat} {v : Value} {n : Nat} {xs : List Value} (h : w.ownsRow base' e size v n xs) (hb : base ≤ base') : w.ownsRow base e size v n xs := by
  obtain ⟨h1, h2⟩ := h
  refine ⟨h1, ?_⟩
  rcases h2 with h2 | ⟨g, cap, cur, hv, hg, r⟩
  · exact .inl h2
  · exact .inr ⟨g, cap, cur, hv, Nat.le_trans hb hg, r⟩

/-- What a slice's element type is: its cells, its bytes, its zero. -/
structure Elem (P : Program) (t e size bytes : Nat) (z : Value) : Prop where
  ht : P.underlying t = some (.slice e)
  hi : ∃ i, P.info? e = some i ∧ i.zero = some z ∧ i.size = size ∧ i.bytes = bytes
  hzs : z.cells.size = size
  hsz : 0 < size

theorem append_sl {P : Program} {t ty e bytes : Nat} {z : Value} (E : Elem P t e 1 bytes z) {w : World} {base : Nat} {v x : Value} {n : Nat} {xs news : List Value}
    (hown : w.ownsRow base e 1 v n xs) (hx : IsSl w x news) (h1 : ∀ u ∈ news, u.oneCell' = true) (hroom : (n + news.length) * bytes ≤ 140737488355328) (h63 : n + news.length ≤ maxLen) (hbase : base ≤ w.heap.size) :
    ∃ v' w', (Builtin.append_ #[t, t] ty #[v, x]).run P w = .ok v' w' ∧ w'.ownsRow base e 1 v' (n + news.length) (xs ++ news) ∧ w.grownBy w' v.ownBlock ∧ (v' = .slice none 0 0 ↔ v = .slice none 0 0 ∧ news = []) := by
  obtain ⟨ht, ⟨i, hi, hz, hs, hb⟩, hzs, hsz⟩ := E
  rcases hx with ⟨rfl, rfl | ⟨a, c, rfl⟩⟩ | ⟨h0, b, off, cap, rfl, g1, g2, g3, g4⟩
  · exact ⟨v, w, run_append_owned_none w base t ty e i 1 ht hi v n xs hown, by simpa using hown, World.grownBy.refl w _, by simp⟩
  · obtain ⟨v', w', hr, h2, h3, h4⟩ := run_append_own (P := P) w base t ty e i z 1 bytes ht hi hz hs hb hzs hsz v n xs hown a 0 c [] rfl (fun j u hu => by simp at hu) (by simp) h63 hroom hbase
    exact ⟨v', w', hr, h2, h3, by rw [h4]; simp⟩
  · obtain ⟨v', w', hr, h2, h3, h4⟩ := run_append_own (P := P) w base t ty e i z 1 bytes ht hi hz hs hb hzs hsz v n xs hown ⟨b, off, none⟩ news.length cap news (by simp) (fun j u hu => by
      have hj : j < news.length := by
        rcases Nat.lt_or_ge j news.length with h | h
        · exact h
        · rw [List.getElem?_eq_none h] at hu; cases hu
      have : (⟨b, off, none⟩ : Addr).add j = ⟨b, off + j, none⟩ := Addr.add_lit _ _ _
      rw [this, g4 j hj, hu]) h1 h63 hroom hbase
    exact ⟨v', w', hr, h2, h3, by rw [h4, List.length_eq_zero_iff]⟩

/-- An append in a walk, its run known. -/
theorem wpList_append_eq {P : Program} {ops : Array Oper} {rest : List Oper} {o : Oper} {a : Act} {w : World} {Q : Exit → Act → World → Prop} (hgd : o.guard = none) (s x : Operand) (t : TypeId)
    (ho : o.op = .call { callee := .builtin .append, args := #[s, x], argTypes := #[t, t] }) {v vx v' : Value} {w' : World} (hs : a.eval s = v) (hx : a.eval x = vx)
    (hrun : (Builtin.append_ #[t, t] o.type #[v, vx]).run P w = .ok v' w') (h : wpList P ops Q rest (a.put o.dst v') w') : wpList P ops Q (o :: rest) a w :=
  wpList_plain hgd fun _ hK => by
    unfold Oper.wp execOp
    simp only [ho, resolve, invoke, builtin, Sem.run_bind, Sem.run_pure, Result.andThen_ok, List.map_toArray, List.map_cons, List.map_nil, hs, hx, hrun]
    exact hK _ _ h

/-- A new block of cells, as a slice. -/
theorem isSl_new (w : World) (cs : List Value) (e : TypeId) (cap : Nat) (hc : cs.length ≤ cap) (hm : cap ≤ maxLen) (fz : Nat × Nat) : IsSl (w.alloc (.cells cs.toArray e fz)) (.slice (some ⟨w.heap.size, 0, none⟩) cs.length cap) cs :=
  isSl_mk hc hm (by simp) fun j hj => by
    rw [Nat.zero_add, World.cell?_alloc_mark]; simp

theorem IsSl.alloc {w : World} {v : Value} {cs : List Value} (h : IsSl w v cs) (o : Obj) : IsSl (w.alloc o) v cs :=
  h.below ((Below.refl w.heap.size w).alloc (Nat.le_refl _) o) (Nat.le_refl _)

theorem own_new (w : World) (e : TypeId) (base : Nat) (hb : base ≤ w.heap.size) : (w.alloc (.cells #[] e)).ownsRow base e 1 (.slice (some ⟨w.heap.size, 0, none⟩) 0 0) 0 [] :=
  World.ownsRow_made w #[] 0 hb (by decide) rfl


/-- A block of N cells, none frozen: cell k holds X k. -/
def Row (w : World) (b : Nat) (e : TypeId) (N : Nat) (X : Nat → Value) : Prop := ∃ c, w.heap[b]? = some (.cells c e (0, 0)) ∧ c.size = N ∧ ∀ k, k < N → c[k]? = some (X k)

section
variable {w w' : World} {b N : Nat} {e : TypeId} {X Y : Nat → Value}
theorem Row.lt (h : Row w b e N X) : b < w.heap.size := by
  obtain ⟨c, h1, _⟩ := h
  exact (Array.getElem?_eq_some_iff.1 h1).1
theorem Row.cell (h : Row w b e N X) {k : Nat} (hk : k < N) : w.cell? ⟨b, k, none⟩ = some (X k) := by
  obtain ⟨c, h1, h2, h3⟩ := h
  simp [World.cell?, h1, h3 k hk]
theorem Row.frozen (h : Row w b e N X) (k : Nat) : w.frozen? ⟨b, k, none⟩ = false := by
  obtain ⟨c, h1, h2, h3⟩ := h
  simp [World.frozen?, h1]
theorem Row.drew (h : Row w b e N X) : Row w.drew b e N X := h
theorem Row.drewN (h : Row w b e N X) (n : Nat) : Row (w.drewN n) b e N X := h
theorem Row.alloc (h : Row w b e N X) (o : Obj) : Row (w.alloc o) b e N X := by
  obtain ⟨c, h1, h2⟩ := h
  exact ⟨c, (Below.heap_alloc w o b (Array.getElem?_eq_some_iff.1 h1).1).trans h1, h2⟩
theorem Row.set (h : Row w b e N X) (j : Nat) (v : Value) : Row (w.setCell ⟨b, j, none⟩ v) b e N (fun k => if k = j then v else X k) := by
  obtain ⟨c, h1, h2, h3⟩ := h
  refine ⟨c.setIfInBounds j v, ?_, by simp [h2], ?_⟩
  · simp [World.setCell, Array.getElem?_modify, h1]
  · intro k hk
    have h4 := h3 k hk
    have hlt : k < c.size := (Array.getElem?_eq_some_iff.1 h4).1
    by_cases e : k = j
    · subst e; simp [hlt]
    · simp [e, Ne.symm e, h4]
theorem Row.far (h : Row w b e N X) {p : Addr} (hp : b ≠ p.block) (v : Value) : Row (w.setCell p v) b e N X := by
  obtain ⟨c, h1, h2⟩ := h
  exact ⟨c, (Below.heap_setCell w p v b hp).trans h1, h2⟩
theorem Row.congr (h : Row w b e N X) (hxy : ∀ k, k < N → X k = Y k) : Row w b e N Y := by
  obtain ⟨c, h1, h2, h3⟩ := h
  exact ⟨c, h1, h2, fun k hk => by rw [h3 k hk, hxy k hk]⟩
theorem Row.below {B : Nat} (h : Row w b e N X) (hb : Below B w w') (hg : b < B) : Row w' b e N X := by
  obtain ⟨c, h1, h2⟩ := h
  exact ⟨c, (hb.block b hg).trans h1, h2⟩
theorem Row.frm {S : Nat → Prop} (h : Row w b e N X) (hb : Frm S w w') (hs : ¬ S b) : Row w' b e N X := by
  have hlt := h.lt
  obtain ⟨c, h1, h2⟩ := h
  exact ⟨c, (hb.block b hlt hs).trans h1, h2⟩
theorem Row.new (w : World) (e : TypeId) (cs : Array Value) : Row (w.alloc (.cells cs e)) w.heap.size e cs.size (fun k => cs.getD k undef) :=
  ⟨cs, heap_alloc_new w _, rfl, fun k hk => by simp [hk]⟩
end

end Go.Ice
end

section
set_option linter.unusedVariables false
namespace Go.Ice
open Go.RowKit

theorem drewN_below (w : World) (n : Nat) : Below w.heap.size w (w.drewN n) := ⟨rfl, rfl, rfl, Nat.le_refl _, fun _ _ => rfl⟩

theorem frm_below {w w' : World} {T : Nat → Prop} (h : Below w.heap.size w w') : Frm T w w' := ⟨h.os, h.tape, h.output, h.size, fun k hk _ => h.block k hk⟩

/-- The world behind a name: what is said of it is kept. -/
theorem wp_world {P : Program} {c : Code} {Q : Exit → Act → World → Prop} {a : Act} {w : World} (R : World → Prop) (h : R w) (k : ∀ w', R w' → Code.wp P c Q a w') : Code.wp P c Q a w := k w h

/-- A slice of elements of several cells each, that reads as the cells cs. -/
def IsSlK (w : World) (size n : Nat) (v : Value) (cs : List Value) : Prop :=
  cs.length = n * size ∧ ((n = 0 ∧ (v = .slice none 0 0 ∨ ∃ a cap, v = .slice (some a) 0 cap)) ∨
  (0 < n ∧ ∃ b off cap, v = .slice (some ⟨b, off, none⟩) n cap ∧ n ≤ cap ∧ cap ≤ maxLen ∧ b < w.heap.size ∧ ∀ j, j < cs.length → w.cell? ⟨b, off + j, none⟩ = cs[j]?))

theorem IsSlK.below {B size n : Nat} {w w' : World} {v : Value} {cs : List Value} (h : IsSlK w size n v cs) (hb : Below B w w') (hB : w.heap.size ≤ B) : IsSlK w' size n v cs := by
  obtain ⟨hl, h⟩ := h
  refine ⟨hl, ?_⟩
  rcases h with h | ⟨h0, b, off, cap, hv, h1, h2, h3, h4⟩
  · exact .inl h
  · refine .inr ⟨h0, b, off, cap, hv, h1, h2, by have := hb.size; omega, fun j hj => ?_⟩
    rw [hb.cell (p := ⟨b, off + j, none⟩) (by simp; omega)]
    exact h4 j hj

theorem IsSlK.form {w : World} {size n : Nat} {v : Value} {cs : List Value} (h : IsSlK w size n v cs) : ∃ a cap, v = .slice a n cap ∧ n ≤ maxLen := by
  rcases h.2 with ⟨rfl, rfl | ⟨a, cap, rfl⟩⟩ | ⟨h0, b, off, cap, hv, h1, h2, h3, h4⟩
  · exact ⟨_, _, rfl, by decide⟩
  · exact ⟨_, _, rfl, by decide⟩
  · exact ⟨_, _, hv, by omega⟩

theorem own_isSlK {w : World} {base size : Nat} {e : TypeId} {v : Value} {n : Nat} {xs : List Value} (h : w.ownsRow base e size v n xs) : IsSlK w size n v xs := by
  obtain ⟨hl, h⟩ := h
  refine ⟨hl, ?_⟩
  rcases h with ⟨h, h'⟩ | ⟨g', cap', cur, h1, h2, h3, h4, h5, h6, h7⟩
  · exact .inl ⟨h', .inl h⟩
  · have hlt : g' < w.heap.size := (Array.getElem?_eq_some_iff.1 h3).1
    rcases Nat.eq_zero_or_pos n with h0 | h0
    · subst h0; exact .inl ⟨rfl, .inr ⟨_, _, h1⟩⟩
    · refine .inr ⟨h0, g', 0, cap', h1, h4, h5, hlt, fun j hj => ?_⟩
      have e : xs[j]? = (cur.toList.take (n * size))[j]? := by rw [h7]
      rw [e, List.getElem?_take_of_lt (by omega)]
      simp [World.cell?, h3]

/-- The slice v has n elements of c cells each: cell j of element i is X i j. -/
def RowAt (w : World) (c : Nat) (v : Value) (n : Nat) (X : Nat → Nat → Value) : Prop :=
  (n = 0 ∧ (v = .slice none 0 0 ∨ ∃ a cap, v = .slice (some a) 0 cap)) ∨
  (0 < n ∧ ∃ b off cap, v = .slice (some ⟨b, off, none⟩) n cap ∧ n ≤ cap ∧ cap ≤ maxLen ∧ b < w.heap.size ∧ ∀ i, i < n → ∀ j, j < c → w.cell? ⟨b, off + (i * c + j), none⟩ = some (X i j))

theorem RowAt.below {B c n : Nat} {w w' : World} {v : Value} {X : Nat → Nat → Value} (h : RowAt w c v n X) (hb : Below B w w') (hB : w.heap.size ≤ B) : RowAt w' c v n X := by
  rcases h with h | ⟨h0, b, off, cap, hv, h1, h2, h3, h4⟩
  · exact .inl h
  · refine .inr ⟨h0, b, off, cap, hv, h1, h2, by have := hb.size; omega, fun i hi j hj => ?_⟩
    rw [hb.cell (p := ⟨b, off + (i * c + j), none⟩) (by simp; omega)]
    exact h4 i hi j hj

theorem RowAt.form {c n : Nat} {w : World} {v : Value} {X : Nat → Nat → Value} (h : RowAt w c v n X) : ∃ a cap, v = .slice a n cap ∧ n ≤ maxLen := by
  rcases h with ⟨rfl, rfl | ⟨a, cap, rfl⟩⟩ | ⟨h0, b, off, cap, hv, h1, h2, h3, h4⟩
  · exact ⟨_, _, rfl, by decide⟩
  · exact ⟨_, _, rfl, by decide⟩
  · exact ⟨_, _, hv, by omega⟩

theorem RowAt.at {c n : Nat} {w : World} {v : Value} {X : Nat → Nat → Value} (h : RowAt w c v n X) (hn : 0 < n) : ∃ b off cap, v = .slice (some ⟨b, off, none⟩) n cap ∧ n ≤ cap ∧ cap ≤ maxLen ∧ b < w.heap.size ∧ ∀ i, i < n → ∀ j, j < c → w.cell? ⟨b, off + (i * c + j), none⟩ = some (X i j) := by
  rcases h with ⟨rfl, _⟩ | ⟨h0, h⟩
  · omega
  · exact h

theorem IsSlK.rowAt {w : World} {c n : Nat} {v : Value} {cs : List Value} (h : IsSlK w c n v cs) {X : Nat → Nat → Value} (hX : ∀ i, i < n → ∀ j, j < c → cs[i * c + j]? = some (X i j)) : RowAt w c v n X := by
  obtain ⟨hl, h⟩ := h
  rcases h with h | ⟨h0, b, off, cap, hv, h1, h2, h3, h4⟩
  · exact .inl h
  · refine .inr ⟨h0, b, off, cap, hv, h1, h2, h3, fun i hi j hj => ?_⟩
    have : i * c + j < cs.length := by
      rw [hl]
      calc i * c + j < i * c + c := by omega
        _ = (i + 1) * c := by rw [Nat.succ_mul]
        _ ≤ n * c := Nat.mul_le_mul_right c hi
    rw [h4 _ this, hX i hi j hj]

theorem RowAt.take {c n m : Nat} {w : World} {a : Option Addr} {cap : Nat} {X : Nat → Nat → Value} (h : RowAt w c (.slice a n cap) n X) (hm : m ≤ n) : RowAt w c (.slice a m cap) m X := by
  rcases h with ⟨rfl, h⟩ | ⟨h0, b, off, cap', hv, h1, h2, h3, h4⟩
  · obtain rfl : m = 0 := by omega
    exact .inl ⟨rfl, h⟩
  · cases hv
    rcases Nat.eq_zero_or_pos m with rfl | hm0
    · exact .inl ⟨rfl, .inr ⟨_, _, rfl⟩⟩
    · exact .inr ⟨hm0, b, off, cap, rfl, by omega, h2, h3, fun i hi => h4 i (by omega)⟩

theorem RowAt.frm {w w' : World} {c n : Nat} {v : Value} {X : Nat → Nat → Value} {T : Nat → Prop} (h : RowAt w c v n X) (hf : Frm T w w') (hT : ∀ b, v.ownBlock = some b → ¬ T b) : RowAt w' c v n X := by
  rcases h with h | ⟨h0, b, off, cap, hv, h1, h2, h3, h4⟩
  · exact .inl h
  · refine .inr ⟨h0, b, off, cap, hv, h1, h2, by have := hf.size; omega, fun i hi j hj => ?_⟩
    rw [hf.cell (p := ⟨b, off + (i * c + j), none⟩) h3 (hT b (by rw [hv]; rfl))]
    exact h4 i hi j hj

/-- A block of cells that was made. -/
theorem blk_cell {w : World} {b : Nat} {cs : Array Value} {e : TypeId} (h : w.heap[b]? = some (.cells cs e (0, 0))) (r : Nat) : w.cell? ⟨b, r, none⟩ = cs[r]? := by simp [World.cell?, h]

theorem blk_frozen {w : World} {b : Nat} {cs : Array Value} {e : TypeId} (h : w.heap[b]? = some (.cells cs e (0, 0))) (r : Nat) : w.frozen? ⟨b, r, none⟩ = false := by simp [World.frozen?, h]

theorem blk_below {w w' : World} {b n : Nat} {o : Obj} (h : w.heap[b]? = some o) (hb : Below n w w') (hn : b < n) : w'.heap[b]? = some o := (hb.block b hn).trans h

/-- The block of a result of two cells, written over; another block too. -/
theorem res_cells {w : World} {b b' : Nat} {c0 c1 v0 v1 : Value} {e : TypeId} (h : w.heap[b]? = some (.cells #[c0, c1] e (0, 0))) :
    ((w.setCell ⟨b, 0, none⟩ v0).setCell ⟨b, 1, none⟩ v1).cell? ⟨b, 0, none⟩ = some v0 ∧ ((w.setCell ⟨b, 0, none⟩ v0).setCell ⟨b, 1, none⟩ v1).cell? ⟨b, 1, none⟩ = some v1 := by
  simp [World.cell?, World.setCell, Array.getElem?_modify, h]

theorem blk_set {w : World} {b : Nat} {o : Obj} (h : w.heap[b]? = some o) {p : Addr} (hp : b ≠ p.block) (u : Value) : (w.setCell p u).heap[b]? = some o := (Below.heap_setCell w p u b hp).trans h

theorem own_set {w : World} {base e size n : Nat} {v : Value} {xs : List Value} (h : w.ownsRow base e size v n xs) {p : Addr} (hp : p.block < base) (u : Value) : (w.setCell p u).ownsRow base e size v n xs :=
  h.kept (row := some p.block) ⟨rfl, rfl, rfl, by simp [World.setCell], fun k _ hne => Below.heap_setCell _ _ _ _ (fun e => hne (by rw [e]))⟩ (by
    cases hv : v.ownBlock with
    | none => exact .inl rfl
    | some g => right; intro e; have := (h.lt g hv).1; injection e with e; omega)

theorem own_form {w : World} {base e size n : Nat} {v : Value} {xs : List Value} (h : w.ownsRow base e size v n xs) : ∃ a cap, v = .slice a n cap ∧ n ≤ maxLen := by
  rcases h.2 with ⟨rfl, rfl⟩ | ⟨g', cap, cur, rfl, _, _, h1, h2, _⟩
  · exact ⟨_, _, rfl, by decide⟩
  · exact ⟨_, _, rfl, by omega⟩

theorem own_frm {w w' : World} {base e size n : Nat} {v : Value} {xs : List Value} {T : Nat → Prop} (h : w.ownsRow base e size v n xs) (hf : Frm T w w') (hT : ∀ k, base ≤ k → ¬ T k) : w'.ownsRow base e size v n xs := by
  obtain ⟨h1, h2⟩ := h
  refine ⟨h1, ?_⟩
  rcases h2 with h2 | ⟨g, cap, cur, hv, hb, hg, r⟩
  · exact .inl h2
  · exact .inr ⟨g, cap, cur, hv, hb, (hf.block g (Array.getElem?_eq_some_iff.1 hg).1 (hT g hb)).trans hg, r⟩

/-- An append to a row of one's own: of whatever slice of n elements; where the new row lies. -/
theorem app_at {P : Program} {t ty e size bytes : Nat} {z : Value} (E : Elem P t e size bytes z) {w : World} {base : Nat} {v x : Value} {n m : Nat} {xs news : List Value}
    (hown : w.ownsRow base e size v n xs) (hx : IsSlK w size m x news) (h1 : ∀ u ∈ news, u.oneCell' = true) (hroom : (n + m) * bytes ≤ 140737488355328) (h63 : n + m ≤ maxLen) (hbase : base ≤ w.heap.size) :
    ∃ v' w', (Builtin.append_ #[t, t] ty #[v, x]).run P w = .ok v' w' ∧ w'.ownsRow base e size v' (n + m) (xs ++ news) ∧ w.grownBy w' v.ownBlock ∧ (v'.ownBlock = v.ownBlock ∨ v'.ownBlock = some w.heap.size) := by
  obtain ⟨ht, ⟨i, hi, hz, hs, hb⟩, hzs, hsz⟩ := E
  obtain ⟨hl, ⟨rfl, rfl | ⟨a, c, rfl⟩⟩ | ⟨h0, b, off, cap, rfl, g1, g2, g3, g4⟩⟩ := hx
  · obtain rfl : news = [] := List.length_eq_zero_iff.1 (by rw [hl, Nat.zero_mul])
    exact ⟨v, w, run_append_owned_none w base t ty e i size ht hi v n xs hown, by simpa using hown, World.grownBy.refl w _, .inl rfl⟩
  · obtain rfl : news = [] := List.length_eq_zero_iff.1 (by rw [hl, Nat.zero_mul])
    obtain ⟨v', w', hr, h2, h3, h4, h5⟩ := run_append_own_at (P := P) w base t ty e i z size bytes ht hi hz hs hb hzs hsz v n xs hown a 0 c [] (by simp) (fun j u hu => by simp at hu) (by simp) h63 hroom hbase
    exact ⟨v', w', hr, h2, h3, h5⟩
  · obtain ⟨v', w', hr, h2, h3, h4, h5⟩ := run_append_own_at (P := P) w base t ty e i z size bytes ht hi hz hs hb hzs hsz v n xs hown ⟨b, off, none⟩ m cap news hl (fun j u hu => by
      have hj : j < news.length := by
        rcases Nat.lt_or_ge j news.length with h | h
        · exact h
        · rw [List.getElem?_eq_none h] at hu; cases hu
      rw [show (⟨b, off, none⟩ : Addr).add j = ⟨b, off + j, none⟩ from Addr.add_lit _ _ _, g4 j hj, hu]) h1 h63 hroom hbase
    exact ⟨v', w', hr, h2, h3, h5⟩

theorem own_block {w : World} {base e size n g : Nat} {v : Value} {xs : List Value} (h : w.ownsRow base e size v n xs) (hg : v.ownBlock = some g) : ∃ c, w.heap[g]? = some (.cells c e (0, 0)) := by
  rcases h.2 with ⟨rfl, _⟩ | ⟨g', cap, cur, rfl, hb, hgg, _⟩
  · simp [Value.ownBlock] at hg
  · simp [Value.ownBlock] at hg
    subst hg
    exact ⟨cur, hgg⟩

theorem own_apart {w : World} {base base' e e' size size' n n' : Nat} {v v' : Value} {xs xs' : List Value} (h : w.ownsRow base e size v n xs) (h' : w.ownsRow base' e' size' v' n' xs') (he : e ≠ e') : v'.ownBlock = none ∨ v'.ownBlock ≠ v.ownBlock := by
  cases hv : v'.ownBlock with
  | none => exact .inl rfl
  | some g =>
    right
    intro hg
    obtain ⟨c, hc⟩ := own_block h hg.symm
    obtain ⟨c', hc'⟩ := own_block h' hv
    rw [hc] at hc'
    injection hc' with hc'
    injection hc' with _ h2
    exact he h2

theorem block_apart {w : World} {base e e' size n g : Nat} {v : Value} {xs : List Value} {c : Array Value} (h : w.ownsRow base e size v n xs) (h' : w.heap[g]? = some (.cells c e' (0, 0))) (he : e ≠ e') : some g ≠ v.ownBlock := by
  intro hg
  obtain ⟨c', hc⟩ := own_block h hg.symm
  rw [hc] at h'
  injection h' with h'
  injection h' with _ h2
  exact he h2

theorem block_cells {w : World} {g : Nat} {cs : List Value} {e : TypeId} (h : w.heap[g]? = some (.cells cs.toArray e (0, 0))) : ∀ j u, cs[j]? = some u → w.cell? ((⟨g, 0, none⟩ : Addr).add j) = some u := fun j u hu => by
  rw [Addr.add_lit, Nat.zero_add]
  simp [World.cell?, h, hu]

/-- A block of at least m cells, none frozen. -/
def Blk (w : World) (g : Nat) (e : TypeId) (m : Nat) : Prop := ∃ c, w.heap[g]? = some (.cells c e (0, 0)) ∧ m ≤ c.size

theorem Blk.cell {w : World} {g m : Nat} {e : TypeId} (h : Blk w g e m) (k : Nat) (hk : k < m) : (∃ u, w.cell? ⟨g, k, none⟩ = some u) ∧ w.frozen? ⟨g, k, none⟩ = false := by
  obtain ⟨c, h1, h2⟩ := h
  exact ⟨⟨c[k]'(by omega), by simp [World.cell?, h1]⟩, by simp [World.frozen?, h1]⟩

theorem Blk.set {w : World} {g m : Nat} {e : TypeId} (h : Blk w g e m) (k : Nat) (u : Value) : Blk (w.setCell ⟨g, k, none⟩ u) g e m := by
  obtain ⟨c, h1, h2⟩ := h
  exact ⟨c.setIfInBounds k u, by simp [World.setCell, Array.getElem?_modify, h1], by simpa using h2⟩

theorem own_slice {w : World} {base e size n : Nat} {v : Value} {xs : List Value} (h : w.ownsRow base e size v n xs) : ∃ a cap, v = .slice a n cap := by
  rcases h.2 with ⟨rfl, rfl⟩ | ⟨g', cap, cur, rfl, _⟩
  · exact ⟨_, _, rfl⟩
  · exact ⟨_, _, rfl⟩

end Go.Ice
end

section
set_option linter.unusedVariables false
namespace Go.Ice
open Go.RowKit

theorem boxed (w : World) (cs : Array Value) (ty : TypeId) : ∃ B W0, B = w.heap.size ∧ W0 = w.alloc (.cells cs ty) ∧ Hid (B = w.heap.size) ∧ Hid (W0.heap[B]? = some (.cells cs ty (0, 0))) ∧ Hid (Below B w W0) ∧ Hid (W0.heap.size = B + 1) :=
  ⟨w.heap.size, _, rfl, rfl, rfl, heap_alloc_new w _, (Below.refl _ w).alloc (Nat.le_refl _) _, (show (w.alloc _).heap.size = _ from by simp)⟩

theorem hid_keep {w w1 : World} {b : Nat} {o : Obj} (h : Hid (w.heap[b]? = some o)) (hb : Below w.heap.size w w1) : Hid (w1.heap[b]? = some o) :=
  (hb.block b (Array.getElem?_eq_some_iff.1 h.out).1).trans h.out

theorem hid_step {B : Nat} {w w1 w2 : World} (h : Hid (Below B w w1)) (hb : Below w1.heap.size w1 w2) (hB : Hid (B = w.heap.size)) : Hid (Below B w w2) :=
  h.out.trans (hb.mono (by have := h.out.size; have := hB.out; omega))

theorem keep_alloc {w : World} {b : Nat} {o : Obj} (h : w.heap[b]? = some o) (x : Obj) : (w.alloc x).heap[b]? = some o :=
  (Below.heap_alloc w x b (Array.getElem?_eq_some_iff.1 h).1).trans h

theorem blk_lt {w : World} {b : Nat} {o : Obj} (h : w.heap[b]? = some o) : b < w.heap.size := (Array.getElem?_eq_some_iff.1 h).1

/-- The cells of n elements of c cells each, one behind the other. -/
def flat (n c : Nat) (X : Nat → Nat → Value) : List Value := (List.range (n * c)).map fun k => X (k / c) (k % c)

theorem flat_len (n c : Nat) (X : Nat → Nat → Value) : (flat n c X).length = n * c := by simp [flat]
theorem flat_get {n c : Nat} (X : Nat → Nat → Value) {k : Nat} (hk : k < n * c) : (flat n c X)[k]? = some (X (k / c) (k % c)) := by
  simp [flat, hk]
theorem mul_lt {n c i j : Nat} (hi : i < n) (hj : j < c) : i * c + j < n * c := by
  calc i * c + j < i * c + c := by omega
    _ = (i + 1) * c := by rw [Nat.succ_mul]
    _ ≤ n * c := Nat.mul_le_mul_right c hi
theorem flat_at {n c : Nat} (X : Nat → Nat → Value) {i j : Nat} (hi : i < n) (hj : j < c) : (flat n c X)[i * c + j]? = some (X i j) := by
  rw [flat_get X (mul_lt hi hj), Nat.mul_comm i c, Nat.mul_add_div (by omega), Nat.mul_add_mod, Nat.div_eq_of_lt hj, Nat.mod_eq_of_lt hj, Nat.add_zero]
theorem flat_congr {n c : Nat} {X Y : Nat → Nat → Value} (h : ∀ i, i < n → ∀ j, j < c → X i j = Y i j) : flat n c X = flat n c Y := by
  rcases Nat.eq_zero_or_pos c with rfl | hc
  · simp [flat]
  · refine List.map_congr_left fun k hk => ?_
    rw [List.mem_range] at hk
    exact h _ ((Nat.div_lt_iff_lt_mul hc).2 hk) _ (Nat.mod_lt _ hc)
theorem flat_mem {n c : Nat} {X : Nat → Nat → Value} {u : Value} (hu : u ∈ flat n c X) : ∃ i j, i < n ∧ j < c ∧ u = X i j := by
  unfold flat at hu
  rw [List.mem_map] at hu
  obtain ⟨k, hk, rfl⟩ := hu
  rw [List.mem_range] at hk
  have hc : 0 < c := by
    rcases Nat.eq_zero_or_pos c with rfl | h
    · simp at hk
    · exact h
  exact ⟨_, _, (Nat.div_lt_iff_lt_mul hc).2 hk, Nat.mod_lt _ hc, rfl⟩
theorem flat_append {n m c : Nat} (X Y : Nat → Nat → Value) : flat n c X ++ flat m c Y = flat (n + m) c fun i j => if i < n then X i j else Y (i - n) j := by
  rcases Nat.eq_zero_or_pos c with rfl | hc
  · simp [flat]
  · refine List.ext_getElem? fun k => ?_
    rcases Nat.lt_or_ge k (n * c) with h | h
    · rw [List.getElem?_append_left (by rw [flat_len]; exact h), flat_get X h, flat_get _ (by rw [Nat.add_mul]; omega), if_pos ((Nat.div_lt_iff_lt_mul hc).2 h)]
    · rw [List.getElem?_append_right (by rw [flat_len]; exact h), flat_len]
      obtain ⟨d, rfl⟩ : ∃ d, k = n * c + d := ⟨k - n * c, by omega⟩
      rw [show n * c + d - n * c = d from by omega]
      have e1 : (n * c + d) / c = n + d / c := by rw [Nat.mul_comm, Nat.mul_add_div hc]
      have e2 : (n * c + d) % c = d % c := by rw [Nat.mul_comm, Nat.mul_add_mod]
      rcases Nat.lt_or_ge d (m * c) with h2 | h2
      · rw [flat_get Y h2, flat_get _ (by rw [Nat.add_mul]; omega), e1, e2, if_neg (Nat.not_lt.2 (Nat.le_add_right n _)), Nat.add_sub_cancel_left]
      · rw [List.getElem?_eq_none (by rw [flat_len]; exact h2), List.getElem?_eq_none (by rw [flat_len, Nat.add_mul]; omega)]

theorem RowAt.congr {w : World} {c n : Nat} {v : Value} {X Y : Nat → Nat → Value} (h : RowAt w c v n X) (hXY : ∀ i, i < n → ∀ j, j < c → X i j = Y i j) : RowAt w c v n Y := by
  rcases h with h | ⟨h0, b, off, cap, hv, h1, h2, h3, h4⟩
  · exact .inl h
  · exact .inr ⟨h0, b, off, cap, hv, h1, h2, h3, fun i hi j hj => by rw [h4 i hi j hj, hXY i hi j hj]⟩

theorem RowAt.slK {w : World} {c n : Nat} {v : Value} {X : Nat → Nat → Value} (h : RowAt w c v n X) (hc : 0 < c) : IsSlK w c n v (flat n c X) := by
  refine ⟨flat_len n c X, ?_⟩
  rcases h with h | ⟨h0, b, off, cap, hv, h1, h2, h3, h4⟩
  · exact .inl h
  · refine .inr ⟨h0, b, off, cap, hv, h1, h2, h3, fun k hk => ?_⟩
    rw [flat_len] at hk
    have := h4 (k / c) ((Nat.div_lt_iff_lt_mul hc).2 hk) (k % c) (Nat.mod_lt _ hc)
    rw [Nat.mul_comm, Nat.div_add_mod] at this
    rw [this, flat_get X hk]

theorem own_rowAt {w : World} {base e c n : Nat} {v : Value} {X : Nat → Nat → Value} (h : w.ownsRow base e c v n (flat n c X)) : RowAt w c v n X :=
  (own_isSlK h).rowAt fun i hi j hj => flat_at X hi hj

theorem own_nonempty {w : World} {base e c n : Nat} {v : Value} {X : Nat → Nat → Value} (h : w.ownsRow base e c v n (flat n c X)) (hn : 0 < n) :
    ∃ g cap cur, v = .slice (some ⟨g, 0, none⟩) n cap ∧ base ≤ g ∧ w.heap[g]? = some (.cells cur e (0, 0)) ∧ n ≤ cap ∧ cap ≤ maxLen ∧ cur.size = cap * c ∧ ∀ i, i < n → ∀ j, j < c → cur[i * c + j]? = some (X i j) := by
  obtain ⟨_, ⟨_, h0⟩ | ⟨g, cap, cur, hv, hb, hg, h1, h2, h3, h4⟩⟩ := h
  · omega
  · refine ⟨g, cap, cur, hv, hb, hg, h1, h2, h3, fun i hi j hj => ?_⟩
    have e : (cur.toList.take (n * c))[i * c + j]? = some (X i j) := by rw [h4]; exact flat_at X hi hj
    rw [List.getElem?_take_of_lt (mul_lt hi hj)] at e
    simpa using e

theorem own_of_cells {w : World} {base e c n g cap : Nat} {cur : Array Value} {X : Nat → Nat → Value} (hc : 0 < c) (hb : base ≤ g) (hg : w.heap[g]? = some (.cells cur e (0, 0))) (h1 : n ≤ cap) (h2 : cap ≤ maxLen) (h3 : cur.size = cap * c)
    (h4 : ∀ i, i < n → ∀ j, j < c → cur[i * c + j]? = some (X i j)) : w.ownsRow base e c (.slice (some ⟨g, 0, none⟩) n cap) n (flat n c X) := by
  refine ⟨flat_len n c X, .inr ⟨g, cap, cur, rfl, hb, hg, h1, h2, h3, List.ext_getElem? fun k => ?_⟩⟩
  rcases Nat.lt_or_ge k (n * c) with hk | hk
  · rw [List.getElem?_take_of_lt hk, flat_get X hk]
    have := h4 (k / c) ((Nat.div_lt_iff_lt_mul hc).2 hk) (k % c) (Nat.mod_lt _ hc)
    rw [Nat.mul_comm, Nat.div_add_mod] at this
    simpa using this
  · rw [List.getElem?_eq_none (l := flat n c X) (by rw [flat_len]; exact hk), List.getElem?_eq_none (by rw [List.length_take]; omega)]

theorem own_len0 {w : World} {base e c n : Nat} {v : Value} {xs : List Value} (h : w.ownsRow base e c v n xs) (hn : n = 0) : ∃ a cap, v = .slice a 0 cap := by
  obtain ⟨a, cap, h, _⟩ := own_form h
  exact ⟨a, cap, by rw [h, hn]⟩

/-- An append within the capacity, of whatever slice. -/
theorem app_fits {P : Program} {t ty e size : Nat} (ht : P.underlying t = some (.slice e)) (hi : ∃ i, P.info? e = some i ∧ i.size = size) {w : World} {base g n m cap : Nat} {x : Value} {xs news : List Value}
    (hown : w.ownsRow base e size (.slice (some ⟨g, 0, none⟩) n cap) n xs) (hx : IsSlK w size m x news) (h1 : ∀ u ∈ news, u.oneCell' = true) (hroom : n + m ≤ cap) :
    ∃ w', (Builtin.append_ #[t, t] ty #[.slice (some ⟨g, 0, none⟩) n cap, x]).run P w = .ok (.slice (some ⟨g, 0, none⟩) (n + m) cap) w' ∧ w'.ownsRow base e size (.slice (some ⟨g, 0, none⟩) (n + m) cap) (n + m) (xs ++ news) ∧ w.grownBy w' (some g) := by
  obtain ⟨i, hi, hs⟩ := hi
  obtain ⟨hl, ⟨rfl, rfl | ⟨a, c, rfl⟩⟩ | ⟨h0, b, off, c, rfl, g1, g2, g3, g4⟩⟩ := hx
  · obtain rfl : news = [] := List.length_eq_zero_iff.1 (by rw [hl, Nat.zero_mul])
    exact ⟨w, run_append_owned_none w base t ty e i size ht hi _ n xs hown, by simpa using hown, World.grownBy.refl w _⟩
  · obtain rfl : news = [] := List.length_eq_zero_iff.1 (by rw [hl, Nat.zero_mul])
    exact run_append_fits (P := P) w base t ty e i size ht hi hs g n cap xs hown a 0 c [] (by simp) (fun j u hu => by simp at hu) (by simp) hroom
  · exact run_append_fits (P := P) w base t ty e i size ht hi hs g n cap xs hown ⟨b, off, none⟩ m c news hl (fun j u hu => by
      have hj : j < news.length := by
        rcases Nat.lt_or_ge j news.length with h | h
        · exact h
        · rw [List.getElem?_eq_none h] at hu; cases hu
      rw [show (⟨b, off, none⟩ : Addr).add j = ⟨b, off + j, none⟩ from Addr.add_lit _ _ _, g4 j hj, hu]) h1 hroom

theorem own_block_eq {w : World} {base e size n cap g : Nat} {xs : List Value} (h : w.ownsRow base e size (.slice (some ⟨g, 0, none⟩) n cap) n xs) : base ≤ g ∧ g < w.heap.size := h.lt g rfl

/-- x[:h]. -/
theorem run_slice_to {P : Program} {w : World} {t e : TypeId} (ht : P.underlying t = some (.slice e)) (hs : ∃ n, (sizeOf e).run P w = .ok n w) (a : Option Addr) (len cap h : Nat) (hh : h ≤ cap) :
    (Instr.sliceAt t (.slice a len cap) none (some (.int .i64 h)) none).run P w = .ok (.slice a h cap) w := by
  obtain ⟨n, hn⟩ := hs
  cases a with
  | none => simp [Instr.sliceAt, Instr.slice, Instr.sliceBounds, Instr.sliceBound, go_sem, run_underlying ht, hh, hn]
  | some a => simp [Instr.sliceAt, Instr.slice, Instr.sliceBounds, Instr.sliceBound, go_sem, run_underlying ht, hh, hn]

theorem own_below {w w' : World} {base e size n : Nat} {v : Value} {xs : List Value} (h : w.ownsRow base e size v n xs) (hb : Below w.heap.size w w') : w'.ownsRow base e size v n xs := by
  obtain ⟨h1, h2⟩ := h
  refine ⟨h1, ?_⟩
  rcases h2 with h2 | ⟨g, cap, cur, hv, hbg, hg, r⟩
  · exact .inl h2
  · exact .inr ⟨g, cap, cur, hv, hbg, (hb.block g (Array.getElem?_eq_some_iff.1 hg).1).trans hg, r⟩
end Go.Ice
end
