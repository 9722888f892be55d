/- Small lemmas on slices in memory that the walks of this seat share. No condition. -/
import Derived.Test.YtkajopdpjdmfcaaRows
import Derived.WalkKit
import Derived.ProofKit
import Derived.OpenShut
import Derived.WalkLawsBesides
import Derived.WalkSpells
import Derived.Lib.Hide
import Derived.Lib.OthersKept
namespace Go.Ice
open Go.RowKit

/-- A byte as a value. -/
def u8v (c : UInt8) : Value := .int .u8 c.toNat

/-- The slice value v reads as the cells cs in w. -/
def IsSl (w : World) (v : Value) (cs : List Value) : Prop :=
  (cs = [] ∧ (v = .slice none 0 0 ∨ ∃ a cap, v = .slice (some a) 0 cap)) ∨
  (0 < cs.length ∧ ∃ b off cap, v = .slice (some ⟨b, off, none⟩) cs.length cap ∧ cs.length ≤ cap ∧ cap ≤ maxLen ∧ b < w.heap.size ∧
    ∀ j, j < cs.length → w.cell? ⟨b, off + j, none⟩ = cs[j]?)

theorem IsSl.below {B : Nat} {w w' : World} {v : Value} {cs : List Value} (h : IsSl w v cs) (hb : Below B w w') (hB : w.heap.size ≤ B) : IsSl w' v cs := by
  rcases h with h | ⟨h0, b, off, cap, hv, h1, h2, h3, h4⟩
  · exact .inl h
  · refine .inr ⟨h0, b, off, cap, hv, h1, h2, by have := hb.size; omega, fun j hj => ?_⟩
    rw [hb.cell (p := ⟨b, off + j, none⟩) (by simp; omega)]
    exact h4 j hj

theorem IsSl.form {w : World} {v : Value} {cs : List Value} (h : IsSl w v cs) : ∃ a cap, v = .slice a cs.length cap ∧ cs.length ≤ maxLen := by
  rcases h with ⟨rfl, rfl | ⟨a, cap, rfl⟩⟩ | ⟨h0, b, off, cap, hv, h1, h2, h3, h4⟩
  · exact ⟨_, _, rfl, by decide⟩
  · exact ⟨_, _, rfl, by decide⟩
  · exact ⟨_, _, hv, by omega⟩

theorem isSl_mk {w : World} {cs : List Value} {b off cap : Nat} (h1 : cs.length ≤ cap) (h2 : cap ≤ maxLen) (h3 : b < w.heap.size) (h4 : ∀ j, j < cs.length → w.cell? ⟨b, off + j, none⟩ = cs[j]?) :
    IsSl w (.slice (some ⟨b, off, none⟩) cs.length cap) cs := by
  rcases Nat.eq_zero_or_pos cs.length with h | h
  · obtain rfl := List.length_eq_zero_iff.1 h
    exact .inl ⟨rfl, .inr ⟨_, _, rfl⟩⟩
  · exact .inr ⟨h, b, off, cap, rfl, h1, h2, h3, h4⟩

/-- All blocks but those of S are as they were; the streams too. -/
structure Frm (S : Nat → Prop) (w w' : World) : Prop where
  os : w'.os = w.os
  tape : w'.tape = w.tape
  output : w'.output = w.output
  size : w.heap.size ≤ w'.heap.size
  block : ∀ k, k < w.heap.size → ¬ S k → w'.heap[k]? = w.heap[k]?

theorem Frm.refl (S : Nat → Prop) (w : World) : Frm S w w := ⟨rfl, rfl, rfl, Nat.le_refl _, fun _ _ _ => rfl⟩
theorem Frm.trans {S : Nat → Prop} {a b c : World} (h : Frm S a b) (k : Frm S b c) : Frm S a c :=
  ⟨k.os.trans h.os, k.tape.trans h.tape, k.output.trans h.output, Nat.le_trans h.size k.size, fun i hi hs => (k.block i (Nat.lt_of_lt_of_le hi h.size) hs).trans (h.block i hi hs)⟩
theorem Frm.mono {S T : Nat → Prop} {w w' : World} (h : Frm S w w') (hst : ∀ k, k < w.heap.size → S k → T k) : Frm T w w' :=
  ⟨h.os, h.tape, h.output, h.size, fun k hk ht => h.block k hk (fun hs => ht (hst k hk hs))⟩
theorem Frm.drew {S : Nat → Prop} {a w : World} (h : Frm S a w) : Frm S a w.drew := ⟨h.os, h.tape, h.output, h.size, h.block⟩
theorem Frm.setCell {S : Nat → Prop} {a w : World} (h : Frm S a w) {p : Addr} (hp : S p.block ∨ a.heap.size ≤ p.block) (u : Value) : Frm S a (w.setCell p u) :=
  ⟨h.os, h.tape, h.output, by have := h.size; simpa [World.setCell] using this, fun k hk hs => by
    rw [Below.heap_setCell _ _ _ _ (by rcases hp with hp | hp; · intro e; rw [e] at hs; exact hs hp
                                       · omega)]
    exact h.block k hk hs⟩
theorem Frm.alloc {S : Nat → Prop} {a w : World} (h : Frm S a w) (o : Obj) : Frm S a (w.alloc o) :=
  ⟨h.os, h.tape, h.output, by have := h.size; simp; omega, fun k hk hs => by
    rw [Below.heap_alloc _ _ _ (by have := h.size; omega)]; exact h.block k hk hs⟩
theorem Below.frm {w w' : World} {B : Nat} (h : Below B w w') : Frm (fun k => B ≤ k) w w' := ⟨h.os, h.tape, h.output, h.size, fun k _ hs => h.block k (by omega)⟩
theorem Frm.below {w w' : World} {B : Nat} {S : Nat → Prop} (h : Frm S w w') (hs : ∀ k, k < B → ¬ S k) (hB : B ≤ w.heap.size) : Below B w w' :=
  ⟨h.os, h.tape, h.output, h.size, fun k hk => h.block k (by omega) (hs k hk)⟩
theorem Frm.cell {S : Nat → Prop} {w w' : World} (h : Frm S w w') {p : Addr} (hp : p.block < w.heap.size) (hs : ¬ S p.block) : w'.cell? p = w.cell? p := World.cell?_of_block (w := w) (h.block p.block hp hs)

theorem strOf_u8 (bs : List UInt8) : strOfNums (bs.map fun c => (c.toNat : Int)) = ⟨bs.toArray⟩ := by
  simp [strOfNums, List.map_map, Function.comp_def]

/-- string(b) of a slice of bytes. -/
theorem convert_sl {P : Program} (src e : TypeId) (hs : P.underlying src = some (.slice e)) (he : P.underlying e = some (.int .u8)) {w : World} {v : Value} {bs : List UInt8} (h : IsSl w v (bs.map u8v))
    (dst : TypeId) (hd : P.underlying dst = some .string) : (convert src dst v).run P w = .ok (.string ⟨bs.toArray⟩) w := by
  rcases h with ⟨h, hv⟩ | ⟨h0, b, off, cap, rfl, h1, h2, h3, h4⟩
  · obtain rfl : bs = [] := by simpa using h
    rcases hv with rfl | ⟨a, cap, rfl⟩
    · exact run_convert_bytes_nil (P := P) w src e hs he 0 0 dst hd
    · rw [run_convert_bytes_string w src dst e _ _ _ hs he hd, run_bytesToString w a 0 cap [] (run_loadCells_list (P := P) w a [] (fun j v hj => by simp at hj))]
      rfl
  · rw [List.length_map] at *
    rw [run_convert_bytes_arg (P := P) w src e hs he b off bs.length cap (bs.map fun c => (c.toNat : Int)) (by simp) (fun i hi => by
      rw [h4 i hi]
      simp [u8v, List.getD_eq_getElem?_getD, hi]) dst hd, strOf_u8]

/-- A slice of integers that came in: nil, or a row of 'cap' numbers. -/
def IsRow (k : IntKind) (w : World) (a : Option Addr) (len cap : Nat) (zs : List Int) : Prop :=
  (a = none ∧ len = 0 ∧ cap = 0 ∧ zs = []) ∨
  ∃ x, a = some x ∧ len ≤ cap ∧ cap ≤ maxLen ∧ zs.length = cap ∧ (∀ i, i < zs.length → w.cell? (x.add i) = some (.int k (zs.getD i 0))) ∧ ∀ n ∈ zs, (Lit.int k n).wf = true

/-- What was read ahead of a call that turns nothing old reads behind it as before. -/
theorem trodAll_below {H : Type} {enc : TypeId × Value → H} {P : Program} (hl : laidOutB P = true) {W W' : World} (hb : Below W.heap.size W W') :
    ∀ (ts : List TypeId) (vs : List Value) (ds : List (DataW H)) (ps : List MemPlace), (∀ t ∈ ts, P.readableRec t = true ∧ t < P.types.size) →
      DataW.TrodAll enc P W 0 (fun _ => true) true ts vs ds ps → (∀ x ∈ ps, x.block < W.heap.size) → DataW.TrodAll enc P W' 0 (fun b => decide (b < W.heap.size)) true ts vs ds ps := by
  intro ts
  induction ts with
  | nil =>
    intro vs ds ps _ h _
    obtain ⟨rfl, rfl, rfl⟩ := ChangeShapes.trodAll_nil h
    exact ChangeShapes.trodAll_mk0
  | cons t ts ih =>
    intro vs ds ps ht h hlt
    obtain ⟨v, vs', d, ds', p, q, rfl, rfl, rfl, h1, h2⟩ := ChangeShapes.trodAll_cons h
    obtain ⟨hr, hrow⟩ := ht t (by simp)
    exact trodAll_cons_mk (Below.trod hl hr hrow h1 hb (fun x hx => hlt x (by simp [hx]))) (ih _ _ _ (fun t' ht' => ht t' (by simp [ht'])) h2 (fun x hx => hlt x (by simp [hx])))

/-- What came in as numbers of a byte each reads as bytes. -/
theorem IsRow.bytes {w : World} {a : Option Addr} {len cap : Nat} {zs : List Int} (h : IsRow .u8 w a len cap zs) : ∃ bs : List UInt8, bs.length = len ∧ IsSl w (.slice a len cap) (bs.map u8v) := by
  rcases h with ⟨rfl, rfl, rfl, rfl⟩ | ⟨x, rfl, h1, h2, h3, h4, h5⟩
  · exact ⟨[], rfl, .inl ⟨rfl, .inl rfl⟩⟩
  · rcases Nat.eq_zero_or_pos len with h0 | h0
    · subst h0
      exact ⟨[], rfl, .inl ⟨rfl, .inr ⟨_, _, rfl⟩⟩⟩
    · obtain ⟨b, off, rfl, hc⟩ := ints_at h4 (by omega)
      have hb : b < w.heap.size := World.block_lt_of_cell? w ⟨b, off + 0, none⟩ (hc 0 (by omega))
      have hl : ((zs.take len).map fun n => UInt8.ofNat n.toNat).length = len := by rw [List.length_map, List.length_take]; omega
      refine ⟨(zs.take len).map fun n => UInt8.ofNat n.toNat, hl, ?_⟩
      have := isSl_mk (w := w) (cs := ((zs.take len).map fun n => UInt8.ofNat n.toNat).map u8v) (b := b) (off := off) (cap := cap) (by rw [List.length_map, hl]; exact h1) h2 hb (fun j hj => by
        rw [List.length_map, hl] at hj
        have hz : j < zs.length := by omega
        rw [hc j hz, List.getElem?_map, List.getElem?_map, List.getElem?_take_of_lt hj, List.getElem?_eq_getElem hz, List.getD_eq_getElem?_getD, List.getElem?_eq_getElem hz]
        have hw := bounds_u8 (h5 _ (List.getElem_mem hz))
        simp only [Option.getD_some, Option.map_some, u8v, UInt8.toNat_ofNat']
        congr 2
        omega)
      rw [List.length_map, hl] at this
      exact this

end Go.Ice
