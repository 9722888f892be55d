/- Print's closure: a blank and a number. Conditions: the builder is one of the call's own; the table of powers is as laid. -/
import Derived.Test.YtelaijogjgcloaaDoorBld2
import Derived.Test.YtelaijogjgcloaaDoorShelf
import Derived.Lib.AppendIntMem
set_option linter.unusedVariables false
set_option linter.unusedSimpArgs false
namespace Go.Proofs.YtelaijogjgcloaaDoor
open Go.RowKit Go.Ice Go.Scr

abbrev Pow10 (w : World) : Prop := Lib.TabIs Tryd.prog w "internal/strconv.uint64pow10" .u64 Lib.pow10Tab
theorem strCells_txt (t : Txt) : Lib.strCells ⟨t.toArray⟩ = t.map u8v := by simp [Lib.strCells, u8v]
theorem cat_txt (a b : List UInt8) : (⟨a.toArray⟩ : ByteArray) ++ ⟨b.toArray⟩ = ⟨(a ++ b).toArray⟩ := ByteArray.ext (by simp)
theorem builderAt_below {B b : Nat} {p : Value} {bs : List Value} {w w' : World} (h : Lib.BuilderAt 48 5 B b p bs w) (hb : Below w.heap.size w w') : Lib.BuilderAt 48 5 B b p bs w' := by
  obtain ⟨h1, v, h2, h3, h4⟩ := h
  exact ⟨h1, v, (hb.block b (blk_lt h2)).trans h2, own_below h3 hb, h4⟩
theorem isBuilder_below {B b : Nat} {bs : List Value} {w w' : World} (h : Lib.IsBuilder 48 5 B b bs w) (hb : Below w.heap.size w w') : Lib.IsBuilder 48 5 B b bs w' := h.imp (builderAt_below · hb) (builderAt_below · hb)
theorem itoaWorld (w : World) (k : Nat) (os : Array Obj) : Below w.heap.size w (Sort.grow (w.drewN k) os) := Lib.below_grow _ w (Nat.le_refl _) k os
set_option maxHeartbeats 4000000 in
set_option maxRecDepth 100000 in
theorem number21 (B b : Nat) (t : Txt) (n : Int) (w : World) (h : Lib.IsBuilder 48 5 B b (t.map u8v) w) (hlen : t.length + 100 ≤ 140737488355328) (hBw : B ≤ w.heap.size) (h0 : -9223372036854775808 ≤ n) (h1 : n ≤ 9223372036854775807) (htab : Pow10 w) (hlt : (numT n).length ≤ 50) :
    Calls Tryd.prog 21 #[.int .i64 n, .pointer (some ⟨b, 0, none⟩)] w fun e w' => (∃ r, e = .returned r) ∧ Lib.IsBuilder 48 5 B b ((t ++ 32 :: numT n).map u8v) w' ∧ Bfr B b w w' := by
  have hI := Tryd.strconv_Itoa n h0 h1 w htab
  go_enter Tryd.func21, Tryd.ntmps21
  go_wp2_with fail
  refine hI.mono ?_
  rintro e w1 ⟨rfl, k, os, rfl⟩
  have hb1 := itoaWorld w k os
  generalize Sort.grow (w.drewN k) os = w1 at hb1 ⊢
  have h2 := isBuilder_below h hb1
  have hq : ¬ 9223372036854775807 < 1 + (Lib.itoa n).length := by unfold numT at hlt; omega
  have HB1 := Lib.hid hb1
  have HW := Lib.hid (writeString20 B b _ ⟨(32 :: Lib.itoa n).toArray⟩ w1 h2 (by rw [List.length_map]; show t.length + (32 :: Lib.itoa n).toArray.size ≤ _; unfold numT at hlt; simp; omega) (by have := hb1.size; omega))
  have HBW := Lib.hid hBw
  clear hb1 h2 h hI hlen hBw htab
  go_wp2_with fail
  rw [show (⟨#[32]⟩ : ByteArray) ++ ⟨(Lib.itoa n).toArray⟩ = ⟨(32 :: Lib.itoa n).toArray⟩ from cat_txt [32] _]
  refine HW.out.mono ?_
  rintro e w2 ⟨⟨r, rfl⟩, hw1, hw2⟩
  have HA := Lib.hid hw1
  have HC := Lib.hid hw2
  clear hw1 hw2 HW
  go_wp2_with fail
  go_end0
  exact ⟨⟨_, rfl⟩, .inr (by rw [List.map_append, ← strCells_txt (32 :: numT n)]; exact HA.out), (Bfr.of_below HB1.out HBW.out).trans HC.out⟩
end Go.Proofs.YtelaijogjgcloaaDoor
