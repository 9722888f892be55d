/- How many are free. Conditions: the segments lie in memory. -/
import Derived.Test.YtlcdadnfcdjglaaOpd
set_option linter.unusedVariables false
set_option linter.unusedSimpArgs false
namespace Go.Proofs.Ytlcdadnfcdjglaa
open Go.RowKit Go.Ice Go.Ring

def freesV (b : Bool) (n m : Nat) : Value := .int .i64 (if b then (n : Int) - m else 0)

set_option maxHeartbeats 4000000 in
theorem frees (w : World) (sec : Int) (v : Value) (l : List Seg) (h : SegsAt w v l) :
    Calls Try.prog 20 #[ringV sec v] w fun e w' => e = .returned (freesV (checkB sec l) l.length (order l).length) ∧ Below w.heap.size w w' := by
  obtain ⟨B, hB⟩ : ∃ B, B = w.heap.size := ⟨_, rfl⟩
  obtain ⟨W0, hW0⟩ : ∃ W0, W0 = w.alloc (.cells #[.int .i64 sec, v] 25) := ⟨_, rfl⟩
  have HBX : Hid (W0.heap[B]? = some (.cells #[.int .i64 sec, v] 25 (0, 0))) := by show _ = _; rw [hW0, hB]; exact heap_alloc_new w _
  have HBL : Hid (Below B w W0) := by show Below _ _ _; rw [hW0]; exact (Below.refl B w).alloc (by omega) _
  have HR : Hid (SegsAt W0 v l) := RowAt.below h HBL.out (by omega)
  have HB := Lib.hid hB
  have HCK := Lib.hid (chek W0 sec v l HR.out)
  have b0 : W0.cell? ⟨B, 0, none⟩ = some (.int .i64 sec) := blk_cell HBX.out 0
  have b1 : W0.cell? ⟨B, 1, none⟩ = some v := blk_cell HBX.out 1
  obtain ⟨a, cap, rfl, hmx⟩ := h.form
  generalize hn : l.length = n at *
  have HN := Lib.hid hn
  obtain ⟨cb, hcb⟩ : ∃ cb, cb = checkB sec l := ⟨_, rfl⟩
  rw [← hcb] at HCK ⊢
  have HCB := Lib.hid hcb
  clear h hn hcb
  unfold ringV at HCK ⊢
  go_enter Try.func20, Try.ntmps20
  go_upto_region 1 with fail
  rw [← hB, ← hW0]
  clear hW0 hB
  go_wp2_with fail
  refine HCK.out.mono ?_
  rintro e w1 ⟨rfl, hbl⟩
  have HBW : Hid (Below B w w1) := HBL.out.trans (hbl.mono (by have := HBL.out.size; have := HB.out; omega))
  have HXB : Hid (w1.heap[B]? = some (.cells #[.int .i64 sec, .slice a n cap] 25 (0, 0))) := (hbl.block B (Array.getElem?_eq_some_iff.1 HBX.out).1).trans HBX.out
  have HR1 : Hid (SegsAt w1 (.slice a n cap) l) := RowAt.below HR.out hbl (Nat.le_refl _)
  clear hbl b0 b1 HCK
  unfold chekE
  cases cb with
  | false =>
    simp only [Bool.false_eq_true, if_false]
    go_wp2_with fail
    go_ret
    exact ⟨rfl, by rw [← HB.out]; exact HBW.out⟩
  | true =>
    simp only [if_true]
    have hn16 : 4 ≤ n ∧ n ≤ 16 := by
      have := HCB.out.symm
      unfold checkB sizedB at this
      rw [Bool.and_eq_true, Bool.and_eq_true, Bool.and_eq_true, HN.out] at this
      exact of_decide_eq_true this.1.1.1
    have hole : (order l).length ≤ n := by
      rw [show (order l).length = (nonfree l).length from (sortR_perm _ _).length_eq, ← HN.out]
      exact nfTo_len l l.length
    obtain ⟨m, hm⟩ : ∃ m, m = (order l).length := ⟨_, rfl⟩
    rw [← hm] at hole
    have HC : Hid (∀ W, Below w1.heap.size w1 W → W.cell? ⟨B, 0, none⟩ = some (.int .i64 sec) ∧ W.cell? ⟨B, 1, none⟩ = some (.slice a n cap)) := fun W hW => by
      have := (hW.block B (Array.getElem?_eq_some_iff.1 HXB.out).1).trans HXB.out
      exact ⟨blk_cell this 0, blk_cell this 1⟩
    have HO : Hid (∀ W, Below w1.heap.size w1 W → Calls Try.prog 43 #[.agg #[.int .i64 sec, .slice a n cap]] W fun e w' => (∃ a' c', e = .returned (.slice a' m c')) ∧ Below w1.heap.size w1 w') := fun W hW =>
      (ordr W sec _ l (RowAt.below HR1.out hW (Nat.le_refl _)) (by rw [HN.out]; omega) (by rw [HN.out]; omega)).mono fun e w' ⟨u, h1, h2, h3⟩ => by
        obtain ⟨a', c', h4, _⟩ := h2.form
        rw [List.length_map, ← hm] at h4
        exact ⟨⟨a', c', by rw [h1, h4]⟩, hW.trans (h3.mono hW.size)⟩
    have hwr : IntKind.i64.wrap ((n : Int) - m) = (n : Int) - m := by
      rw [IntKind.wrap_i64]; omega
    have HWR := Lib.hid hwr
    clear hwr
    have HM := Lib.hid hm
    clear hm
    obtain ⟨c0, c1⟩ := HC.out w1 (Below.refl _ _)
    go_upto_region 3 with fail
    go_region_with (first
      | (go_at_call 43
         refine (HO.out _ (drewN_below w1 1)).mono ?_
         rintro e W2 ⟨⟨a', c', rfl⟩, hw⟩
         have HW := Lib.hid hw
         obtain ⟨d0, d1⟩ := HC.out W2 HW.out
         clear hw))
    all_goals
      have HE : Hid (Below w.heap.size w W2) := by show Below _ _ _; rw [← HB.out]; exact HBW.out.trans (HW.out.mono (by have := HBW.out.size; have := HB.out; omega))
      clear HO HC
      go_wp2_with fail
      go_ret
      exact ⟨by rw [← HM.out]; simp [Act.put, freesV]; exact HWR.out, HE.out⟩
end Go.Proofs.Ytlcdadnfcdjglaa
