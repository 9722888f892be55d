/- The open one and the oldest sealed one. Conditions: the segments lie in memory. -/
import Derived.Test.YtlcdadnfcdjglaaChk
set_option linter.unusedVariables false
set_option linter.unusedSimpArgs false
namespace Go.Proofs.Ytlcdadnfcdjglaa
open Go.RowKit Go.Ice Go.Ring

/-- What a search answers: the number, and 0, 4 for none, 180 for no ring. -/
def seekV (b : Bool) (o : Option Nat) : Value := if b then (match o with | none => .tuple #[.int .i64 0, .int .i64 4] | some i => .tuple #[.int .i64 i, .int .i64 0]) else .tuple #[.int .i64 0, .int .i64 180]

set_option maxHeartbeats 4000000 in
theorem opend (w : World) (sec : Int) (v : Value) (l : List Seg) (h : SegsAt w v l) :
    Calls Try.prog 17 #[ringV sec v] w fun e w' => e = .returned (seekV (checkB sec l) (openedP l)) ∧ Below w.heap.size w w' := by
  obtain ⟨B, hB⟩ : ∃ B, B = w.heap.size := ⟨_, rfl⟩
  obtain ⟨W0, hW0⟩ : ∃ W0, W0 = w.alloc (.cells #[.int .i64 sec, v] 25) := ⟨_, rfl⟩
  have HBX : Hid (W0.heap[B]? = some (.cells #[.int .i64 sec, v] 25 (0, 0))) := by show _ = _; rw [hW0, hB]; exact heap_alloc_new w _
  have HBL : Hid (Below B w W0) := by show Below _ _ _; rw [hW0]; exact (Below.refl B w).alloc (by omega) _
  have HR : Hid (SegsAt W0 v l) := RowAt.below h HBL.out (by omega)
  have HB := Lib.hid hB
  have HCK := Lib.hid (chek W0 sec v l HR.out)
  have b0 : W0.cell? ⟨B, 0, none⟩ = some (.int .i64 sec) := blk_cell HBX.out 0
  have b1 : W0.cell? ⟨B, 1, none⟩ = some v := blk_cell HBX.out 1
  obtain ⟨a, cap, rfl, hmx⟩ := h.form
  generalize hn : l.length = n at *
  have HN := Lib.hid hn
  obtain ⟨cb, hcb⟩ : ∃ cb, cb = checkB sec l := ⟨_, rfl⟩
  rw [← hcb] at HCK ⊢
  have HCB := Lib.hid hcb
  clear h hn hcb
  unfold ringV at HCK ⊢
  go_enter Try.func17, Try.ntmps17
  go_upto_region 1 with fail
  rw [← hB, ← hW0]
  clear hW0 hB
  go_wp2_with fail
  refine HCK.out.mono ?_
  rintro e w1 ⟨rfl, hbl⟩
  have HBW : Hid (Below B w w1) := HBL.out.trans (hbl.mono (by have := HBL.out.size; have := HB.out; omega))
  have HXB : Hid (w1.heap[B]? = some (.cells #[.int .i64 sec, .slice a n cap] 25 (0, 0))) := (hbl.block B (Array.getElem?_eq_some_iff.1 HBX.out).1).trans HBX.out
  have HR1 : Hid (SegsAt w1 (.slice a n cap) l) := RowAt.below HR.out hbl (Nat.le_refl _)
  clear hbl b0 b1 HCK
  unfold chekE
  cases cb with
  | false =>
    simp only [Bool.false_eq_true, if_false]
    go_wp2_with fail
    go_ret2
    exact ⟨rfl, by rw [← HB.out]; exact HBW.out⟩
  | true =>
    simp only [if_true]
    have hn16 : 4 ≤ n ∧ n ≤ 16 := by
      have := HCB.out.symm
      unfold checkB sizedB at this
      rw [Bool.and_eq_true, Bool.and_eq_true, Bool.and_eq_true, HN.out] at this
      exact of_decide_eq_true this.1.1.1
    have HC : Hid (∀ W, Below w1.heap.size w1 W → W.cell? ⟨B, 0, none⟩ = some (.int .i64 sec) ∧ W.cell? ⟨B, 1, none⟩ = some (.slice a n cap)) := fun W hW => by
      have := (hW.block B (Array.getElem?_eq_some_iff.1 HXB.out).1).trans HXB.out
      exact ⟨blk_cell this 0, blk_cell this 1⟩
    have HO : Hid (∀ W, Below w1.heap.size w1 W → Calls Try.prog 43 #[.agg #[.int .i64 sec, .slice a n cap]] W fun e w' => ∃ u, e = .returned u ∧ IsSl w' u ((order l).map intV) ∧ Below w1.heap.size w1 w') := fun W hW =>
      (ordr W sec _ l (RowAt.below HR1.out hW (Nat.le_refl _)) (by rw [HN.out]; omega) (by rw [HN.out]; omega)).mono fun e w' ⟨u, h1, h2, h3⟩ => ⟨u, h1, h2, hW.trans (h3.mono hW.size)⟩
    have HF : Hid (∀ W u, Below w1.heap.size w1 W → IsSl W u ((order l).map intV) → Calls Try.prog 45 #[.agg #[.int .i64 sec, .slice a n cap], .int .i64 1, u] W fun e w' => e = .returned (.tuple #[.int .i64 (findI (openedP l)), .bool (openedP l).isSome]) ∧ Below w1.heap.size w1 w') := fun W u hW hu =>
      (findd W sec _ l u (order l) 1 (RowAt.below HR1.out hW (Nat.le_refl _)) (by rw [HN.out]; omega) (by rw [HN.out]; omega) hu (fun i hi => (mem_order.1 hi).1)).mono fun e w' ⟨h1, h3⟩ => ⟨h1, hW.trans (h3.mono hW.size)⟩
    obtain ⟨c0, c1⟩ := HC.out w1 (Below.refl _ _)
    obtain ⟨op, hop⟩ : ∃ op, op = openedP l := ⟨_, rfl⟩
    rw [← hop] at HF
    have HOP := Lib.hid hop
    clear hop
    go_upto_region 4 with fail
    go_region_with (first
      | (go_at_call 43
         refine (HO.out _ (drewN_below w1 1)).mono ?_
         rintro e W2 ⟨u, rfl, hu, hw⟩
         have HU := Lib.hid hu
         have HW := Lib.hid hw
         obtain ⟨d0, d1⟩ := HC.out W2 HW.out
         clear hu hw)
      | (go_at_call 45
         refine (HF.out _ u (HW.out.trans ((drewN_below W2 _).mono HW.out.size)) (HU.out.below (drewN_below W2 _) (Nat.le_refl _))).mono ?_
         rintro e W3 ⟨rfl, hw⟩
         have HW3 := Lib.hid hw
         clear hw)
      | (go_at_call 45
         refine (HF.out _ u HW.out HU.out).mono ?_
         rintro e W3 ⟨rfl, hw⟩
         have HW3 := Lib.hid hw
         clear hw))
    all_goals
      have HE : Hid (Below w.heap.size w W3) := by show Below _ _ _; rw [← HB.out]; exact HBW.out.trans (HW3.out.mono (by have := HBW.out.size; have := HB.out; omega))
      clear HF HO HC
      cases op with
      | none =>
        dsimp only [findI, Option.isSome]
        go_wp2_with fail
        go_ret2
        exact ⟨by rw [← HOP.out]; rfl, HE.out⟩
      | some i =>
        dsimp only [findI, Option.isSome]
        go_wp2_with fail
        go_ret2
        exact ⟨by rw [← HOP.out]; rfl, HE.out⟩
end Go.Proofs.Ytlcdadnfcdjglaa
