/- The document's RightPlan. No condition. -/
import Derived.Test.YtelaijogjgcloaaDoorRsm
set_option linter.unusedVariables false
set_option linter.unusedSimpArgs false
namespace Go.Proofs.YtelaijogjgcloaaDoor
open Go.RowKit Go.Ice Go.Scr

set_option maxHeartbeats 8000000 in
set_option maxRecDepth 20000 in
theorem rightPlan34 (w : World) (p : Plan) : Calls Tryd.prog 34 #[.agg #[.int .i64 p.g, .int .i64 p.s, .int .i64 p.l, .int .i64 p.p, .int .i64 p.c]] w fun e w' => e = .returned (.bool (planB p)) ∧ Below w.heap.size w w' := by
  obtain ⟨g, s, l, q, c⟩ := p
  obtain ⟨rr, hrr⟩ : ∃ rr, rr = planB ⟨g, s, l, q, c⟩ := ⟨_, rfl⟩
  rw [← hrr]
  unfold planB at hrr
  dsimp only at hrr
  have HR := Lib.hid hrr
  clear hrr
  dsimp only
  obtain ⟨B, W0, HB, HW, HK, HZ⟩ := boxed1 w #[.int .i64 g, .int .i64 s, .int .i64 l, .int .i64 q, .int .i64 c] 23
  have b0 : W0.cell? ⟨B, 0, none⟩ = some (.int .i64 g) := blk_cell HK.out.b0 0
  have b1 : W0.cell? ⟨B, 1, none⟩ = some (.int .i64 s) := blk_cell HK.out.b0 1
  have b2 : W0.cell? ⟨B, 2, none⟩ = some (.int .i64 l) := blk_cell HK.out.b0 2
  have b3 : W0.cell? ⟨B, 3, none⟩ = some (.int .i64 q) := blk_cell HK.out.b0 3
  have b4 : W0.cell? ⟨B, 4, none⟩ = some (.int .i64 c) := blk_cell HK.out.b0 4
  go_enter Tryd.func34, Tryd.ntmps34
  go_upto_region 1 with fail
  rw [HB.out, HW.out]
  clear HB HW
  by_cases h1 : 4 ≤ g
  · by_cases h2 : g ≤ 16
    · by_cases h3 : 24 ≤ s
      · by_cases h4 : s ≤ 64
        · by_cases h5 : 1 ≤ l
          · by_cases h6 : l ≤ 1024
            · by_cases h7 : 1 ≤ q
              · by_cases h8 : q ≤ 256
                · by_cases h9 : 1 ≤ c
                  · by_cases h10 : c ≤ 4
                    · have HX := Lib.hid (show rr = true by rw [HR.out]; simp; omega)
                      go_wp2_with fail
                      go_ret
                      exact ⟨by rw [HX.out]; rfl, HK.out.below⟩
                    · have HX := Lib.hid (show rr = false by rw [HR.out]; simp; omega)
                      go_wp2_with fail
                      go_ret
                      exact ⟨by rw [HX.out]; rfl, HK.out.below⟩
                  · have HX := Lib.hid (show rr = false by rw [HR.out]; simp; omega)
                    go_wp2_with fail
                    go_ret
                    exact ⟨by rw [HX.out]; rfl, HK.out.below⟩
                · have HX := Lib.hid (show rr = false by rw [HR.out]; simp; omega)
                  go_wp2_with fail
                  go_ret
                  exact ⟨by rw [HX.out]; rfl, HK.out.below⟩
              · have HX := Lib.hid (show rr = false by rw [HR.out]; simp; omega)
                go_wp2_with fail
                go_ret
                exact ⟨by rw [HX.out]; rfl, HK.out.below⟩
            · have HX := Lib.hid (show rr = false by rw [HR.out]; simp; omega)
              go_wp2_with fail
              go_ret
              exact ⟨by rw [HX.out]; rfl, HK.out.below⟩
          · have HX := Lib.hid (show rr = false by rw [HR.out]; simp; omega)
            go_wp2_with fail
            go_ret
            exact ⟨by rw [HX.out]; rfl, HK.out.below⟩
        · have HX := Lib.hid (show rr = false by rw [HR.out]; simp; omega)
          go_wp2_with fail
          go_ret
          exact ⟨by rw [HX.out]; rfl, HK.out.below⟩
      · have HX := Lib.hid (show rr = false by rw [HR.out]; simp; omega)
        go_wp2_with fail
        go_ret
        exact ⟨by rw [HX.out]; rfl, HK.out.below⟩
    · have HX := Lib.hid (show rr = false by rw [HR.out]; simp; omega)
      go_wp2_with fail
      go_ret
      exact ⟨by rw [HX.out]; rfl, HK.out.below⟩
  · have HX := Lib.hid (show rr = false by rw [HR.out]; simp; omega)
    go_wp2_with fail
    go_ret
    exact ⟨by rw [HX.out]; rfl, HK.out.below⟩
end Go.Proofs.YtelaijogjgcloaaDoor
