/- script.Same. Condition: the events lie in memory. -/
import Derived.Test.YtelaijogjgcloaaDoorSam
set_option linter.unusedVariables false
set_option linter.unusedSimpArgs false
namespace Go.Proofs.YtelaijogjgcloaaDoor
open Go.RowKit Go.Ice Go.Scr

set_option maxHeartbeats 8000000 in
set_option maxRecDepth 20000 in
theorem same19 (w : World) (ua ub : Value) (x y : Scr) (hx : ScrAt w ua x) (hy : ScrAt w ub y) :
    Calls Tryd.prog 19 #[ua, ub] w fun e w' => e = .returned (.bool (decide (x = y))) ∧ Below w.heap.size w w' := by
  obtain ⟨va, rfl, ha⟩ := hx
  obtain ⟨vb, rfl, hb⟩ := hy
  obtain ⟨rr, hrr⟩ : ∃ rr, rr = decide (x = y) := ⟨_, rfl⟩
  rw [← hrr]
  obtain ⟨p, l⟩ := x
  obtain ⟨p', l'⟩ := y
  rw [show decide ((⟨p, l⟩ : Scr) = ⟨p', l'⟩) = decide (p = p' ∧ l = l') by congr 1; rw [Scr.mk.injEq]] at hrr
  have HR := Lib.hid hrr
  dsimp only at ha hb
  clear hrr
  obtain ⟨a, ca, rfl, hma⟩ := ha.form
  obtain ⟨b, cb, rfl, hmb⟩ := hb.form
  unfold scrV
  dsimp only
  obtain ⟨B, C, W0, HB, HC, HW, HK, HZ⟩ := boxed2 w #[.int .i64 p.g, .int .i64 p.s, .int .i64 p.l, .int .i64 p.p, .int .i64 p.c, .slice a l.length ca] 26 #[.int .i64 p'.g, .int .i64 p'.s, .int .i64 p'.l, .int .i64 p'.p, .int .i64 p'.c, .slice b l'.length cb] 26
  have HE := Lib.hid (equalFunc45 W0 _ _ l l' (ha.below HK.out.below (Nat.le_refl _)) (hb.below HK.out.below (Nat.le_refl _)))
  obtain ⟨z, hz⟩ : ∃ z, z = decide (l = l') := ⟨_, rfl⟩
  rw [← hz] at HE
  have HZ1 := Lib.hid hz
  clear ha hb hma hmb hz
  generalize l.length = na at *
  generalize l'.length = nb at *
  obtain ⟨g0, s0, l0, q0, c0⟩ := p
  obtain ⟨g1, s1, l1, q1, c1⟩ := p'
  have HPE : Hid ((⟨g0, s0, l0, q0, c0⟩ : Plan) = ⟨g1, s1, l1, q1, c1⟩ ↔ g0 = g1 ∧ s0 = s1 ∧ l0 = l1 ∧ q0 = q1 ∧ c0 = c1) := by show _ ↔ _; rw [Plan.mk.injEq]
  dsimp only at HK HW ⊢
  have x00 : W0.cell? ⟨B, 0, none⟩ = some (.int .i64 g0) := blk_cell HK.out.b0 0
  have x01 : W0.cell? ⟨B, 1, none⟩ = some (.int .i64 s0) := blk_cell HK.out.b0 1
  have x02 : W0.cell? ⟨B, 2, none⟩ = some (.int .i64 l0) := blk_cell HK.out.b0 2
  have x03 : W0.cell? ⟨B, 3, none⟩ = some (.int .i64 q0) := blk_cell HK.out.b0 3
  have x04 : W0.cell? ⟨B, 4, none⟩ = some (.int .i64 c0) := blk_cell HK.out.b0 4
  have x10 : W0.cell? ⟨C, 0, none⟩ = some (.int .i64 g1) := blk_cell HK.out.b1 0
  have x11 : W0.cell? ⟨C, 1, none⟩ = some (.int .i64 s1) := blk_cell HK.out.b1 1
  have x12 : W0.cell? ⟨C, 2, none⟩ = some (.int .i64 l1) := blk_cell HK.out.b1 2
  have x13 : W0.cell? ⟨C, 3, none⟩ = some (.int .i64 q1) := blk_cell HK.out.b1 3
  have x14 : W0.cell? ⟨C, 4, none⟩ = some (.int .i64 c1) := blk_cell HK.out.b1 4
  have x05 : W0.cell? ⟨B, 5, none⟩ = some (.slice a na ca) := blk_cell HK.out.b0 5
  have x15 : W0.cell? ⟨C, 5, none⟩ = some (.slice b nb cb) := blk_cell HK.out.b1 5
  go_enter Tryd.func19, Tryd.ntmps19
  go_upto_region 1 with fail
  rw [HC.out, HB.out, HW.out]
  clear HC HB HW
  by_cases hg : g0 = g1
  · subst hg
    by_cases hs : s0 = s1
    · subst hs
      by_cases hl : l0 = l1
      · subst hl
        by_cases hq : q0 = q1
        · subst hq
          by_cases hc : c0 = c1
          · subst hc
            have HX : Hid (rr = z) := by
              show _ = _
              rw [HR.out, HZ1.out]; simp
            go_wp2_with fail
            refine HE.out.mono ?_
            rintro e w1 ⟨rfl, hb⟩
            have HK1 := Lib.hid (HK.out.step hb)
            clear hb HE
            go_wp2_with fail
            go_ret
            exact ⟨by rw [HX.out]; rfl, HK1.out.below⟩
          · have HX : Hid (rr = false) := by
              show _ = _
              rw [HR.out]; exact decide_eq_false fun h => hc (by have := HPE.out.1 h.1; simp_all)
            have hq : (c0 == c1) = false := by simp [hc]
            go_wp2_with fail
            go_ret
            exact ⟨by rw [HX.out]; rfl, HK.out.below⟩
        · have HX : Hid (rr = false) := by
            show _ = _
            rw [HR.out]; exact decide_eq_false fun h => hq (by have := HPE.out.1 h.1; simp_all)
          have hq : (q0 == q1) = false := by simp [hq]
          go_wp2_with fail
          go_ret
          exact ⟨by rw [HX.out]; rfl, HK.out.below⟩
      · have HX : Hid (rr = false) := by
          show _ = _
          rw [HR.out]; exact decide_eq_false fun h => hl (by have := HPE.out.1 h.1; simp_all)
        have hq : (l0 == l1) = false := by simp [hl]
        go_wp2_with fail
        go_ret
        exact ⟨by rw [HX.out]; rfl, HK.out.below⟩
    · have HX : Hid (rr = false) := by
        show _ = _
        rw [HR.out]; exact decide_eq_false fun h => hs (by have := HPE.out.1 h.1; simp_all)
      have hq : (s0 == s1) = false := by simp [hs]
      go_wp2_with fail
      go_ret
      exact ⟨by rw [HX.out]; rfl, HK.out.below⟩
  · have HX : Hid (rr = false) := by
      show _ = _
      rw [HR.out]; exact decide_eq_false fun h => hg (by have := HPE.out.1 h.1; simp_all)
    have hq : (g0 == g1) = false := by simp [hg]
    go_wp2_with fail
    go_ret
    exact ⟨by rw [HX.out]; rfl, HK.out.below⟩
end Go.Proofs.YtelaijogjgcloaaDoor
