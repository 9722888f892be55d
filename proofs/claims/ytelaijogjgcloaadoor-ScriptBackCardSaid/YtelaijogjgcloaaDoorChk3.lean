/- script.Check. Condition: the events lie in memory. -/
import Derived.Test.YtelaijogjgcloaaDoorChk2
set_option linter.unusedVariables false
set_option linter.unusedSimpArgs false
namespace Go.Proofs.YtelaijogjgcloaaDoor
open Go.RowKit Go.Ice Go.Scr

def scrV (p : Plan) (v : Value) : Value := .agg #[.int .i64 p.g, .int .i64 p.s, .int .i64 p.l, .int .i64 p.p, .int .i64 p.c, v]
/-- A script in memory. -/
def ScrAt (w : World) (u : Value) (s : Scr) : Prop := ∃ v, u = scrV s.plan v ∧ EvsAt w v s.evs
theorem ScrAt.below {B : Nat} {w w' : World} {v : Value} {s : Scr} (h : ScrAt w v s) (hb : Below B w w') (hB : w.heap.size ≤ B) : ScrAt w' v s := by
  obtain ⟨u, h1, h2⟩ := h
  exact ⟨u, h1, h2.below hb hB⟩

set_option maxHeartbeats 8000000 in
set_option maxRecDepth 20000 in
theorem check12 (w : World) (u : Value) (sc : Scr) (hs : ScrAt w u sc) :
    Calls Tryd.prog 12 #[u] w fun e w' => e = .returned (.int .i64 (if checkS sc then 0 else 2)) ∧ Below w.heap.size w w' := by
  obtain ⟨v, rfl, hv⟩ := hs
  obtain ⟨rr, hrr⟩ : ∃ rr : Int, rr = (if checkS sc then 0 else 2) := ⟨_, rfl⟩
  rw [← hrr]
  unfold checkS at hrr
  have HRR := Lib.hid hrr
  clear hrr
  have HV := Lib.hid hv
  obtain ⟨a, cap, rfl, hm⟩ := hv.form
  obtain ⟨S, W0, HB, HW, HK, HZ⟩ := boxed1 w #[.int .i64 sc.plan.g, .int .i64 sc.plan.s, .int .i64 sc.plan.l, .int .i64 sc.plan.p, .int .i64 sc.plan.c, .slice a sc.evs.length cap] 26
  have HC := Lib.hid (checkPlan W0 sc.plan)
  have HS : Hid (∀ W, Below W0.heap.size W0 W → Calls Tryd.prog 32 #[.slice a sc.evs.length cap, .func (.func 29) #[] #[.pointer (some ⟨S, 0, none⟩)]] W fun e w' => e = .returned (.bool (sc.evs.any (fun x => !rightE sc.plan x))) ∧ Below W.heap.size W w') := fun W hW =>
    contains32 W S sc.plan _ _ sc.evs (HK.out.step hW).b0 (hv.below (HK.out.below.trans (hW.mono HK.out.below.size)) (Nat.le_refl _))
  have hany : sc.evs.any (fun x => !rightE sc.plan x) = !sc.evs.all (rightE sc.plan) := by rw [List.any_eq_not_all_not]; simp
  rw [hany] at HS
  clear hany hv
  obtain ⟨pb, hpb⟩ : ∃ pb, pb = planB sc.plan := ⟨_, rfl⟩
  obtain ⟨ab, hab⟩ : ∃ ab, ab = sc.evs.all (rightE sc.plan) := ⟨_, rfl⟩
  rw [← hpb] at HC
  rw [← hab] at HS
  rw [← hpb, ← hab] at HRR
  clear hpb hab
  generalize sc.evs.length = n at *
  obtain ⟨⟨g, s, l, q, pc⟩, evs⟩ := sc
  unfold maxLen at hm
  unfold planV at HC
  unfold scrV
  dsimp only at HC HK HW ⊢
  have b0 : W0.cell? ⟨S, 0, none⟩ = some (.int .i64 g) := blk_cell HK.out.b0 0
  have b1 : W0.cell? ⟨S, 1, none⟩ = some (.int .i64 s) := blk_cell HK.out.b0 1
  have b2 : W0.cell? ⟨S, 2, none⟩ = some (.int .i64 l) := blk_cell HK.out.b0 2
  have b3 : W0.cell? ⟨S, 3, none⟩ = some (.int .i64 q) := blk_cell HK.out.b0 3
  have b4 : W0.cell? ⟨S, 4, none⟩ = some (.int .i64 pc) := blk_cell HK.out.b0 4
  clear HV
  go_enter Tryd.func12, Tryd.ntmps12
  go_upto_region 1 with fail
  rw [HB.out, HW.out]
  clear HB HW
  go_upto_region 2 with fail
  go_wp2_with fail
  refine HC.out.mono ?_
  rintro e w1 ⟨rfl, hb⟩
  have HK1 := Lib.hid (HK.out.step hb)
  have HS1 := Lib.hid (HS.out w1 hb)
  clear hb HC HS b0 b1 b2 b3 b4
  have b5 : w1.cell? ⟨S, 5, none⟩ = some (.slice a n cap) := blk_cell HK1.out.b0 5
  cases pb with
  | false =>
    have HX : Hid (rr = 2) := by
      show _ = _
      rw [HRR.out]; simp
    go_wp2_with fail
    go_ret
    exact ⟨by rw [HX.out]; rfl, HK1.out.below⟩
  | true =>
    by_cases hn : n ≤ 200
    · have hn' : (n : Int) ≤ 200 := by omega
      have HX : Hid (rr = if ab then 0 else 2) := by
        show _ = _
        rw [HRR.out]; simp [hn]
      clear HRR
      go_wp2_with fail
      refine HS1.out.mono ?_
      rintro e w2 ⟨rfl, hb⟩
      have HK2 := Lib.hid (HK1.out.step hb)
      clear hb HS1
      cases ab with
      | false =>
        have HX2 : Hid (rr = 2) := HX.out
        go_wp2_with fail
        go_ret
        exact ⟨by rw [HX2.out]; rfl, HK2.out.below⟩
      | true =>
        have HX2 : Hid (rr = 0) := HX.out
        go_wp2_with fail
        go_ret
        exact ⟨by rw [HX2.out]; rfl, HK2.out.below⟩
    · have hn' : ¬ (n : Int) ≤ 200 := by omega
      have HX : Hid (rr = 2) := by
        show _ = _
        rw [HRR.out]; simp [hn]
      clear HRR
      go_wp2_with fail
      go_ret
      exact ⟨by rw [HX.out]; rfl, HK1.out.below⟩
end Go.Proofs.YtelaijogjgcloaaDoor
