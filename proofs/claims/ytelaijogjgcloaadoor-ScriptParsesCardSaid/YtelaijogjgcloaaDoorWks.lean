/- The law's wakes: the layer does something. Condition: the variables are as laid. -/
import Derived.Test.YtelaijogjgcloaaDoorPnt
set_option linter.unusedVariables false
set_option linter.unusedSimpArgs false
namespace Go.Proofs.YtelaijogjgcloaaDoor
open Go.RowKit Go.Ice Go.Scr

def wkT : Txt := [112, 108, 97, 110, 32, 52, 32, 50, 52, 32, 57, 32, 49, 32, 49, 10, 116, 105, 99, 107, 32, 53, 10]
def wkS : Scr := ⟨⟨4, 24, 9, 1, 1⟩, [⟨2, 0, 5, [], []⟩]⟩
theorem wk_parse : parseP wkT = .ok wkS := by kernel_rfl
theorem wk_check : checkS wkS = true := (text_parse wk_parse).2
theorem wk_text : textS wkS = wkT := (text_parse wk_parse).1
/-- What is parsed, told by the parse. -/
theorem ParOut.ok {B : Nat} {W : World} {t : Txt} {sv : Value} {k n : Int} {s : Scr} (h : ParOut B W t sv k n) (hl : ¬ 262144 < t.length) (hp : parseP t = .ok s) : (∃ v, sv = scrV s.plan v ∧ EvsOwn B W v s.evs) ∧ k = 0 ∧ n = 0 := by
  unfold ParOut at h; rw [if_neg hl, hp] at h; exact h
theorem ParOut.bad {B : Nat} {W : World} {t : Txt} {sv : Value} {k n : Int} {j : Nat} (h : ParOut B W t sv k n) (hl : ¬ 262144 < t.length) (hp : parseP t = .error j) : sv = zeroS ∧ k = (j : Nat) ∧ n = 360 := by
  unfold ParOut at h; rw [if_neg hl, hp] at h; exact h

set_option maxHeartbeats 8000000 in
set_option maxRecDepth 100000 in
theorem wakes8 (w : World) (hl : Laid w) : Calls Tryd.prog 8 #[] w fun e w' => e = .returned (.bool true) ∧ Below w.heap.size w w' := by
  have HL := Lib.hid hl
  have HP := parse17 w wkT hl (by decide)
  clear hl
  go_enter Tryd.func8, Tryd.ntmps8
  go_wp2_with fail
  refine HP.mono ?_
  rintro e w1 ⟨sv, k, n, rfl, hb1, ho⟩
  obtain ⟨⟨v, rfl, hev⟩, rfl, rfl⟩ := ho.ok (by decide) wk_parse
  obtain ⟨va, vc, rfl⟩ := hev.form
  have HEV := Lib.hid hev.at
  have HB1 := Lib.hid hb1
  clear hb1 ho hev HP
  change Hid (EvsAt w1 (.slice va 1 vc) wkS.evs) at HEV
  unfold scrV
  obtain ⟨X, W2, HX, HW2, HK2, _⟩ := boxed1 w1 #[.int .i64 4, .int .i64 24, .int .i64 9, .int .i64 1, .int .i64 1, .slice va 1 vc] 26
  have x0 : W2.cell? ⟨X, 0, none⟩ = some (.int .i64 4) := blk_cell HK2.out.b0 0
  have x1 : W2.cell? ⟨X, 1, none⟩ = some (.int .i64 24) := blk_cell HK2.out.b0 1
  have x2 : W2.cell? ⟨X, 2, none⟩ = some (.int .i64 9) := blk_cell HK2.out.b0 2
  have x3 : W2.cell? ⟨X, 3, none⟩ = some (.int .i64 1) := blk_cell HK2.out.b0 3
  have x4 : W2.cell? ⟨X, 4, none⟩ = some (.int .i64 1) := blk_cell HK2.out.b0 4
  have x5 : W2.cell? ⟨X, 5, none⟩ = some (.slice va 1 vc) := blk_cell HK2.out.b0 5
  have HB2 := Lib.hid (HB1.out.trans (HK2.out.below.mono HB1.out.size))
  have HE2 := Lib.hid (HEV.out.below HK2.out.below (Nat.le_refl _))
  have HPR := print11 W2 (.agg #[.int .i64 4, .int .i64 24, .int .i64 9, .int .i64 1, .int .i64 1, .slice va 1 vc]) wkS ⟨_, rfl, HE2.out⟩ (HL.out.below HB2.out)
  have e1 : prT wkS = wkT := by unfold prT; rw [wk_check, wk_text]; decide
  have e2 : prN wkS = 0 := by unfold prN; rw [wk_check, wk_text]; decide
  rw [e1, e2] at HPR
  clear e1 e2
  change Calls _ _ _ _ fun e w' => e = .returned (.tuple #[.string ⟨#[112, 108, 97, 110, 32, 52, 32, 50, 52, 32, 57, 32, 49, 32, 49, 10, 116, 105, 99, 107, 32, 53, 10]⟩, .int .i64 0]) ∧ Below W2.heap.size W2 w' at HPR
  dsimp only [wkS]
  go_upto_region 2 with fail
  rw [HW2.out, HX.out]
  go_wp2_with fail
  refine HPR.mono ?_
  rintro e w3 ⟨rfl, hb3⟩
  have c5 : w3.cell? ⟨X, 5, none⟩ = some (.slice va 1 vc) := blk_cell (HK2.out.step hb3).b0 5
  obtain ⟨b, off, cap', vb, vk, e1, e2, e3, e4, q0, q1, q2, q3, q4, _, _⟩ := (HE2.out.below hb3 (Nat.le_refl _)).at (i := 0) (x := ⟨2, 0, 5, [], []⟩) rfl
  injection e1 with y1 y2 y3
  subst y1 y3
  rw [Nat.zero_mul, Nat.add_zero] at q0 q1 q2 q3 q4
  have HB3 := Lib.hid (HB2.out.trans (hb3.mono HB2.out.size))
  clear hb3 HPR x0 x1 x2 x3 x4 x5 HW2 HX y2
  go_wp2_with fail
  go_ret
  exact ⟨rfl, HB3.out⟩
end Go.Proofs.YtelaijogjgcloaaDoor
