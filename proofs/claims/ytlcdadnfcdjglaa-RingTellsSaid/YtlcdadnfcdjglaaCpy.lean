/- A copy of a ring; one segment replaced in a copy; spoil, told. Conditions: the segments lie in memory; at most a thousand. -/
import Derived.Test.YtlcdadnfcdjglaaSho
set_option linter.unusedVariables false
set_option linter.unusedSimpArgs false
namespace Go.Proofs.Ytlcdadnfcdjglaa
open Go.RowKit Go.Ice Go.Ring

set_option maxHeartbeats 4000000 in
theorem copy (w : World) (sec : Int) (v : Value) (l : List Seg) (h : SegsAt w v l) (hl : l.length ≤ 1000) :
    Calls Try.prog 16 #[ringV sec v] w fun e w' => ∃ u, e = .returned (ringV sec u) ∧ OwnSegs w' w.heap.size u l ∧ Below w.heap.size w w' := by
  obtain ⟨B, C, W0, HB, HC, HW, HK, HZ⟩ := boxed2 w #[.int .i64 sec, v] 25 #[.int .i64 0, .slice none 0 0] 25
  obtain ⟨W1, hW1⟩ : ∃ W1, W1 = W0.alloc (.cells #[] 46) := ⟨_, rfl⟩
  have hb1 : Below W0.heap.size W0 W1 := by rw [hW1]; exact (Below.refl _ W0).alloc (Nat.le_refl _) _
  have HK1 := Lib.hid (HK.out.step hb1)
  have hR : SegsAt W1 v l := RowAt.below h HK1.out.below (Nat.le_refl _)
  have hown : W1.ownsRow W0.heap.size 46 3 (.slice (some ⟨W0.heap.size, 0, none⟩) 0 0) 0 [] := by rw [hW1]; exact World.ownsRow_made W0 #[] 0 (Nat.le_refl _) (by decide) rfl
  obtain ⟨u, W2, hrun, ho, hg, _⟩ := app_at (P := Try.prog) (ty := 23) elemSeg hown (hR.slK (by decide)) (fun x hx => by
    obtain ⟨i, j, _, _, rfl⟩ := flat_mem hx
    exact segCell_one _ _) (by omega) (by unfold maxLen; omega) hb1.size
  have hb2 : Below W0.heap.size W1 W2 := (Below.refl _ W1).grown hg hb1.size (fun k hk => (hown.lt k hk).1)
  have HK2 := Lib.hid (HK.out.step (hb1.trans hb2))
  rw [List.nil_append, Nat.zero_add] at ho
  have HO : Hid (OwnSegs W2 W0.heap.size u l) := ho
  obtain ⟨au, nu, cu, rfl⟩ := own_sl HO.out
  have HRUN := Lib.hid hrun
  have b1 : (W0.alloc (.cells #[] 46)).cell? ⟨B, 1, none⟩ = some v := by rw [← hW1]; exact blk_cell HK1.out.b0 1
  have d0 : W2.cell? ⟨B, 0, none⟩ = some (.int .i64 sec) := blk_cell HK2.out.b0 0
  have d1 : W2.cell? ⟨B, 1, none⟩ = some v := blk_cell HK2.out.b0 1
  have fd1 := fun r => blk_frozen HK2.out.b0 r
  have e0 : W2.cell? ⟨C, 0, none⟩ = some (.int .i64 0) := blk_cell HK2.out.b1 0
  have e1 : W2.cell? ⟨C, 1, none⟩ = some (.slice none 0 0) := blk_cell HK2.out.b1 1
  have fe0 := fun r => blk_frozen HK2.out.b1 r
  have HW1 := Lib.hid hW1.symm
  obtain ⟨a0, c0, rfl, _⟩ := h.form
  clear h hl hW1 hb1 hR hown hrun ho hg hb2
  have hBC : B ≠ C := by have := HB.out; have := HC.out; omega
  unfold ringV
  go_enter Try.func16, Try.ntmps16
  go_upto_region 1 with fail
  rw [HC.out, HB.out, HW.out]
  go_wp2_with (at_builtin; rw [HW1.out]; refine wpList_append_eq rfl _ _ 23 rfl rfl rfl HRUN.out ?_)
  obtain ⟨r0, r1⟩ := res_pair (blk_set HK2.out.b1 (p := ⟨B, 1, none⟩) (Ne.symm hBC) (.slice au nu cu)) (.int .i64 sec) (.slice au nu cu)
  have hz := HZ.out
  have hb := HB.out
  have hc := HC.out
  refine bodyPost_ret (v := .agg #[.int .i64 sec, .slice au nu cu]) (by simp [results, Try.f16, go_sem, r0, r1]) rfl ⟨_, rfl, ?_, ?_⟩
  · exact own_base (own_set (own_set (own_set HO.out (by show B < _; omega) _) (by show C < _; omega) _) (by show C < _; omega) _) (by omega)
  · exact below_two (HK2.out.below.setCell (by show _ ≤ B; omega) _) (by omega) _ _

/-- A ring's segments, one of them replaced by the document's way. -/
theorem segCell_eq (a b : Seg) : (a.st = b.st ∧ a.gen = b.gen ∧ a.used = b.used) ↔ a = b := by
  obtain ⟨a1, a2, a3⟩ := a
  obtain ⟨b1, b2, b3⟩ := b
  simp

def toldB (i e want no : Int) : Bool := if want < 0 then decide (i = 0 ∧ e = no) else decide (i = want ∧ e = 0)

theorem told (i e want no : Int) (w : World) : Calls Try.prog 26 #[.int .i64 i, .int .i64 e, .int .i64 want, .int .i64 no] w fun r w' => r = .returned (.bool (toldB i e want no)) ∧ w = w' := by
  unfold toldB
  by_cases hw : want < 0
  · rw [if_pos hw]
    by_cases h1 : i = 0
    · by_cases h2 : e = no
      · have b2 : (e == no) = true := by simpa using h2
        rw [show decide (i = 0 ∧ e = no) = true by simp [h1, h2]]
        subst h1
        clear h2
        go_enter Try.func26, Try.ntmps26
        go_wp2_with fail
        go_ret
        exact ⟨rfl, rfl⟩
      · have b2 : (e == no) = false := by simpa using h2
        rw [show decide (i = 0 ∧ e = no) = false by simp [h2]]
        subst h1
        clear h2
        go_enter Try.func26, Try.ntmps26
        go_wp2_with fail
        go_ret
        exact ⟨rfl, rfl⟩
    · have b1 : (i == 0) = false := by simpa using h1
      rw [show decide (i = 0 ∧ e = no) = false by simp [h1]]
      clear h1
      go_enter Try.func26, Try.ntmps26
      go_wp2_with fail
      go_ret
      exact ⟨rfl, rfl⟩
  · rw [if_neg hw]
    by_cases h1 : i = want
    · subst h1
      have b1 : (i == i) = true := by simp
      by_cases h2 : e = 0
      · rw [show decide (i = i ∧ e = 0) = true by simp [h2]]
        subst h2
        go_enter Try.func26, Try.ntmps26
        go_wp2_with fail
        go_ret
        exact ⟨rfl, rfl⟩
      · have b2 : (e == 0) = false := by simpa using h2
        rw [show decide (i = i ∧ e = 0) = false by simp [h2]]
        clear h2
        go_enter Try.func26, Try.ntmps26
        go_wp2_with fail
        go_ret
        exact ⟨rfl, rfl⟩
    · have b1 : (i == want) = false := by simpa using h1
      rw [show decide (i = want ∧ e = 0) = false by simp [h1]]
      clear h1
      go_enter Try.func26, Try.ntmps26
      go_wp2_with fail
      go_ret
      exact ⟨rfl, rfl⟩
end Go.Proofs.Ytlcdadnfcdjglaa
