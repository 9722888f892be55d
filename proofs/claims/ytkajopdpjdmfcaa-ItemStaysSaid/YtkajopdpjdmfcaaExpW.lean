/- The walks of the laws on expiries. Conditions: the numbers fit their kinds. -/
import Derived.Test.YtkajopdpjdmfcaaSmall
namespace Go.Proofs.Ytkajopdpjdmfcaa
open Go.RowKit Go.Ice

theorem itemExpiresW.walk (a0 a1 a2 : Int) (w : World) (w0 : (Lit.int .u32 a0).wf = true) (w1 : (Lit.int .u32 a1).wf = true) (w2 : (Lit.int .u32 a2).wf = true) :
    Calls Try.prog 5 #[.int .u32 a0, .int .u32 a1, .int .u32 a2] w fun e w' => e = .returned (.bool true) ∧ Below w.heap.size w w' := by
  obtain ⟨b0, b0'⟩ := bounds_u32 w0
  obtain ⟨b1, b1'⟩ := bounds_u32 w1
  obtain ⟨b2, b2'⟩ := bounds_u32 w2
  clear w0 w1 w2
  go_enter Try.func5, Try.ntmps5
  go_wp2_with fail
  refine (wakes _).mono ?_
  rintro e wA ⟨rfl, hb⟩
  go_wp2_with fail
  refine (expiry a0 a1 _ (by omega) (by omega) (by omega) (by omega)).mono ?_
  rintro e w1' ⟨rfl, rfl⟩
  go_wp2_with fail
  refine (expiryRef a0 a1 _ (by omega) (by omega) (by omega) (by omega)).mono ?_
  rintro e w1' ⟨rfl, rfl⟩
  generalize expiryF a0 a1 = x
  have hx : (x == x) = true := by simp
  have he : expiredB a0 a2 = (decide (0 < a2) && decide (a2 ≤ a0)) := by unfold expiredB; simp
  by_cases h : 0 < a2
  all_goals
    go_wp2_with fail
    refine (expired a0 a2 _ (by omega) (by omega) (by omega) (by omega)).mono ?_
    rintro e w1' ⟨rfl, rfl⟩
    rw [he]
    go_wp2_with fail
    go_ret
    exact ⟨rfl, hb⟩

theorem expiry_le (a b : Int) (h0 : 0 ≤ a) (h1 : a ≤ 4294967295) (h2 : 0 ≤ b) (h3 : b ≤ 4294967295) : 0 ≤ expiryF a b ∧ expiryF a b ≤ 4294967295 := by
  unfold expiryF; (repeat' split) <;> omega

set_option maxHeartbeats 2000000 in
theorem itemStaysW.walk (a0 a1 a2 : Int) (w : World) (w0 : (Lit.int .u32 a0).wf = true) (w1 : (Lit.int .u32 a1).wf = true) (w2 : (Lit.int .u32 a2).wf = true) :
    Calls Try.prog 6 #[.int .u32 a0, .int .u32 a1, .int .u32 a2] w fun e w' => e = .returned (.bool true) ∧ Below w.heap.size w w' := by
  obtain ⟨b0, b0'⟩ := bounds_u32 w0
  obtain ⟨b1, b1'⟩ := bounds_u32 w1
  obtain ⟨b2, b2'⟩ := bounds_u32 w2
  clear w0 w1 w2
  rcases Int.lt_trichotomy a1 a0 with hlt | rfl | hle
  · go_enter Try.func6, Try.ntmps6
    go_wp2_with fail
    refine (wakes _).mono ?_
    rintro e wA ⟨rfl, hbl⟩
    go_wp2_with fail
    refine (expiry a1 a2 _ (by omega) (by omega) (by omega) (by omega)).mono ?_
    rintro e w1' ⟨rfl, rfl⟩
    obtain ⟨hx0, hx1⟩ := expiry_le a1 a2 (by omega) (by omega) (by omega) (by omega)
    have HX : Hid (a2 = 0 ∧ expiryF a1 a2 = 0 ∨ (2592000 < a2 ∧ expiryF a1 a2 = a2) ∨ (0 < a2 ∧ a1 < expiryF a1 a2) ∨ expiryF a1 a2 = 4294967295) := by
      show _ ∨ _
      unfold expiryF; (repeat' split) <;> omega
    generalize expiryF a1 a2 = x at *
    go_wp2_with fail
    refine (expired a1 x _ (by omega) (by omega) (by omega) (by omega)).mono ?_
    rintro e w1' ⟨rfl, rfl⟩
    have tail : True := trivial
    by_cases hea : 0 < x ∧ x ≤ a1
    · rw [show expiredB a1 x = true from decide_eq_true hea]
      go_wp2_with fail
      refine (expired a0 x _ (by omega) (by omega) (by omega) (by omega)).mono ?_
      rintro e w1' ⟨rfl, rfl⟩
      rw [show expiredB a0 x = true from decide_eq_true (by omega)]
      go_wp2_with fail
      all_goals
        go_ret
        have hX := HX.out
        refine ⟨ret_bool ?_, hbl⟩
        first | rfl | (simp; done) | (simp; omega) | (simp only [beq_iff_eq, beq_eq_false_iff_ne] at *; omega) | omega
    · rw [show expiredB a1 x = false from decide_eq_false hea]
      go_wp2_with fail
      all_goals
        go_ret
        have hX := HX.out
        refine ⟨ret_bool ?_, hbl⟩
        first | rfl | (simp; done) | (simp; omega) | (simp only [beq_iff_eq, beq_eq_false_iff_ne] at *; omega) | omega
  · go_enter Try.func6, Try.ntmps6
    go_wp2_with fail
    refine (wakes _).mono ?_
    rintro e wA ⟨rfl, hbl⟩
    go_wp2_with fail
    refine (expiry a1 a2 _ (by omega) (by omega) (by omega) (by omega)).mono ?_
    rintro e w1' ⟨rfl, rfl⟩
    obtain ⟨hx0, hx1⟩ := expiry_le a1 a2 (by omega) (by omega) (by omega) (by omega)
    have HX : Hid (a2 = 0 ∧ expiryF a1 a2 = 0 ∨ (2592000 < a2 ∧ expiryF a1 a2 = a2) ∨ (0 < a2 ∧ a1 < expiryF a1 a2) ∨ expiryF a1 a2 = 4294967295) := by
      show _ ∨ _
      unfold expiryF; (repeat' split) <;> omega
    generalize expiryF a1 a2 = x at *
    go_wp2_with fail
    refine (expired a1 x _ (by omega) (by omega) (by omega) (by omega)).mono ?_
    rintro e w1' ⟨rfl, rfl⟩
    have tail : True := trivial
    by_cases hea : 0 < x ∧ x ≤ a1
    · rw [show expiredB a1 x = true from decide_eq_true hea]
      go_wp2_with fail
      refine (expired a1 x _ (by omega) (by omega) (by omega) (by omega)).mono ?_
      rintro e w1' ⟨rfl, rfl⟩
      rw [show expiredB a1 x = true from decide_eq_true (by omega)]
      go_wp2_with fail
      all_goals
        go_ret
        have hX := HX.out
        refine ⟨ret_bool ?_, hbl⟩
        first | rfl | (simp; done) | (simp; omega) | (simp only [beq_iff_eq, beq_eq_false_iff_ne] at *; omega) | omega
    · rw [show expiredB a1 x = false from decide_eq_false hea]
      go_wp2_with fail
      all_goals
        go_ret
        have hX := HX.out
        refine ⟨ret_bool ?_, hbl⟩
        first | rfl | (simp; done) | (simp; omega) | (simp only [beq_iff_eq, beq_eq_false_iff_ne] at *; omega) | omega
  · go_enter Try.func6, Try.ntmps6
    go_wp2_with fail
    refine (wakes _).mono ?_
    rintro e wA ⟨rfl, hbl⟩
    go_wp2_with fail
    refine (expiry a0 a2 _ (by omega) (by omega) (by omega) (by omega)).mono ?_
    rintro e w1' ⟨rfl, rfl⟩
    obtain ⟨hx0, hx1⟩ := expiry_le a0 a2 (by omega) (by omega) (by omega) (by omega)
    have HX : Hid (a2 = 0 ∧ expiryF a0 a2 = 0 ∨ (2592000 < a2 ∧ expiryF a0 a2 = a2) ∨ (0 < a2 ∧ a0 < expiryF a0 a2) ∨ expiryF a0 a2 = 4294967295) := by
      show _ ∨ _
      unfold expiryF; (repeat' split) <;> omega
    generalize expiryF a0 a2 = x at *
    go_wp2_with fail
    refine (expired a0 x _ (by omega) (by omega) (by omega) (by omega)).mono ?_
    rintro e w1' ⟨rfl, rfl⟩
    have tail : True := trivial
    by_cases hea : 0 < x ∧ x ≤ a0
    · rw [show expiredB a0 x = true from decide_eq_true hea]
      go_wp2_with fail
      refine (expired a1 x _ (by omega) (by omega) (by omega) (by omega)).mono ?_
      rintro e w1' ⟨rfl, rfl⟩
      rw [show expiredB a1 x = true from decide_eq_true (by omega)]
      go_wp2_with fail
      all_goals
        go_ret
        have hX := HX.out
        refine ⟨ret_bool ?_, hbl⟩
        first | rfl | (simp; done) | (simp; omega) | (simp only [beq_iff_eq, beq_eq_false_iff_ne] at *; omega) | omega
    · rw [show expiredB a0 x = false from decide_eq_false hea]
      go_wp2_with fail
      all_goals
        go_ret
        have hX := HX.out
        refine ⟨ret_bool ?_, hbl⟩
        first | rfl | (simp; done) | (simp; omega) | (simp only [beq_iff_eq, beq_eq_false_iff_ne] at *; omega) | omega
end Go.Proofs.Ytkajopdpjdmfcaa
