/- A number's digits as strconv.Atoi reads them. Plain Lean. -/
import Derived.Test.YtelaijogjgcloaaDoorPlain3
import Derived.Lib.AtoiTie
namespace Go.Scr

theorem decFrom_val : ∀ (s : Txt) (acc : Nat), s.all digB = true → Go.Lib.decFrom acc s = some (s.foldl (fun a c => 10 * a + (c.toNat - 48)) acc)
  | [], acc, _ => rfl
  | c :: r, acc, h => by
    rw [List.all_cons, Bool.and_eq_true] at h
    have hc : 48 ≤ c.toNat ∧ c.toNat ≤ 57 := of_decide_eq_true h.1
    unfold Go.Lib.decFrom Go.Lib.digitVal
    rw [if_pos hc]
    dsimp only
    rw [decFrom_val r _ h.2, List.foldl_cons, Nat.mul_comm]
theorem numP_atoi {s : Txt} {v : Int} (h : numP s = some v) : Go.Lib.atoiAll s = .ok v ∧ s.length ≤ 10 := by
  unfold numP at h
  split at h
  · rename_i hn
    injection h with h
    subst h
    unfold isNum at hn
    rw [Bool.and_eq_true, Bool.and_eq_true] at hn
    obtain ⟨⟨h1, h2⟩, _⟩ := hn
    have h1 := of_decide_eq_true h1
    refine ⟨?_, h1.2⟩
    rw [Go.Lib.atoiAll_short s (by omega)]
    cases s with
    | nil => exact absurd rfl h1.1
    | cons c r =>
      have hc : 48 ≤ c.toNat ∧ c.toNat ≤ 57 := by rw [List.all_cons, Bool.and_eq_true] at h2; exact of_decide_eq_true h2.1
      have c45 : (c == 45) = false := by
        rw [beq_eq_false_iff_ne]; rintro rfl; simp at hc
      have c43 : (c == 43) = false := by
        rw [beq_eq_false_iff_ne]; rintro rfl; simp at hc
      unfold Go.Lib.atoi
      dsimp only
      rw [c45, c43]
      simp only [Bool.false_eq_true, if_false]
      unfold Go.Lib.decNat
      rw [decFrom_val _ _ h2]
      rfl
  · cases h
/-- What the reader tests: a number's own digits, not more than ten. -/
theorem numP_is {s : Txt} {v : Int} (h0 : 0 ≤ v) (h : numT v = s) (hl : s.length ≤ 10) : numP s = some v := by
  subst h
  refine num_text h0 ?_
  obtain ⟨u, rfl⟩ := Int.eq_ofNat_of_zero_le h0
  have e : numT (u : Int) = Go.Lib.decDigits u := by
    unfold numT Go.Lib.itoa
    simp
  rw [e, Go.Lib.decDigits_length] at hl
  have h1 := Go.Lib.lt_pow_nDigits u
  have h2 : 10 ^ Go.Lib.nDigits u ≤ 10 ^ 10 := Nat.pow_le_pow_right (by decide) hl
  have h3 : (10 : Nat) ^ 10 = 10000000000 := by decide
  omega
end Go.Scr
