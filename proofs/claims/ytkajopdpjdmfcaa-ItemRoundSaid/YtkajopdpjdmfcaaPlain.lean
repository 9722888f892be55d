/- Plain lemmas on digits: what a text of digits is worth, and when it passes the greatest number. No program. -/
import Derived.Test.YtkajopdpjdmfcaaText
import Derived.Test.YtkajopdpjdmfcaaNum
namespace Go.Proofs.Ytkajopdpjdmfcaa
open Go.RowKit Go.Ice

def isDig (c : UInt8) : Prop := 48 ≤ c.toNat ∧ c.toNat ≤ 57
def valF (n : Nat) (bs : List UInt8) : Nat := bs.foldl (fun n c => 10 * n + (c.toNat - 48)) n

theorem valF_cons (n : Nat) (c : UInt8) (cs : List UInt8) : valF n (c :: cs) = valF (10 * n + (c.toNat - 48)) cs := by unfold valF; rw [List.foldl_cons]
theorem valF_nil (n : Nat) : valF n [] = n := by unfold valF; rw [List.foldl_nil]

theorem valF_ge (bs : List UInt8) : ∀ n, n ≤ valF n bs := by
  induction bs with
  | nil => intro n; exact Nat.le_refl _
  | cons c cs ih => intro n; have := ih (10 * n + (c.toNat - 48)); rw [valF_cons]; omega

theorem valF_eq (bs : List UInt8) : ∀ n, valF n bs = n * 10 ^ bs.length + valF 0 bs := by
  induction bs with
  | nil => intro n; simp [valF_nil]
  | cons c cs ih =>
    intro n
    rw [valF_cons, valF_cons, ih (10 * n + (c.toNat - 48)), ih (10 * 0 + (c.toNat - 48)), List.length_cons, Nat.pow_succ, ← Nat.add_assoc]
    congr 1
    rw [Nat.mul_zero, Nat.zero_add, Nat.add_mul]
    congr 1
    rw [Nat.mul_comm 10 n, Nat.mul_assoc, Nat.mul_comm 10]

theorem valF_lt (bs : List UInt8) (h : ∀ c ∈ bs, isDig c) : valF 0 bs < 10 ^ bs.length := by
  induction bs with
  | nil => simp [valF_nil]
  | cons c cs ih =>
    have h1 := ih (fun x hx => h x (by simp [hx]))
    have h2 := (h c (by simp)).2
    rw [valF_cons, valF_eq, List.length_cons, Nat.pow_succ]
    have h3 : (10 * 0 + (c.toNat - 48)) * 10 ^ cs.length ≤ 9 * 10 ^ cs.length := Nat.mul_le_mul_right _ (by omega)
    omega

theorem numLoop_some (bs : List UInt8) : ∀ n, (∀ c ∈ bs, isDig c) → valF n bs ≤ 18446744073709551615 → numLoop n bs = some (valF n bs) := by
  induction bs with
  | nil => intro n _ _; rfl
  | cons c cs ih =>
    intro n h hv
    have hc : 48 ≤ c.toNat ∧ c.toNat ≤ 57 := h c (by simp)
    rw [valF_cons] at hv ⊢
    have := valF_ge cs (10 * n + (c.toNat - 48))
    rw [numLoop, if_pos hc, if_neg (by omega), ih _ (fun x hx => h x (by simp [hx])) hv]

theorem numLoop_none (bs : List UInt8) : ∀ n, (¬ ∀ c ∈ bs, isDig c) ∨ 18446744073709551615 < valF n bs → n ≤ 18446744073709551615 → numLoop n bs = none := by
  induction bs with
  | nil =>
    intro n h hn
    rcases h with h | h
    · exact absurd (fun c hc => by cases hc) h
    · rw [valF_nil] at h; omega
  | cons c cs ih =>
    intro n h hn
    rw [numLoop]
    by_cases hc : 48 ≤ c.toNat ∧ c.toNat ≤ 57
    · rw [if_pos hc]
      split
      · rfl
      · rename_i ho
        refine ih _ ?_ (by omega)
        rcases h with h | h
        · refine .inl fun h' => h ?_
          intro x hx
          rcases List.mem_cons.1 hx with rfl | hx
          · exact hc
          · exact h' x hx
        · exact .inr h
    · rw [if_neg hc]

theorem less_val (a : List UInt8) : ∀ b : List UInt8, a.length = b.length → (∀ c ∈ a, isDig c) → (∀ c ∈ b, isDig c) → (Op.bytesLess a b = true ↔ valF 0 a < valF 0 b) := by
  induction a with
  | nil => intro b hl _ _; cases b with
    | nil => simp [Op.bytesLess]
    | cons _ _ => simp at hl
  | cons x xs ih =>
    intro b hl ha hb
    cases b with
    | nil => simp at hl
    | cons y ys =>
      have hl' : xs.length = ys.length := by simpa using hl
      have hx : 48 ≤ x.toNat ∧ x.toNat ≤ 57 := ha x (by simp)
      have hy : 48 ≤ y.toNat ∧ y.toNat ≤ 57 := hb y (by simp)
      have ih' := ih ys hl' (fun c hc => ha c (by simp [hc])) (fun c hc => hb c (by simp [hc]))
      have v1 := valF_lt xs (fun c hc => ha c (by simp [hc]))
      have v2 := valF_lt ys (fun c hc => hb c (by simp [hc]))
      rw [valF_cons, valF_cons, valF_eq xs, valF_eq ys, ← hl']
      rw [← hl'] at v2
      generalize 10 ^ xs.length = B at v1 v2 ⊢
      rw [Op.bytesLess]
      simp only [Bool.or_eq_true, decide_eq_true_eq, Bool.and_eq_true, beq_iff_eq, ih', UInt8.lt_iff_toNat_lt, Nat.mul_zero, Nat.zero_add]
      rcases Nat.lt_trichotomy x.toNat y.toNat with h | h | h
      · have h3 : (x.toNat - 48 + 1) * B ≤ (y.toNat - 48) * B := Nat.mul_le_mul_right _ (by omega)
        rw [Nat.add_mul, Nat.one_mul] at h3
        exact ⟨fun _ => by omega, fun _ => .inl h⟩
      · have e : x = y := UInt8.toNat.inj h
        subst e
        exact ⟨fun h' => by rcases h' with h' | h' <;> omega, fun h' => .inr ⟨rfl, by omega⟩⟩
      · have h3 : (y.toNat - 48 + 1) * B ≤ (x.toNat - 48) * B := Nat.mul_le_mul_right _ (by omega)
        rw [Nat.add_mul, Nat.one_mul] at h3
        refine ⟨fun h' => ?_, fun h' => by omega⟩
        rcases h' with h' | ⟨h', _⟩
        · omega
        · subst h'; omega

theorem val_inj (a : List UInt8) : ∀ b : List UInt8, a.length = b.length → (∀ c ∈ a, isDig c) → (∀ c ∈ b, isDig c) → valF 0 a = valF 0 b → a = b := by
  induction a with
  | nil => intro b hl _ _ _; cases b with
    | nil => rfl
    | cons _ _ => simp at hl
  | cons x xs ih =>
    intro b hl ha hb hv
    cases b with
    | nil => simp at hl
    | cons y ys =>
      have hl' : xs.length = ys.length := by simpa using hl
      have hx : 48 ≤ x.toNat ∧ x.toNat ≤ 57 := ha x (by simp)
      have hy : 48 ≤ y.toNat ∧ y.toNat ≤ 57 := hb y (by simp)
      have ih' := ih ys hl' (fun c hc => ha c (by simp [hc])) (fun c hc => hb c (by simp [hc]))
      have v1 := valF_lt xs (fun c hc => ha c (by simp [hc]))
      have v2 := valF_lt ys (fun c hc => hb c (by simp [hc]))
      rw [valF_cons, valF_cons, valF_eq xs, valF_eq ys, ← hl'] at hv
      rw [← hl'] at v2
      generalize 10 ^ xs.length = B at v1 v2 hv
      simp only [Nat.mul_zero, Nat.zero_add] at hv
      rcases Nat.lt_trichotomy x.toNat y.toNat with h | h | h
      · have h3 : (x.toNat - 48 + 1) * B ≤ (y.toNat - 48) * B := Nat.mul_le_mul_right _ (by omega)
        rw [Nat.add_mul, Nat.one_mul] at h3; omega
      · have e : x = y := UInt8.toNat.inj h
        subst e
        rw [ih' (by omega)]
      · have h3 : (y.toNat - 48 + 1) * B ≤ (x.toNat - 48) * B := Nat.mul_le_mul_right _ (by omega)
        rw [Nat.add_mul, Nat.one_mul] at h3; omega

def most : List UInt8 := [49, 56, 52, 52, 54, 55, 52, 52, 48, 55, 51, 55, 48, 57, 53, 53, 49, 54, 49, 53]

/-- When a text of twenty digits at most passes the greatest number. -/
theorem over_iff (bs : List UInt8) (h20 : bs.length ≤ 20) (hd : ∀ c ∈ bs, isDig c) :
    (bs.length = 20 ∧ ¬ Op.bytesLess bs most = true ∧ bs ≠ most) ↔ 18446744073709551615 < valF 0 bs := by
  have hm : ∀ c ∈ most, isDig c := by simp [most, isDig]
  have hv : valF 0 most = 18446744073709551615 := by decide
  by_cases hl : bs.length = 20
  · have h1 := less_val bs most (by rw [hl]; rfl) hd hm
    rw [hv] at h1
    constructor
    · rintro ⟨_, h3, h4⟩
      rcases Nat.lt_trichotomy (valF 0 bs) 18446744073709551615 with h | h | h
      · exact absurd (h1.2 h) h3
      · exact absurd (val_inj bs most (by rw [hl]; rfl) hd hm (by rw [h, hv])) h4
      · exact h
    · intro h
      refine ⟨hl, fun h' => by have := h1.1 h'; omega, fun h' => by rw [h', hv] at h; omega⟩
  · refine ⟨fun h => absurd h.1 hl, fun h => ?_⟩
    have := valF_lt bs hd
    have : 10 ^ bs.length ≤ 10 ^ 19 := Nat.pow_le_pow_right (by decide) (by omega)
    omega
end Go.Proofs.Ytkajopdpjdmfcaa
