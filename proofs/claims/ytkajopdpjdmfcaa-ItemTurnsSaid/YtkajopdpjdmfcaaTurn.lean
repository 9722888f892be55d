/- item.Turn and the document's own turn; a number's text is read as it. Conditions: numbers fit 64 bits. -/
import Derived.Test.YtkajopdpjdmfcaaNumW
set_option linter.unusedVariables false
namespace Go.Proofs.Ytkajopdpjdmfcaa
open Go.RowKit Go.Ice

theorem textF_dig (k : Nat) : ∀ n, n < k → ∀ c ∈ textF n, isDig c := by
  induction k with
  | zero => intro n h; omega
  | succ k ih =>
    intro n h c hc
    by_cases h10 : n < 10
    · rw [textF_lt n h10] at hc
      simp only [List.mem_singleton] at hc
      subst hc
      unfold isDig
      rw [UInt8.toNat_ofNat']; omega
    · rw [textF_ge n h10, List.mem_append] at hc
      rcases hc with hc | hc
      · exact ih (n / 10) (by omega) c hc
      · rw [textF_lt (n % 10) (by omega)] at hc
        simp only [List.mem_singleton] at hc
        subst hc
        unfold isDig
        rw [UInt8.toNat_ofNat']; omega

theorem valF_append (a b : List UInt8) (n : Nat) : valF n (a ++ b) = valF (valF n a) b := by unfold valF; rw [List.foldl_append]
theorem textF_val (k : Nat) : ∀ n, n < k → valF 0 (textF n) = n := by
  induction k with
  | zero => intro n h; omega
  | succ k ih =>
    intro n h
    by_cases h10 : n < 10
    · rw [textF_lt n h10, valF_cons, valF_nil, UInt8.toNat_ofNat']; omega
    · rw [textF_ge n h10, valF_append, ih (n / 10) (by omega), textF_lt (n % 10) (by omega), valF_cons, valF_nil, UInt8.toNat_ofNat']; omega
theorem textF_pos (n : Nat) : 0 < (textF n).length := by unfold textF; rw [List.length_reverse]; exact digR_pos n
theorem numF_text (n : Nat) (h : n ≤ 18446744073709551615) : numF (textF n) = some n := by
  have h1 := textF_pos n
  have h2 := textF_len n h
  unfold numF
  rw [if_neg (by omega), numLoop_some _ _ (textF_dig (n + 1) n (by omega)) (by rw [textF_val (n + 1) n (by omega)]; exact h), textF_val (n + 1) n (by omega)]

def turnF (n b : Nat) (down : Bool) : Nat := if down then n - b else (n + b) % 18446744073709551616
theorem turnF_le (n b : Nat) (down : Bool) (h : n ≤ 18446744073709551615) : turnF n b down ≤ 18446744073709551615 := by
  unfold turnF; split <;> omega
theorem wrap_over (n b : Nat) (h : 18446744073709551615 < n + b) (hn : n ≤ 18446744073709551615) (hb : b ≤ 18446744073709551615) : IntKind.u64.wrap ((n : Int) + b) = (((n + b) % 18446744073709551616 : Nat) : Int) := by
  simp only [IntKind.wrap_u64]; omega

theorem turnRef (n b : Nat) (down : Bool) (w : World) (hn : n ≤ 18446744073709551615) (hb : b ≤ 18446744073709551615) :
    Calls Try.prog 19 #[.int .u64 n, .int .u64 b, .bool down] w fun e w' => e = .returned (.int .u64 (turnF n b down : Nat)) ∧ w = w' := by
  cases down with
  | false =>
    by_cases ho : 18446744073709551615 < n + b
    · have hw := wrap_over n b ho hn hb
      have HF := Lib.hid (show turnF n b false = (n + b) % 18446744073709551616 from rfl)
      generalize (n + b) % 18446744073709551616 = m at hw HF
      go_enter Try.func19, Try.ntmps19
      go_wp2
      go_ret
      exact ⟨by rw [HF.out]; rfl, rfl⟩
    · have HF : Hid (turnF n b false = n + b) := by show (n + b) % _ = _; omega
      go_enter Try.func19, Try.ntmps19
      go_wp2
      go_ret
      exact ⟨by rw [HF.out]; rfl, rfl⟩
  | true =>
    have HF := Lib.hid (show turnF n b true = n - b from rfl)
    by_cases hlt : n < b
    all_goals
      go_enter Try.func19, Try.ntmps19
      go_wp2
      go_ret
      exact ⟨ret_int (by rw [HF.out]; omega), rfl⟩

theorem turn_none (w : World) (v : Value) (bs : List UInt8) (b : Nat) (down : Bool) (h : IsSl w v (bs.map u8v)) (hq : numF bs = none) :
    Calls Try.prog 18 #[v, .int .u64 b, .bool down] w fun e w' => e = .returned (.tuple #[.slice none 0 0, .int .u64 0, .int .i64 270]) ∧ Below w.heap.size w w' := by
  have H := Lib.hid h
  have HQ := Lib.hid hq
  clear h hq
  go_enter Try.func18, Try.ntmps18
  go_wp2_with fail
  refine (number_none _ _ bs H.out HQ.out).mono ?_
  rintro e w1 ⟨rfl, hb1⟩
  go_wp2_with fail
  go_ret3
  exact ⟨rfl, hb1⟩

theorem turn_some (w : World) (v : Value) (bs : List UInt8) (n b : Nat) (down : Bool) (h : IsSl w v (bs.map u8v)) (hq : numF bs = some n) (hb : b ≤ 18446744073709551615) :
    Calls Try.prog 18 #[v, .int .u64 b, .bool down] w fun e w' => ∃ v', e = .returned (.tuple #[v', .int .u64 (turnF n b down : Nat), .int .i64 0]) ∧ IsSl w' v' ((textF (turnF n b down)).map u8v) ∧ Below w.heap.size w w' := by
  have H := Lib.hid h
  have HQ := Lib.hid hq
  have hn : n ≤ 18446744073709551615 := by have := numF_le bs; rw [hq] at this; exact this
  clear h hq
  have hle := turnF_le n b down hn
  cases down with
  | false =>
    by_cases ho : 18446744073709551615 < n + b
    · have hw := wrap_over n b ho hn hb
      rw [show turnF n b false = (n + b) % 18446744073709551616 from rfl] at *
      generalize (n + b) % 18446744073709551616 = m at *
      go_enter Try.func18, Try.ntmps18
      go_wp2_with fail
      refine (number_some _ _ bs n H.out HQ.out).mono ?_
      rintro e w1 ⟨rfl, hb1⟩
      go_wp2_with fail
      refine (text m hle _).mono ?_
      rintro e w2 ⟨v', rfl, ho2, hb2⟩
      go_wp2_with fail
      go_ret3
      exact ⟨_, rfl, ho2.isSl, hb1.trans (hb2.mono hb1.size)⟩
    · have HF : turnF n b false = n + b := by show (n + b) % _ = _; omega
      rw [HF] at *
      clear HF
      go_enter Try.func18, Try.ntmps18
      go_wp2_with fail
      refine (number_some _ _ bs n H.out HQ.out).mono ?_
      rintro e w1 ⟨rfl, hb1⟩
      go_wp2_with fail
      rw [show ((n : Int) + b) = ((n + b : Nat) : Int) from by omega]
      refine (text (n + b) (by omega) _).mono ?_
      rintro e w2 ⟨v', rfl, ho2, hb2⟩
      go_wp2_with fail
      go_ret3
      exact ⟨_, rfl, ho2.isSl, hb1.trans (hb2.mono hb1.size)⟩
  | true =>
    rw [show turnF n b true = n - b from rfl] at *
    by_cases hlt : n < b
    · rw [show n - b = 0 from by omega] at *
      go_enter Try.func18, Try.ntmps18
      go_wp2_with fail
      refine (number_some _ _ bs n H.out HQ.out).mono ?_
      rintro e w1 ⟨rfl, hb1⟩
      go_wp2_with fail
      refine (text 0 hle _).mono ?_
      rintro e w2 ⟨v', rfl, ho2, hb2⟩
      go_wp2_with fail
      go_ret3
      exact ⟨_, rfl, ho2.isSl, hb1.trans (hb2.mono hb1.size)⟩
    · go_enter Try.func18, Try.ntmps18
      go_wp2_with fail
      refine (number_some _ _ bs n H.out HQ.out).mono ?_
      rintro e w1 ⟨rfl, hb1⟩
      go_wp2_with fail
      rw [show ((n : Int) - b) = ((n - b : Nat) : Int) from by omega]
      refine (text (n - b) hle _).mono ?_
      rintro e w2 ⟨v', rfl, ho2, hb2⟩
      go_wp2_with fail
      go_ret3
      exact ⟨_, rfl, ho2.isSl, hb1.trans (hb2.mono hb1.size)⟩
end Go.Proofs.Ytkajopdpjdmfcaa
