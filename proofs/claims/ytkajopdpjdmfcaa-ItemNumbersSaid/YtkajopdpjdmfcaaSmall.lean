/- The small functions of the layer item: expiries, the check, and the law's own look whether the layer does anything. Conditions: numbers fit their kinds. -/
import Derived.Test.YtkajopdpjdmfcaaText
import Derived.Test.YtkajopdpjdmfcaaNum
import Derived.Lib.SlBytesConst
set_option linter.unusedVariables false
namespace Go.Proofs.Ytkajopdpjdmfcaa
open Go.RowKit Go.Ice

def expiryF (now wish : Int) : Int := if wish = 0 then 0 else if 2592000 < wish then wish else if 4294967295 - now < wish then 4294967295 else now + wish
def expiredB (now x : Int) : Bool := decide (0 < x ∧ x ≤ now)

theorem ret_int {k : IntKind} {a b : Int} (h : a = b) : Ending.returned (.int k a) = .returned (.int k b) := by rw [h]
theorem ret_bool {a b : Bool} (h : a = b) : Ending.returned (.bool a) = .returned (.bool b) := by rw [h]

theorem expiry (a b : Int) (w : World) (h2 : 0 ≤ a) (h3 : a ≤ 4294967295) (h4 : 0 ≤ b) (h5 : b ≤ 4294967295) :
    Calls Try.prog 15 #[.int .u32 a, .int .u32 b] w fun e w' => e = .returned (.int .u32 (expiryF a b)) ∧ w = w' := by
  go_enter Try.func15, Try.ntmps15
  go_wp2
  all_goals
    go_ret
    refine ⟨ret_int ?_, rfl⟩
    simp only [beq_iff_eq, beq_eq_false_iff_ne] at *
    unfold expiryF
    (repeat' split) <;> first | rfl | omega

theorem expiryRef (a b : Int) (w : World) (h2 : 0 ≤ a) (h3 : a ≤ 4294967295) (h4 : 0 ≤ b) (h5 : b ≤ 4294967295) :
    Calls Try.prog 16 #[.int .u32 a, .int .u32 b] w fun e w' => e = .returned (.int .u32 (expiryF a b)) ∧ w = w' := by
  by_cases h0 : b = 0
  · subst h0
    go_enter Try.func16, Try.ntmps16
    go_wp2
    go_ret
    exact ⟨rfl, rfl⟩
  · have hb : (b == 0) = false := beq_eq_false_iff_ne.2 h0
    by_cases h1 : 2592000 < b
    · have hf : expiryF a b = b := by unfold expiryF; rw [if_neg h0, if_pos h1]
      have Hf := Lib.hid hf
      clear hf
      go_enter Try.func16, Try.ntmps16
      go_wp2
      go_ret
      exact ⟨by rw [Hf.out]; rfl, rfl⟩
    · go_enter Try.func16, Try.ntmps16
      go_wp2
      all_goals
        go_ret
        refine ⟨ret_int ?_, rfl⟩
        unfold expiryF
        (repeat' split) <;> first | rfl | omega

theorem expired (a b : Int) (w : World) (h2 : 0 ≤ a) (h3 : a ≤ 4294967295) (h4 : 0 ≤ b) (h5 : b ≤ 4294967295) :
    Calls Try.prog 17 #[.int .u32 a, .int .u32 b] w fun e w' => e = .returned (.bool (expiredB a b)) ∧ w = w' := by
  go_enter Try.func17, Try.ntmps17
  go_wp2
  all_goals
    go_ret
    refine ⟨ret_bool ?_, rfl⟩
    unfold expiredB
    first | (exact decide_eq_decide.2 (by omega)) | (symm; exact decide_eq_false (by omega))

theorem check (w : World) (a b : Option Addr) (n m c d : Nat) (hn : n ≤ maxLen) (hm : m ≤ maxLen) :
    Calls Try.prog 21 #[.slice a n c, .slice b m d] w fun e w' => e = .returned (.int .i64 (if n < 1 ∨ 250 < n then 2 else if 512 < m then 3 else 0)) ∧ w = w' := by
  unfold maxLen at hn hm
  go_enter Try.func21, Try.ntmps21
  go_wp2
  all_goals
    go_ret
    refine ⟨ret_int ?_, rfl⟩
    (repeat' split) <;> first | rfl | omega
theorem textF30 : textF 30 = [51, 48] := by simp [textF, digR]

set_option maxHeartbeats 800000 in
theorem wakes (w : World) : Calls Try.prog 10 #[] w fun e w' => e = .returned (.bool true) ∧ Below w.heap.size w w' := by
  have kc := fun (w : World) (C : Array Value) (n c : Nat) => Lib.run_convert_bytes_const (P := Try.prog) w 22 5 C n c Try.underlying22 Try.underlying5
  go_enter Try.func10, Try.ntmps10
  go_wp2_with fail
  refine (number_go _ _ [48, 48, 55] w.heap.size 0 3 rfl (by decide) (by decide) ?_).mono ?_
  · intro j hj
    rw [Nat.zero_add, World.cell?_alloc_mark]
    match j, hj with
    | 0, _ => rfl
    | 1, _ => rfl
    | 2, _ => rfl
  rintro e w1 ⟨rfl, hb1⟩
  rw [show numV (numLoop 0 [48, 48, 55]) = .tuple #[.int .u64 7, .int .i64 0] from rfl]
  go_wp2_with fail
  refine (expiry 100 5 _ (by decide) (by decide) (by decide) (by decide)).mono ?_
  rintro e w1' ⟨rfl, rfl⟩
  go_wp2_with fail
  refine (text 30 (by decide) _).mono ?_
  rintro e w2 ⟨v, rfl, ho2, hb2⟩
  rw [textF30] at ho2
  have hconv := convert_sl (P := Try.prog) 22 5 Try.underlying22 Try.underlying5 ho2.isSl 9 Try.underlying9
  clear ho2
  go_wp2_with fail
  refine (check _ _ _ 1 0 _ _ (by decide) (by decide)).mono ?_
  rintro e w3 ⟨rfl, rfl⟩
  go_wp2_with fail
  go_ret
  refine ⟨rfl, ?_⟩
  have h1 := ((Below.refl w.heap.size w).alloc (Nat.le_refl _) (.cells #[.int .u8 48, .int .u8 48, .int .u8 55] 5 (3, 3 + 1))).trans (hb1.mono (by simp))
  have h2 := h1.trans (hb2.mono h1.size)
  exact h2.alloc h2.size _
end Go.Proofs.Ytkajopdpjdmfcaa
