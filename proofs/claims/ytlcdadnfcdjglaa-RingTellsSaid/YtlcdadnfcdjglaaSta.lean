/- The stable sort of at most sixteen numbers by a ring's counts: one insertion sort of the whole. Conditions: as the insertion's. -/
import Derived.Test.YtlcdadnfcdjglaaIns
set_option linter.unusedVariables false
set_option linter.unusedSimpArgs false
namespace Go.Proofs.Ytlcdadnfcdjglaa
open Go.RowKit Go.Ice Go.Ring

/-- With no numbers at all nothing is sorted. -/
theorem insertion0 (w : World) (v f : Value) : Calls Try.prog 63 #[v, .int .i64 0, .int .i64 0, f] w fun e w' => e = .returned (.tuple #[]) ∧ w' = w := by
  go_enter Try.func63, Try.ntmps63
  go_wp2_with fail
  go_loopg [8, 9] 0 (fun m iv jv wr => m = 0 ∧ iv = .int .i64 1 ∧ wr = w)
  case atStart => exact ⟨rfl, rfl, rfl⟩
  case round =>
    obtain ⟨rfl, rfl, rfl⟩ := hrel
    go_wp2_with fail
    go_end0
    exact ⟨rfl, rfl⟩

theorem stableF (w : World) (v f : Value) (n : Nat) (hn : n ≤ 16) {Q : World → Prop} (H : Calls Try.prog 63 #[v, .int .i64 0, .int .i64 n, f] w fun e w' => e = .returned (.tuple #[]) ∧ Q w') :
    Calls Try.prog 61 #[v, .int .i64 n, f] w fun e w' => e = .returned (.tuple #[]) ∧ Q w' := by
  have H := Lib.hid H
  go_enter Try.func61, Try.ntmps61
  go_wp2_with fail
  go_loopg [7, 8] 0 (fun m iv jv wr => m = 0 ∧ iv = .int .i64 0 ∧ jv = .int .i64 20 ∧ wr = w)
  case atStart => exact ⟨rfl, rfl, rfl, rfl⟩
  case round =>
    obtain ⟨rfl, rfl, rfl, rfl⟩ := hrel
    go_wp2_with fail
    refine (H.out).mono ?_
    rintro e w1 ⟨rfl, h1⟩
    have H1 := Lib.hid h1
    clear h1
    go_wp2_with fail
    go_loopg [6, 7, 8, 9] 0 (fun m iv jv kv lv wr => m = 0 ∧ iv = .int .i64 20 ∧ wr = w1)
    case atStart => exact ⟨rfl, rfl, rfl⟩
    case round =>
      obtain ⟨rfl, rfl, rfl⟩ := hrel
      go_wp2_with fail
      go_end0
      exact ⟨rfl, H1.out⟩

theorem sorted (w : World) (v f : Value) (b : Option Addr) (n cap : Nat) (hv : v = .slice b n cap) (hn : n ≤ 16) {Q : World → Prop} (H : Calls Try.prog 63 #[v, .int .i64 0, .int .i64 n, f] w fun e w' => e = .returned (.tuple #[]) ∧ Q w') :
    Calls Try.prog 58 #[v, f] w fun e w' => e = .returned (.tuple #[]) ∧ Q w' := by
  have HS := Lib.hid (stableF w v f n hn H)
  clear H
  subst hv
  go_enter Try.func58, Try.ntmps58
  go_wp2_with fail
  refine (HS.out).mono ?_
  rintro e w1 ⟨rfl, h1⟩
  have H1 := Lib.hid h1
  clear h1
  go_wp2_with fail
  go_end0
  exact ⟨rfl, H1.out⟩
end Go.Proofs.Ytlcdadnfcdjglaa
