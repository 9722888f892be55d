/- The function that ideal.Map.look defers: all is put back, or not. Conditions: its variables lie in memory. -/
import Derived.Test.YtngpffmgkponfaaCpt
import Derived.Defers
set_option linter.unusedVariables false
set_option linter.unusedSimpArgs false
namespace Go.Proofs.Ytngpffmgkponfaa
open Go.RowKit Go.Ice Go.Idl

set_option maxHeartbeats 4000000 in
theorem undo31 (w : World) (ub ib xb tb vb mb kb : Nat) (undo is : Bool) (t : Int) (u : FrameMode) (m0 m1 : Value) (hu : w.cell? ⟨ub, 0, none⟩ = some (.bool undo)) (hi : w.cell? ⟨ib, 0, none⟩ = some (.bool is)) (hx : w.cell? ⟨xb, 0, none⟩ = some (.map (some kb))) (ht : w.cell? ⟨tb, 0, none⟩ = some (.int .u64 t))
    (hv : w.cell? ⟨vb, 0, none⟩ = some (.pointer (some ⟨mb, 0, none⟩))) (c0 : w.cell? ⟨mb, 0, none⟩ = some m0) (c1 : w.cell? ⟨mb, 1, none⟩ = some m1) (f0 : w.frozen? ⟨mb, 0, none⟩ = false) (f1 : w.frozen? ⟨mb, 1, none⟩ = false) :
    CallsD Try.prog 31 #[.pointer (some ⟨ub, 0, none⟩), .pointer (some ⟨ib, 0, none⟩), .pointer (some ⟨xb, 0, none⟩), .pointer (some ⟨tb, 0, none⟩), .pointer (some ⟨vb, 0, none⟩)] u w
      fun e u' w' => u' = u ∧ (e = .returned (.tuple #[]) ∧ w' = if undo || !is then (w.setCell ⟨mb, 0, none⟩ (.map (some kb))).setCell ⟨mb, 1, none⟩ (.int .u64 t) else w) := by
  cases undo with
  | true =>
    go_enter_d Try.func31, Try.ntmps31
    go_wp2_with fail
    go_end0
    exact ⟨rfl, rfl⟩
  | false =>
    cases is with
    | true =>
      go_enter_d Try.func31, Try.ntmps31
      go_wp2_with fail
      go_end0
      exact ⟨rfl, rfl⟩
    | false =>
      go_enter_d Try.func31, Try.ntmps31
      go_wp2_with fail
      go_end0
      exact ⟨rfl, rfl⟩
end Go.Proofs.Ytngpffmgkponfaa
