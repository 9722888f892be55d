/- The law's keyed. No condition. -/
import Derived.Test.YtngpffmgkponfaaLpl
set_option linter.unusedVariables false
set_option linter.unusedSimpArgs false
namespace Go.Proofs.Ytngpffmgkponfaa
open Go.RowKit Go.Ice Go.Idl
set_option maxHeartbeats 4000000 in
set_option maxRecDepth 20000 in
theorem keyed11 (w : World) (q : Rq) (ka va : Option Addr) (kc vc : Nat) : Calls Try.prog 11 #[rqV q ka va kc vc] w fun e w' => e = .returned (.bool q.keyedOk) ∧ Below w.heap.size w w' := by
  obtain ⟨rr, hr⟩ : ∃ rr, rr = q.keyedOk := ⟨_, rfl⟩
  rw [← hr]
  have HR := Lib.hid hr
  clear hr
  unfold rqV
  obtain ⟨B, W, HB, HW, HK, HZ⟩ := boxed1 w #[.int .i64 q.op, .bool q.quiet, .bool q.full, .int .i64 q.bad, .int .u32 q.opq, .slice ka q.key.length kc, .slice va q.val.length vc, .int .u32 q.fl, .int .u32 q.ex, .int .u64 q.cas, .int .u64 q.delta, .int .u64 q.ini] 35
  have b0 : W.cell? ⟨B, 0, none⟩ = some (.int .i64 q.op) := blk_cell HK.out.b0 0
  have b3 : W.cell? ⟨B, 3, none⟩ = some (.int .i64 q.bad) := blk_cell HK.out.b0 3
  have b5 : W.cell? ⟨B, 5, none⟩ = some (.slice ka q.key.length kc) := blk_cell HK.out.b0 5
  have b6 : W.cell? ⟨B, 6, none⟩ = some (.slice va q.val.length vc) := blk_cell HK.out.b0 6
  go_enter Try.func11, Try.ntmps11
  go_upto_region 1 with fail
  rw [HB.out, HW.out]
  go_wp2_with fail
  all_goals
    (go_ret
     refine ⟨ret_bool ?_, HK.out.below⟩
     rw [HR.out]
     clear HR HK HB HW HZ b0 b3 b5 b6
     simp only [beq_iff_eq, beq_eq_false_iff_ne, ne_eq, bne_iff_ne, bne_eq_false_iff_eq, decide_eq_true_eq, decide_eq_false_iff_not] at *
     unfold Rq.keyedOk keyedB valuedB
     first
       | (simp [*]; done)
       | (simp [*]; omega)
       | (simp [*] <;> grind)
       | grind)
end Go.Proofs.Ytngpffmgkponfaa
