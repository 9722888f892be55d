/- The walk of the law IdealNone. No condition. -/
import Derived.Test.YtngpffmgkponfaaWak
import Derived.Test.YtngpffmgkponfaaSai
set_option linter.unusedVariables false
set_option linter.unusedSimpArgs false
namespace Go.Proofs.Ytngpffmgkponfaa
open Go.RowKit Go.Ice Go.Idl

set_option maxHeartbeats 8000000 in
set_option maxRecDepth 20000 in
theorem idealNone5 (s : Sd) (r : Raw) (w : World) : Calls Try.prog 5 #[.agg (sdC s r).toArray] w fun e w' => e = .returned (.bool true) ∧ Below w.heap.size w w' := by
  show Calls Try.prog 5 #[.agg #[.int .i64 s.q.op, .bool s.q.quiet, .bool s.q.full, .int .i64 s.q.bad, .int .u32 s.q.opq, .slice r.ka s.q.key.length r.kc, .slice r.va s.q.val.length r.vc, .int .u32 s.q.fl, .int .u32 s.q.ex, .int .u64 s.q.cas, .int .u64 s.q.delta, .int .u64 s.q.ini, .int .i64 s.a.st, .slice r.aa s.a.val.length r.ac, .int .u32 s.a.fl, .int .u64 s.a.cas, .int .u64 s.a.num, .slice r.sa s.a.stats.length r.sc, .bool s.a.cl, .int .u32 s.later, .bool s.crash, .int .i64 s.fit]] w _
  obtain ⟨B, W, HB, HW, HK, HZ⟩ := boxed1 w #[.int .i64 s.q.op, .bool s.q.quiet, .bool s.q.full, .int .i64 s.q.bad, .int .u32 s.q.opq, .slice r.ka s.q.key.length r.kc, .slice r.va s.q.val.length r.vc, .int .u32 s.q.fl, .int .u32 s.q.ex, .int .u64 s.q.cas, .int .u64 s.q.delta, .int .u64 s.q.ini, .int .i64 s.a.st, .slice r.aa s.a.val.length r.ac, .int .u32 s.a.fl, .int .u64 s.a.cas, .int .u64 s.a.num, .slice r.sa s.a.stats.length r.sc, .bool s.a.cl, .int .u32 s.later, .bool s.crash, .int .i64 s.fit] 40
  have HWK := Lib.hid (wakes6 W)
  have HAL := Lib.hid (fun W1 : World => allows13_nil W1 s.q s.a s.later r)
  have HST := Lib.hid (fun W1 : World => step10_nil W1 s.q s.a s.later r)
  unfold rqV ansV at HAL HST
  go_enter Try.func5, Try.ntmps5
  go_wp2_with fail
  rw [HB.out, HW.out]
  refine HWK.out.mono ?_
  rintro e w1 ⟨rfl, hb⟩
  have HB1 : Hid (Below w.heap.size w w1) := HK.out.below.trans (hb.mono HK.out.below.size)
  have HK1 : Hid (w1.heap[B]? = some (.cells #[.int .i64 s.q.op, .bool s.q.quiet, .bool s.q.full, .int .i64 s.q.bad, .int .u32 s.q.opq, .slice r.ka s.q.key.length r.kc, .slice r.va s.q.val.length r.vc, .int .u32 s.q.fl, .int .u32 s.q.ex, .int .u64 s.q.cas, .int .u64 s.q.delta, .int .u64 s.q.ini, .int .i64 s.a.st, .slice r.aa s.a.val.length r.ac, .int .u32 s.a.fl, .int .u64 s.a.cas, .int .u64 s.a.num, .slice r.sa s.a.stats.length r.sc, .bool s.a.cl, .int .u32 s.later, .bool s.crash, .int .i64 s.fit] 40 (0, 0))) := (hb.block B (blk_lt HK.out.b0)).trans HK.out.b0
  clear hb
  have c0 : w1.cell? ⟨B, 0, none⟩ = some (.int .i64 s.q.op) := blk_cell HK1.out 0
  have c1 : w1.cell? ⟨B, 1, none⟩ = some (.bool s.q.quiet) := blk_cell HK1.out 1
  have c2 : w1.cell? ⟨B, 2, none⟩ = some (.bool s.q.full) := blk_cell HK1.out 2
  have c3 : w1.cell? ⟨B, 3, none⟩ = some (.int .i64 s.q.bad) := blk_cell HK1.out 3
  have c4 : w1.cell? ⟨B, 4, none⟩ = some (.int .u32 s.q.opq) := blk_cell HK1.out 4
  have c5 : w1.cell? ⟨B, 5, none⟩ = some (.slice r.ka s.q.key.length r.kc) := blk_cell HK1.out 5
  have c6 : w1.cell? ⟨B, 6, none⟩ = some (.slice r.va s.q.val.length r.vc) := blk_cell HK1.out 6
  have c7 : w1.cell? ⟨B, 7, none⟩ = some (.int .u32 s.q.fl) := blk_cell HK1.out 7
  have c8 : w1.cell? ⟨B, 8, none⟩ = some (.int .u32 s.q.ex) := blk_cell HK1.out 8
  have c9 : w1.cell? ⟨B, 9, none⟩ = some (.int .u64 s.q.cas) := blk_cell HK1.out 9
  have c10 : w1.cell? ⟨B, 10, none⟩ = some (.int .u64 s.q.delta) := blk_cell HK1.out 10
  have c11 : w1.cell? ⟨B, 11, none⟩ = some (.int .u64 s.q.ini) := blk_cell HK1.out 11
  have c12 : w1.cell? ⟨B, 12, none⟩ = some (.int .i64 s.a.st) := blk_cell HK1.out 12
  have c13 : w1.cell? ⟨B, 13, none⟩ = some (.slice r.aa s.a.val.length r.ac) := blk_cell HK1.out 13
  have c14 : w1.cell? ⟨B, 14, none⟩ = some (.int .u32 s.a.fl) := blk_cell HK1.out 14
  have c15 : w1.cell? ⟨B, 15, none⟩ = some (.int .u64 s.a.cas) := blk_cell HK1.out 15
  have c16 : w1.cell? ⟨B, 16, none⟩ = some (.int .u64 s.a.num) := blk_cell HK1.out 16
  have c17 : w1.cell? ⟨B, 17, none⟩ = some (.slice r.sa s.a.stats.length r.sc) := blk_cell HK1.out 17
  have c18 : w1.cell? ⟨B, 18, none⟩ = some (.bool s.a.cl) := blk_cell HK1.out 18
  have c19 : w1.cell? ⟨B, 19, none⟩ = some (.int .u32 s.later) := blk_cell HK1.out 19
  have c20 : w1.cell? ⟨B, 20, none⟩ = some (.bool s.crash) := blk_cell HK1.out 20
  have c21 : w1.cell? ⟨B, 21, none⟩ = some (.int .i64 s.fit) := blk_cell HK1.out 21
  go_wp2_with fail
  refine (HAL.out _).mono ?_
  rintro e w2 ⟨rfl, hb⟩
  have HB2 : Hid (Below w.heap.size w w2) := HB1.out.trans (Below.mono hb HB1.out.size)
  have HK2 : Hid (w2.heap[B]? = some (.cells #[.int .i64 s.q.op, .bool s.q.quiet, .bool s.q.full, .int .i64 s.q.bad, .int .u32 s.q.opq, .slice r.ka s.q.key.length r.kc, .slice r.va s.q.val.length r.vc, .int .u32 s.q.fl, .int .u32 s.q.ex, .int .u64 s.q.cas, .int .u64 s.q.delta, .int .u64 s.q.ini, .int .i64 s.a.st, .slice r.aa s.a.val.length r.ac, .int .u32 s.a.fl, .int .u64 s.a.cas, .int .u64 s.a.num, .slice r.sa s.a.stats.length r.sc, .bool s.a.cl, .int .u32 s.later, .bool s.crash, .int .i64 s.fit] 40 (0, 0))) := (Below.block hb B (blk_lt HK1.out)).trans HK1.out
  clear hb
  clear c0 c1 c2 c3 c4 c5 c6 c7 c8 c9 c10 c11 c12 c13 c14 c15 c16 c17 c18 c19 c20 c21
  have c0 : w2.cell? ⟨B, 0, none⟩ = some (.int .i64 s.q.op) := blk_cell HK2.out 0
  have c1 : w2.cell? ⟨B, 1, none⟩ = some (.bool s.q.quiet) := blk_cell HK2.out 1
  have c2 : w2.cell? ⟨B, 2, none⟩ = some (.bool s.q.full) := blk_cell HK2.out 2
  have c3 : w2.cell? ⟨B, 3, none⟩ = some (.int .i64 s.q.bad) := blk_cell HK2.out 3
  have c4 : w2.cell? ⟨B, 4, none⟩ = some (.int .u32 s.q.opq) := blk_cell HK2.out 4
  have c5 : w2.cell? ⟨B, 5, none⟩ = some (.slice r.ka s.q.key.length r.kc) := blk_cell HK2.out 5
  have c6 : w2.cell? ⟨B, 6, none⟩ = some (.slice r.va s.q.val.length r.vc) := blk_cell HK2.out 6
  have c7 : w2.cell? ⟨B, 7, none⟩ = some (.int .u32 s.q.fl) := blk_cell HK2.out 7
  have c8 : w2.cell? ⟨B, 8, none⟩ = some (.int .u32 s.q.ex) := blk_cell HK2.out 8
  have c9 : w2.cell? ⟨B, 9, none⟩ = some (.int .u64 s.q.cas) := blk_cell HK2.out 9
  have c10 : w2.cell? ⟨B, 10, none⟩ = some (.int .u64 s.q.delta) := blk_cell HK2.out 10
  have c11 : w2.cell? ⟨B, 11, none⟩ = some (.int .u64 s.q.ini) := blk_cell HK2.out 11
  have c12 : w2.cell? ⟨B, 12, none⟩ = some (.int .i64 s.a.st) := blk_cell HK2.out 12
  have c13 : w2.cell? ⟨B, 13, none⟩ = some (.slice r.aa s.a.val.length r.ac) := blk_cell HK2.out 13
  have c14 : w2.cell? ⟨B, 14, none⟩ = some (.int .u32 s.a.fl) := blk_cell HK2.out 14
  have c15 : w2.cell? ⟨B, 15, none⟩ = some (.int .u64 s.a.cas) := blk_cell HK2.out 15
  have c16 : w2.cell? ⟨B, 16, none⟩ = some (.int .u64 s.a.num) := blk_cell HK2.out 16
  have c17 : w2.cell? ⟨B, 17, none⟩ = some (.slice r.sa s.a.stats.length r.sc) := blk_cell HK2.out 17
  have c18 : w2.cell? ⟨B, 18, none⟩ = some (.bool s.a.cl) := blk_cell HK2.out 18
  have c19 : w2.cell? ⟨B, 19, none⟩ = some (.int .u32 s.later) := blk_cell HK2.out 19
  have c20 : w2.cell? ⟨B, 20, none⟩ = some (.bool s.crash) := blk_cell HK2.out 20
  have c21 : w2.cell? ⟨B, 21, none⟩ = some (.int .i64 s.fit) := blk_cell HK2.out 21
  go_wp2_with fail
  refine (HST.out _).mono ?_
  rintro e w3 ⟨rfl, hb⟩
  have HB3 : Hid (Below w.heap.size w w3) := HB2.out.trans (Below.mono hb HB2.out.size)
  have HK3 : Hid (w3.heap[B]? = some (.cells #[.int .i64 s.q.op, .bool s.q.quiet, .bool s.q.full, .int .i64 s.q.bad, .int .u32 s.q.opq, .slice r.ka s.q.key.length r.kc, .slice r.va s.q.val.length r.vc, .int .u32 s.q.fl, .int .u32 s.q.ex, .int .u64 s.q.cas, .int .u64 s.q.delta, .int .u64 s.q.ini, .int .i64 s.a.st, .slice r.aa s.a.val.length r.ac, .int .u32 s.a.fl, .int .u64 s.a.cas, .int .u64 s.a.num, .slice r.sa s.a.stats.length r.sc, .bool s.a.cl, .int .u32 s.later, .bool s.crash, .int .i64 s.fit] 40 (0, 0))) := (Below.block hb B (blk_lt HK2.out)).trans HK2.out
  clear hb
  clear c0 c1 c2 c3 c4 c5 c6 c7 c8 c9 c10 c11 c12 c13 c14 c15 c16 c17 c18 c19 c20 c21
  have c0 : w3.cell? ⟨B, 0, none⟩ = some (.int .i64 s.q.op) := blk_cell HK3.out 0
  have c1 : w3.cell? ⟨B, 1, none⟩ = some (.bool s.q.quiet) := blk_cell HK3.out 1
  have c2 : w3.cell? ⟨B, 2, none⟩ = some (.bool s.q.full) := blk_cell HK3.out 2
  have c3 : w3.cell? ⟨B, 3, none⟩ = some (.int .i64 s.q.bad) := blk_cell HK3.out 3
  have c4 : w3.cell? ⟨B, 4, none⟩ = some (.int .u32 s.q.opq) := blk_cell HK3.out 4
  have c5 : w3.cell? ⟨B, 5, none⟩ = some (.slice r.ka s.q.key.length r.kc) := blk_cell HK3.out 5
  have c6 : w3.cell? ⟨B, 6, none⟩ = some (.slice r.va s.q.val.length r.vc) := blk_cell HK3.out 6
  have c7 : w3.cell? ⟨B, 7, none⟩ = some (.int .u32 s.q.fl) := blk_cell HK3.out 7
  have c8 : w3.cell? ⟨B, 8, none⟩ = some (.int .u32 s.q.ex) := blk_cell HK3.out 8
  have c9 : w3.cell? ⟨B, 9, none⟩ = some (.int .u64 s.q.cas) := blk_cell HK3.out 9
  have c10 : w3.cell? ⟨B, 10, none⟩ = some (.int .u64 s.q.delta) := blk_cell HK3.out 10
  have c11 : w3.cell? ⟨B, 11, none⟩ = some (.int .u64 s.q.ini) := blk_cell HK3.out 11
  have c12 : w3.cell? ⟨B, 12, none⟩ = some (.int .i64 s.a.st) := blk_cell HK3.out 12
  have c13 : w3.cell? ⟨B, 13, none⟩ = some (.slice r.aa s.a.val.length r.ac) := blk_cell HK3.out 13
  have c14 : w3.cell? ⟨B, 14, none⟩ = some (.int .u32 s.a.fl) := blk_cell HK3.out 14
  have c15 : w3.cell? ⟨B, 15, none⟩ = some (.int .u64 s.a.cas) := blk_cell HK3.out 15
  have c16 : w3.cell? ⟨B, 16, none⟩ = some (.int .u64 s.a.num) := blk_cell HK3.out 16
  have c17 : w3.cell? ⟨B, 17, none⟩ = some (.slice r.sa s.a.stats.length r.sc) := blk_cell HK3.out 17
  have c18 : w3.cell? ⟨B, 18, none⟩ = some (.bool s.a.cl) := blk_cell HK3.out 18
  have c19 : w3.cell? ⟨B, 19, none⟩ = some (.int .u32 s.later) := blk_cell HK3.out 19
  have c20 : w3.cell? ⟨B, 20, none⟩ = some (.bool s.crash) := blk_cell HK3.out 20
  have c21 : w3.cell? ⟨B, 21, none⟩ = some (.int .i64 s.fit) := blk_cell HK3.out 21
  go_wp2_with fail
  refine (crash_nil _).mono ?_
  rintro e w4 ⟨rfl, rfl⟩
  go_wp2_with fail
  refine (now_nil _ _).mono ?_
  rintro e w5 ⟨rfl, rfl⟩
  go_wp2_with fail
  refine (safe_nil _ _).mono ?_
  rintro e w6 ⟨rfl, rfl⟩
  go_wp2_with fail
  refine (token_nil _).mono ?_
  rintro e w7 ⟨rfl, rfl⟩
  go_wp2_with fail
  refine (copy_nil _).mono ?_
  rintro e w8 ⟨rfl, rfl⟩
  go_wp2_with fail
  go_ret
  exact ⟨rfl, HB3.out⟩
end Go.Proofs.Ytngpffmgkponfaa
namespace Go.Proofs.Ytngpffmgkponfaa.idealNoneW
open Go.ChangeShapes Go.WideShapes Go.RowKit Go.Ice Go.Idl
set_option maxRecDepth 100000 in
theorem walk {H : Type} {enc : TypeId × Value → H} {base : Nat} {spare : Nat → Bool} {held : Bool} {b0 : Nat} {dd : DataW H} {ps : List MemPlace} {r : Reach} (v : Value) (w : World) (hv : Value.okWide Try.prog w r b0 40 v) (h : DataW.Trod enc Try.prog w base spare held 40 v dd ps) :
    Calls Try.prog 5 #[v] w fun e w' => e = .returned (.bool true) ∧ Below w.heap.size w w' := by
  obtain ⟨s, r', rfl, _⟩ := open_said hv h
  exact idealNone5 s r' w
end Go.Proofs.Ytngpffmgkponfaa.idealNoneW
