/- ideal.Map's Step, Allows, New, Token, Safe, Crash; a nil map. Conditions: map, request, answer lie in memory. -/
import Derived.Test.YtngpffmgkponfaaLoo
set_option linter.unusedVariables false
set_option linter.unusedSimpArgs false
namespace Go.Proofs.Ytngpffmgkponfaa
open Go.RowKit Go.Ice Go.Idl

theorem LookR.of {w W w' : World} {C : Nat → Prop} {mb kb : Nat} {Y : St} {F : List UInt8 → Option Value} {res : Option St} {undo : Bool} {e : Ending} (hmap : MapRep w C mb kb Y F) (hb : Below w.heap.size w W) (h : LookR W C mb kb Y res undo e w') : LookR w C mb kb Y res undo e w' := by
  obtain ⟨h1, h2, kb', F', h3, h4⟩ := h
  have hs := hb.size
  refine ⟨h1, (frm_below hb).trans h2, kb', F', h3.imp id (fun h => by omega), h4.mono (fun b hb' h => ⟨h.1.imp id (fun h => by omega), h.2⟩) ?_ (fun h => h.2.2 rfl)⟩
  rintro ⟨h | h, _⟩
  · exact hmap.cm h
  · have := blk_lt hmap.blk; omega

set_option maxHeartbeats 4000000 in
set_option maxRecDepth 20000 in
theorem step10 (w : World) (C : Nat → Prop) (mb kb : Nat) (q : Rq) (a : An) (now : Int) (r : Raw) (Y : St) (F : List UInt8 → Option Value) (hmap : MapRep w C mb kb Y F) (hkey : BytesIn w C (.slice r.ka q.key.length r.kc) q.key) (hval : BytesIn w C (.slice r.va q.val.length r.vc) q.val)
    (haval : BytesIn w C (.slice r.aa a.val.length r.ac) a.val) (hstats : StatsAt w C (.slice r.sa a.stats.length r.sc) a.stats) (hqok : Rq.ok q) (haok : An.ok a) (hnow : 0 ≤ now ∧ now ≤ 4294967295) (hcold : ∀ b, C b → b < w.heap.size) (hlen : (Y.now q.key).length ≤ 10000) (hqv : q.val.length ≤ 1000) (hh : q.here) :
    Calls Try.prog 10 #[.pointer (some ⟨mb, 0, none⟩), rqV q r.ka r.va r.kc r.vc, ansV a.st (.slice r.aa a.val.length r.ac) a.fl a.cas a.num (.slice r.sa a.stats.length r.sc) a.cl, .int .u32 now] w (LookR w C mb kb Y (lookF Y q a now) false) := by
  obtain ⟨QB, AB, W, HQ, HA, HW, HK, HZ⟩ := boxed2 w #[.int .i64 q.op, .bool q.quiet, .bool q.full, .int .i64 q.bad, .int .u32 q.opq, .slice r.ka q.key.length r.kc, .slice r.va q.val.length r.vc, .int .u32 q.fl, .int .u32 q.ex, .int .u64 q.cas, .int .u64 q.delta, .int .u64 q.ini] 35 #[.int .i64 a.st, .slice r.aa a.val.length r.ac, .int .u32 a.fl, .int .u64 a.cas, .int .u64 a.num, .slice r.sa a.stats.length r.sc, .bool a.cl] 38
  have hb := HK.out.below
  have hf := frm_below (T := fun _ => False) hb
  have hnf : ∀ b, C b → ¬ False := fun _ _ h => h
  have hl := look23 W C mb kb q a now r Y F false (hmap.below hb) (hkey.frm hf hnf) (hval.frm hf hnf) (haval.frm hf hnf) (hstats.frm hf hnf) hqok haok hnow (fun b h => Nat.lt_of_lt_of_le (hcold b h) hb.size) hlen hqv hh
  obtain ⟨res, hres⟩ : ∃ res, res = lookF Y q a now := ⟨_, rfl⟩
  rw [← hres] at hl ⊢
  unfold rqV ansV at hl ⊢
  obtain ⟨cc, hcc⟩ : ∃ cc, cc = res.isSome := ⟨_, rfl⟩
  have hl' := hl.mono (R' := fun e w' => e = .returned (.bool cc) ∧ Hid (LookR W C mb kb Y res false e w')) fun e w' h => ⟨by rw [hcc]; exact h.1, h⟩
  have HL := Lib.hid hl'
  have HM := Lib.hid hmap
  have q0 : W.cell? ⟨QB, 0, none⟩ = some (.int .i64 q.op) := blk_cell HK.out.b0 0
  have q1 : W.cell? ⟨QB, 1, none⟩ = some (.bool q.quiet) := blk_cell HK.out.b0 1
  have q2 : W.cell? ⟨QB, 2, none⟩ = some (.bool q.full) := blk_cell HK.out.b0 2
  have q3 : W.cell? ⟨QB, 3, none⟩ = some (.int .i64 q.bad) := blk_cell HK.out.b0 3
  have q4 : W.cell? ⟨QB, 4, none⟩ = some (.int .u32 q.opq) := blk_cell HK.out.b0 4
  have q5 : W.cell? ⟨QB, 5, none⟩ = some (.slice r.ka q.key.length r.kc) := blk_cell HK.out.b0 5
  have q6 : W.cell? ⟨QB, 6, none⟩ = some (.slice r.va q.val.length r.vc) := blk_cell HK.out.b0 6
  have q7 : W.cell? ⟨QB, 7, none⟩ = some (.int .u32 q.fl) := blk_cell HK.out.b0 7
  have q8 : W.cell? ⟨QB, 8, none⟩ = some (.int .u32 q.ex) := blk_cell HK.out.b0 8
  have q9 : W.cell? ⟨QB, 9, none⟩ = some (.int .u64 q.cas) := blk_cell HK.out.b0 9
  have q10 : W.cell? ⟨QB, 10, none⟩ = some (.int .u64 q.delta) := blk_cell HK.out.b0 10
  have q11 : W.cell? ⟨QB, 11, none⟩ = some (.int .u64 q.ini) := blk_cell HK.out.b0 11
  have a0 : W.cell? ⟨AB, 0, none⟩ = some (.int .i64 a.st) := blk_cell HK.out.b1 0
  have a1 : W.cell? ⟨AB, 1, none⟩ = some (.slice r.aa a.val.length r.ac) := blk_cell HK.out.b1 1
  have a2 : W.cell? ⟨AB, 2, none⟩ = some (.int .u32 a.fl) := blk_cell HK.out.b1 2
  have a3 : W.cell? ⟨AB, 3, none⟩ = some (.int .u64 a.cas) := blk_cell HK.out.b1 3
  have a4 : W.cell? ⟨AB, 4, none⟩ = some (.int .u64 a.num) := blk_cell HK.out.b1 4
  have a5 : W.cell? ⟨AB, 5, none⟩ = some (.slice r.sa a.stats.length r.sc) := blk_cell HK.out.b1 5
  have a6 : W.cell? ⟨AB, 6, none⟩ = some (.bool a.cl) := blk_cell HK.out.b1 6
  clear hmap hkey hval haval hstats hqok haok hnow hcold hlen hqv hh hl hl' hres hcc hb hf hnf
  go_enter Try.func10, Try.ntmps10
  go_upto_region 1 with fail
  rw [HA.out, HQ.out, HW.out]
  go_wp2_with fail
  refine HL.out.mono ?_
  rintro e w1 ⟨rfl, HD⟩
  clear q0 q1 q2 q3 q4 q5 q6 q7 q8 q9 q10 q11 a0 a1 a2 a3 a4 a5 a6
  go_wp2_with fail
  go_ret
  exact HD.out.of HM.out HK.out.below

set_option maxHeartbeats 4000000 in
set_option maxRecDepth 20000 in
theorem step10_nil (w : World) (q : Rq) (a : An) (now : Int) (r : Raw) :
    Calls Try.prog 10 #[.pointer none, rqV q r.ka r.va r.kc r.vc, ansV a.st (.slice r.aa a.val.length r.ac) a.fl a.cas a.num (.slice r.sa a.stats.length r.sc) a.cl, .int .u32 now] w (fun e w' => e = .returned (.bool false) ∧ Below w.heap.size w w') := by
  obtain ⟨QB, AB, W, HQ, HA, HW, HK, HZ⟩ := boxed2 w #[.int .i64 q.op, .bool q.quiet, .bool q.full, .int .i64 q.bad, .int .u32 q.opq, .slice r.ka q.key.length r.kc, .slice r.va q.val.length r.vc, .int .u32 q.fl, .int .u32 q.ex, .int .u64 q.cas, .int .u64 q.delta, .int .u64 q.ini] 35 #[.int .i64 a.st, .slice r.aa a.val.length r.ac, .int .u32 a.fl, .int .u64 a.cas, .int .u64 a.num, .slice r.sa a.stats.length r.sc, .bool a.cl] 38
  have hl := look_nil W q r.ka r.va r.aa r.sa r.kc r.vc r.ac r.sc a.st a.fl a.cas a.num now a.val.length a.stats.length a.cl false
  unfold rqV ansV at hl ⊢
  have HL := Lib.hid hl
  have q0 : W.cell? ⟨QB, 0, none⟩ = some (.int .i64 q.op) := blk_cell HK.out.b0 0
  have q1 : W.cell? ⟨QB, 1, none⟩ = some (.bool q.quiet) := blk_cell HK.out.b0 1
  have q2 : W.cell? ⟨QB, 2, none⟩ = some (.bool q.full) := blk_cell HK.out.b0 2
  have q3 : W.cell? ⟨QB, 3, none⟩ = some (.int .i64 q.bad) := blk_cell HK.out.b0 3
  have q4 : W.cell? ⟨QB, 4, none⟩ = some (.int .u32 q.opq) := blk_cell HK.out.b0 4
  have q5 : W.cell? ⟨QB, 5, none⟩ = some (.slice r.ka q.key.length r.kc) := blk_cell HK.out.b0 5
  have q6 : W.cell? ⟨QB, 6, none⟩ = some (.slice r.va q.val.length r.vc) := blk_cell HK.out.b0 6
  have q7 : W.cell? ⟨QB, 7, none⟩ = some (.int .u32 q.fl) := blk_cell HK.out.b0 7
  have q8 : W.cell? ⟨QB, 8, none⟩ = some (.int .u32 q.ex) := blk_cell HK.out.b0 8
  have q9 : W.cell? ⟨QB, 9, none⟩ = some (.int .u64 q.cas) := blk_cell HK.out.b0 9
  have q10 : W.cell? ⟨QB, 10, none⟩ = some (.int .u64 q.delta) := blk_cell HK.out.b0 10
  have q11 : W.cell? ⟨QB, 11, none⟩ = some (.int .u64 q.ini) := blk_cell HK.out.b0 11
  have a0 : W.cell? ⟨AB, 0, none⟩ = some (.int .i64 a.st) := blk_cell HK.out.b1 0
  have a1 : W.cell? ⟨AB, 1, none⟩ = some (.slice r.aa a.val.length r.ac) := blk_cell HK.out.b1 1
  have a2 : W.cell? ⟨AB, 2, none⟩ = some (.int .u32 a.fl) := blk_cell HK.out.b1 2
  have a3 : W.cell? ⟨AB, 3, none⟩ = some (.int .u64 a.cas) := blk_cell HK.out.b1 3
  have a4 : W.cell? ⟨AB, 4, none⟩ = some (.int .u64 a.num) := blk_cell HK.out.b1 4
  have a5 : W.cell? ⟨AB, 5, none⟩ = some (.slice r.sa a.stats.length r.sc) := blk_cell HK.out.b1 5
  have a6 : W.cell? ⟨AB, 6, none⟩ = some (.bool a.cl) := blk_cell HK.out.b1 6
  clear hl
  go_enter Try.func10, Try.ntmps10
  go_upto_region 1 with fail
  rw [HA.out, HQ.out, HW.out]
  go_wp2_with fail
  refine HL.out.mono ?_
  rintro e w1 ⟨rfl, hb1⟩
  have HD : Hid (Below w.heap.size w w1) := HK.out.below.trans (Below.mono hb1 HK.out.below.size)
  clear q0 q1 q2 q3 q4 q5 q6 q7 q8 q9 q10 q11 a0 a1 a2 a3 a4 a5 a6 hb1
  go_wp2_with fail
  go_ret
  exact ⟨rfl, HD.out⟩

set_option maxHeartbeats 4000000 in
set_option maxRecDepth 20000 in
theorem allows13 (w : World) (C : Nat → Prop) (mb kb : Nat) (q : Rq) (a : An) (now : Int) (r : Raw) (Y : St) (F : List UInt8 → Option Value) (hmap : MapRep w C mb kb Y F) (hkey : BytesIn w C (.slice r.ka q.key.length r.kc) q.key) (hval : BytesIn w C (.slice r.va q.val.length r.vc) q.val)
    (haval : BytesIn w C (.slice r.aa a.val.length r.ac) a.val) (hstats : StatsAt w C (.slice r.sa a.stats.length r.sc) a.stats) (hqok : Rq.ok q) (haok : An.ok a) (hnow : 0 ≤ now ∧ now ≤ 4294967295) (hcold : ∀ b, C b → b < w.heap.size) (hlen : (Y.now q.key).length ≤ 10000) (hqv : q.val.length ≤ 1000) (hh : q.here) :
    Calls Try.prog 13 #[.pointer (some ⟨mb, 0, none⟩), rqV q r.ka r.va r.kc r.vc, ansV a.st (.slice r.aa a.val.length r.ac) a.fl a.cas a.num (.slice r.sa a.stats.length r.sc) a.cl, .int .u32 now] w (LookR w C mb kb Y (lookF Y q a now) true) := by
  obtain ⟨QB, AB, W, HQ, HA, HW, HK, HZ⟩ := boxed2 w #[.int .i64 q.op, .bool q.quiet, .bool q.full, .int .i64 q.bad, .int .u32 q.opq, .slice r.ka q.key.length r.kc, .slice r.va q.val.length r.vc, .int .u32 q.fl, .int .u32 q.ex, .int .u64 q.cas, .int .u64 q.delta, .int .u64 q.ini] 35 #[.int .i64 a.st, .slice r.aa a.val.length r.ac, .int .u32 a.fl, .int .u64 a.cas, .int .u64 a.num, .slice r.sa a.stats.length r.sc, .bool a.cl] 38
  have hb := HK.out.below
  have hf := frm_below (T := fun _ => False) hb
  have hnf : ∀ b, C b → ¬ False := fun _ _ h => h
  have hl := look23 W C mb kb q a now r Y F true (hmap.below hb) (hkey.frm hf hnf) (hval.frm hf hnf) (haval.frm hf hnf) (hstats.frm hf hnf) hqok haok hnow (fun b h => Nat.lt_of_lt_of_le (hcold b h) hb.size) hlen hqv hh
  obtain ⟨res, hres⟩ : ∃ res, res = lookF Y q a now := ⟨_, rfl⟩
  rw [← hres] at hl ⊢
  unfold rqV ansV at hl ⊢
  obtain ⟨cc, hcc⟩ : ∃ cc, cc = res.isSome := ⟨_, rfl⟩
  have hl' := hl.mono (R' := fun e w' => e = .returned (.bool cc) ∧ Hid (LookR W C mb kb Y res true e w')) fun e w' h => ⟨by rw [hcc]; exact h.1, h⟩
  have HL := Lib.hid hl'
  have HM := Lib.hid hmap
  have q0 : W.cell? ⟨QB, 0, none⟩ = some (.int .i64 q.op) := blk_cell HK.out.b0 0
  have q1 : W.cell? ⟨QB, 1, none⟩ = some (.bool q.quiet) := blk_cell HK.out.b0 1
  have q2 : W.cell? ⟨QB, 2, none⟩ = some (.bool q.full) := blk_cell HK.out.b0 2
  have q3 : W.cell? ⟨QB, 3, none⟩ = some (.int .i64 q.bad) := blk_cell HK.out.b0 3
  have q4 : W.cell? ⟨QB, 4, none⟩ = some (.int .u32 q.opq) := blk_cell HK.out.b0 4
  have q5 : W.cell? ⟨QB, 5, none⟩ = some (.slice r.ka q.key.length r.kc) := blk_cell HK.out.b0 5
  have q6 : W.cell? ⟨QB, 6, none⟩ = some (.slice r.va q.val.length r.vc) := blk_cell HK.out.b0 6
  have q7 : W.cell? ⟨QB, 7, none⟩ = some (.int .u32 q.fl) := blk_cell HK.out.b0 7
  have q8 : W.cell? ⟨QB, 8, none⟩ = some (.int .u32 q.ex) := blk_cell HK.out.b0 8
  have q9 : W.cell? ⟨QB, 9, none⟩ = some (.int .u64 q.cas) := blk_cell HK.out.b0 9
  have q10 : W.cell? ⟨QB, 10, none⟩ = some (.int .u64 q.delta) := blk_cell HK.out.b0 10
  have q11 : W.cell? ⟨QB, 11, none⟩ = some (.int .u64 q.ini) := blk_cell HK.out.b0 11
  have a0 : W.cell? ⟨AB, 0, none⟩ = some (.int .i64 a.st) := blk_cell HK.out.b1 0
  have a1 : W.cell? ⟨AB, 1, none⟩ = some (.slice r.aa a.val.length r.ac) := blk_cell HK.out.b1 1
  have a2 : W.cell? ⟨AB, 2, none⟩ = some (.int .u32 a.fl) := blk_cell HK.out.b1 2
  have a3 : W.cell? ⟨AB, 3, none⟩ = some (.int .u64 a.cas) := blk_cell HK.out.b1 3
  have a4 : W.cell? ⟨AB, 4, none⟩ = some (.int .u64 a.num) := blk_cell HK.out.b1 4
  have a5 : W.cell? ⟨AB, 5, none⟩ = some (.slice r.sa a.stats.length r.sc) := blk_cell HK.out.b1 5
  have a6 : W.cell? ⟨AB, 6, none⟩ = some (.bool a.cl) := blk_cell HK.out.b1 6
  clear hmap hkey hval haval hstats hqok haok hnow hcold hlen hqv hh hl hl' hres hcc hb hf hnf
  go_enter Try.func13, Try.ntmps13
  go_upto_region 1 with fail
  rw [HA.out, HQ.out, HW.out]
  go_wp2_with fail
  refine HL.out.mono ?_
  rintro e w1 ⟨rfl, HD⟩
  clear q0 q1 q2 q3 q4 q5 q6 q7 q8 q9 q10 q11 a0 a1 a2 a3 a4 a5 a6
  go_wp2_with fail
  go_ret
  exact HD.out.of HM.out HK.out.below

set_option maxHeartbeats 4000000 in
set_option maxRecDepth 20000 in
theorem allows13_nil (w : World) (q : Rq) (a : An) (now : Int) (r : Raw) :
    Calls Try.prog 13 #[.pointer none, rqV q r.ka r.va r.kc r.vc, ansV a.st (.slice r.aa a.val.length r.ac) a.fl a.cas a.num (.slice r.sa a.stats.length r.sc) a.cl, .int .u32 now] w (fun e w' => e = .returned (.bool false) ∧ Below w.heap.size w w') := by
  obtain ⟨QB, AB, W, HQ, HA, HW, HK, HZ⟩ := boxed2 w #[.int .i64 q.op, .bool q.quiet, .bool q.full, .int .i64 q.bad, .int .u32 q.opq, .slice r.ka q.key.length r.kc, .slice r.va q.val.length r.vc, .int .u32 q.fl, .int .u32 q.ex, .int .u64 q.cas, .int .u64 q.delta, .int .u64 q.ini] 35 #[.int .i64 a.st, .slice r.aa a.val.length r.ac, .int .u32 a.fl, .int .u64 a.cas, .int .u64 a.num, .slice r.sa a.stats.length r.sc, .bool a.cl] 38
  have hl := look_nil W q r.ka r.va r.aa r.sa r.kc r.vc r.ac r.sc a.st a.fl a.cas a.num now a.val.length a.stats.length a.cl true
  unfold rqV ansV at hl ⊢
  have HL := Lib.hid hl
  have q0 : W.cell? ⟨QB, 0, none⟩ = some (.int .i64 q.op) := blk_cell HK.out.b0 0
  have q1 : W.cell? ⟨QB, 1, none⟩ = some (.bool q.quiet) := blk_cell HK.out.b0 1
  have q2 : W.cell? ⟨QB, 2, none⟩ = some (.bool q.full) := blk_cell HK.out.b0 2
  have q3 : W.cell? ⟨QB, 3, none⟩ = some (.int .i64 q.bad) := blk_cell HK.out.b0 3
  have q4 : W.cell? ⟨QB, 4, none⟩ = some (.int .u32 q.opq) := blk_cell HK.out.b0 4
  have q5 : W.cell? ⟨QB, 5, none⟩ = some (.slice r.ka q.key.length r.kc) := blk_cell HK.out.b0 5
  have q6 : W.cell? ⟨QB, 6, none⟩ = some (.slice r.va q.val.length r.vc) := blk_cell HK.out.b0 6
  have q7 : W.cell? ⟨QB, 7, none⟩ = some (.int .u32 q.fl) := blk_cell HK.out.b0 7
  have q8 : W.cell? ⟨QB, 8, none⟩ = some (.int .u32 q.ex) := blk_cell HK.out.b0 8
  have q9 : W.cell? ⟨QB, 9, none⟩ = some (.int .u64 q.cas) := blk_cell HK.out.b0 9
  have q10 : W.cell? ⟨QB, 10, none⟩ = some (.int .u64 q.delta) := blk_cell HK.out.b0 10
  have q11 : W.cell? ⟨QB, 11, none⟩ = some (.int .u64 q.ini) := blk_cell HK.out.b0 11
  have a0 : W.cell? ⟨AB, 0, none⟩ = some (.int .i64 a.st) := blk_cell HK.out.b1 0
  have a1 : W.cell? ⟨AB, 1, none⟩ = some (.slice r.aa a.val.length r.ac) := blk_cell HK.out.b1 1
  have a2 : W.cell? ⟨AB, 2, none⟩ = some (.int .u32 a.fl) := blk_cell HK.out.b1 2
  have a3 : W.cell? ⟨AB, 3, none⟩ = some (.int .u64 a.cas) := blk_cell HK.out.b1 3
  have a4 : W.cell? ⟨AB, 4, none⟩ = some (.int .u64 a.num) := blk_cell HK.out.b1 4
  have a5 : W.cell? ⟨AB, 5, none⟩ = some (.slice r.sa a.stats.length r.sc) := blk_cell HK.out.b1 5
  have a6 : W.cell? ⟨AB, 6, none⟩ = some (.bool a.cl) := blk_cell HK.out.b1 6
  clear hl
  go_enter Try.func13, Try.ntmps13
  go_upto_region 1 with fail
  rw [HA.out, HQ.out, HW.out]
  go_wp2_with fail
  refine HL.out.mono ?_
  rintro e w1 ⟨rfl, hb1⟩
  have HD : Hid (Below w.heap.size w w1) := HK.out.below.trans (Below.mono hb1 HK.out.below.size)
  clear q0 q1 q2 q3 q4 q5 q6 q7 q8 q9 q10 q11 a0 a1 a2 a3 a4 a5 a6 hb1
  go_wp2_with fail
  go_ret
  exact ⟨rfl, HD.out⟩

set_option maxHeartbeats 4000000 in
theorem new7 (w : World) (C : Nat → Prop) (hC : ∀ b, C b → b < w.heap.size) : Calls Try.prog 7 #[] w fun e w' => ∃ mb kb, e = .returned (.pointer (some ⟨mb, 0, none⟩)) ∧ w.heap.size ≤ mb ∧ w.heap.size ≤ kb ∧ MapRep w' C mb kb ⟨fun _ => [], fun _ => [], 0⟩ (fun _ => none) ∧ Below w.heap.size w w' := by
  have hmm := @run_makeMap Try.prog
  go_enter Try.func7, Try.ntmps7
  go_wp2
  go_ret
  have hb : Below w.heap.size w ((w.alloc (.map #[] 0)).alloc (.cells #[.map (some w.heap.size), .int .u64 0] 61)) := ((Below.refl _ w).alloc (Nat.le_refl _) _).alloc (by simp) _
  have hm : MapAt strV ((w.alloc (.map #[] 0)).alloc (.cells #[.map (some w.heap.size), .int .u64 0] 61)) w.heap.size (fun _ => none) := (mapAt_new strV w).below ((Below.refl _ _).alloc (Nat.le_refl _) _) (Nat.le_refl _)
  have hh := heap_alloc_new (w.alloc (.map #[] 0)) (.cells #[.map (some w.heap.size), .int .u64 0] 61)
  rw [World.size_alloc] at hh
  exact ⟨w.heap.size + 1, w.heap.size, rfl, by omega, Nat.le_refl _, ⟨hh, hm, fun k => ⟨_, _, _, _, _, _, rfl, VersAt.nil _ _, VersAt.nil _ _⟩, ⟨Int.le_refl _, by show (0 : Int) ≤ _; omega⟩, fun h => by have := hC _ h; omega, fun h => by have := hC _ h; omega, by omega⟩, hb⟩
theorem token14 (w : World) (mb : Nat) (t : Int) (h : w.cell? ⟨mb, 1, none⟩ = some (.int .u64 t)) : Calls Try.prog 14 #[.pointer (some ⟨mb, 0, none⟩)] w fun e w' => e = .returned (.int .u64 t) ∧ w' = w := by
  go_enter Try.func14, Try.ntmps14
  go_wp2_with fail
  go_ret
  exact ⟨rfl, rfl⟩
theorem token_nil (w : World) : Calls Try.prog 14 #[.pointer none] w fun e w' => e = .returned (.int .u64 0) ∧ w' = w := by
  go_enter Try.func14, Try.ntmps14
  go_wp2_with fail
  go_ret
  exact ⟨rfl, rfl⟩
theorem crash_nil (w : World) : Calls Try.prog 15 #[.pointer none] w fun e w' => e = .returned (.int .i64 1) ∧ w' = w := by
  go_enter Try.func15, Try.ntmps15
  go_wp2_with fail
  go_ret
  exact ⟨rfl, rfl⟩
theorem safe_nil (w : World) (v : Value) : Calls Try.prog 17 #[.pointer none, v] w fun e w' => e = .returned (.slice none 0 0) ∧ w' = w := by
  go_enter Try.func17, Try.ntmps17
  go_wp2_with fail
  go_ret
  exact ⟨rfl, rfl⟩
theorem now_nil (w : World) (v : Value) : Calls Try.prog 19 #[.pointer none, v] w fun e w' => e = .returned (.slice none 0 0) ∧ w' = w := by
  go_enter Try.func19, Try.ntmps19
  go_wp2_with fail
  go_ret
  exact ⟨rfl, rfl⟩
theorem copy_nil (w : World) : Calls Try.prog 20 #[.pointer none] w fun e w' => e = .returned (.pointer none) ∧ w' = w := by
  go_enter Try.func20, Try.ntmps20
  go_wp2_with fail
  go_ret
  exact ⟨rfl, rfl⟩
end Go.Proofs.Ytngpffmgkponfaa
