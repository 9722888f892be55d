/- ideal.step.fits, missed; ideal.refused. Conditions: the step lies in memory. -/
import Derived.Test.YtngpffmgkponfaaEch
set_option linter.unusedVariables false
set_option linter.unusedSimpArgs false
namespace Go.Idl
def fitsB (q : Rq) (t : Tv) : Bool := q.cas == 0 || t.cas == q.cas
/-- Does an answer say that there is no such key? -/
def missedB (q : Rq) (st : Int) : Bool :=
  if q.op = 0 ∨ q.op = 28 ∨ q.op = 29 ∨ q.op = 3 ∨ q.op = 4 then st == 1
  else if q.op = 1 then st == 1 && q.cas != 0
  else if q.op = 5 ∨ q.op = 6 then st == 1 && q.ex == 4294967295
  else if q.op = 14 ∨ q.op = 15 then st == 5
  else false
def keyedB (op : Int) : Bool := op == 0 || op == 4 || op == 5 || op == 6 || op == 28 || op == 29
def valuedB (op : Int) : Bool := op == 1 || op == 2 || op == 3 || op == 14 || op == 15
def plainB (op : Int) : Bool := op == 7 || op == 8 || op == 10 || op == 11 || op == 16 || op == 64
/-- Why a request is refused ahead of all else. -/
def refusedF (q : Rq) : Int :=
  if keyedB q.op = false ∧ valuedB q.op = false ∧ plainB q.op = false then orI q.bad 129
  else if q.bad ≠ 0 then q.bad
  else if (keyedB q.op = true ∨ valuedB q.op = true) ∧ (q.key.length < 1 ∨ 250 < q.key.length) then 4
  else if valuedB q.op = true ∧ 512 < q.val.length then 3
  else 0
end Go.Idl
namespace Go.Proofs.Ytngpffmgkponfaa
open Go.RowKit Go.Ice Go.Idl

set_option maxHeartbeats 4000000 in
set_option maxRecDepth 20000 in
theorem fits63 (w : World) (C : Nat → Prop) (sb mb kb : Nat) (q : Rq) (a : An) (now : Int) (r : Raw) (hs : List Tv) (Y : St) (F : List UInt8 → Option Value) (h : SW w C sb mb kb q a now r hs Y F) (x : Value) (t : Tv) (hx : ∃ a n c, x = .slice a n c) :
    Calls Try.prog 63 #[.pointer (some ⟨sb, 0, none⟩), tvV x t] w fun e w' => e = .returned (.bool (fitsB q t)) ∧ Below w.heap.size w w' := by
  have q10 : w.cell? ⟨sb, 10, none⟩ = some (.int .u64 q.cas) := h.cell 10
  obtain ⟨xa, xn, xc, rfl⟩ := hx
  obtain ⟨rr, hr⟩ : ∃ rr, rr = fitsB q t := ⟨_, rfl⟩
  rw [← hr]
  have HR := Lib.hid hr
  clear h hr
  unfold tvV
  obtain ⟨B, W, HB, HW, HK, HZ⟩ := boxed1 w #[.slice xa xn xc, .int .u32 t.fl, .int .u32 t.ex, .int .u64 t.cas] 49
  have b3 : W.cell? ⟨B, 3, none⟩ = some (.int .u64 t.cas) := blk_cell HK.out.b0 3
  have q10' := cellB HK.out.below q10
  by_cases h0 : q.cas = 0
  · have hd : (q.cas == 0) = true := by simp [h0]
    have HX : Hid (rr = true) := by show _ = _; rw [HR.out]; unfold fitsB; rw [hd]; rfl
    clear h0
    go_enter Try.func63, Try.ntmps63
    go_upto_region 1 with fail
    rw [HB.out, HW.out]
    clear q10
    go_quiet (fail)
    go_wp2_with fail
    go_ret
    exact ⟨by rw [HX.out]; rfl, HK.out.below.trans ((drewN_below W nq).mono HK.out.below.size)⟩
  · have hd : (q.cas == 0) = false := by simp [h0]
    obtain ⟨bb, hbb⟩ : ∃ bb, bb = (t.cas == q.cas) := ⟨_, rfl⟩
    have HX : Hid (rr = bb) := by show _ = _; rw [HR.out]; unfold fitsB; rw [hd, hbb]; rfl
    have hbb' := hbb.symm
    clear h0 hbb
    go_enter Try.func63, Try.ntmps63
    go_upto_region 1 with fail
    rw [HB.out, HW.out]
    clear q10
    go_quiet (fail)
    go_wp2_with fail
    go_ret
    exact ⟨by rw [HX.out]; rfl, HK.out.below.trans ((drewN_below W nq).mono HK.out.below.size)⟩

set_option maxHeartbeats 4000000 in
set_option maxRecDepth 20000 in
theorem missed59 (w : World) (C : Nat → Prop) (sb mb kb : Nat) (q : Rq) (a : An) (now : Int) (r : Raw) (hs : List Tv) (Y : St) (F : List UInt8 → Option Value) (h : SW w C sb mb kb q a now r hs Y F) :
    Calls Try.prog 59 #[.pointer (some ⟨sb, 0, none⟩)] w fun e w' => e = .returned (.bool (missedB q a.st)) ∧ w' = w := by
  have q1 : w.cell? ⟨sb, 1, none⟩ = some (.int .i64 q.op) := h.cell 1
  have q9 : w.cell? ⟨sb, 9, none⟩ = some (.int .u32 q.ex) := h.cell 9
  have q10 : w.cell? ⟨sb, 10, none⟩ = some (.int .u64 q.cas) := h.cell 10
  have q13 : w.cell? ⟨sb, 13, none⟩ = some (.int .i64 a.st) := h.cell 13
  obtain ⟨rr, hr⟩ : ∃ rr, rr = missedB q a.st := ⟨_, rfl⟩
  rw [← hr]
  have HR := Lib.hid hr
  clear h hr
  go_enter Try.func59, Try.ntmps59
  go_wp2
  all_goals
    go_ret
    refine ⟨ret_bool ?_, rfl⟩
    rw [HR.out]
    simp only [beq_iff_eq, beq_eq_false_iff_ne, ne_eq] at *
    simp [missedB, *]

end Go.Proofs.Ytngpffmgkponfaa
