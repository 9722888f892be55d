/- ideal.step.take: what it leaves. Conditions: the step lies in memory; a request with a key, or a flush. -/
import Derived.Test.YtngpffmgkponfaaSce
import Derived.Test.YtngpffmgkponfaaOth
set_option linter.unusedVariables false
set_option linter.unusedSimpArgs false
namespace Go.Idl
open Go.Proofs.Ytngpffmgkponfaa
def takeF (Y : St) (q : Rq) (a : An) (now : Int) (hs : List Tv) : Option St :=
  if refusedF q ≠ 0 then (if a.st = refusedF q ∧ anBare a = true then some Y else none)
  else if a.st = 132 then (if anBare a = true then some Y else none)
  else if q.op = 8 then flushF Y q a
  else if a.st ≠ 0 then refusesF Y q a hs
  else succF Y q a now hs
/-- A request that may come to take here. -/
def Rq.here (q : Rq) : Prop := q.op ≠ 10 ∧ q.op ≠ 11 ∧ q.op ≠ 16 ∧ q.op ≠ 7 ∧ q.op ≠ 64
end Go.Idl
namespace Go.Proofs.Ytngpffmgkponfaa
open Go.RowKit Go.Ice Go.Idl
set_option maxHeartbeats 8000000 in
set_option maxRecDepth 20000 in
theorem take32 (w : World) (C : Nat → Prop) (sb mb kb : Nat) (q : Rq) (a : An) (now : Int) (r : Raw) (hs : List Tv) (Y : St) (F : List UInt8 → Option Value) (h : SW w C sb mb kb q a now r hs Y F) (hm : hs.length ≤ 10000) (hqv : q.val.length ≤ 1000) (hh : q.here) :
    Calls Try.prog 32 #[.pointer (some ⟨sb, 0, none⟩)] w (TakeR w C sb mb kb (takeF Y q a now hs)) := by
  obtain ⟨res, hres⟩ : ∃ res, res = takeF Y q a now hs := ⟨_, rfl⟩
  rw [← hres]
  have HRES := Lib.hid hres
  clear hres
  have H := Lib.hid h
  have HM := Lib.hid hm
  have HQV := Lib.hid hqv
  have hrf := refused42 w q r.ka r.va r.kc r.vc
  unfold rqV at hrf
  obtain ⟨rf, hr⟩ : ∃ rf, rf = refusedF q := ⟨_, rfl⟩
  rw [← hr] at hrf
  have HR := Lib.hid hr
  have HRF := Lib.hid hrf
  have q1 : w.cell? ⟨sb, 1, none⟩ = some (.int .i64 q.op) := h.cell 1
  have q2 : w.cell? ⟨sb, 2, none⟩ = some (.bool q.quiet) := h.cell 2
  have q3 : w.cell? ⟨sb, 3, none⟩ = some (.bool q.full) := h.cell 3
  have q4 : w.cell? ⟨sb, 4, none⟩ = some (.int .i64 q.bad) := h.cell 4
  have q5 : w.cell? ⟨sb, 5, none⟩ = some (.int .u32 q.opq) := h.cell 5
  have q6 : w.cell? ⟨sb, 6, none⟩ = some (.slice r.ka q.key.length r.kc) := h.cell 6
  have q7 : w.cell? ⟨sb, 7, none⟩ = some (.slice r.va q.val.length r.vc) := h.cell 7
  have q8 : w.cell? ⟨sb, 8, none⟩ = some (.int .u32 q.fl) := h.cell 8
  have q9 : w.cell? ⟨sb, 9, none⟩ = some (.int .u32 q.ex) := h.cell 9
  have q10 : w.cell? ⟨sb, 10, none⟩ = some (.int .u64 q.cas) := h.cell 10
  have q11 : w.cell? ⟨sb, 11, none⟩ = some (.int .u64 q.delta) := h.cell 11
  have q12 : w.cell? ⟨sb, 12, none⟩ = some (.int .u64 q.ini) := h.cell 12
  have hb := fun W => bare43 W a.st a.fl a.cas a.num r.aa r.sa a.val.length r.ac a.stats.length r.sc a.cl
  unfold ansV at hb
  obtain ⟨bb, hbb⟩ : ∃ bb, bb = anBare a := ⟨_, rfl⟩
  have hb' : bareB a.val.length a.fl a.cas a.num a.stats.length a.cl = bb := by rw [hbb]; rfl
  rw [hb'] at hb
  have HBB := Lib.hid hbb
  have HBR := Lib.hid hb
  obtain ⟨x, hx⟩ : ∃ x, x = q.op := ⟨_, rfl⟩
  have HOP := Lib.hid hx
  rw [← hx] at q1
  have hh' : x ≠ 10 ∧ x ≠ 11 ∧ x ≠ 16 ∧ x ≠ 7 ∧ x ≠ 64 := by rw [hx]; exact hh
  obtain ⟨g0, g1, g2, g3, g4⟩ := hh'
  have e0 : (x == 10) = false := by simp [g0]
  have e1 : (x == 11) = false := by simp [g1]
  have e2 : (x == 16) = false := by simp [g2]
  have e3 : (x == 7) = false := by simp [g3]
  have e4 : (x == 64) = false := by simp [g4]
  clear hb hb' hbb h hm hqv hh hrf hr hx g0 g1 g2 g3 g4
  go_enter Try.func32, Try.ntmps32
  go_wp2_with fail
  rw [← HOP.out] at HRF
  refine HRF.out.mono ?_
  rintro e w1 ⟨rfl, hb1⟩
  have HX := Lib.hid hb1
  have HI := Lib.hid (H.out.below hb1)
  have p1 := cellB hb1 q1
  have p13 : w1.cell? ⟨sb, 13, none⟩ = some (.int .i64 a.st) := HI.out.cell 13
  have p14 : w1.cell? ⟨sb, 14, none⟩ = some (.slice r.aa a.val.length r.ac) := HI.out.cell 14
  have p15 : w1.cell? ⟨sb, 15, none⟩ = some (.int .u32 a.fl) := HI.out.cell 15
  have p16 : w1.cell? ⟨sb, 16, none⟩ = some (.int .u64 a.cas) := HI.out.cell 16
  have p17 : w1.cell? ⟨sb, 17, none⟩ = some (.int .u64 a.num) := HI.out.cell 17
  have p18 : w1.cell? ⟨sb, 18, none⟩ = some (.slice r.sa a.stats.length r.sc) := HI.out.cell 18
  have p19 : w1.cell? ⟨sb, 19, none⟩ = some (.bool a.cl) := HI.out.cell 19
  clear hb1 q1 q2 q3 q4 q5 q6 q7 q8 q9 q10 q11 q12 HRF
  by_cases hr0 : rf = 0
  · have hr : (rf != 0) = false := by simp [hr0]
    have HR0 : Hid (¬ refusedF q ≠ 0) := by show ¬ ¬ _; rw [← HR.out]; simpa using hr0
    clear hr0
    by_cases hst : a.st = 132
    · have hs1 : (a.st == 132) = true := by simp [hst]
      have HST := Lib.hid hst
      clear hst
      have hall : ∀ b8 : Bool, (x == 8) = b8 → True := fun _ _ => trivial
      cases hx8 : (x == 8) <;>
      · go_wp2_with fail
        refine (HBR.out _).mono ?_
        rintro e w8 ⟨rfl, hb8⟩
        have HX8 : Hid (Below w.heap.size w w8) := HX.out.trans (Below.mono (hb8 : Below w1.heap.size w1 w8) HX.out.size)
        clear hb8
        cases bb with
        | false =>
          go_wp2_with fail
          go_ret
          exact takeR_none rfl (by rw [HRES.out]; unfold takeF; rw [if_neg HR0.out, if_pos HST.out, if_neg (by rw [← HBB.out]; simp)]) (frm_below HX8.out)
        | true =>
          go_wp2_with fail
          go_ret
          exact takeR_some rfl (by rw [HRES.out]; unfold takeF; rw [if_neg HR0.out, if_pos HST.out, if_pos HBB.out.symm]) (H.out.same HX8.out)
    · have hs1 : (a.st == 132) = false := by simp [hst]
      have HST := Lib.hid hst
      clear hst
      by_cases h8 : x = 8
      · have hx8 : (x == 8) = true := by simp [h8]
        have H8 : Hid (q.op = 8) := by show _ = _; rw [← HOP.out]; exact h8
        clear h8
        have ht := others44 w1 C sb mb kb q a now r hs Y F HI.out H8.out
        obtain ⟨rr, hrr⟩ : ∃ rr, rr = flushF Y q a := ⟨_, rfl⟩
        obtain ⟨cc, hcc⟩ : ∃ cc, cc = rr.isSome := ⟨_, rfl⟩
        rw [← hrr] at ht
        have ht' : Calls Try.prog 44 #[.pointer (some ⟨sb, 0, none⟩)] w1 (fun e w' => e = .returned (.bool cc) ∧ Hid (TakeR w1 C sb mb kb rr e w')) := ht.mono fun e w' h => ⟨by rw [hcc]; exact h.1, h⟩
        have HT := Lib.hid ht'
        have HRR := Lib.hid hrr
        clear ht ht' hrr hcc
        go_wp2_with fail
        refine HT.out.mono ?_
        rintro e w8 ⟨rfl, HD⟩
        go_wp2_with fail
        go_ret
        exact TakeR.of H.out (frm_below HX.out) (by rw [HRES.out, show takeF Y q a now hs = flushF Y q a by unfold takeF; rw [if_neg HR0.out, if_neg HST.out, if_pos H8.out], ← HRR.out]; exact HD.out)
      · have hx8 : (x == 8) = false := by simp [h8]
        have H8 : Hid (¬ q.op = 8) := by show ¬ _ = _; rw [← HOP.out]; exact h8
        clear h8
        by_cases hs0 : a.st = 0
        · have hs2 : (a.st != 0) = false := by simp [hs0]
          have HS0 : Hid (¬ a.st ≠ 0) := by show ¬ ¬ _; simpa using hs0
          clear hs0
          have ht := succeeds46 w1 C sb mb kb q a now r hs Y F HI.out HM.out HQV.out
          obtain ⟨rr, hrr⟩ : ∃ rr, rr = succF Y q a now hs := ⟨_, rfl⟩
          obtain ⟨cc, hcc⟩ : ∃ cc, cc = rr.isSome := ⟨_, rfl⟩
          rw [← hrr] at ht
          have ht' : Calls Try.prog 46 #[.pointer (some ⟨sb, 0, none⟩)] w1 (fun e w' => e = .returned (.bool cc) ∧ Hid (TakeR w1 C sb mb kb rr e w')) := ht.mono fun e w' h => ⟨by rw [hcc]; exact h.1, h⟩
          have HT := Lib.hid ht'
          have HRR := Lib.hid hrr
          clear ht ht' hrr hcc
          go_wp2_with fail
          refine HT.out.mono ?_
          rintro e w8 ⟨rfl, HD⟩
          go_wp2_with fail
          go_ret
          exact TakeR.of H.out (frm_below HX.out) (by rw [HRES.out, show takeF Y q a now hs = succF Y q a now hs by unfold takeF; rw [if_neg HR0.out, if_neg HST.out, if_neg H8.out, if_neg HS0.out], ← HRR.out]; exact HD.out)
        · have hs2 : (a.st != 0) = true := by simp [hs0]
          have HS0 : Hid (a.st ≠ 0) := hs0
          clear hs0
          have ht := refuses45 w1 C sb mb kb q a now r hs Y F HI.out (by have := HM.out; omega)
          obtain ⟨rr, hrr⟩ : ∃ rr, rr = refusesF Y q a hs := ⟨_, rfl⟩
          obtain ⟨cc, hcc⟩ : ∃ cc, cc = rr.isSome := ⟨_, rfl⟩
          rw [← hrr] at ht
          have ht' : Calls Try.prog 45 #[.pointer (some ⟨sb, 0, none⟩)] w1 (fun e w' => e = .returned (.bool cc) ∧ Hid (TakeR w1 C sb mb kb rr e w')) := ht.mono fun e w' h => ⟨by rw [hcc]; exact h.1, h⟩
          have HT := Lib.hid ht'
          have HRR := Lib.hid hrr
          clear ht ht' hrr hcc
          go_wp2_with fail
          refine HT.out.mono ?_
          rintro e w8 ⟨rfl, HD⟩
          go_wp2_with fail
          go_ret
          exact TakeR.of H.out (frm_below HX.out) (by rw [HRES.out, show takeF Y q a now hs = refusesF Y q a hs by unfold takeF; rw [if_neg HR0.out, if_neg HST.out, if_neg H8.out, if_pos HS0.out], ← HRR.out]; exact HD.out)
  · have hr : (rf != 0) = true := by simp [hr0]
    have HR0 : Hid (refusedF q ≠ 0) := by show ¬ _; rw [← HR.out]; exact hr0
    clear hr0
    by_cases hst : a.st = rf
    · have hs1 : (a.st == rf) = true := by simp [hst]
      have HST : Hid (a.st = refusedF q) := by show _ = _; rw [← HR.out]; exact hst
      clear hst
      go_wp2_with fail
      refine (HBR.out _).mono ?_
      rintro e w8 ⟨rfl, hb8⟩
      have HX8 : Hid (Below w.heap.size w w8) := HX.out.trans (Below.mono (hb8 : Below w1.heap.size w1 w8) HX.out.size)
      clear hb8
      cases bb with
      | false =>
        go_wp2_with fail
        go_ret
        exact takeR_none rfl (by rw [HRES.out]; unfold takeF; rw [if_pos HR0.out, if_neg (by rw [← HBB.out]; simp)]) (frm_below HX8.out)
      | true =>
        go_wp2_with fail
        go_ret
        exact takeR_some rfl (by rw [HRES.out]; unfold takeF; rw [if_pos HR0.out, if_pos ⟨HST.out, HBB.out.symm⟩]) (H.out.same HX8.out)
    · have hs1 : (a.st == rf) = false := by simp [hst]
      have HST : Hid (¬ a.st = refusedF q) := by show ¬ _; rw [← HR.out]; exact hst
      clear hst
      go_wp2_with fail
      go_ret
      exact takeR_none rfl (by rw [HRES.out]; unfold takeF; rw [if_pos HR0.out, if_neg (fun h => HST.out h.1)]) (frm_below HX.out)
end Go.Proofs.Ytngpffmgkponfaa
