/- ideal.step.succeeds: what it leaves. Conditions: the step lies in memory. -/
import Derived.Test.YtngpffmgkponfaaSca
set_option linter.unusedVariables false
set_option linter.unusedSimpArgs false
namespace Go.Idl
open Go.Proofs.Ytngpffmgkponfaa
def ownT (q : Rq) (now : Int) : Tv := ⟨q.val, q.fl, expiryF now q.ex, 0⟩
/-- What the answer of a success is taken to say. -/
def succF (Y : St) (q : Rq) (a : An) (now : Int) (hs : List Tv) : Option St :=
  let put := fun (f : List UInt8 → List Tv) (l : List Tv) (k : List UInt8) => if k = q.key then l else f k
  if q.op = 0 then
    (if bareB 0 0 0 a.num a.stats.length a.cl = false then none
     else if hs.filterMap (getHow a) = [] then none
     else some ⟨put Y.now (sortT (hs.filterMap (getHow a))), Y.safe, Y.tok⟩)
  else if q.op = 29 ∨ q.op = 28 then writeF Y q (if q.op = 29 then { a with val := [], fl := 0 } else a) (hs.filterMap (touHow q a (expiryF now q.ex)))
  else if q.op = 14 ∨ q.op = 15 then writeF Y q a (hs.filterMap (joiHow q))
  else if q.op = 5 ∨ q.op = 6 then writeF Y q a.noNum (turL q a.num now hs)
  else if q.op = 4 then (if hs.filterMap (fitHow q) = [] ∨ anBare a = false then none else some ⟨put Y.now [], put Y.safe [], Y.tok⟩)
  else if (q.op = 3 ∨ q.op = 1) ∧ hs.filterMap (fitHow q) = [] ∧ (q.op = 3 ∨ q.cas ≠ 0) then none
  else writeF Y q a [ownT q now]
end Go.Idl
namespace Go.Proofs.Ytngpffmgkponfaa
open Go.RowKit Go.Ice Go.Idl

/-- What stands ahead of the switch: the boxes. -/
structure SceI (W : World) (C : Nat → Prop) (sb mb kb : Nat) (q : Rq) (a : An) (now : Int) (r : Raw) (hs : List Tv) (Y : St) (F : List UInt8 → Option Value) (B qb ab ob tb : Nat) : Prop where
  sw : SW W C sb mb kb q a now r hs Y F
  hB : W.heap[B]? = some (.cells #[.pointer (some ⟨sb, 0, none⟩)] 77 (0, 0))
  hq : W.heap[qb]? = some (.cells (rqC q r.ka r.va r.kc r.vc) 35 (0, 0))
  ha : W.heap[ab]? = some (.cells (anC a r.aa r.sa r.ac r.sc) 38 (0, 0))
  ho : W.heap[ob]? = some (.cells (boxC (.slice r.va q.val.length r.vc) (ownT q now)) 49 (0, 0))
  ht : W.heap[tb]? = some (.cells #[.func (.func 64) #[] #[.pointer (some ⟨ab, 0, none⟩)]] 112 (0, 0))

theorem keep1 {W : World} {sb B i : Nat} (hB : B ≠ sb) (v : Value) {x : Value} (h : W.cell? ⟨B, 0, none⟩ = some x) : (W.setCell ⟨sb, i, none⟩ v).cell? ⟨B, 0, none⟩ = some x :=
  (World.cell?_setCell_other _ _ _ _ (by intro e; injection e with e1; exact hB e1.symm)).trans h
section
variable {Y : St} {q : Rq} {a : An} {now : Int} {hs : List Tv}
theorem succF_gat (h : q.op = 29) : succF Y q a now hs = writeF Y q a.val0 (hs.filterMap (touHow q a (ownT q now).ex)) := by unfold succF; simp [h]; rfl
theorem succF_touch (h : q.op = 28) : succF Y q a now hs = writeF Y q a (hs.filterMap (touHow q a (ownT q now).ex)) := by unfold succF; simp [h]; rfl
theorem succF_join (h : q.op = 14 ∨ q.op = 15) : succF Y q a now hs = writeF Y q a (hs.filterMap (joiHow q)) := by unfold succF; rcases h with h | h <;> simp [h]
theorem succF_turn (h : q.op = 5 ∨ q.op = 6) : succF Y q a now hs = writeF Y q a.noNum (turL q a.num now hs) := by unfold succF; rcases h with h | h <;> simp [h]
theorem succF_del (h : q.op = 4) : succF Y q a now hs = (if hs.filterMap (fitHow q) = [] ∨ anBare a = false then none else some (Y.put q.key [] [] Y.tok)) := by unfold succF; simp [h]; rfl
theorem succF_rep0 (h : q.op = 3) (hf : hs.filterMap (fitHow q) = []) : succF Y q a now hs = none := by unfold succF; simp [h, hf]
theorem succF_set0 (h : q.op = 1) (hf : hs.filterMap (fitHow q) = []) (hc : ¬ q.cas = 0) : succF Y q a now hs = none := by unfold succF; simp [h, hf, hc]
theorem succF_set1 (h : q.op = 1) (hc : q.cas = 0) : succF Y q a now hs = writeF Y q a [ownT q now] := by unfold succF; simp [h, hc]
theorem succF_fit (h : q.op = 3 ∨ q.op = 1) (hf : hs.filterMap (fitHow q) ≠ []) : succF Y q a now hs = writeF Y q a [ownT q now] := by unfold succF; rcases h with h | h <;> simp [h, hf]
theorem succF_else (h : ¬ q.op = 0 ∧ ¬ q.op = 29 ∧ ¬ q.op = 28 ∧ ¬ q.op = 14 ∧ ¬ q.op = 15 ∧ ¬ q.op = 5 ∧ ¬ q.op = 6 ∧ ¬ q.op = 4 ∧ ¬ q.op = 3 ∧ ¬ q.op = 1) : succF Y q a now hs = writeF Y q a [ownT q now] := by
  obtain ⟨h0, h29, h28, h14, h15, h5, h6, h4, h3, h1⟩ := h
  unfold succF
  simp [h0, h29, h28, h14, h15, h5, h6, h4, h3, h1]
end
theorem SceI.below {W W' : World} {C : Nat → Prop} {sb mb kb : Nat} {q : Rq} {a : An} {now : Int} {r : Raw} {hs : List Tv} {Y : St} {F : List UInt8 → Option Value} {B qb ab ob tb : Nat} (h : SceI W C sb mb kb q a now r hs Y F B qb ab ob tb) (hb : Below W.heap.size W W') : SceI W' C sb mb kb q a now r hs Y F B qb ab ob tb :=
  ⟨h.sw.below hb, (hb.block _ (blk_lt h.hB)).trans h.hB, (hb.block _ (blk_lt h.hq)).trans h.hq, (hb.block _ (blk_lt h.ha)).trans h.ha, (hb.block _ (blk_lt h.ho)).trans h.ho, (hb.block _ (blk_lt h.ht)).trans h.ht⟩

set_option maxHeartbeats 8000000 in
set_option maxRecDepth 20000 in
theorem succeeds46 (w : World) (C : Nat → Prop) (sb mb kb : Nat) (q : Rq) (a : An) (now : Int) (r : Raw) (hs : List Tv) (Y : St) (F : List UInt8 → Option Value) (h : SW w C sb mb kb q a now r hs Y F) (hm : hs.length ≤ 10000) (hqv : q.val.length ≤ 1000) :
    Calls Try.prog 46 #[.pointer (some ⟨sb, 0, none⟩)] w (TakeR w C sb mb kb (succF Y q a now hs)) := by
  obtain ⟨res, hres⟩ : ∃ res, res = succF Y q a now hs := ⟨_, rfl⟩
  rw [← hres]
  have HRES := Lib.hid hres
  clear hres
  have H := Lib.hid h
  have HEX : Hid (0 ≤ (ownT q now).ex ∧ (ownT q now).ex ≤ 4294967295) := expiryF_bound h.now_.1 h.now_.2 h.qok.2.2.1 h.qok.2.2.2.1
  have HOWN : Hid (Tv.ok (ownT q now)) := ⟨hqv, h.qok.1, h.qok.2.1, HEX.out.1, HEX.out.2, Int.le_refl _, by show (0 : Int) ≤ _; omega⟩
  clear hqv
  obtain ⟨B, W, HB, HW, HK, HZ⟩ := boxed1 w #[.pointer (some ⟨sb, 0, none⟩)] 77
  have HW1 := Lib.hid (h.below HK.out.below)
  have b0 : W.cell? ⟨B, 0, none⟩ = some (.pointer (some ⟨sb, 0, none⟩)) := blk_cell HK.out.b0 0
  clear h
  go_enter Try.func46, Try.ntmps46
  go_upto_region 1 with fail
  rw [HB.out, HW.out]
  have q1 : W.cell? ⟨sb, 1, none⟩ = some (.int .i64 q.op) := HW1.out.cell 1
  have q2 : W.cell? ⟨sb, 2, none⟩ = some (.bool q.quiet) := HW1.out.cell 2
  have q3 : W.cell? ⟨sb, 3, none⟩ = some (.bool q.full) := HW1.out.cell 3
  have q4 : W.cell? ⟨sb, 4, none⟩ = some (.int .i64 q.bad) := HW1.out.cell 4
  have q5 : W.cell? ⟨sb, 5, none⟩ = some (.int .u32 q.opq) := HW1.out.cell 5
  have q6 : W.cell? ⟨sb, 6, none⟩ = some (.slice r.ka q.key.length r.kc) := HW1.out.cell 6
  have q7 : W.cell? ⟨sb, 7, none⟩ = some (.slice r.va q.val.length r.vc) := HW1.out.cell 7
  have q8 : W.cell? ⟨sb, 8, none⟩ = some (.int .u32 q.fl) := HW1.out.cell 8
  have q9 : W.cell? ⟨sb, 9, none⟩ = some (.int .u32 q.ex) := HW1.out.cell 9
  have q10 : W.cell? ⟨sb, 10, none⟩ = some (.int .u64 q.cas) := HW1.out.cell 10
  have q11 : W.cell? ⟨sb, 11, none⟩ = some (.int .u64 q.delta) := HW1.out.cell 11
  have q12 : W.cell? ⟨sb, 12, none⟩ = some (.int .u64 q.ini) := HW1.out.cell 12
  have q13 : W.cell? ⟨sb, 13, none⟩ = some (.int .i64 a.st) := HW1.out.cell 13
  have q14 : W.cell? ⟨sb, 14, none⟩ = some (.slice r.aa a.val.length r.ac) := HW1.out.cell 14
  have q15 : W.cell? ⟨sb, 15, none⟩ = some (.int .u32 a.fl) := HW1.out.cell 15
  have q16 : W.cell? ⟨sb, 16, none⟩ = some (.int .u64 a.cas) := HW1.out.cell 16
  have q17 : W.cell? ⟨sb, 17, none⟩ = some (.int .u64 a.num) := HW1.out.cell 17
  have q18 : W.cell? ⟨sb, 18, none⟩ = some (.slice r.sa a.stats.length r.sc) := HW1.out.cell 18
  have q19 : W.cell? ⟨sb, 19, none⟩ = some (.bool a.cl) := HW1.out.cell 19
  go_cut [3, 4] from 8 to 16 (fun s3 s4 W6 => ∃ qb ab : Nat, s3 = .pointer (some ⟨qb, 0, none⟩) ∧ s4 = .pointer (some ⟨ab, 0, none⟩) ∧ Hid (Below W.heap.size W W6 ∧ W6.heap[qb]? = some (.cells (rqC q r.ka r.va r.kc r.vc) 35 (0, 0)) ∧ W6.heap[ab]? = some (.cells (anC a r.aa r.sa r.ac r.sc) 38 (0, 0))))
  case first =>
    have hsz := HW1.out.map.map.lt
    go_region_held3 (fun w' => w'.cell? ⟨B, 0, none⟩ = some (.pointer (some ⟨sb, 0, none⟩)) ∧ w'.cell? ⟨sb, 1, none⟩ = some (.int .i64 q.op) ∧ w'.cell? ⟨sb, 2, none⟩ = some (.bool q.quiet) ∧ w'.cell? ⟨sb, 3, none⟩ = some (.bool q.full) ∧ w'.cell? ⟨sb, 4, none⟩ = some (.int .i64 q.bad) ∧ w'.cell? ⟨sb, 5, none⟩ = some (.int .u32 q.opq) ∧ w'.cell? ⟨sb, 6, none⟩ = some (.slice r.ka q.key.length r.kc) ∧ w'.cell? ⟨sb, 7, none⟩ = some (.slice r.va q.val.length r.vc) ∧ w'.cell? ⟨sb, 8, none⟩ = some (.int .u32 q.fl) ∧ w'.cell? ⟨sb, 9, none⟩ = some (.int .u32 q.ex) ∧ w'.cell? ⟨sb, 10, none⟩ = some (.int .u64 q.cas) ∧ w'.cell? ⟨sb, 11, none⟩ = some (.int .u64 q.delta) ∧ w'.cell? ⟨sb, 12, none⟩ = some (.int .u64 q.ini) ∧ w'.cell? ⟨sb, 13, none⟩ = some (.int .i64 a.st) ∧ w'.cell? ⟨sb, 14, none⟩ = some (.slice r.aa a.val.length r.ac) ∧ w'.cell? ⟨sb, 15, none⟩ = some (.int .u32 a.fl) ∧ w'.cell? ⟨sb, 16, none⟩ = some (.int .u64 a.cas) ∧ w'.cell? ⟨sb, 17, none⟩ = some (.int .u64 a.num) ∧ w'.cell? ⟨sb, 18, none⟩ = some (.slice r.sa a.stats.length r.sc) ∧ w'.cell? ⟨sb, 19, none⟩ = some (.bool a.cl)) (first | exact ⟨b0, q1, q2, q3, q4, q5, q6, q7, q8, q9, q10, q11, q12, q13, q14, q15, q16, q17, q18, q19⟩ | go_keep) (first | fail)
    all_goals
      go_wp2_with fail
      go_meet
      case rel =>
        first
          | exact ⟨_, _, rfl, rfl, two_new W (.cells (rqC q r.ka r.va r.kc r.vc) 35) (.cells (anC a r.aa r.sa r.ac r.sc) 38)⟩
          | exact ⟨_, _, rfl, rfl, (two_new W (.cells (anC a r.aa r.sa r.ac r.sc) 38) (.cells (rqC q r.ka r.va r.kc r.vc) 35)).1, (two_new W (.cells (anC a r.aa r.sa r.ac r.sc) 38) (.cells (rqC q r.ka r.va r.kc r.vc) 35)).2.2, (two_new W (.cells (anC a r.aa r.sa r.ac r.sc) 38) (.cells (rqC q r.ka r.va r.kc r.vc) 35)).2.1⟩
  case rest =>
    obtain ⟨qb, ab, hs3, hs4, HC⟩ := hcut
    subst hs3 hs4
    clear q1 q2 q3 q4 q5 q6 q7 q8 q9 q10 q11 q12 q13 q14 q15 q16 q17 q18 q19
    have r6 : wc.cell? ⟨qb, 6, none⟩ = some (.slice r.va q.val.length r.vc) := blk_cell HC.out.2.1 6
    have r7 : wc.cell? ⟨qb, 7, none⟩ = some (.int .u32 q.fl) := blk_cell HC.out.2.1 7
    have r8 : wc.cell? ⟨qb, 8, none⟩ = some (.int .u32 q.ex) := blk_cell HC.out.2.1 8
    have q20 : wc.cell? ⟨sb, 20, none⟩ = some (.int .u32 now) := cellB HC.out.1 (HW1.out.cell 20)
    have c0 := cellB HC.out.1 b0
    go_wp2_with fail
    have HXP := Lib.hid (fun W1 : World => expiry25 now q.ex W1 HW1.out.now_.1 HW1.out.now_.2 HW1.out.qok.2.2.1 HW1.out.qok.2.2.2.1)
    obtain ⟨WA, hwa⟩ : ∃ WA, WA = wc := ⟨_, rfl⟩
    subst hwa
    go_cut [5] from 16 to 28 (fun s5 W6 => ∃ ob : Nat, s5 = .pointer (some ⟨ob, 0, none⟩) ∧ Hid (Below WA.heap.size WA W6 ∧ W6.heap[ob]? = some (.cells (boxC (.slice r.va q.val.length r.vc) (ownT q now)) 49 (0, 0))))
    case first =>
      go_region_held3 (fun w' => w'.cell? ⟨B, 0, none⟩ = some (.pointer (some ⟨sb, 0, none⟩)) ∧ w'.cell? ⟨qb, 6, none⟩ = some (.slice r.va q.val.length r.vc) ∧ w'.cell? ⟨qb, 7, none⟩ = some (.int .u32 q.fl) ∧ w'.cell? ⟨qb, 8, none⟩ = some (.int .u32 q.ex) ∧ w'.cell? ⟨sb, 20, none⟩ = some (.int .u32 now)) (first | exact ⟨c0, r6, r7, r8, q20⟩ | go_keep) (first | (go_at_call 25; refine (HXP.out _).mono ?_; rintro e w2 ⟨rfl, rfl⟩))
      all_goals
        go_wp2_with fail
        go_meet
        case rel =>
          exact ⟨_, rfl, ((Below.refl _ _).alloc (Nat.le_refl _) _).drew, heap_alloc_new _ _⟩
    case rest =>
      obtain ⟨ob, hs5, HO⟩ := hcut
      subst hs5
      clear r6 r7 r8 q20
      have c1 : wc.cell? ⟨B, 0, none⟩ = some (.pointer (some ⟨sb, 0, none⟩)) := cellB HO.out.1 c0
      have hlt : B < wc.heap.size := World.block_lt_of_cell? _ _ c1
      obtain ⟨tb, W5, HTB, HW5, HK5, HZ5⟩ := boxed1 wc #[.func (.func 64) #[] #[.pointer (some ⟨ab, 0, none⟩)]] 112
      go_wp2_with fail
      rw [HTB.out, HW5.out]
      clear c0 c1 hlt
      have hsz1 : sb < w.heap.size ∧ mb < w.heap.size ∧ kb < w.heap.size := ⟨blk_lt H.out.blk, blk_lt H.out.map.blk, H.out.map.map.lt⟩
      have HNE : Hid (B ≠ sb ∧ B ≠ mb ∧ B ≠ kb) := by have := HB.out; show _ ∧ _ ∧ _; omega
      have hbA : Below W.heap.size W WA := HC.out.1
      have hbO : Below W.heap.size W wc := hbA.trans (HO.out.1.mono hbA.size)
      have hbA5 : Below WA.heap.size WA W5 := HO.out.1.trans (HK5.out.below.mono HO.out.1.size)
      have hb5 : Below W.heap.size W W5 := hbO.trans (HK5.out.below.mono hbO.size)
      have i5 : SceI W5 C sb mb kb q a now r hs Y F B qb ab ob tb := ⟨HW1.out.below hb5, (hb5.block B (blk_lt HK.out.b0)).trans HK.out.b0, (hbA5.block qb (blk_lt HC.out.2.1)).trans HC.out.2.1, (hbA5.block ab (blk_lt HC.out.2.2)).trans HC.out.2.2, (HK5.out.below.block ob (blk_lt HO.out.2)).trans HO.out.2, HK5.out.b0⟩
      refine (each61 W5 C sb mb kb q a now r hs Y F i5.sw (by omega) 66 #[.pointer (some ⟨B, 0, none⟩)] (enters_of Try.func66 (by kernel_rfl) rfl) (fitHow q) (how66 W5 C sb mb kb q a now r hs Y F i5.sw B i5.hB)).mono ?_
      rintro e w7 ⟨fv, rfl, hfv, hb7⟩
      obtain ⟨fa, fc, rfl, _⟩ := hfv.form
      have HI := Lib.hid (i5.below hb7)
      have HX : Hid (Below w.heap.size w w7) := HK.out.below.trans ((hb5.trans (hb7.mono hb5.size)).mono HK.out.below.size)
      obtain ⟨fn, hfn⟩ : ∃ n, n = (hs.filterMap (fitHow q)).length := ⟨_, rfl⟩
      rw [← hfn]
      have HFN := Lib.hid hfn
      have q0 : w7.cell? ⟨qb, 0, none⟩ = some (.int .i64 q.op) := blk_cell HI.out.hq 0
      have B0 : w7.cell? ⟨B, 0, none⟩ = some (.pointer (some ⟨sb, 0, none⟩)) := blk_cell HI.out.hB 0
      clear hfv hb7 i5 hb5 hbA5 hbO hbA hsz1 hfn b0
      clear HB HW1 HK HZ HC HXP HO HTB HW5 HK5 HZ5
      have hm' : (hs.length ≤ 100000) := by omega
      have HM := Lib.hid hm'
      have HM1 := Lib.hid hm
      clear hm hm'
      obtain ⟨x, hx⟩ : ∃ x, x = q.op := ⟨_, rfl⟩
      have HOP := Lib.hid hx
      rw [← hx] at q0
      clear hx
      by_cases h0 : x = 0
      · subst h0
        have a4 : w7.cell? ⟨ab, 4, none⟩ = some (.int .u64 a.num) := blk_cell HI.out.ha 4
        have a5 : w7.cell? ⟨ab, 5, none⟩ = some (.slice r.sa a.stats.length r.sc) := blk_cell HI.out.ha 5
        have a6 : w7.cell? ⟨ab, 6, none⟩ = some (.bool a.cl) := blk_cell HI.out.ha 6
        have hb := fun W => bare43 W 0 0 0 a.num none r.sa 0 0 a.stats.length r.sc a.cl
        unfold ansV at hb
        obtain ⟨bb, hbb⟩ : ∃ bb, bb = bareB 0 0 0 a.num a.stats.length a.cl := ⟨_, rfl⟩
        rw [← hbb] at hb
        have HBB := Lib.hid hbb
        have HBR := Lib.hid hb
        clear hb hbb
        go_wp2_with fail
        refine (HBR.out _).mono ?_
        rintro e w8 ⟨rfl, hb8⟩
        have hb8 : Below w7.heap.size w7 w8 := hb8
        have B1 := cellB hb8 B0
        have HI8 := Lib.hid (HI.out.below hb8)
        have HX8 : Hid (Below w.heap.size w w8) := HX.out.trans (hb8.mono HX.out.size)
        clear hb8 B0 q0 a4 a5 a6 HBR
        cases bb with
        | false =>
          go_wp2_with fail
          go_ret
          exact takeR_none rfl (by rw [HRES.out]; unfold succF; rw [if_pos HOP.out.symm, if_pos HBB.out.symm]) (frm_below HX8.out)
        | true =>
          have hd8 : Below w8.heap.size w8 w8.drew := hbelow_drew w8
          have HID := Lib.hid (HI8.out.below hd8)
          have HE := Lib.hid (each61 w8.drew C sb mb kb q a now r hs Y F HID.out.sw HM.out 67 #[.pointer (some ⟨tb, 0, none⟩), .pointer (some ⟨ab, 0, none⟩)] (enters_of Try.func67 (by kernel_rfl) rfl) (getHow a) (how67 w8.drew a r.aa r.sa r.ac r.sc tb ab HID.out.ht HID.out.ha HID.out.sw.aval.1))
          have HBX : Hid (Below w.heap.size w w8.drew) := HX8.out.drew
          clear hd8
          have HFL := Lib.hid (filterMap_len (getHow a) hs)
          by_cases hnil : hs.filterMap (getHow a) = []
          · have HNIL := Lib.hid hnil
            clear hnil
            go_wp2_with fail
            go_region_held3 (fun w' => w'.cell? ⟨B, 0, none⟩ = some (.pointer (some ⟨sb, 0, none⟩))) (first | exact B1 | exact B2 | exact B3) (first | (go_at_call 61; refine HE.out.mono ?_; rintro e w9 ⟨v7, rfl, hv7, hb7⟩; rw [HNIL.out] at hv7; obtain ⟨a7, c7, rfl, _⟩ := hv7.form; have B2 := cellB hb7 B1; have HB7 := Lib.hid hb7; clear hb7 hv7) | (go_at_call 60; refine (seen60_nil w9 sb (.slice a7 0 c7) a7 c7).mono ?_; rintro e w10 ⟨rfl, rfl⟩; have B3 := B2))
            all_goals
              go_wp2_with fail
              go_ret
              exact takeR_none rfl (by rw [HRES.out]; unfold succF; rw [if_pos HOP.out.symm, if_neg (by rw [← HBB.out]; simp), if_pos HNIL.out]) (frm_below (HBX.out.trans (HB7.out.mono HBX.out.size)))
          · have HNIL := Lib.hid hnil
            clear hnil
            go_wp2_with fail
            go_region_held3 (fun w' => w'.cell? ⟨B, 0, none⟩ = some (.pointer (some ⟨sb, 0, none⟩))) (first | exact B1 | exact B2 | exact B3) (first | (go_at_call 61; refine HE.out.mono ?_; rintro e w9 ⟨v7, rfl, hv7, hb7⟩; obtain ⟨a7, c7, rfl, _⟩ := hv7.form; have B2 := cellB hb7 B1; have HB7 := Lib.hid hb7; have HV7 := Lib.hid hv7; clear hb7 hv7) | (go_at_call 60; refine (seen60 w9 C sb mb kb q a now r hs Y F (HID.out.sw.below HB7.out) _ _ _ HV7.out (Nat.le_trans HFL.out HM.out) HNIL.out).mono ?_; rintro e w10 ⟨rfl, hd8⟩; have B3 := refuses_keep (w := w) (w1 := w) hd8 B2 HNE.out; have HD8 := Lib.hid hd8; clear hd8))
            all_goals
              go_wp2_with fail
              go_ret
              exact takeR_some rfl (by rw [HRES.out]; unfold succF; rw [if_pos HOP.out.symm, if_neg (by rw [← HBB.out]; simp), if_neg HNIL.out]) (Done.of H.out (frm_below (HBX.out.trans (HB7.out.mono HBX.out.size))) HD8.out)
      by_cases h29 : x = 29
      · subst h29
        have s14 : w7.cell? ⟨sb, 14, none⟩ = some (.slice r.aa a.val.length r.ac) := HI.out.sw.cell 14
        have s15 : w7.cell? ⟨sb, 15, none⟩ = some (.int .u32 a.fl) := HI.out.sw.cell 15
        have f14 : w7.frozen? ⟨sb, 14, none⟩ = false := blk_frozen HI.out.sw.blk 14
        have f15 : w7.frozen? ⟨sb, 15, none⟩ = false := blk_frozen HI.out.sw.blk 15
        have hsb : sb < w7.heap.size := blk_lt HI.out.sw.blk
        have HIW := Lib.hid (HI.out.below (hbelow_drew w7))
        have hnB : B ≠ sb := HNE.out.1
        go_wp2_with fail
        go_cut [2] from 56 to 64 (fun s2 W8 => s2 = .bool false ∧ Hid (SW W8 C sb mb kb q a.val0 now r.val0 hs Y F ∧ Frm (fun b => b = sb) w7 W8))
        case first =>
          go_region_held3 (fun w' => w'.cell? ⟨B, 0, none⟩ = some (.pointer (some ⟨sb, 0, none⟩))) (first | exact B0 | exact keep1 hnB _ B0 | exact keep1 hnB _ (keep1 hnB _ B0)) (first | fail)
          all_goals
            go_wp2_with fail
            go_meet
            case rel =>
              first
                | exact ⟨rfl, HI.out.sw.val0 ((setCell_frm1 w7 sb 14 _).trans (setCell_frm1 _ sb 15 _)).drew (val0_ab HI.out.sw), ((setCell_frm1 w7 sb 14 _).trans (setCell_frm1 _ sb 15 _)).drew⟩
                | exact ⟨rfl, HI.out.sw.val0 ((setCell_frm1 w7 sb 15 _).trans (setCell_frm1 _ sb 14 _)).drew (val0_ba HI.out.sw), ((setCell_frm1 w7 sb 15 _).trans (setCell_frm1 _ sb 14 _)).drew⟩
        case rest =>
          obtain ⟨hs2, HC8⟩ := hcut
          subst hs2
          have hfd : Frm (fun b => b = sb) w7 wc.drew := HC8.out.2.drew
          have hnb := HI.out.sw.ne_of HI.out.ho (by decide)
          have hnq := HI.out.sw.ne_of HI.out.hq (by decide)
          have hnt := HI.out.sw.ne_of HI.out.ht (by decide)
          have hna := HI.out.sw.ne_of HI.out.ha (by decide)
          have HBB : Hid (wc.drew.heap[B]? = some (.cells #[.pointer (some ⟨sb, 0, none⟩)] 77 (0, 0))) := (hfd.block B (blk_lt HI.out.hB) hnB).trans HI.out.hB
          have HSWD := Lib.hid (HC8.out.1.below (hbelow_drew wc))
          have HHOW := Lib.hid (how69 wc.drew a q (ownT q now) _ r.aa r.sa r.ka r.va r.ac r.sc r.kc r.vc ob qb tb ab ((hfd.block ob (blk_lt HI.out.ho) hnb).trans HI.out.ho) ((hfd.block qb (blk_lt HI.out.hq) hnq).trans HI.out.hq) ((hfd.block tb (blk_lt HI.out.ht) hnt).trans HI.out.ht) ((hfd.block ab (blk_lt HI.out.ha) hna).trans HI.out.ha) (HI.out.sw.aval.frm hfd (fun b hb e => HI.out.sw.cs (e ▸ hb))).1 HEX.out)
          have HFD := Lib.hid hfd
          clear s14 s15 f14 f15 hsb hnB hfd hnb hnq hnt hna q0 B0
          have HE := Lib.hid (each61 wc.drew C sb mb kb q a.val0 now r.val0 hs Y F HSWD.out HM.out 69 #[.pointer (some ⟨ob, 0, none⟩), .pointer (some ⟨qb, 0, none⟩), .pointer (some ⟨tb, 0, none⟩)] (enters_of Try.func69 (by kernel_rfl) rfl) (touHow q a (ownT q now).ex) (HHOW.out))
          have HSD := Lib.hid HSWD.out
          have HFL := Lib.hid (filterMap_len (touHow q a (ownT q now).ex) hs)
          have HFR : Hid (Frm (fun b => b = sb) w wc.drew) := (frm_below HX.out).trans HFD.out
          have HRS : Hid (res = writeF Y q a.val0 (hs.filterMap (touHow q a (ownT q now).ex))) := HRES.out.trans (succF_gat HOP.out.symm)
          have X0 := blk_cell HBB.out 0
          have hbk := HNE.out
          by_cases hno : hs.filterMap (touHow q a (ownT q now).ex) = [] ∨ anBare0 a.val0 = false ∨ a.val0.cas ≤ Y.tok
          · have HNO := Lib.hid hno
            clear hno
            go_wp2_with fail
            go_region_held3 (fun w' => w'.cell? ⟨B, 0, none⟩ = some (.pointer (some ⟨sb, 0, none⟩))) (first | exact X0 | exact X1 | exact X2) (first | (go_at_call 61; refine HE.out.mono ?_; rintro e w9 ⟨v7, rfl, hv7, hb7⟩; obtain ⟨a7, c7, rfl, _⟩ := hv7.form; have X1 := cellB hb7 X0; have HB7 := Lib.hid hb7; clear hb7 hv7) | (go_at_call 68; refine (written68_no _ C sb mb kb q a.val0 now r.val0 hs Y F (HSD.out.below HB7.out) a7 _ c7 (HNO.out.imp (fun h => by rw [h]; rfl) id)).mono ?_; rintro e w10 ⟨rfl, hb9⟩; have X2 := cellB hb9 X1; have HB9 := Lib.hid hb9; clear hb9))
            all_goals
              go_wp2_with fail
              go_ret
              exact takeR_none rfl (by rw [HRS.out]; unfold writeF; rw [if_pos HNO.out]) (HFR.out.trans (frm_below (HB7.out.trans (HB9.out.mono HB7.out.size))))
          · have HNO := Lib.hid hno
            clear hno
            go_wp2_with fail
            go_region_held3 (fun w' => w'.cell? ⟨B, 0, none⟩ = some (.pointer (some ⟨sb, 0, none⟩))) (first | exact X0 | exact X1 | exact X2) (first | (go_at_call 61; refine HE.out.mono ?_; rintro e w9 ⟨v7, rfl, hv7, hb7⟩; obtain ⟨a7, c7, rfl, _⟩ := hv7.form; have X1 := cellB hb7 X0; have HB7 := Lib.hid hb7; have HV7 := Lib.hid hv7; clear hb7 hv7) | (go_at_call 68; refine (written68 _ C sb mb kb q a.val0 now r.val0 hs Y F (HSD.out.below HB7.out) _ _ _ HV7.out (Nat.le_trans HFL.out HM.out) (fun h => HNO.out (.inl h)) (by have := HNO.out; simp only [not_or] at this; simpa using this.2.1) (by have := HNO.out; simp only [not_or] at this; omega)).mono ?_; rintro e w10 ⟨rfl, hd9⟩; have X2 := refuses_keep (w := w) (w1 := w) hd9 X1 HNE.out; have HD9 := Lib.hid hd9; clear hd9))
            all_goals
              go_wp2_with fail
              go_ret
              exact takeR_some rfl (by rw [HRS.out]; unfold writeF; rw [if_neg HNO.out]) (Done.of H.out (HFR.out.trans (frm_below HB7.out)) HD9.out)
      by_cases h28 : x = 28
      · subst h28
        have hd29 : ((28 : Int) == 29) = false := rfl
        have HID := Lib.hid (HI.out.below (hbelow_drew w7))
        have HE := Lib.hid (each61 w7.drew C sb mb kb q a now r hs Y F HID.out.sw HM.out 69 #[.pointer (some ⟨ob, 0, none⟩), .pointer (some ⟨qb, 0, none⟩), .pointer (some ⟨tb, 0, none⟩)] (enters_of Try.func69 (by kernel_rfl) rfl) (touHow q a (ownT q now).ex) (how69 w7.drew a q (ownT q now) _ r.aa r.sa r.ka r.va r.ac r.sc r.kc r.vc ob qb tb ab HID.out.ho HID.out.hq HID.out.ht HID.out.ha HID.out.sw.aval.1 HEX.out))
        have HSD := Lib.hid HID.out.sw
        have HFL := Lib.hid (filterMap_len (touHow q a (ownT q now).ex) hs)
        have HFR : Hid (Frm (fun b => b = sb) w w7.drew) := (frm_below HX.out).trans (frm_below (hbelow_drew w7))
        have HRS : Hid (res = writeF Y q a (hs.filterMap (touHow q a (ownT q now).ex))) := HRES.out.trans (succF_touch HOP.out.symm)
        have X0 := B0
        have hbk := HNE.out
        by_cases hno : hs.filterMap (touHow q a (ownT q now).ex) = [] ∨ anBare0 a = false ∨ a.cas ≤ Y.tok
        · have HNO := Lib.hid hno
          clear hno
          go_wp2_with fail
          go_region_held3 (fun w' => w'.cell? ⟨B, 0, none⟩ = some (.pointer (some ⟨sb, 0, none⟩))) (first | exact X0 | exact X1 | exact X2) (first | (go_at_call 61; refine HE.out.mono ?_; rintro e w9 ⟨v7, rfl, hv7, hb7⟩; obtain ⟨a7, c7, rfl, _⟩ := hv7.form; have X1 := cellB hb7 X0; have HB7 := Lib.hid hb7; clear hb7 hv7) | (go_at_call 68; refine (written68_no _ C sb mb kb q a now r hs Y F (HSD.out.below HB7.out) a7 _ c7 (HNO.out.imp (fun h => by rw [h]; rfl) id)).mono ?_; rintro e w10 ⟨rfl, hb9⟩; have X2 := cellB hb9 X1; have HB9 := Lib.hid hb9; clear hb9))
          all_goals
            go_wp2_with fail
            go_ret
            exact takeR_none rfl (by rw [HRS.out]; unfold writeF; rw [if_pos HNO.out]) (HFR.out.trans (frm_below (HB7.out.trans (HB9.out.mono HB7.out.size))))
        · have HNO := Lib.hid hno
          clear hno
          go_wp2_with fail
          go_region_held3 (fun w' => w'.cell? ⟨B, 0, none⟩ = some (.pointer (some ⟨sb, 0, none⟩))) (first | exact X0 | exact X1 | exact X2) (first | (go_at_call 61; refine HE.out.mono ?_; rintro e w9 ⟨v7, rfl, hv7, hb7⟩; obtain ⟨a7, c7, rfl, _⟩ := hv7.form; have X1 := cellB hb7 X0; have HB7 := Lib.hid hb7; have HV7 := Lib.hid hv7; clear hb7 hv7) | (go_at_call 68; refine (written68 _ C sb mb kb q a now r hs Y F (HSD.out.below HB7.out) _ _ _ HV7.out (Nat.le_trans HFL.out HM.out) (fun h => HNO.out (.inl h)) (by have := HNO.out; simp only [not_or] at this; simpa using this.2.1) (by have := HNO.out; simp only [not_or] at this; omega)).mono ?_; rintro e w10 ⟨rfl, hd9⟩; have X2 := refuses_keep (w := w) (w1 := w) hd9 X1 HNE.out; have HD9 := Lib.hid hd9; clear hd9))
          all_goals
            go_wp2_with fail
            go_ret
            exact takeR_some rfl (by rw [HRS.out]; unfold writeF; rw [if_neg HNO.out]) (Done.of H.out (HFR.out.trans (frm_below HB7.out)) HD9.out)
      by_cases h14 : x = 14
      · subst h14
        have HID := Lib.hid (HI.out.below (hbelow_drew w7))
        have HE := Lib.hid (each61 w7.drew C sb mb kb q a now r hs Y F HID.out.sw HM.out 70 #[.pointer (some ⟨B, 0, none⟩), .pointer (some ⟨qb, 0, none⟩)] (enters_of Try.func70 (by kernel_rfl) rfl) (joiHow q) (how70 w7.drew C sb mb kb q a now r hs Y F HID.out.sw B qb HID.out.hB HID.out.hq))
        have HSD := Lib.hid HID.out.sw
        have HFL := Lib.hid (filterMap_len (joiHow q) hs)
        have HFR : Hid (Frm (fun b => b = sb) w w7.drew) := (frm_below HX.out).trans (frm_below (hbelow_drew w7))
        have HRS : Hid (res = writeF Y q a (hs.filterMap (joiHow q))) := HRES.out.trans (succF_join (.inl HOP.out.symm))
        have X0 := B0
        have hbk := HNE.out
        by_cases hno : hs.filterMap (joiHow q) = [] ∨ anBare0 a = false ∨ a.cas ≤ Y.tok
        · have HNO := Lib.hid hno
          clear hno
          go_wp2_with fail
          go_region_held3 (fun w' => w'.cell? ⟨B, 0, none⟩ = some (.pointer (some ⟨sb, 0, none⟩))) (first | exact X0 | exact X1 | exact X2) (first | (go_at_call 61; refine HE.out.mono ?_; rintro e w9 ⟨v7, rfl, hv7, hb7⟩; obtain ⟨a7, c7, rfl, _⟩ := hv7.form; have X1 := cellB hb7 X0; have HB7 := Lib.hid hb7; clear hb7 hv7) | (go_at_call 68; refine (written68_no _ C sb mb kb q a now r hs Y F (HSD.out.below HB7.out) a7 _ c7 (HNO.out.imp (fun h => by rw [h]; rfl) id)).mono ?_; rintro e w10 ⟨rfl, hb9⟩; have X2 := cellB hb9 X1; have HB9 := Lib.hid hb9; clear hb9))
          all_goals
            go_wp2_with fail
            go_ret
            exact takeR_none rfl (by rw [HRS.out]; unfold writeF; rw [if_pos HNO.out]) (HFR.out.trans (frm_below (HB7.out.trans (HB9.out.mono HB7.out.size))))
        · have HNO := Lib.hid hno
          clear hno
          go_wp2_with fail
          go_region_held3 (fun w' => w'.cell? ⟨B, 0, none⟩ = some (.pointer (some ⟨sb, 0, none⟩))) (first | exact X0 | exact X1 | exact X2) (first | (go_at_call 61; refine HE.out.mono ?_; rintro e w9 ⟨v7, rfl, hv7, hb7⟩; obtain ⟨a7, c7, rfl, _⟩ := hv7.form; have X1 := cellB hb7 X0; have HB7 := Lib.hid hb7; have HV7 := Lib.hid hv7; clear hb7 hv7) | (go_at_call 68; refine (written68 _ C sb mb kb q a now r hs Y F (HSD.out.below HB7.out) _ _ _ HV7.out (Nat.le_trans HFL.out HM.out) (fun h => HNO.out (.inl h)) (by have := HNO.out; simp only [not_or] at this; simpa using this.2.1) (by have := HNO.out; simp only [not_or] at this; omega)).mono ?_; rintro e w10 ⟨rfl, hd9⟩; have X2 := refuses_keep (w := w) (w1 := w) hd9 X1 HNE.out; have HD9 := Lib.hid hd9; clear hd9))
          all_goals
            go_wp2_with fail
            go_ret
            exact takeR_some rfl (by rw [HRS.out]; unfold writeF; rw [if_neg HNO.out]) (Done.of H.out (HFR.out.trans (frm_below HB7.out)) HD9.out)
      by_cases h15 : x = 15
      · subst h15
        have HID := Lib.hid (HI.out.below (hbelow_drew w7))
        have HE := Lib.hid (each61 w7.drew C sb mb kb q a now r hs Y F HID.out.sw HM.out 70 #[.pointer (some ⟨B, 0, none⟩), .pointer (some ⟨qb, 0, none⟩)] (enters_of Try.func70 (by kernel_rfl) rfl) (joiHow q) (how70 w7.drew C sb mb kb q a now r hs Y F HID.out.sw B qb HID.out.hB HID.out.hq))
        have HSD := Lib.hid HID.out.sw
        have HFL := Lib.hid (filterMap_len (joiHow q) hs)
        have HFR : Hid (Frm (fun b => b = sb) w w7.drew) := (frm_below HX.out).trans (frm_below (hbelow_drew w7))
        have HRS : Hid (res = writeF Y q a (hs.filterMap (joiHow q))) := HRES.out.trans (succF_join (.inr HOP.out.symm))
        have X0 := B0
        have hbk := HNE.out
        by_cases hno : hs.filterMap (joiHow q) = [] ∨ anBare0 a = false ∨ a.cas ≤ Y.tok
        · have HNO := Lib.hid hno
          clear hno
          go_wp2_with fail
          go_region_held3 (fun w' => w'.cell? ⟨B, 0, none⟩ = some (.pointer (some ⟨sb, 0, none⟩))) (first | exact X0 | exact X1 | exact X2) (first | (go_at_call 61; refine HE.out.mono ?_; rintro e w9 ⟨v7, rfl, hv7, hb7⟩; obtain ⟨a7, c7, rfl, _⟩ := hv7.form; have X1 := cellB hb7 X0; have HB7 := Lib.hid hb7; clear hb7 hv7) | (go_at_call 68; refine (written68_no _ C sb mb kb q a now r hs Y F (HSD.out.below HB7.out) a7 _ c7 (HNO.out.imp (fun h => by rw [h]; rfl) id)).mono ?_; rintro e w10 ⟨rfl, hb9⟩; have X2 := cellB hb9 X1; have HB9 := Lib.hid hb9; clear hb9))
          all_goals
            go_wp2_with fail
            go_ret
            exact takeR_none rfl (by rw [HRS.out]; unfold writeF; rw [if_pos HNO.out]) (HFR.out.trans (frm_below (HB7.out.trans (HB9.out.mono HB7.out.size))))
        · have HNO := Lib.hid hno
          clear hno
          go_wp2_with fail
          go_region_held3 (fun w' => w'.cell? ⟨B, 0, none⟩ = some (.pointer (some ⟨sb, 0, none⟩))) (first | exact X0 | exact X1 | exact X2) (first | (go_at_call 61; refine HE.out.mono ?_; rintro e w9 ⟨v7, rfl, hv7, hb7⟩; obtain ⟨a7, c7, rfl, _⟩ := hv7.form; have X1 := cellB hb7 X0; have HB7 := Lib.hid hb7; have HV7 := Lib.hid hv7; clear hb7 hv7) | (go_at_call 68; refine (written68 _ C sb mb kb q a now r hs Y F (HSD.out.below HB7.out) _ _ _ HV7.out (Nat.le_trans HFL.out HM.out) (fun h => HNO.out (.inl h)) (by have := HNO.out; simp only [not_or] at this; simpa using this.2.1) (by have := HNO.out; simp only [not_or] at this; omega)).mono ?_; rintro e w10 ⟨rfl, hd9⟩; have X2 := refuses_keep (w := w) (w1 := w) hd9 X1 HNE.out; have HD9 := Lib.hid hd9; clear hd9))
          all_goals
            go_wp2_with fail
            go_ret
            exact takeR_some rfl (by rw [HRS.out]; unfold writeF; rw [if_neg HNO.out]) (Done.of H.out (HFR.out.trans (frm_below HB7.out)) HD9.out)
      by_cases h5 : x = 5
      · subst h5
        have ht := turned71 w7 C sb mb kb q a now r hs Y F HI.out.sw HM1.out
        obtain ⟨rr, hrr⟩ : ∃ rr, rr = writeF Y q a.noNum (turL q a.num now hs) := ⟨_, rfl⟩
        obtain ⟨bb, hbb⟩ : ∃ bb, bb = rr.isSome := ⟨_, rfl⟩
        rw [← hrr] at ht
        have ht' : Calls Try.prog 71 #[.pointer (some ⟨sb, 0, none⟩)] w7 (fun e w' => e = .returned (.bool bb) ∧ Hid (TakeR w7 C sb mb kb rr e w')) := ht.mono fun e w' h => ⟨by rw [hbb]; exact h.1, h⟩
        have HT := Lib.hid ht'
        have HRR := Lib.hid hrr
        clear ht ht' hrr hbb
        go_wp2_with fail
        refine HT.out.mono ?_
        rintro e w8 ⟨rfl, HD⟩
        go_wp2_with fail
        go_ret
        exact TakeR.of H.out (frm_below HX.out) (by rw [HRES.out, succF_turn (.inl HOP.out.symm), ← HRR.out]; exact HD.out)
      by_cases h6 : x = 6
      · subst h6
        have ht := turned71 w7 C sb mb kb q a now r hs Y F HI.out.sw HM1.out
        obtain ⟨rr, hrr⟩ : ∃ rr, rr = writeF Y q a.noNum (turL q a.num now hs) := ⟨_, rfl⟩
        obtain ⟨bb, hbb⟩ : ∃ bb, bb = rr.isSome := ⟨_, rfl⟩
        rw [← hrr] at ht
        have ht' : Calls Try.prog 71 #[.pointer (some ⟨sb, 0, none⟩)] w7 (fun e w' => e = .returned (.bool bb) ∧ Hid (TakeR w7 C sb mb kb rr e w')) := ht.mono fun e w' h => ⟨by rw [hbb]; exact h.1, h⟩
        have HT := Lib.hid ht'
        have HRR := Lib.hid hrr
        clear ht ht' hrr hbb
        go_wp2_with fail
        refine HT.out.mono ?_
        rintro e w8 ⟨rfl, HD⟩
        go_wp2_with fail
        go_ret
        exact TakeR.of H.out (frm_below HX.out) (by rw [HRES.out, succF_turn (.inr HOP.out.symm), ← HRR.out]; exact HD.out)
      by_cases h4 : x = 4
      · subst h4
        by_cases hf0 : fn = 0
        · have hl : ((fn : Int) == 0) = true := by simp [hf0]
          have HF0 := Lib.hid hf0
          clear hf0
          go_wp2_with fail
          go_ret
          exact takeR_none rfl (by rw [HRES.out, succF_del HOP.out.symm, if_pos (.inl (List.eq_nil_of_length_eq_zero (HFN.out.symm.trans HF0.out)))]) (frm_below HX.out)
        · have hl : ((fn : Int) == 0) = false := by simp; omega
          have HF0 : Hid (hs.filterMap (fitHow q) ≠ []) := fun h => hf0 (by rw [HFN.out, h]; rfl)
          clear hf0
          have a0 : w7.cell? ⟨ab, 0, none⟩ = some (.int .i64 a.st) := blk_cell HI.out.ha 0
          have a1 : w7.cell? ⟨ab, 1, none⟩ = some (.slice r.aa a.val.length r.ac) := blk_cell HI.out.ha 1
          have a2 : w7.cell? ⟨ab, 2, none⟩ = some (.int .u32 a.fl) := blk_cell HI.out.ha 2
          have a3 : w7.cell? ⟨ab, 3, none⟩ = some (.int .u64 a.cas) := blk_cell HI.out.ha 3
          have a4 : w7.cell? ⟨ab, 4, none⟩ = some (.int .u64 a.num) := blk_cell HI.out.ha 4
          have a5 : w7.cell? ⟨ab, 5, none⟩ = some (.slice r.sa a.stats.length r.sc) := blk_cell HI.out.ha 5
          have a6 : w7.cell? ⟨ab, 6, none⟩ = some (.bool a.cl) := blk_cell HI.out.ha 6
          have hb := fun W => bare43 W a.st a.fl a.cas a.num r.aa r.sa a.val.length r.ac a.stats.length r.sc a.cl
          unfold ansV at hb
          obtain ⟨bb, hbb⟩ : ∃ bb, bb = anBare a := ⟨_, rfl⟩
          have hb' : bareB a.val.length a.fl a.cas a.num a.stats.length a.cl = bb := by rw [hbb]; rfl
          rw [hb'] at hb
          have HBB := Lib.hid hbb
          have HBR := Lib.hid hb
          clear hb hb' hbb
          go_wp2_with fail
          refine (HBR.out _).mono ?_
          rintro e w8 ⟨rfl, hb8⟩
          have hb8 : Below w7.heap.size w7 w8 := hb8
          have X1 := cellB hb8 B0
          have HI8 := Lib.hid (HI.out.below hb8)
          have HX8 : Hid (Below w.heap.size w w8) := HX.out.trans (hb8.mono HX.out.size)
          clear hb8 B0 q0 a0 a1 a2 a3 a4 a5 a6 HBR
          cases bb with
          | false =>
            go_wp2_with fail
            go_ret
            exact takeR_none rfl (by rw [HRES.out, succF_del HOP.out.symm, if_pos (.inr HBB.out.symm)]) (frm_below HX8.out)
          | true =>
            obtain ⟨c0, c21, m0⟩ := HI8.out.sw.cells
            have HBD := Lib.hid (hbelow_drew w8)
            obtain ⟨w9, hdl, HM9, HF9⟩ := HI8.out.sw.dels HBD.out 0
            have HDK : Hid (w9.cell? ⟨B, 0, none⟩ = some (.pointer (some ⟨sb, 0, none⟩)) ∧ w9.cell? ⟨sb, 0, none⟩ = some (.pointer (some ⟨mb, 0, none⟩)) ∧ w9.cell? ⟨sb, 21, none⟩ = some (.string ⟨q.key.toArray⟩) ∧ w9.cell? ⟨mb, 0, none⟩ = some (.map (some kb))) :=
              ⟨(HF9.out.cell (p := ⟨B, 0, none⟩) (World.block_lt_of_cell? _ _ X1) HNE.out.2.2).trans X1, (HF9.out.cell (p := ⟨sb, 0, none⟩) (World.block_lt_of_cell? _ _ c0) H.out.nk).trans c0, (HF9.out.cell (p := ⟨sb, 21, none⟩) (World.block_lt_of_cell? _ _ c21) H.out.nk).trans c21, (HF9.out.cell (p := ⟨mb, 0, none⟩) (World.block_lt_of_cell? _ _ m0) H.out.map.ne).trans m0⟩
            go_wp2_with fail
            go_region_held3 (fun w' => w'.cell? ⟨B, 0, none⟩ = some (.pointer (some ⟨sb, 0, none⟩)) ∧ w'.cell? ⟨sb, 0, none⟩ = some (.pointer (some ⟨mb, 0, none⟩)) ∧ w'.cell? ⟨sb, 21, none⟩ = some (.string ⟨q.key.toArray⟩) ∧ w'.cell? ⟨mb, 0, none⟩ = some (.map (some kb))) (first | exact ⟨X1, c0, c21, m0⟩ | exact HDK.out) (first | fail)
            all_goals
              go_wp2_with fail
              go_ret
              exact takeR_some rfl (by rw [HRES.out, succF_del HOP.out.symm, if_neg (by rintro (h | h); exact HF0.out h; rw [← HBB.out] at h; cases h)]) (Done.of H.out (frm_below HX8.out) (HI8.out.sw.del HBD.out HF9.out HM9.out))
      by_cases h3 : x = 3
      · subst h3
        have r9 : w7.cell? ⟨qb, 9, none⟩ = some (.int .u64 q.cas) := blk_cell HI.out.hq 9
        by_cases hf0 : fn = 0
        · have hl : ((fn : Int) == 0) = true := by simp [hf0]
          have HF0 : Hid (hs.filterMap (fitHow q) = []) := List.eq_nil_of_length_eq_zero (HFN.out.symm.trans hf0)
          clear hf0
          go_wp2_with fail
          go_ret
          exact takeR_none rfl (by rw [HRES.out, succF_rep0 HOP.out.symm HF0.out]) (frm_below HX.out)
        · have hl : ((fn : Int) == 0) = false := by simp; omega
          have HF0 : Hid (hs.filterMap (fitHow q) ≠ []) := fun h => hf0 (by rw [HFN.out, h]; rfl)
          clear hf0
          have o0 : w7.cell? ⟨ob, 0, none⟩ = some (.slice r.va q.val.length r.vc) := blk_cell HI.out.ho 0
          have o1 : w7.cell? ⟨ob, 1, none⟩ = some (.int .u32 q.fl) := blk_cell HI.out.ho 1
          have o2 : w7.cell? ⟨ob, 2, none⟩ = some (.int .u32 (expiryF now q.ex)) := blk_cell HI.out.ho 2
          have o3 : w7.cell? ⟨ob, 3, none⟩ = some (.int .u64 0) := blk_cell HI.out.ho 3
          have HRS : Hid (res = writeF Y q a [ownT q now]) := HRES.out.trans (succF_fit (.inl HOP.out.symm) HF0.out)
          have HAL : Hid (Below w7.heap.size w7 (w7.alloc (.cells (boxC (.slice r.va q.val.length r.vc) (ownT q now)) 49))) := (Below.refl _ w7).alloc (Nat.le_refl _) _
          have HV : Hid (VersAt (w7.alloc (.cells (boxC (.slice r.va q.val.length r.vc) (ownT q now)) 49)) (fun _ => True) (.slice (some ⟨w7.heap.size, 0, none⟩) 1 1) [ownT q now]) := vers_one w7 _ _ _ (HI.out.sw.val.mono fun _ _ _ => trivial) trivial HOWN.out
          by_cases hno : [ownT q now] = [] ∨ anBare0 a = false ∨ a.cas ≤ Y.tok
          · have HNO := Lib.hid hno
            clear hno
            go_wp2_with fail
            refine (written68_no _ C sb mb kb q a now r hs Y F (HI.out.sw.below HAL.out) _ 1 _ (.inr (HNO.out.resolve_left (by simp)))).mono ?_
            rintro e w8 ⟨rfl, hb8⟩
            have HB8 := Lib.hid hb8
            clear hb8
            go_wp2_with fail
            go_ret
            exact takeR_none rfl (by rw [HRS.out]; unfold writeF; rw [if_pos HNO.out]) (frm_below (HX.out.trans ((HAL.out.trans (HB8.out.mono HAL.out.size)).mono HX.out.size)))
          · have HNO := Lib.hid hno
            clear hno
            go_wp2_with fail
            refine (written68 _ C sb mb kb q a now r hs Y F (HI.out.sw.below HAL.out) _ _ _ HV.out (by simp) (by simp) (by have := HNO.out; simp only [not_or] at this; simpa using this.2.1) (by have := HNO.out; simp only [not_or] at this; omega)).mono ?_
            rintro e w8 ⟨rfl, hd8⟩
            have HD8 := Lib.hid hd8
            clear hd8
            go_wp2_with fail
            go_ret
            exact takeR_some rfl (by rw [HRS.out]; unfold writeF; rw [if_neg HNO.out]) (Done.of H.out (frm_below (HX.out.trans (HAL.out.mono HX.out.size))) HD8.out)
      by_cases h1 : x = 1
      · subst h1
        have r9 : w7.cell? ⟨qb, 9, none⟩ = some (.int .u64 q.cas) := blk_cell HI.out.hq 9
        by_cases hf0 : fn = 0
        · have hl : ((fn : Int) == 0) = true := by simp [hf0]
          have HF0 : Hid (hs.filterMap (fitHow q) = []) := List.eq_nil_of_length_eq_zero (HFN.out.symm.trans hf0)
          clear hf0
          by_cases hc : q.cas = 0
          · have hcc : (q.cas == 0) = true := by simp [hc]
            have HCC := Lib.hid hc
            clear hc
            have o0 : w7.cell? ⟨ob, 0, none⟩ = some (.slice r.va q.val.length r.vc) := blk_cell HI.out.ho 0
            have o1 : w7.cell? ⟨ob, 1, none⟩ = some (.int .u32 q.fl) := blk_cell HI.out.ho 1
            have o2 : w7.cell? ⟨ob, 2, none⟩ = some (.int .u32 (expiryF now q.ex)) := blk_cell HI.out.ho 2
            have o3 : w7.cell? ⟨ob, 3, none⟩ = some (.int .u64 0) := blk_cell HI.out.ho 3
            have HRS : Hid (res = writeF Y q a [ownT q now]) := HRES.out.trans (succF_set1 HOP.out.symm HCC.out)
            have HAL : Hid (Below w7.heap.size w7 (w7.alloc (.cells (boxC (.slice r.va q.val.length r.vc) (ownT q now)) 49))) := (Below.refl _ w7).alloc (Nat.le_refl _) _
            have HV : Hid (VersAt (w7.alloc (.cells (boxC (.slice r.va q.val.length r.vc) (ownT q now)) 49)) (fun _ => True) (.slice (some ⟨w7.heap.size, 0, none⟩) 1 1) [ownT q now]) := vers_one w7 _ _ _ (HI.out.sw.val.mono fun _ _ _ => trivial) trivial HOWN.out
            by_cases hno : [ownT q now] = [] ∨ anBare0 a = false ∨ a.cas ≤ Y.tok
            · have HNO := Lib.hid hno
              clear hno
              go_wp2_with fail
              refine (written68_no _ C sb mb kb q a now r hs Y F (HI.out.sw.below HAL.out) _ 1 _ (.inr (HNO.out.resolve_left (by simp)))).mono ?_
              rintro e w8 ⟨rfl, hb8⟩
              have HB8 := Lib.hid hb8
              clear hb8
              go_wp2_with fail
              go_ret
              exact takeR_none rfl (by rw [HRS.out]; unfold writeF; rw [if_pos HNO.out]) (frm_below (HX.out.trans ((HAL.out.trans (HB8.out.mono HAL.out.size)).mono HX.out.size)))
            · have HNO := Lib.hid hno
              clear hno
              go_wp2_with fail
              refine (written68 _ C sb mb kb q a now r hs Y F (HI.out.sw.below HAL.out) _ _ _ HV.out (by simp) (by simp) (by have := HNO.out; simp only [not_or] at this; simpa using this.2.1) (by have := HNO.out; simp only [not_or] at this; omega)).mono ?_
              rintro e w8 ⟨rfl, hd8⟩
              have HD8 := Lib.hid hd8
              clear hd8
              go_wp2_with fail
              go_ret
              exact takeR_some rfl (by rw [HRS.out]; unfold writeF; rw [if_neg HNO.out]) (Done.of H.out (frm_below (HX.out.trans (HAL.out.mono HX.out.size))) HD8.out)
          · have hcc : (q.cas == 0) = false := by simp [hc]
            have HCC := Lib.hid hc
            clear hc
            go_wp2_with fail
            go_ret
            exact takeR_none rfl (by rw [HRES.out, succF_set0 HOP.out.symm HF0.out HCC.out]) (frm_below HX.out)
        · have hl : ((fn : Int) == 0) = false := by simp; omega
          have HF0 : Hid (hs.filterMap (fitHow q) ≠ []) := fun h => hf0 (by rw [HFN.out, h]; rfl)
          clear hf0
          have o0 : w7.cell? ⟨ob, 0, none⟩ = some (.slice r.va q.val.length r.vc) := blk_cell HI.out.ho 0
          have o1 : w7.cell? ⟨ob, 1, none⟩ = some (.int .u32 q.fl) := blk_cell HI.out.ho 1
          have o2 : w7.cell? ⟨ob, 2, none⟩ = some (.int .u32 (expiryF now q.ex)) := blk_cell HI.out.ho 2
          have o3 : w7.cell? ⟨ob, 3, none⟩ = some (.int .u64 0) := blk_cell HI.out.ho 3
          have HRS : Hid (res = writeF Y q a [ownT q now]) := HRES.out.trans (succF_fit (.inr HOP.out.symm) HF0.out)
          have HAL : Hid (Below w7.heap.size w7 (w7.alloc (.cells (boxC (.slice r.va q.val.length r.vc) (ownT q now)) 49))) := (Below.refl _ w7).alloc (Nat.le_refl _) _
          have HV : Hid (VersAt (w7.alloc (.cells (boxC (.slice r.va q.val.length r.vc) (ownT q now)) 49)) (fun _ => True) (.slice (some ⟨w7.heap.size, 0, none⟩) 1 1) [ownT q now]) := vers_one w7 _ _ _ (HI.out.sw.val.mono fun _ _ _ => trivial) trivial HOWN.out
          by_cases hno : [ownT q now] = [] ∨ anBare0 a = false ∨ a.cas ≤ Y.tok
          · have HNO := Lib.hid hno
            clear hno
            go_wp2_with fail
            refine (written68_no _ C sb mb kb q a now r hs Y F (HI.out.sw.below HAL.out) _ 1 _ (.inr (HNO.out.resolve_left (by simp)))).mono ?_
            rintro e w8 ⟨rfl, hb8⟩
            have HB8 := Lib.hid hb8
            clear hb8
            go_wp2_with fail
            go_ret
            exact takeR_none rfl (by rw [HRS.out]; unfold writeF; rw [if_pos HNO.out]) (frm_below (HX.out.trans ((HAL.out.trans (HB8.out.mono HAL.out.size)).mono HX.out.size)))
          · have HNO := Lib.hid hno
            clear hno
            go_wp2_with fail
            refine (written68 _ C sb mb kb q a now r hs Y F (HI.out.sw.below HAL.out) _ _ _ HV.out (by simp) (by simp) (by have := HNO.out; simp only [not_or] at this; simpa using this.2.1) (by have := HNO.out; simp only [not_or] at this; omega)).mono ?_
            rintro e w8 ⟨rfl, hd8⟩
            have HD8 := Lib.hid hd8
            clear hd8
            go_wp2_with fail
            go_ret
            exact takeR_some rfl (by rw [HRS.out]; unfold writeF; rw [if_neg HNO.out]) (Done.of H.out (frm_below (HX.out.trans (HAL.out.mono HX.out.size))) HD8.out)
      have HNX : Hid (¬ x = 0 ∧ ¬ x = 29 ∧ ¬ x = 28 ∧ ¬ x = 14 ∧ ¬ x = 15 ∧ ¬ x = 5 ∧ ¬ x = 6 ∧ ¬ x = 4 ∧ ¬ x = 3 ∧ ¬ x = 1) := ⟨h0, h29, h28, h14, h15, h5, h6, h4, h3, h1⟩
      have e0 : (x == 0) = false := by simp [h0]
      have e29 : (x == 29) = false := by simp [h29]
      have e28 : (x == 28) = false := by simp [h28]
      have e14 : (x == 14) = false := by simp [h14]
      have e15 : (x == 15) = false := by simp [h15]
      have e5 : (x == 5) = false := by simp [h5]
      have e6 : (x == 6) = false := by simp [h6]
      have e4 : (x == 4) = false := by simp [h4]
      have e3 : (x == 3) = false := by simp [h3]
      have e1 : (x == 1) = false := by simp [h1]
      clear h0 h29 h28 h14 h15 h5 h6 h4 h3 h1
      have o0 : w7.cell? ⟨ob, 0, none⟩ = some (.slice r.va q.val.length r.vc) := blk_cell HI.out.ho 0
      have o1 : w7.cell? ⟨ob, 1, none⟩ = some (.int .u32 q.fl) := blk_cell HI.out.ho 1
      have o2 : w7.cell? ⟨ob, 2, none⟩ = some (.int .u32 (expiryF now q.ex)) := blk_cell HI.out.ho 2
      have o3 : w7.cell? ⟨ob, 3, none⟩ = some (.int .u64 0) := blk_cell HI.out.ho 3
      have HRS : Hid (res = writeF Y q a [ownT q now]) := HRES.out.trans (succF_else (by rw [← HOP.out]; exact HNX.out))
      have HAL : Hid (Below w7.heap.size w7 (w7.alloc (.cells (boxC (.slice r.va q.val.length r.vc) (ownT q now)) 49))) := (Below.refl _ w7).alloc (Nat.le_refl _) _
      have HV : Hid (VersAt (w7.alloc (.cells (boxC (.slice r.va q.val.length r.vc) (ownT q now)) 49)) (fun _ => True) (.slice (some ⟨w7.heap.size, 0, none⟩) 1 1) [ownT q now]) := vers_one w7 _ _ _ (HI.out.sw.val.mono fun _ _ _ => trivial) trivial HOWN.out
      by_cases hno : [ownT q now] = [] ∨ anBare0 a = false ∨ a.cas ≤ Y.tok
      · have HNO := Lib.hid hno
        clear hno
        go_wp2_with fail
        refine (written68_no _ C sb mb kb q a now r hs Y F (HI.out.sw.below HAL.out) _ 1 _ (.inr (HNO.out.resolve_left (by simp)))).mono ?_
        rintro e w8 ⟨rfl, hb8⟩
        have HB8 := Lib.hid hb8
        clear hb8
        go_wp2_with fail
        go_ret
        exact takeR_none rfl (by rw [HRS.out]; unfold writeF; rw [if_pos HNO.out]) (frm_below (HX.out.trans ((HAL.out.trans (HB8.out.mono HAL.out.size)).mono HX.out.size)))
      · have HNO := Lib.hid hno
        clear hno
        go_wp2_with fail
        refine (written68 _ C sb mb kb q a now r hs Y F (HI.out.sw.below HAL.out) _ _ _ HV.out (by simp) (by simp) (by have := HNO.out; simp only [not_or] at this; simpa using this.2.1) (by have := HNO.out; simp only [not_or] at this; omega)).mono ?_
        rintro e w8 ⟨rfl, hd8⟩
        have HD8 := Lib.hid hd8
        clear hd8
        go_wp2_with fail
        go_ret
        exact takeR_some rfl (by rw [HRS.out]; unfold writeF; rw [if_neg HNO.out]) (Done.of H.out (frm_below (HX.out.trans (HAL.out.mono HX.out.size))) HD8.out)
end Go.Proofs.Ytngpffmgkponfaa
