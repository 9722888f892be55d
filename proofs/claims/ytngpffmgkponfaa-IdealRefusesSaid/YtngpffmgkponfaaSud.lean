/- The functions that ideal.step.succeeds hands to each, that turn versions. Conditions: the step, the answer, the request lie in memory. -/
import Derived.Test.YtngpffmgkponfaaSuc
set_option linter.unusedVariables false
set_option linter.unusedSimpArgs false
namespace Go.Proofs.Ytngpffmgkponfaa
open Go.RowKit Go.Ice Go.Idl

theorem blk_setAt {w : World} {b k : Nat} {cs : Array Value} {e : TypeId} (h : w.heap[b]? = some (.cells cs e (0, 0))) (v : Value) : (w.setCell ⟨b, k, none⟩ v).heap[b]? = some (.cells (cs.setIfInBounds k v) e (0, 0)) := by
  simp [World.setCell, Array.getElem?_modify, h]
theorem setCell_frm1 (w : World) (b k : Nat) (v : Value) : Frm (fun x => x = b) w (w.setCell ⟨b, k, none⟩ v) := (Frm.refl (fun x => x = b) w).setCell (p := ⟨b, k, none⟩) (.inl rfl) v

theorem how_no {W w' : World} {p : Nat} {x : Value} {t : Tv} {how : Option Tv} {e : Ending} (he : e = .returned (.bool false)) (hf : Frm (fun b => b = p) W w') (hh : how = none) : HowR W p x t how e w' := by
  subst hh
  exact ⟨he, hf, fun t' ht => by cases ht⟩
theorem how_turn {W w' : World} {p : Nat} {x x' : Value} {t t' : Tv} {how : Option Tv} {e : Ending} (he : e = .returned (.bool true)) (hf : Frm (fun b => b = p) W w') (hp : w'.heap[p]? = some (.cells (boxC x' t') 49 (0, 0))) (hok : Tv.ok t') (hh : how = some t')
    (hx : (x' = x ∧ t'.val = t.val) ∨ Own w' W.heap.size 5 x' (t'.val.map u8v)) : HowR W p x t how e w' := by
  subst hh
  exact ⟨he, hf, fun t'' ht => by cases ht; exact ⟨hok, x', hp, hx⟩⟩

set_option maxHeartbeats 4000000 in
set_option maxRecDepth 20000 in
theorem how69 (w : World) (a : An) (q : Rq) (own : Tv) (ov : Value) (aa sa ka va : Option Addr) (ac sc kc vc : Nat) (ob qb tb ab : Nat) (ho : w.heap[ob]? = some (.cells (boxC ov own) 49 (0, 0))) (hq : w.heap[qb]? = some (.cells (rqC q ka va kc vc) 35 (0, 0)))
    (ht : w.heap[tb]? = some (.cells #[.func (.func 64) #[] #[.pointer (some ⟨ab, 0, none⟩)]] 112 (0, 0))) (ha : w.heap[ab]? = some (.cells (anC a aa sa ac sc) 38 (0, 0))) (hv : BytesAt w (.slice aa a.val.length ac) a.val) (hex : 0 ≤ own.ex ∧ own.ex ≤ 4294967295) :
    How w 69 #[.pointer (some ⟨ob, 0, none⟩), .pointer (some ⟨qb, 0, none⟩), .pointer (some ⟨tb, 0, none⟩)] (touHow q a own.ex) := by
  intro W p x t hb hp hbx hx htok
  have o2 : W.cell? ⟨ob, 2, none⟩ = some (.int .u32 own.ex) := blk_cell ((hb.block ob (blk_lt ho)).trans ho) 2
  have q0 : W.cell? ⟨qb, 0, none⟩ = some (.int .i64 q.op) := blk_cell ((hb.block qb (blk_lt hq)).trans hq) 0
  have t0 : W.cell? ⟨tb, 0, none⟩ = some (.func (.func 64) #[] #[.pointer (some ⟨ab, 0, none⟩)]) := blk_cell ((hb.block tb (blk_lt ht)).trans ht) 0
  have b2 : W.cell? ⟨p, 2, none⟩ = some (.int .u32 t.ex) := blk_cell hbx 2
  have f2 : W.frozen? ⟨p, 2, none⟩ = false := blk_frozen hbx 2
  have hpq : qb ≠ p := by have := blk_lt hq; omega
  have hpt : tb ≠ p := by have := blk_lt ht; omega
  have hpa : ab ≠ p := by have := blk_lt ha; omega
  have hf := setCell_frm1 W p 2 (.int .u32 own.ex)
  have hbx' : (W.setCell ⟨p, 2, none⟩ (.int .u32 own.ex)).heap[p]? = some (.cells (boxC x ⟨t.val, t.fl, own.ex, t.cas⟩) 49 (0, 0)) := blk_setAt hbx _
  have hsz : (W.setCell ⟨p, 2, none⟩ (.int .u32 own.ex)).heap.size = W.heap.size := by simp [World.setCell]
  have hx' : BytesAt (W.setCell ⟨p, 2, none⟩ (.int .u32 own.ex)) x t.val := IsSl.frm hx.1 hf fun hl b hb' e => hx.2 (by intro e; simp [e] at hl) b hb' e
  have hv' : BytesAt (W.setCell ⟨p, 2, none⟩ (.int .u32 own.ex)) (.slice aa a.val.length ac) a.val := IsSl.frm (hv.below hb (Nat.le_refl _)) hf fun hl b hb' e => by
    rcases hv with ⟨h1, _⟩ | ⟨h0, b', off, cap, hv1, h1, h2, h3, h4⟩
    · exact hl h1
    · rw [hv1] at hb'; cases hb'; exact absurd (show b' = p from e) (by omega)
  have htold := told64 (W.setCell ⟨p, 2, none⟩ (.int .u32 own.ex)) p ab x ⟨t.val, t.fl, own.ex, t.cas⟩ a aa sa ac sc hbx' hx' ((hf.block ab (by have := blk_lt ha; have := hb.size; omega) hpa).trans ((hb.block ab (blk_lt ha)).trans ha)) hv'
  obtain ⟨bb, hbb⟩ : ∃ bb, bb = toldB a t := ⟨_, rfl⟩
  have e1 : toldB a ⟨t.val, t.fl, own.ex, t.cas⟩ = bb := hbb.symm
  rw [e1] at htold
  obtain ⟨how, hhow⟩ : ∃ how, how = touHow q a own.ex t := ⟨_, rfl⟩
  rw [← hhow]
  have HH : Hid (how = if q.op == 28 || bb then some ⟨t.val, t.fl, own.ex, t.cas⟩ else none) := by show _ = _; rw [hhow, hbb]; rfl
  have HT := Lib.hid htold
  have HF := Lib.hid hf
  have HBX := Lib.hid hbx'
  have HOK : Hid (Tv.ok ⟨t.val, t.fl, own.ex, t.cas⟩) := ⟨htok.1, htok.2.1, htok.2.2.1, hex.1, hex.2, htok.2.2.2.2.2⟩
  clear hb hp hbx hx ho hq ht ha hv hbx' hx' hv' htold hbb e1 hhow hf hsz hex htok
  show Calls Try.prog 69 #[_, _, _, _] _ _
  by_cases h28 : q.op = 28
  · have hd : (q.op == 28) = true := by simp [h28]
    have HX : Hid (how = some ⟨t.val, t.fl, own.ex, t.cas⟩) := by show _ = _; rw [HH.out, hd]; rfl
    clear h28
    go_enter Try.func69, Try.ntmps69
    go_wp2_with fail
    go_ret
    exact how_turn rfl HF.out HBX.out HOK.out HX.out (.inl ⟨rfl, rfl⟩)
  · have hd : (q.op == 28) = false := by simp [h28]
    have HX : Hid (how = if bb then some ⟨t.val, t.fl, own.ex, t.cas⟩ else none) := by show _ = _; rw [HH.out, hd]; rfl
    clear h28
    go_enter Try.func69, Try.ntmps69
    go_wp2_with fail
    refine HT.out.mono ?_
    rintro e w1 ⟨rfl, hb1⟩
    have HB1 := Lib.hid hb1
    clear hb1
    cases bb with
    | false =>
      go_wp2_with fail
      go_ret
      exact how_no rfl (HF.out.trans (frm_below HB1.out)) HX.out
    | true =>
      go_wp2_with fail
      go_ret
      exact how_turn rfl (HF.out.trans (frm_below HB1.out)) ((HB1.out.block p (blk_lt HBX.out)).trans HBX.out) HOK.out HX.out (.inl ⟨rfl, rfl⟩)

set_option maxHeartbeats 8000000 in
set_option maxRecDepth 20000 in
theorem how70 (w : World) (C : Nat → Prop) (sb mb kb : Nat) (q : Rq) (a : An) (now : Int) (r : Raw) (hs : List Tv) (Y : St) (F : List UInt8 → Option Value) (h : SW w C sb mb kb q a now r hs Y F) (bt qb : Nat)
    (hbt : w.heap[bt]? = some (.cells #[.pointer (some ⟨sb, 0, none⟩)] 77 (0, 0))) (hq : w.heap[qb]? = some (.cells (rqC q r.ka r.va r.kc r.vc) 35 (0, 0))) : How w 70 #[.pointer (some ⟨bt, 0, none⟩), .pointer (some ⟨qb, 0, none⟩)] (joiHow q) := by
  intro W p x t hb hp hbx hx htok
  have t0 : W.cell? ⟨bt, 0, none⟩ = some (.pointer (some ⟨sb, 0, none⟩)) := blk_cell ((hb.block bt (blk_lt hbt)).trans hbt) 0
  have q0 : W.cell? ⟨qb, 0, none⟩ = some (.int .i64 q.op) := blk_cell ((hb.block qb (blk_lt hq)).trans hq) 0
  have q6 : W.cell? ⟨qb, 6, none⟩ = some (.slice r.va q.val.length r.vc) := blk_cell ((hb.block qb (blk_lt hq)).trans hq) 6
  have hqv := (h.below hb).val.1
  have hql := h.qok.2.2.2.2.2.2.2.2.2.2.2
  have htl := htok.1
  have hpa := Nat.ne_of_lt (Nat.lt_of_lt_of_le (blk_lt hq) hp)
  obtain ⟨xa, xc, rfl, _⟩ := BytesAt.form hx.1
  have hfit := fits63 W.drew C sb mb kb q a now r hs Y F (h.below hb.drew) (.slice xa t.val.length xc) t ⟨_, _, _, rfl⟩
  unfold tvV at hfit
  obtain ⟨va, hva⟩ : ∃ v, v = r.va := ⟨_, rfl⟩
  obtain ⟨vc, hvc⟩ : ∃ v, v = r.vc := ⟨_, rfl⟩
  rw [← hva, ← hvc] at q6 hqv
  obtain ⟨xn, hxn⟩ : ∃ n, n = t.val.length := ⟨_, rfl⟩
  obtain ⟨qn, hqn⟩ : ∃ n, n = q.val.length := ⟨_, rfl⟩
  have hx1 := hx.1
  rw [← hxn] at hbx hfit hx1 htl ⊢
  rw [← hqn] at q6 hqv hql
  have b0 : W.cell? ⟨p, 0, none⟩ = some (.slice xa xn xc) := blk_cell hbx 0
  have b1 : W.cell? ⟨p, 1, none⟩ = some (.int .u32 t.fl) := blk_cell hbx 1
  have b2 : W.cell? ⟨p, 2, none⟩ = some (.int .u32 t.ex) := blk_cell hbx 2
  have b3 : W.cell? ⟨p, 3, none⟩ = some (.int .u64 t.cas) := blk_cell hbx 3
  obtain ⟨fb, hfb⟩ : ∃ bb, bb = fitsB q t := ⟨_, rfl⟩
  rw [← hfb] at hfit
  obtain ⟨how, hhow⟩ : ∃ how, how = joiHow q t := ⟨_, rfl⟩
  rw [← hhow]
  obtain ⟨jl, hjl⟩ : ∃ jl, jl = (if q.op = 15 then q.val ++ t.val else t.val ++ q.val) := ⟨_, rfl⟩
  have HH : Hid (how = if fb && decide (xn + qn ≤ 512) then some ⟨jl, t.fl, t.ex, t.cas⟩ else none) := by show _ = _; rw [hhow, hfb, hxn, hqn, hjl]; rfl
  have hjlen : jl.length = xn + qn := by rw [hjl, hxn, hqn]; split <;> simp [Nat.add_comm]
  have hok : xn + qn ≤ 512 → Tv.ok ⟨jl, t.fl, t.ex, t.cas⟩ := fun hl => ⟨by show jl.length ≤ 1000; omega, htok.2⟩
  have HOK := Lib.hid hok
  have HFIT := Lib.hid hfit
  have HBX := Lib.hid hbx
  have key : ∀ (one two : Value) (l1 l2 : List UInt8), ((q.op = 15 ∧ one = .slice va qn vc ∧ two = .slice xa xn xc ∧ l1 = q.val ∧ l2 = t.val) ∨ (¬ q.op = 15 ∧ one = .slice xa xn xc ∧ two = .slice va qn vc ∧ l1 = t.val ∧ l2 = q.val)) →
      Hid (∀ W', Below W.heap.size W W' → Calls Try.prog 27 #[one, two] W' fun e w' => ∃ v, e = .returned (.tuple #[v, .int .i64 (if 512 < xn + qn then 3 else 0)]) ∧ ((∃ a n c, v = .slice a n c) ∧ (xn + qn ≤ 512 → Own w' W'.heap.size 5 v (jl.map u8v))) ∧ Below W'.heap.size W' w') := by
    intro one two l1 l2 hc W' hW
    have hlx := hx1.below hW (Nat.le_refl _)
    have hlq := hqv.below hW (Nat.le_refl _)
    by_cases hl : 512 < xn + qn
    · rw [if_pos hl]
      rcases hc with ⟨_, rfl, rfl, _⟩ | ⟨_, rfl, rfl, _⟩
      · exact (join_long W' va xa qn xn vc xc (by omega) (by omega) (by omega)).mono fun e w' ⟨he, hw⟩ => ⟨_, he, ⟨⟨_, _, _, rfl⟩, fun h => by omega⟩, by rw [← hw]; exact Below.refl _ _⟩
      · exact (join_long W' xa va xn qn xc vc hl (by omega) (by omega)).mono fun e w' ⟨he, hw⟩ => ⟨_, he, ⟨⟨_, _, _, rfl⟩, fun h => by omega⟩, by rw [← hw]; exact Below.refl _ _⟩
    · rw [if_neg hl]
      rcases hc with ⟨h15, rfl, rfl, _⟩ | ⟨h15, rfl, rfl, _⟩
      · refine (join_ok W' _ _ q.val t.val hlq hlx (by omega)).mono fun e w' ⟨v, he, ho, hw⟩ => ⟨_, he, ⟨?_, fun _ => ?_⟩, hw⟩
        · obtain ⟨a, c, e, _⟩ := own_form ho; exact ⟨a, _, c, e⟩
        · rw [hjl, if_pos h15]; exact ho
      · refine (join_ok W' _ _ t.val q.val hlx hlq (by omega)).mono fun e w' ⟨v, he, ho, hw⟩ => ⟨_, he, ⟨?_, fun _ => ?_⟩, hw⟩
        · obtain ⟨a, c, e, _⟩ := own_form ho; exact ⟨a, _, c, e⟩
        · rw [hjl, if_neg h15]; exact ho
  generalize hec : (if 512 < xn + qn then (3 : Int) else 0) = ec at key
  have HEC := Lib.hid hec
  by_cases h15 : q.op = 15
  · have HJ := key _ _ _ _ (.inl ⟨h15, rfl, rfl, rfl, rfl⟩)
    have hd : (q.op == 15) = true := by simp [h15]
    clear h hb hp hx hbt hxn hqn hva hvc hfb hhow hfit hbx htok hq hqv hql htl hx1 hjl hjlen hok key hec h15 hpa
    show Calls Try.prog 70 #[_, _, _] _ _
    go_enter Try.func70, Try.ntmps70
    go_wp2_with fail
    go_still_tail 4, (by kernel_rfl)
    change wpList _ _ _ _ _ W.drew
    go_wp2_with fail
    refine HFIT.out.mono ?_
    rintro e w1 ⟨rfl, hb1⟩
    have hb1' : Below W.heap.size W w1 := (drewN_below W 1).trans hb1
    have HB1 := Lib.hid hb1'
    have c0 := cellB hb1' b0
    have d6 := cellB hb1' q6
    have d0 := cellB hb1' q0
    clear hb1 hb1' b0 b1 b2 b3 q6 q0 t0
    go_wp2_with fail
    go_quiet (fail)
    go_wp2_with fail
    refine (HJ.out _ (HB1.out.trans ((drewN_below w1 nq).mono HB1.out.size))).mono ?_
    rintro e w2 ⟨jv, rfl, hown, hb2⟩
    obtain ⟨ja, jn, jc, rfl⟩ : ∃ a n c, jv = .slice a n c := hown.1
    have hbw : Below W.heap.size W w2 := (HB1.out.trans ((drewN_below w1 nq).mono HB1.out.size)).trans (hb2.mono (by have := HB1.out.size; exact this))
    have HBW := Lib.hid hbw
    have HB2 : Hid (w2.heap[p]? = some (.cells (boxC (.slice xa xn xc) t) 49 (0, 0))) := (hbw.block p (blk_lt HBX.out)).trans HBX.out
    have g0 : w2.cell? ⟨p, 0, none⟩ = some (.slice xa xn xc) := blk_cell HB2.out 0
    have f0 : w2.frozen? ⟨p, 0, none⟩ = false := blk_frozen HB2.out 0
    have HOWN := Lib.hid hown.2
    have HBP : Hid ((w2.setCell ⟨p, 0, none⟩ (.slice ja jn jc)).heap[p]? = some (.cells (boxC (.slice ja jn jc) ⟨jl, t.fl, t.ex, t.cas⟩) 49 (0, 0))) := blk_setAt HB2.out _
    have HFR : Hid (Frm (fun b => b = p) W (w2.setCell ⟨p, 0, none⟩ (.slice ja jn jc))) := (frm_below hbw).trans (setCell_frm1 w2 p 0 _)
    clear hbw hb2 hown c0 d6 d0
    by_cases hl : 512 < xn + qn
    · obtain rfl : (3 : Int) = ec := by have := HEC.out; rwa [if_pos hl] at this
      have HX : Hid (how = none) := by show _ = _; rw [HH.out, decide_eq_false (by omega)]; cases fb <;> rfl
      clear hl
      cases fb with
      | false =>
        go_wp2_with fail
        go_ret
        exact how_no rfl HFR.out HX.out
      | true =>
        go_wp2_with fail
        go_ret
        exact how_no rfl HFR.out HX.out
    · obtain rfl : (0 : Int) = ec := by have := HEC.out; rwa [if_neg hl] at this
      have HX : Hid (how = if fb then some ⟨jl, t.fl, t.ex, t.cas⟩ else none) := by show _ = _; rw [HH.out, decide_eq_true (by omega)]; cases fb <;> rfl
      have HL := Lib.hid hl
      clear hl
      cases fb with
      | false =>
        go_wp2_with fail
        go_ret
        exact how_no rfl HFR.out HX.out
      | true =>
        go_wp2_with fail
        go_ret
        exact how_turn rfl HFR.out HBP.out (HOK.out (by have := HL.out; omega)) HX.out (.inr (own_base (own_keep (HOWN.out (by have := HL.out; omega)) (fun b hb => (setCell_frm1 w2 p 0 _).block b ((HOWN.out (by have := HL.out; omega)).lt b hb).2 (by have := ((HOWN.out (by have := HL.out; omega)).lt b hb).1; have := HB1.out.size; have := blk_lt HBX.out; have hz : (w1.drewN nq).heap.size = w1.heap.size := rfl; intro e; omega))) (by have := HB1.out.size; exact this)))
  · have HJ := key _ _ _ _ (.inr ⟨h15, rfl, rfl, rfl, rfl⟩)
    have hd : (q.op == 15) = false := by simp [h15]
    clear h hb hp hx hbt hxn hqn hva hvc hfb hhow hfit hbx htok hq hqv hql htl hx1 hjl hjlen hok key hec h15 hpa
    show Calls Try.prog 70 #[_, _, _] _ _
    go_enter Try.func70, Try.ntmps70
    go_wp2_with fail
    go_still_tail 4, (by kernel_rfl)
    change wpList _ _ _ _ _ W.drew
    go_wp2_with fail
    refine HFIT.out.mono ?_
    rintro e w1 ⟨rfl, hb1⟩
    have hb1' : Below W.heap.size W w1 := (drewN_below W 1).trans hb1
    have HB1 := Lib.hid hb1'
    have c0 := cellB hb1' b0
    have d6 := cellB hb1' q6
    have d0 := cellB hb1' q0
    clear hb1 hb1' b0 b1 b2 b3 q6 q0 t0
    go_wp2_with fail
    go_quiet (fail)
    go_wp2_with fail
    refine (HJ.out _ (HB1.out.trans ((drewN_below w1 nq).mono HB1.out.size))).mono ?_
    rintro e w2 ⟨jv, rfl, hown, hb2⟩
    obtain ⟨ja, jn, jc, rfl⟩ : ∃ a n c, jv = .slice a n c := hown.1
    have hbw : Below W.heap.size W w2 := (HB1.out.trans ((drewN_below w1 nq).mono HB1.out.size)).trans (hb2.mono (by have := HB1.out.size; exact this))
    have HBW := Lib.hid hbw
    have HB2 : Hid (w2.heap[p]? = some (.cells (boxC (.slice xa xn xc) t) 49 (0, 0))) := (hbw.block p (blk_lt HBX.out)).trans HBX.out
    have g0 : w2.cell? ⟨p, 0, none⟩ = some (.slice xa xn xc) := blk_cell HB2.out 0
    have f0 : w2.frozen? ⟨p, 0, none⟩ = false := blk_frozen HB2.out 0
    have HOWN := Lib.hid hown.2
    have HBP : Hid ((w2.setCell ⟨p, 0, none⟩ (.slice ja jn jc)).heap[p]? = some (.cells (boxC (.slice ja jn jc) ⟨jl, t.fl, t.ex, t.cas⟩) 49 (0, 0))) := blk_setAt HB2.out _
    have HFR : Hid (Frm (fun b => b = p) W (w2.setCell ⟨p, 0, none⟩ (.slice ja jn jc))) := (frm_below hbw).trans (setCell_frm1 w2 p 0 _)
    clear hbw hb2 hown c0 d6 d0
    by_cases hl : 512 < xn + qn
    · obtain rfl : (3 : Int) = ec := by have := HEC.out; rwa [if_pos hl] at this
      have HX : Hid (how = none) := by show _ = _; rw [HH.out, decide_eq_false (by omega)]; cases fb <;> rfl
      clear hl
      cases fb with
      | false =>
        go_wp2_with fail
        go_ret
        exact how_no rfl HFR.out HX.out
      | true =>
        go_wp2_with fail
        go_ret
        exact how_no rfl HFR.out HX.out
    · obtain rfl : (0 : Int) = ec := by have := HEC.out; rwa [if_neg hl] at this
      have HX : Hid (how = if fb then some ⟨jl, t.fl, t.ex, t.cas⟩ else none) := by show _ = _; rw [HH.out, decide_eq_true (by omega)]; cases fb <;> rfl
      have HL := Lib.hid hl
      clear hl
      cases fb with
      | false =>
        go_wp2_with fail
        go_ret
        exact how_no rfl HFR.out HX.out
      | true =>
        go_wp2_with fail
        go_ret
        exact how_turn rfl HFR.out HBP.out (HOK.out (by have := HL.out; omega)) HX.out (.inr (own_base (own_keep (HOWN.out (by have := HL.out; omega)) (fun b hb => (setCell_frm1 w2 p 0 _).block b ((HOWN.out (by have := HL.out; omega)).lt b hb).2 (by have := ((HOWN.out (by have := HL.out; omega)).lt b hb).1; have := HB1.out.size; have := blk_lt HBX.out; have hz : (w1.drewN nq).heap.size = w1.heap.size := rfl; intro e; omega))) (by have := HB1.out.size; exact this)))
end Go.Proofs.Ytngpffmgkponfaa
