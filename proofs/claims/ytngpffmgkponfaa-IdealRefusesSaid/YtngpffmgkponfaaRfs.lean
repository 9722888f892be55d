/- ideal.step.refuses. Conditions: the step lies in memory. -/
import Derived.Test.YtngpffmgkponfaaRfd
set_option linter.unusedVariables false
set_option linter.unusedSimpArgs false
namespace Go.Idl
/-- Is a version one that an answer without success speaks of? -/
def refB (q : Rq) (st : Int) (t : Tv) : Bool :=
  if q.op = 0 ∨ q.op = 28 ∨ q.op = 29 then false
  else if q.op = 2 then st == 2
  else if fitsB q t = false then st == 2
  else if q.op = 14 ∨ q.op = 15 then st == 3 && decide (512 < t.val.length + q.val.length)
  else if q.op = 5 ∨ q.op = 6 then st == 6 && decide (Go.Proofs.Ytngpffmgkponfaa.numF t.val = none)
  else false
def refHow (q : Rq) (st : Int) (t : Tv) : Option Tv := if refB q st t then some t else none
end Go.Idl
namespace Go.Proofs.Ytngpffmgkponfaa
open Go.RowKit Go.Ice Go.Idl

theorem hbelow_drew (w : World) : Below w.heap.size w w.drew := (Below.refl _ _).drew
theorem how_same {W w' : World} {p : Nat} {x : Value} {t : Tv} {b : Bool} {how : Option Tv} {e : Ending} (he : e = .returned (.bool b)) (hb : Below W.heap.size W w') (hp : W.heap[p]? = some (.cells (boxC x t) 49 (0, 0))) (htok : Tv.ok t) (hh : how = if b then some t else none) :
    HowR W p x t how e w' := by
  refine ⟨by rw [he, hh]; cases b <;> rfl, frm_below hb, fun t' ht => ?_⟩
  rw [hh] at ht
  cases b with
  | false => cases ht
  | true => cases ht; exact ⟨htok, x, (hb.block p (blk_lt hp)).trans hp, .inl ⟨rfl, rfl⟩⟩

set_option maxHeartbeats 8000000 in
set_option maxRecDepth 20000 in
theorem how62 (w : World) (C : Nat → Prop) (sb mb kb : Nat) (q : Rq) (a : An) (now : Int) (r : Raw) (hs : List Tv) (Y : St) (F : List UInt8 → Option Value) (h : SW w C sb mb kb q a now r hs Y F) (bo bs bt : Nat)
    (ho : w.heap[bo]? = some (.cells #[.int .i64 q.op] 3 (0, 0))) (hst : w.heap[bs]? = some (.cells #[.int .i64 a.st] 3 (0, 0))) (hbt : w.heap[bt]? = some (.cells #[.pointer (some ⟨sb, 0, none⟩)] 77 (0, 0))) :
    How w 62 #[.pointer (some ⟨bo, 0, none⟩), .pointer (some ⟨bs, 0, none⟩), .pointer (some ⟨bt, 0, none⟩)] (refHow q a.st) := by
  intro W p x t hb hp hbx hx htok
  have hx := hx.1
  have H := Lib.hid (h.below hb)
  have o0 : W.cell? ⟨bo, 0, none⟩ = some (.int .i64 q.op) := blk_cell ((hb.block bo (blk_lt ho)).trans ho) 0
  have s0 : W.cell? ⟨bs, 0, none⟩ = some (.int .i64 a.st) := blk_cell ((hb.block bs (blk_lt hst)).trans hst) 0
  have t0 : W.cell? ⟨bt, 0, none⟩ = some (.pointer (some ⟨sb, 0, none⟩)) := blk_cell ((hb.block bt (blk_lt hbt)).trans hbt) 0
  obtain ⟨xa, xc, rfl, hxl⟩ := BytesAt.form hx
  obtain ⟨xn, hxn⟩ : ∃ xn, xn = t.val.length := ⟨_, rfl⟩
  rw [← hxn] at hbx hx ⊢
  have HXN := Lib.hid hxn
  have HX := Lib.hid hx
  have b0 : W.cell? ⟨p, 0, none⟩ = some (.slice xa xn xc) := blk_cell hbx 0
  have b1 : W.cell? ⟨p, 1, none⟩ = some (.int .u32 t.fl) := blk_cell hbx 1
  have b2 : W.cell? ⟨p, 2, none⟩ = some (.int .u32 t.ex) := blk_cell hbx 2
  have b3 : W.cell? ⟨p, 3, none⟩ = some (.int .u64 t.cas) := blk_cell hbx 3
  have HBX := Lib.hid hbx
  have HTOK := Lib.hid htok
  have v7 : W.cell? ⟨sb, 7, none⟩ = some (.slice r.va q.val.length r.vc) := H.out.cell 7
  have HQV := Lib.hid H.out.val.1
  have hql := H.out.qok.2.2.2.2.2.2.2.2.2.2.2
  have htl := htok.1
  obtain ⟨qn, hqn⟩ : ∃ qn, qn = q.val.length := ⟨_, rfl⟩
  have HQN := Lib.hid hqn
  rw [← hqn] at v7 hql HQV
  rw [← hxn] at htl
  obtain ⟨how, hhow⟩ : ∃ how, how = refHow q a.st t := ⟨_, rfl⟩
  rw [← hhow]
  have HH := Lib.hid hhow
  obtain ⟨va, hva⟩ : ∃ v, v = r.va := ⟨_, rfl⟩
  obtain ⟨vc, hvc⟩ : ∃ v, v = r.vc := ⟨_, rfl⟩
  rw [← hva, ← hvc] at v7 HQV
  clear h hb hp hbx hx htok ho hst hbt hhow hxn hxl hqn hva hvc
  show Calls Try.prog 62 #[_, _, _, _] _ _
  obtain ⟨fb, hfb⟩ : ∃ fb, fb = fitsB q t := ⟨_, rfl⟩
  have hfit : ∀ W', Below W.heap.size W W' → Calls Try.prog 63 #[.pointer (some ⟨sb, 0, none⟩), .agg #[.slice xa xn xc, .int .u32 t.fl, .int .u32 t.ex, .int .u64 t.cas]] W' fun e w' => e = .returned (.bool fb) ∧ Below W'.heap.size W' w' := fun W' hW => by
    rw [hfb]; exact fits63 W' C sb mb kb q a now r hs Y F (H.out.below hW) _ t ⟨_, _, _, rfl⟩
  have HFB := Lib.hid hfb
  have HFIT := Lib.hid hfit
  clear hfb hfit
  go_enter Try.func62, Try.ntmps62
  go_wp2_with fail
  all_goals first
    | (go_ret
       refine how_same rfl (Below.refl _ _) HBX.out HTOK.out ?_
       rw [HH.out]
       clear HH HBX HTOK HX HFB HFIT HQV H
       (try simp only [beq_iff_eq, beq_eq_false_iff_ne, ne_eq] at *)
       unfold refHow refB
       grind)
    | skip
  go_still_tail 4, (by kernel_rfl)
  change wpList _ _ _ _ _ W.drew
  go_wp2_with fail
  refine (HFIT.out _ (Below.refl _ _).drew).mono ?_
  rintro e w1 ⟨rfl, hb1⟩
  have hb1' : Below W.heap.size W w1 := (drewN_below W 1).trans hb1
  have HB1 := Lib.hid hb1'
  have o0' := cellB hb1' o0
  have s0' := cellB hb1' s0
  have t0' := cellB hb1' t0
  have b0' := cellB hb1' b0
  have v7' := cellB hb1' v7
  clear hb1 hb1' o0 s0 t0 b0 b1 b2 b3 v7
  cases fb with
  | false =>
    go_wp2_with fail
    go_ret
    refine how_same rfl HB1.out HBX.out HTOK.out ?_
    rw [HH.out]
    have hf := HFB.out
    clear HH HBX HTOK HX HFB HFIT HQV H
    (try simp only [beq_iff_eq, beq_eq_false_iff_ne, ne_eq] at *)
    unfold refHow refB
    grind
  | true =>
    have hqj : ∀ W', Below W.heap.size W W' → Calls Try.prog 27 #[.slice xa xn xc, .slice va qn vc] W' fun e w' => ∃ v, e = .returned (.tuple #[v, .int .i64 (if 512 < xn + qn then 3 else 0)]) ∧ Below W'.heap.size W' w' := fun W' hW => by
      by_cases hl : 512 < xn + qn
      · rw [if_pos hl]
        exact (join_long W' xa va xn qn xc vc hl (by omega) (by omega)).mono fun e w' ⟨he, hw⟩ => ⟨_, he, by rw [← hw]; exact Below.refl _ _⟩
      · rw [if_neg hl]
        exact (join_ok W' _ _ t.val q.val (IsSl.below HX.out hW (Nat.le_refl _)) (IsSl.below HQV.out hW (Nat.le_refl _)) (by have := HXN.out; have := HQN.out; omega)).mono fun e w' ⟨v, he, _, hw⟩ => ⟨_, he, hw⟩
    have HQJ := Lib.hid hqj
    have hnum : ∀ W', Below W.heap.size W W' → Calls Try.prog 49 #[.slice xa xn xc] W' fun e w' => e = .returned (numV (numF t.val)) ∧ Below W'.heap.size W' w' := fun W' hW => number_any W' _ t.val (IsSl.below HX.out hW (Nat.le_refl _))
    have HNUM := Lib.hid hnum
    clear hqj hnum
    go_wp2_with fail
    all_goals first
      | (refine (HNUM.out _ HB1.out).mono ?_
         rintro e w2 ⟨rfl, hb2⟩
         have HB2 : Hid (Below W.heap.size W w2) := HB1.out.trans (hb2.mono HB1.out.size)
         have s2 := cellB hb2 s0'
         clear hb2 HQJ HNUM o0' s0' t0' b0' v7'
         obtain ⟨qv, hqv⟩ : ∃ qv, qv = numF t.val := ⟨_, rfl⟩
         rw [← hqv]
         have HQ := Lib.hid hqv
         clear hqv
         cases qv with
         | none =>
           have e0 : numV none = .tuple #[.int .u64 0, .int .i64 270] := rfl
           rw [e0]
           clear e0
           go_wp2_with fail
           all_goals
             go_ret
             refine how_same rfl HB2.out HBX.out HTOK.out ?_
             rw [HH.out]
             have hf := HFB.out
             have hy := HQ.out
             clear HH HBX HTOK HX HFB HFIT HQV H HQ
             (try simp only [beq_iff_eq, beq_eq_false_iff_ne, ne_eq] at *)
             unfold refHow refB
             grind
         | some nn =>
           have e0 : numV (some nn) = .tuple #[.int .u64 (nn : Nat), .int .i64 0] := rfl
           rw [e0]
           clear e0
           go_wp2_with fail
           all_goals
             go_ret
             refine how_same rfl HB2.out HBX.out HTOK.out ?_
             rw [HH.out]
             have hf := HFB.out
             have hy := HQ.out
             clear HH HBX HTOK HX HFB HFIT HQV H HQ
             (try simp only [beq_iff_eq, beq_eq_false_iff_ne, ne_eq] at *)
             unfold refHow refB
             grind)
      | (go_ret
         refine how_same rfl HB1.out HBX.out HTOK.out ?_
         rw [HH.out]
         have hf := HFB.out
         clear HH HBX HTOK HX HFB HFIT HQV H
         (try simp only [beq_iff_eq, beq_eq_false_iff_ne, ne_eq] at *)
         unfold refHow refB
         grind)
      | (go_region_held3 (fun w' => w'.cell? ⟨p, 0, none⟩ = some (.slice xa xn xc) ∧ w'.cell? ⟨bt, 0, none⟩ = some (.pointer (some ⟨sb, 0, none⟩)) ∧ w'.cell? ⟨sb, 7, none⟩ = some (.slice va qn vc)) (first | exact ⟨b0', t0', v7'⟩ | exact ⟨b2, t2, v2⟩) (first | (go_at_call 27; refine (HQJ.out _ HB1.out.drew).mono ?_; rintro e w2 ⟨jv, rfl, hb2⟩; have hb2 := (drewN_below w1 1).trans hb2; have HB2 : Hid (Below W.heap.size W w2) := HB1.out.trans (hb2.mono HB1.out.size); have s2 := cellB hb2 s0'; have b2 := cellB hb2 b0'; have t2 := cellB hb2 t0'; have v2 := cellB hb2 v7'; clear hb2; generalize hec : (if 512 < xn + qn then (3 : Int) else 0) = ec; have HEC := Lib.hid hec; clear hec))
         all_goals
           clear HQJ HNUM o0' s0' t0' b0' v7' b2 t2 v2
           by_cases hl : 512 < xn + qn
           · obtain rfl : (3 : Int) = ec := by have := HEC.out; rwa [if_pos hl] at this
             have HL := Lib.hid hl
             clear hl
             go_wp2_with fail
             all_goals
               go_ret
               refine how_same rfl HB2.out HBX.out HTOK.out ?_
               rw [HH.out]
               have hf := HFB.out
               have hy := HXN.out
               have hz := HQN.out
               have hl := HL.out
               clear HH HBX HTOK HX HFB HFIT HQV H
               (try simp only [beq_iff_eq, beq_eq_false_iff_ne, ne_eq] at *)
               unfold refHow refB
               grind
           · obtain rfl : (0 : Int) = ec := by have := HEC.out; rwa [if_neg hl] at this
             have HL := Lib.hid hl
             clear hl
             go_wp2_with fail
             all_goals
               go_ret
               refine how_same rfl HB2.out HBX.out HTOK.out ?_
               rw [HH.out]
               have hf := HFB.out
               have hy := HXN.out
               have hz := HQN.out
               have hl := HL.out
               clear HH HBX HTOK HX HFB HFIT HQV H
               (try simp only [beq_iff_eq, beq_eq_false_iff_ne, ne_eq] at *)
               unfold refHow refB
               grind)
end Go.Proofs.Ytngpffmgkponfaa
