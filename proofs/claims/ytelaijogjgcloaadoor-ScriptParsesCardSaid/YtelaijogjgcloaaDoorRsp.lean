/- The document's plan. No condition. -/
import Derived.Test.YtelaijogjgcloaaDoorRpa
import Derived.Test.YtelaijogjgcloaaDoorRpp
set_option linter.unusedVariables false
set_option linter.unusedSimpArgs false
namespace Go.Proofs.YtelaijogjgcloaaDoor
open Go.RowKit Go.Ice Go.Scr

theorem planP_len {l : List Txt} (h : l.length ≠ 6) : planP l = none := by
  unfold planP
  split
  · exact absurd rfl h
  · rfl
theorem planP_head {l : List Txt} {a : Txt} (h : l[0]? = some a) (hw : a ≠ wPlan) : planP l = none := by
  unfold planP
  split
  · simp at h
    subst h
    rw [if_neg hw]
  · rfl
theorem planP_num {l : List Txt} {k : Nat} (hk : k < 5) {a : Txt} (h : l[k + 1]? = some a) (hn : numP a = none) : planP l = none := by
  unfold planP
  split
  · rename_i w a' b c d e
    have : k = 0 ∨ k = 1 ∨ k = 2 ∨ k = 3 ∨ k = 4 := by omega
    rcases this with rfl | rfl | rfl | rfl | rfl <;> (simp at h; subst h)
    all_goals
      split
      · split
        · simp_all
        · rfl
      · rfl
  · rfl
theorem planP_ok {l : List Txt} (h6 : l.length = 6) (h0 : l[0]? = some wPlan) {n0 n1 n2 n3 n4 : Int} (q0 : ∃ a, l[1]? = some a ∧ numP a = some n0) (q1 : ∃ a, l[2]? = some a ∧ numP a = some n1) (q2 : ∃ a, l[3]? = some a ∧ numP a = some n2) (q3 : ∃ a, l[4]? = some a ∧ numP a = some n3) (q4 : ∃ a, l[5]? = some a ∧ numP a = some n4) : planP l = some ⟨n0, n1, n2, n3, n4⟩ := by
  obtain ⟨w, a, b, c, d, e, rfl⟩ : ∃ w a b c d e, l = [w, a, b, c, d, e] := by
    match l, h6 with
    | [w, a, b, c, d, e], _ => exact ⟨w, a, b, c, d, e, rfl⟩
  simp at h0
  subst h0
  obtain ⟨a0, q0, r0⟩ := q0
  obtain ⟨a1, q1, r1⟩ := q1
  obtain ⟨a2, q2, r2⟩ := q2
  obtain ⟨a3, q3, r3⟩ := q3
  obtain ⟨a4, q4, r4⟩ := q4
  simp at q0 q1 q2 q3 q4
  subst q0 q1 q2 q3 q4
  unfold planP
  simp only [if_true, r0, r1, r2, r3, r4]
/-- While the numbers are read: the result's block, the parts, the numbers. -/
structure K38 (w : World) (B g N : Nat) (L : List Txt) (k : Nat) (W : World) : Prop where
  bel : Below w.heap.size w W
  b : W.heap[B]? = some (.cells #[.int .i64 0, .int .i64 0, .int .i64 0, .int .i64 0, .int .i64 0] 23 (0, 0))
  row : ∃ cs : Array Value, W.heap[g]? = some (.cells cs 9 (0, 0)) ∧ ∀ (j : Nat) (a : Txt), L[j]? = some a → cs[j]? = some (strV a)
  n : ∃ cs : Array Value, W.heap[N]? = some (.cells cs 93 (0, 0)) ∧ cs.size = 5 ∧ ∀ j, j < k → ∃ a m, L[j + 1]? = some a ∧ numP a = some m ∧ cs[j]? = some (.int .i64 m)
  hB : B = w.heap.size
  hg : B < g
  hN : g < N
theorem K38.cell {w : World} {B g N k : Nat} {L : List Txt} {W : World} (h : K38 w B g N L k W) {j : Nat} {a : Txt} (hj : L[j]? = some a) : W.cell? ⟨g, j, none⟩ = some (strV a) := by
  obtain ⟨cs, h1, h2⟩ := h.row
  rw [blk_cell h1]
  exact h2 j a hj
theorem K38.slot {w : World} {B g N k : Nat} {L : List Txt} {W : World} (h : K38 w B g N L k W) {j : Nat} (hj : j < 5) : ∃ u, W.cell? ⟨N, j, none⟩ = some u ∧ W.frozen? ⟨N, j, none⟩ = false := by
  obtain ⟨cs, h1, h2, _⟩ := h.n
  exact ⟨cs[j], by rw [blk_cell h1]; exact Array.getElem?_eq_getElem (by omega), blk_frozen h1 j⟩
theorem K38.set {w : World} {B g N k : Nat} {L : List Txt} {W : World} (h : K38 w B g N L k W) (hk : k < 5) {a : Txt} {m : Int} (ha : L[k + 1]? = some a) (hm : numP a = some m) : K38 w B g N L (k + 1) (W.setCell ⟨N, k, none⟩ (.int .i64 m)) := by
  have h1 := h.hN
  have h2 := h.hg
  have h3 := h.hB
  obtain ⟨cs, g1, g2⟩ := h.row
  obtain ⟨ns, q1, q2, q3⟩ := h.n
  refine ⟨h.bel.setCell (by show w.heap.size ≤ N; omega) _, blk_set h.b (p := ⟨N, k, none⟩) (by show B ≠ N; omega) _, ⟨cs, blk_set g1 (p := ⟨N, k, none⟩) (by show g ≠ N; omega) _, g2⟩, ⟨_, set_at q1 _, by simp [q2], fun j hj => ?_⟩, h3, h2, h1⟩
  rcases Nat.lt_succ_iff_lt_or_eq.1 hj with hj | rfl
  · obtain ⟨a', m', r1, r2, r3⟩ := q3 j hj
    exact ⟨a', m', r1, r2, by rw [Array.getElem?_setIfInBounds_ne (by omega)]; exact r3⟩
  · exact ⟨a, m, ha, hm, by rw [Array.getElem?_setIfInBounds_self_of_lt (by omega)]⟩
theorem K38.junk {w : World} {B g N k : Nat} {L : List Txt} {W : World} (h : K38 w B g N L k W) (v : Value) : W.setCell ⟨N, k, none⟩ v = W.setCell ⟨N, k, none⟩ v ∧ Below w.heap.size w (W.setCell ⟨N, k, none⟩ v) ∧ (W.setCell ⟨N, k, none⟩ v).heap[B]? = some (.cells #[.int .i64 0, .int .i64 0, .int .i64 0, .int .i64 0, .int .i64 0] 23 (0, 0)) := by
  have h1 := h.hN
  have h2 := h.hg
  have h3 := h.hB
  exact ⟨rfl, h.bel.setCell (by show w.heap.size ≤ N; omega) _, blk_set h.b (p := ⟨N, k, none⟩) (by show B ≠ N; omega) _⟩
/-- What the document's plan answers. -/
def P38 (w : World) (s : Txt) (e : Ending) (w' : World) : Prop :=
  (∃ (p : Plan) (b : Bool), e = .returned (.tuple #[.agg #[.int .i64 p.g, .int .i64 p.s, .int .i64 p.l, .int .i64 p.p, .int .i64 p.c], .bool b]) ∧ PlR s p b) ∧ Below w.heap.size w w'

set_option maxHeartbeats 16000000 in
set_option maxRecDepth 100000 in
theorem plan38 (w : World) (s : Txt) (hs : s.length ≤ 1000000) :
    Calls Tryd.prog 38 #[.string ⟨s.toArray⟩] w fun e w' => P38 w s e w' := by
  have HS := Lib.hid hs
  obtain ⟨B, W0, hB, hW, HB, HBZ, HBW, HBS⟩ := boxed w #[.int .i64 0, .int .i64 0, .int .i64 0, .int .i64 0, .int .i64 0] 23
  have HW := Lib.hid hW
  have HBL0 : Hid (Below w.heap.size w W0) := by have h := HBW.out; rw [hB] at h; exact h
  clear hB hW HBW
  by_cases hl : (100 : Int) < (s.length : Nat)
  · have z0 : W0.cell? ⟨B, 0, none⟩ = some (.int .i64 0) := blk_cell HBZ.out 0
    have z1 : W0.cell? ⟨B, 1, none⟩ = some (.int .i64 0) := blk_cell HBZ.out 1
    have z2 : W0.cell? ⟨B, 2, none⟩ = some (.int .i64 0) := blk_cell HBZ.out 2
    have z3 : W0.cell? ⟨B, 3, none⟩ = some (.int .i64 0) := blk_cell HBZ.out 3
    have z4 : W0.cell? ⟨B, 4, none⟩ = some (.int .i64 0) := blk_cell HBZ.out 4
    have fz := fun r => blk_frozen HBZ.out r
    go_enter Tryd.func38, Tryd.ntmps38
    go_upto_region 1 with fail
    rw [← HB.out, ← HW.out]
    go_wp2_with fail
    have hz := set5 (v0 := .int .i64 0) (v1 := .int .i64 0) (v2 := .int .i64 0) (v3 := .int .i64 0) (v4 := .int .i64 0) HBZ.out
    have r0 := blk_cell hz 0
    have r1 := blk_cell hz 1
    have r2 := blk_cell hz 2
    have r3 := blk_cell hz 3
    have r4 := blk_cell hz 4
    refine bodyPost_ret (v := .tuple #[.agg #[.int .i64 0, .int .i64 0, .int .i64 0, .int .i64 0, .int .i64 0], .bool false]) (by simp [results, Tryd.f38, go_sem, r0, r1, r2, r3, r4]) rfl ?_
    exact ⟨⟨⟨0, 0, 0, 0, 0⟩, false, rfl, .inr ⟨rfl, .inr (by omega)⟩⟩, Below.trans HBL0.out (below_frm (frm_set5 B (.int .i64 0) (.int .i64 0) (.int .i64 0) (.int .i64 0) (.int .i64 0)) (by rw [HB.out]; exact Nat.le_refl _) HBL0.out.size)⟩
  · go_enter Tryd.func38, Tryd.ntmps38
    go_upto_region 1 with fail
    rw [← HB.out, ← HW.out]
    go_wp2_with fail
    refine (parts56 W0 s HS.out).mono ?_
    rintro e w1 ⟨⟨pa, pc, rfl, hown⟩, hb1⟩
    obtain ⟨L, hL⟩ : ∃ L, L = splitC 32 s := ⟨_, rfl⟩
    rw [← hL] at hown ⊢
    have HL := Lib.hid hL
    obtain ⟨h0, hh0⟩ : ∃ a, L[0]? = some a := by
      cases hq : L with
      | nil => exact absurd (hL.symm.trans hq) (splitC_ne 32 s)
      | cons a r => exact ⟨a, rfl⟩
    have HH0 := Lib.hid hh0
    obtain ⟨n, hn⟩ : ∃ n, n = L.length := ⟨_, rfl⟩
    have HN := Lib.hid hn
    have HPL : Hid (∀ (j : Nat) (a : Txt), L[j]? = some a → a.length ≤ 1000000) := fun j a hj => Nat.le_trans (split_short 32 s a (by rw [← hL]; exact List.mem_of_getElem? hj)) HS.out
    have hn1 : 1 ≤ n := by
      have := (List.getElem?_eq_some_iff.1 hh0).1
      omega
    rw [← hn] at hown ⊢
    clear hn hL
    obtain ⟨g, cap, hv⟩ := own_some hown (by omega)
    injection hv with hv1 hv2 hv3
    subst hv1 hv3
    have HBG : Hid (B < g ∧ ∃ cs : Array Value, w1.heap[g]? = some (.cells cs 9 (0, 0)) ∧ ∀ (j : Nat) (a : Txt), L[j]? = some a → cs[j]? = some (strV a)) := by
      obtain ⟨q1, ⟨q2, _⟩ | ⟨g', cap', cur, hv, hbb, hg, c1, c2, c3, c4⟩⟩ := hown
      · cases q2
      · injection hv with e1 e2 e3
        injection e1 with e1
        injection e1 with e1
        subst e1
        refine ⟨by have := HBS.out; omega, cur, hg, fun j a hj => ?_⟩
        have hjn : j < n := by have := (List.getElem?_eq_some_iff.1 hj).1; rw [HN.out]; exact this
        have e : (L.map strV)[j]? = some (strV a) := by rw [List.getElem?_map, hj]; rfl
        rw [← c4, List.getElem?_take_of_lt (show j < n * 1 by omega)] at e
        simpa using e
    have HB1 : Hid (Below w.heap.size w w1) := HBL0.out.trans (hb1.mono HBL0.out.size)
    have HBZ1 : Hid (w1.heap[B]? = some (.cells #[.int .i64 0, .int .i64 0, .int .i64 0, .int .i64 0, .int .i64 0] 23 (0, 0))) := (hb1.block B (blk_lt HBZ.out)).trans HBZ.out
    clear hown hb1 hh0
    have y0 : w1.cell? ⟨g, 0, none⟩ = some (.string ⟨h0.toArray⟩) := by
      obtain ⟨cs, h1, h2⟩ := HBG.out.2
      rw [blk_cell h1]
      exact h2 0 h0 HH0.out
    have z0 : w1.cell? ⟨B, 0, none⟩ = some (.int .i64 0) := blk_cell HBZ1.out 0
    have z1 : w1.cell? ⟨B, 1, none⟩ = some (.int .i64 0) := blk_cell HBZ1.out 1
    have z2 : w1.cell? ⟨B, 2, none⟩ = some (.int .i64 0) := blk_cell HBZ1.out 2
    have z3 : w1.cell? ⟨B, 3, none⟩ = some (.int .i64 0) := blk_cell HBZ1.out 3
    have z4 : w1.cell? ⟨B, 4, none⟩ = some (.int .i64 0) := blk_cell HBZ1.out 4
    have fz := fun r => blk_frozen HBZ1.out r
    by_cases hn6 : n = 6
    · subst hn6
      by_cases hw : h0 = [112, 108, 97, 110]
      · clear z0 z1 z2 z3 z4 fz
        have HWP : Hid (L[0]? = some wPlan) := by show _ = _; rw [HH0.out, hw]; rfl
        subst hw
        obtain ⟨N, W2, hN, hW2, HNE, HNZ, HNW, HNS⟩ := boxed w1 #[.int .i64 0, .int .i64 0, .int .i64 0, .int .i64 0, .int .i64 0] 93
        have HW2 := Lib.hid hW2
        have HK0 : Hid (K38 w B g N L 0 W2) := by
          have hb : Below w1.heap.size w1 W2 := by have h := HNW.out; rw [hN] at h; exact h
          obtain ⟨hbg, cs, g1, g2⟩ := HBG.out
          exact ⟨HB1.out.trans (hb.mono HB1.out.size), (hb.block B (blk_lt HBZ1.out)).trans HBZ1.out, ⟨cs, (hb.block g (blk_lt g1)).trans g1, g2⟩, ⟨_, HNZ.out, rfl, fun j hj => by omega⟩, HB.out, hbg, by rw [hN]; exact blk_lt g1⟩
        clear hN hW2 HNZ HNW HNS HBZ1 HB1 HBG
        go_wp2_with fail
        rw [← HNE.out, ← HW2.out]
        go_loopg [6, 7, 24] 5 (fun m iv ov kv wr => ∃ k : Nat, m = 5 - k ∧ k ≤ 5 ∧ kv = .int .i64 k ∧ Hid (K38 w B g N L k wr))
        case atStart => exact ⟨0, rfl, by omega, rfl, HK0⟩
        case round =>
          obtain ⟨k, rfl, hk5, rfl, HK⟩ := hrel
          clear HK0 y0
          by_cases hlt : k < 5
          · obtain ⟨a, ha⟩ : ∃ a, L[k + 1]? = some a := ⟨L[k + 1]'(by have := HN.out; omega), List.getElem?_eq_getElem _⟩
            have HA := Lib.hid ha
            have y1 : wr.cell? ⟨g, k + 1, none⟩ = some (.string ⟨a.toArray⟩) := HK.out.cell ha
            obtain ⟨u, n1, n2⟩ := HK.out.slot hlt
            have hlt' : (k : Int) < 5 := by omega
            have hlt1 : (k : Int) + 1 < 6 := by omega
            have ht1 : ((k : Int) + 1).toNat = k + 1 := by omega
            have HC := number57 wr a (Nat.le_trans (HPL.out _ _ ha) (by decide))
            obtain ⟨b, hb⟩ : ∃ b, b = (numP a).isSome := ⟨_, rfl⟩
            have HBB := Lib.hid hb
            rw [← hb] at HC
            clear ha hb
            go_wp2_with fail
            refine HC.mono ?_
            rintro e w9 ⟨⟨m, rfl, hm⟩, rfl⟩
            have HM := Lib.hid hm
            clear HC hm
            cases b with
            | false =>
              have HNO : Hid (numP a = none) := by
                show _ = _
                cases h : numP a with
                | none => rfl
                | some x => have := HBB.out; rw [h] at this; cases this
              have HJ := Lib.hid (HK.out.junk (.int .i64 m))
              have hNB : N ≠ B := by have := HK.out.hN; have := HK.out.hg; omega
              have hBN : B ≠ N := fun e => hNB e.symm
              have z0 : w9.cell? ⟨B, 0, none⟩ = some (.int .i64 0) := blk_cell HK.out.b 0
              have z1 : w9.cell? ⟨B, 1, none⟩ = some (.int .i64 0) := blk_cell HK.out.b 1
              have z2 : w9.cell? ⟨B, 2, none⟩ = some (.int .i64 0) := blk_cell HK.out.b 2
              have z3 : w9.cell? ⟨B, 3, none⟩ = some (.int .i64 0) := blk_cell HK.out.b 3
              have z4 : w9.cell? ⟨B, 4, none⟩ = some (.int .i64 0) := blk_cell HK.out.b 4
              have fz := fun r => blk_frozen HK.out.b r
              go_wp2_with fail
              have hz := set5 (v0 := .int .i64 0) (v1 := .int .i64 0) (v2 := .int .i64 0) (v3 := .int .i64 0) (v4 := .int .i64 0) HJ.out.2.2
              have r0 := blk_cell hz 0
              have r1 := blk_cell hz 1
              have r2 := blk_cell hz 2
              have r3 := blk_cell hz 3
              have r4 := blk_cell hz 4
              refine bodyPost_ret (v := .tuple #[.agg #[.int .i64 0, .int .i64 0, .int .i64 0, .int .i64 0, .int .i64 0], .bool false]) (by simp [results, Tryd.f38, go_sem, r0, r1, r2, r3, r4]) rfl ?_
              exact ⟨⟨⟨0, 0, 0, 0, 0⟩, false, rfl, .inr ⟨rfl, .inl (by rw [← HL.out]; exact planP_num hlt HA.out HNO.out)⟩⟩, Below.trans HJ.out.2.1 (below_frm (frm_set5 B (.int .i64 0) (.int .i64 0) (.int .i64 0) (.int .i64 0) (.int .i64 0)) (by rw [HB.out]; exact Nat.le_refl _) HJ.out.2.1.size)⟩
            | true =>
              have HYE : Hid (numP a = some m) := by
                show _ = _
                cases h : numP a with
                | none => have := HBB.out; rw [h] at this; cases this
                | some x => rw [HM.out x h]
              have HK2 := Lib.hid (HK.out.set hlt HA.out HYE.out)
              go_wp2_with fail
              go_roundg (5 - (k + 1))
              case measure => omega
              case rel => exact ⟨k + 1, rfl, by omega, by go_num, HK2⟩
          · obtain rfl : k = 5 := by omega
            obtain ⟨cs, q1, q2, q3⟩ := HK.out.n
            obtain ⟨a0, m0, s0, t0, u0⟩ := q3 0 (by omega)
            obtain ⟨a1, m1, s1, t1, u1⟩ := q3 1 (by omega)
            obtain ⟨a2, m2, s2, t2, u2⟩ := q3 2 (by omega)
            obtain ⟨a3, m3, s3, t3, u3⟩ := q3 3 (by omega)
            obtain ⟨a4, m4, s4, t4, u4⟩ := q3 4 (by omega)
            have HOK : Hid (planP L = some ⟨m0, m1, m2, m3, m4⟩) := planP_ok HN.out.symm HWP.out ⟨a0, s0, t0⟩ ⟨a1, s1, t1⟩ ⟨a2, s2, t2⟩ ⟨a3, s3, t3⟩ ⟨a4, s4, t4⟩
            have n0 : wr.cell? ⟨N, 0, none⟩ = some (.int .i64 m0) := (blk_cell q1 0).trans u0
            have n1 : wr.cell? ⟨N, 1, none⟩ = some (.int .i64 m1) := (blk_cell q1 1).trans u1
            have n2 : wr.cell? ⟨N, 2, none⟩ = some (.int .i64 m2) := (blk_cell q1 2).trans u2
            have n3 : wr.cell? ⟨N, 3, none⟩ = some (.int .i64 m3) := (blk_cell q1 3).trans u3
            have n4 : wr.cell? ⟨N, 4, none⟩ = some (.int .i64 m4) := (blk_cell q1 4).trans u4
            clear s0 s1 s2 s3 s4 t0 t1 t2 t3 t4 u0 u1 u2 u3 u4 q3 q2 q1
            have z0 : wr.cell? ⟨B, 0, none⟩ = some (.int .i64 0) := blk_cell HK.out.b 0
            have z1 : wr.cell? ⟨B, 1, none⟩ = some (.int .i64 0) := blk_cell HK.out.b 1
            have z2 : wr.cell? ⟨B, 2, none⟩ = some (.int .i64 0) := blk_cell HK.out.b 2
            have z3 : wr.cell? ⟨B, 3, none⟩ = some (.int .i64 0) := blk_cell HK.out.b 3
            have z4 : wr.cell? ⟨B, 4, none⟩ = some (.int .i64 0) := blk_cell HK.out.b 4
            have fz := fun r => blk_frozen HK.out.b r
            go_wp2_with fail
            have hz := set5 (v0 := .int .i64 m0) (v1 := .int .i64 m1) (v2 := .int .i64 m2) (v3 := .int .i64 m3) (v4 := .int .i64 m4) HK.out.b
            have r0 := blk_cell hz 0
            have r1 := blk_cell hz 1
            have r2 := blk_cell hz 2
            have r3 := blk_cell hz 3
            have r4 := blk_cell hz 4
            refine bodyPost_ret (v := .tuple #[.agg #[.int .i64 m0, .int .i64 m1, .int .i64 m2, .int .i64 m3, .int .i64 m4], .bool true]) (by simp [results, Tryd.f38, go_sem, r0, r1, r2, r3, r4]) rfl ?_
            exact ⟨⟨⟨m0, m1, m2, m3, m4⟩, true, rfl, .inl ⟨rfl, by rw [← HL.out]; exact HOK.out⟩⟩, Below.trans HK.out.bel (below_frm (frm_set5 B (.int .i64 m0) (.int .i64 m1) (.int .i64 m2) (.int .i64 m3) (.int .i64 m4)) (by rw [HB.out]; exact Nat.le_refl _) HK.out.bel.size)⟩
      · have HWP : Hid (planP L = none) := planP_head HH0.out hw
        have hwb : (h0 == [112, 108, 97, 110]) = false := by simp [hw]
        clear hw
        go_wp2_with fail
        have hz := set5 (v0 := .int .i64 0) (v1 := .int .i64 0) (v2 := .int .i64 0) (v3 := .int .i64 0) (v4 := .int .i64 0) HBZ1.out
        have r0 := blk_cell hz 0
        have r1 := blk_cell hz 1
        have r2 := blk_cell hz 2
        have r3 := blk_cell hz 3
        have r4 := blk_cell hz 4
        refine bodyPost_ret (v := .tuple #[.agg #[.int .i64 0, .int .i64 0, .int .i64 0, .int .i64 0, .int .i64 0], .bool false]) (by simp [results, Tryd.f38, go_sem, r0, r1, r2, r3, r4]) rfl ?_
        exact ⟨⟨⟨0, 0, 0, 0, 0⟩, false, rfl, .inr ⟨rfl, .inl (by rw [← HL.out]; exact HWP.out)⟩⟩, Below.trans HB1.out (below_frm (frm_set5 B (.int .i64 0) (.int .i64 0) (.int .i64 0) (.int .i64 0) (.int .i64 0)) (by rw [HB.out]; exact Nat.le_refl _) HB1.out.size)⟩
    · have HWP : Hid (planP L = none) := planP_len (by rw [← HN.out]; exact hn6)
      have hn6' : ¬ (n : Int) = 6 := by omega
      go_wp2_with fail
      have hz := set5 (v0 := .int .i64 0) (v1 := .int .i64 0) (v2 := .int .i64 0) (v3 := .int .i64 0) (v4 := .int .i64 0) HBZ1.out
      have r0 := blk_cell hz 0
      have r1 := blk_cell hz 1
      have r2 := blk_cell hz 2
      have r3 := blk_cell hz 3
      have r4 := blk_cell hz 4
      refine bodyPost_ret (v := .tuple #[.agg #[.int .i64 0, .int .i64 0, .int .i64 0, .int .i64 0, .int .i64 0], .bool false]) (by simp [results, Tryd.f38, go_sem, r0, r1, r2, r3, r4]) rfl ?_
      exact ⟨⟨⟨0, 0, 0, 0, 0⟩, false, rfl, .inr ⟨rfl, .inl (by rw [← HL.out]; exact HWP.out)⟩⟩, Below.trans HB1.out (below_frm (frm_set5 B (.int .i64 0) (.int .i64 0) (.int .i64 0) (.int .i64 0) (.int .i64 0)) (by rw [HB.out]; exact Nat.le_refl _) HB1.out.size)⟩
end Go.Proofs.YtelaijogjgcloaaDoor
