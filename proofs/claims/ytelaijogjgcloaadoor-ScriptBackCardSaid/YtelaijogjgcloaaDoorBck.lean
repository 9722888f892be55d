/- The law ScriptBack, its walk. Conditions: the script lies in memory; the variables are as laid. -/
import Derived.Test.YtelaijogjgcloaaDoorLin
import Derived.Test.YtelaijogjgcloaaDoorFew
set_option linter.unusedVariables false
set_option linter.unusedSimpArgs false
namespace Go.Proofs.YtelaijogjgcloaaDoor
open Go.RowKit Go.Ice Go.Scr

theorem prN_ok {s : Scr} (h : prN s = 0) : checkS s = true ∧ ¬ 262144 < (textS s).length ∧ prT s = textS s := by
  unfold prN at h
  unfold prT
  cases hc : checkS s with
  | false => rw [hc] at h; simp at h
  | true =>
    rw [hc, if_pos rfl] at h
    by_cases hl : 262144 < (textS s).length
    · rw [if_pos hl] at h; omega
    · exact ⟨rfl, hl, by rw [if_pos rfl, if_neg hl]⟩
theorem pr_of {s : Scr} (h : checkS s = true) (hl : ¬ 262144 < (textS s).length) : prN s = 0 ∧ prT s = textS s := by
  unfold prN prT
  rw [h, if_pos rfl, if_pos rfl, if_neg hl, if_neg hl]
  exact ⟨rfl, rfl⟩

set_option maxHeartbeats 16000000 in
set_option maxRecDepth 100000 in
theorem back7 (w : World) (u : Value) (sc : Scr) (hs : ScrAt w u sc) (t : Txt) (hl : Laid w) (ht : t.length ≤ maxLen) :
    Calls Tryd.prog 7 #[u, .string ⟨t.toArray⟩] w fun e w' => e = .returned (.bool true) ∧ Below w.heap.size w w' := by
  obtain ⟨v, rfl, hv⟩ := hs
  obtain ⟨p, evs⟩ := sc
  dsimp only at hv
  have HL := Lib.hid hl
  obtain ⟨a, cap, rfl, hm⟩ := hv.form
  obtain ⟨ne, hne⟩ : ∃ ne, ne = evs.length := ⟨_, rfl⟩
  rw [← hne] at hv hm ⊢
  have HNE := Lib.hid hne
  unfold maxLen at hm ht
  unfold scrV
  dsimp only
  obtain ⟨S, W0, HS, HW, HK, _⟩ := boxed1 w #[.int .i64 p.g, .int .i64 p.s, .int .i64 p.l, .int .i64 p.p, .int .i64 p.c, .slice a ne cap] 26
  have hSw : w.heap.size ≤ S := by have := HS.out; omega
  have HV0 := Lib.hid (hv.below HK.out.below (Nat.le_refl _))
  have HWK := wakes8 W0 (HL.out.below HK.out.below)
  clear hl hv hne
  go_enter Tryd.func7, Tryd.ntmps7
  go_upto_region 1 with fail
  rw [HW.out, HS.out]
  go_wp2_with fail
  refine HWK.mono ?_
  rintro e w1 ⟨rfl, hb1⟩
  have HK1 := Lib.hid (HK.out.step hb1)
  have HV1 := Lib.hid (HV0.out.below hb1 (Nat.le_refl _))
  clear hb1 HWK HW HS
  have s0 : w1.cell? ⟨S, 0, none⟩ = some (.int .i64 p.g) := blk_cell HK1.out.b0 0
  have s1 : w1.cell? ⟨S, 1, none⟩ = some (.int .i64 p.s) := blk_cell HK1.out.b0 1
  have s2 : w1.cell? ⟨S, 2, none⟩ = some (.int .i64 p.l) := blk_cell HK1.out.b0 2
  have s3 : w1.cell? ⟨S, 3, none⟩ = some (.int .i64 p.p) := blk_cell HK1.out.b0 3
  have s4 : w1.cell? ⟨S, 4, none⟩ = some (.int .i64 p.c) := blk_cell HK1.out.b0 4
  have s5 : w1.cell? ⟨S, 5, none⟩ = some (.slice a ne cap) := blk_cell HK1.out.b0 5
  have HFW := few9 w1 (.agg #[.int .i64 p.g, .int .i64 p.s, .int .i64 p.l, .int .i64 p.p, .int .i64 p.c, .slice a ne cap]) ⟨p, evs⟩ ⟨_, rfl, HV1.out⟩
  go_wp2_with fail
  refine HFW.mono ?_
  rintro e w2 ⟨v2, rfl, hr2, hb2⟩
  obtain ⟨va, vc, rfl⟩ := hr2.form
  obtain ⟨n2, hn2⟩ : ∃ n2, n2 = (fewS ⟨p, evs⟩).evs.length := ⟨_, rfl⟩
  rw [← hn2] at hr2 ⊢
  clear hn2
  clear s0 s1 s2 s3 s4 s5 HFW HV0
  unfold scrV
  dsimp only
  have HK2 := Lib.hid (HK1.out.step hb2)
  have s0 : w2.cell? ⟨S, 0, none⟩ = some (.int .i64 p.g) := blk_cell HK2.out.b0 0
  have s1 : w2.cell? ⟨S, 1, none⟩ = some (.int .i64 p.s) := blk_cell HK2.out.b0 1
  have s2 : w2.cell? ⟨S, 2, none⟩ = some (.int .i64 p.l) := blk_cell HK2.out.b0 2
  have s3 : w2.cell? ⟨S, 3, none⟩ = some (.int .i64 p.p) := blk_cell HK2.out.b0 3
  have s4 : w2.cell? ⟨S, 4, none⟩ = some (.int .i64 p.c) := blk_cell HK2.out.b0 4
  have s5 : w2.cell? ⟨S, 5, none⟩ = some (.slice a ne cap) := blk_cell HK2.out.b0 5
  have fs := fun r => blk_frozen HK2.out.b0 r
  have HZ := Lib.hid (hr2.store hb2 HK1.out.b0 (frm_set6 S (.int .i64 p.g) (.int .i64 p.s) (.int .i64 p.l) (.int .i64 p.p) (.int .i64 p.c) (.slice va n2 vc)))
  have hz := set6 (v0 := .int .i64 p.g) (v1 := .int .i64 p.s) (v2 := .int .i64 p.l) (v3 := .int .i64 p.p) (v4 := .int .i64 p.c) (v5 := .slice va n2 vc) HK2.out.b0
  have HSZ := Lib.hid hz
  have HBZ := Lib.hid (HK2.out.below.trans (below_frm (frm_set6 S (.int .i64 p.g) (.int .i64 p.s) (.int .i64 p.l) (.int .i64 p.p) (.int .i64 p.c) (.slice va n2 vc)) hSw HK2.out.below.size))
  clear hr2 hb2 hz
  go_upto_region 4 with fail
  obtain ⟨W3, hW3⟩ : ∃ W3, W3 = ((((((w2.setCell ⟨S, 0, none⟩ (.int .i64 p.g)).setCell ⟨S, 1, none⟩ (.int .i64 p.s)).setCell ⟨S, 2, none⟩ (.int .i64 p.l)).setCell ⟨S, 3, none⟩ (.int .i64 p.p)).setCell ⟨S, 4, none⟩ (.int .i64 p.c)).setCell ⟨S, 5, none⟩ (.slice va n2 vc)) := ⟨_, rfl⟩
  rw [← hW3] at HZ HSZ HBZ ⊢
  clear hW3 s0 s1 s2 s3 s4 s5 fs HK1 HK2 HV1 hm
  have s0 : W3.cell? ⟨S, 0, none⟩ = some (.int .i64 p.g) := blk_cell HSZ.out 0
  have s1 : W3.cell? ⟨S, 1, none⟩ = some (.int .i64 p.s) := blk_cell HSZ.out 1
  have s2 : W3.cell? ⟨S, 2, none⟩ = some (.int .i64 p.l) := blk_cell HSZ.out 2
  have s3 : W3.cell? ⟨S, 3, none⟩ = some (.int .i64 p.p) := blk_cell HSZ.out 3
  have s4 : W3.cell? ⟨S, 4, none⟩ = some (.int .i64 p.c) := blk_cell HSZ.out 4
  have s5 : W3.cell? ⟨S, 5, none⟩ = some (.slice va n2 vc) := blk_cell HSZ.out 5
  have HPR := print11 W3 (.agg #[.int .i64 p.g, .int .i64 p.s, .int .i64 p.l, .int .i64 p.p, .int .i64 p.c, .slice va n2 vc]) (fewS ⟨p, evs⟩) ⟨_, rfl, HZ.out⟩ (HL.out.below HBZ.out)
  have HZ' : Hid (EvsAt W3 (.slice va n2 vc) (fewS ⟨p, evs⟩).evs) := HZ.out
  obtain ⟨FS, hFS⟩ : ∃ FS, FS = fewS ⟨p, evs⟩ := ⟨_, rfl⟩
  have hFP : FS.plan = p := by rw [hFS]; rfl
  rw [← hFS] at HPR HZ'
  have HFP := Lib.hid hFP
  obtain ⟨pt, hpt⟩ : ∃ pt, pt = prT FS := ⟨_, rfl⟩
  obtain ⟨pn, hpn⟩ : ∃ pn, pn = prN FS := ⟨_, rfl⟩
  rw [← hpt, ← hpn] at HPR
  have HPT := Lib.hid hpt
  have HPN := Lib.hid hpn
  clear hpt hpn hFS HNE hFP HZ
  go_wp2_with fail
  refine HPR.mono ?_
  rintro e w4 ⟨rfl, hb4⟩
  have HB4 := Lib.hid (HBZ.out.trans (hb4.mono HBZ.out.size))
  have HS4 := Lib.hid ((hb4.block S (blk_lt HSZ.out)).trans HSZ.out)
  have HZ4 := Lib.hid (HZ'.out.below hb4 (Nat.le_refl _))
  clear hb4 HPR s0 s1 s2 s3 s4 s5 HZ' HSZ
  go_upto_if 24 with fail
  go_cut [] from 25 to 42 (fun wc => Hid (Below w.heap.size w wc))
  case first =>
    by_cases hn0 : pn = 0
    · subst hn0
      obtain ⟨c1, c2, c3⟩ := prN_ok HPN.out.symm
      have hpl : ¬ 262144 < pt.length := by rw [HPT.out, c3]; exact c2
      have HPP : Hid (parseP pt = .ok FS) := by show _ = _; rw [HPT.out, c3]; exact parse_text c1
      have HPA := parse17 w4 pt (HL.out.below HB4.out) (by omega)
      have HPLN := Lib.hid hpl
      clear c1 c2 c3 hpl
      go_wp2_with fail
      refine HPA.mono ?_
      rintro e w5 ⟨sv, k, n, rfl, hb5, ho⟩
      obtain ⟨⟨v5, rfl, hev⟩, rfl, rfl⟩ := ho.ok HPLN.out HPP.out
      obtain ⟨vb, vd, rfl⟩ := hev.form
      obtain ⟨n5, hn5⟩ : ∃ n5, n5 = FS.evs.length := ⟨_, rfl⟩
      rw [← hn5] at hev ⊢
      rw [HFP.out]
      unfold scrV
      obtain ⟨Y, W6, HY, HW6, HK6, _⟩ := boxed1 w5 #[.int .i64 p.g, .int .i64 p.s, .int .i64 p.l, .int .i64 p.p, .int .i64 p.c, .slice vb n5 vd] 26
      have hS5 := (hb5.block S (blk_lt HS4.out)).trans HS4.out
      have hS6 := (HK6.out.below.block S (blk_lt hS5)).trans hS5
      have s0 : W6.cell? ⟨S, 0, none⟩ = some (.int .i64 p.g) := blk_cell hS6 0
      have s1 : W6.cell? ⟨S, 1, none⟩ = some (.int .i64 p.s) := blk_cell hS6 1
      have s2 : W6.cell? ⟨S, 2, none⟩ = some (.int .i64 p.l) := blk_cell hS6 2
      have s3 : W6.cell? ⟨S, 3, none⟩ = some (.int .i64 p.p) := blk_cell hS6 3
      have s4 : W6.cell? ⟨S, 4, none⟩ = some (.int .i64 p.c) := blk_cell hS6 4
      have s5 : W6.cell? ⟨S, 5, none⟩ = some (.slice va n2 vc) := blk_cell hS6 5
      have y0 : W6.cell? ⟨Y, 0, none⟩ = some (.int .i64 p.g) := blk_cell HK6.out.b0 0
      have y1 : W6.cell? ⟨Y, 1, none⟩ = some (.int .i64 p.s) := blk_cell HK6.out.b0 1
      have y2 : W6.cell? ⟨Y, 2, none⟩ = some (.int .i64 p.l) := blk_cell HK6.out.b0 2
      have y3 : W6.cell? ⟨Y, 3, none⟩ = some (.int .i64 p.p) := blk_cell HK6.out.b0 3
      have y4 : W6.cell? ⟨Y, 4, none⟩ = some (.int .i64 p.c) := blk_cell HK6.out.b0 4
      have y5 : W6.cell? ⟨Y, 5, none⟩ = some (.slice vb n5 vd) := blk_cell HK6.out.b0 5
      have HSM := same19 W6 (.agg #[.int .i64 p.g, .int .i64 p.s, .int .i64 p.l, .int .i64 p.p, .int .i64 p.c, .slice va n2 vc]) (.agg #[.int .i64 p.g, .int .i64 p.s, .int .i64 p.l, .int .i64 p.p, .int .i64 p.c, .slice vb n5 vd]) FS FS ⟨_, by rw [HFP.out]; rfl, (HZ4.out.below hb5 (Nat.le_refl _)).below HK6.out.below (Nat.le_refl _)⟩ ⟨_, by rw [HFP.out]; rfl, hev.at.below HK6.out.below (Nat.le_refl _)⟩
      rw [decide_eq_true (rfl : FS = FS)] at HSM
      have HB6 := Lib.hid (HB4.out.trans ((hb5.trans (HK6.out.below.mono hb5.size)).mono HB4.out.size))
      clear hb5 ho hev hn5 hS5 hS6 HPA
      go_upto_region 7 with fail
      rw [HW6.out, HY.out]
      go_wp2_with fail
      refine HSM.mono ?_
      rintro e w7 ⟨rfl, hb7⟩
      have HB7 := Lib.hid (HB6.out.trans (hb7.mono HB6.out.size))
      clear hb7 HSM s0 s1 s2 s3 s4 s5 y0 y1 y2 y3 y4 y5
      go_wp2_with fail
      go_meet
      case rel => exact HB7
    · have hpf : (pn == 0) = false := by simp [hn0]
      go_wp2_with fail
      go_meet
      case rel => exact HB4
  case rest =>
    have HB8 : Hid (Below w.heap.size w wc) := hcut
    clear HB4 HS4 HZ4 HPT HPN HBZ
    obtain ⟨t1, ht1⟩ : ∃ t1, t1 = if 262144 < t.length then t.take 262144 else t := ⟨_, rfl⟩
    go_upto_if 45 with fail
    go_cut [1] from 46 to 47 (fun s1 wd => s1 = .string ⟨t1.toArray⟩ ∧ wd = wc)
    case first =>
      by_cases hlt : 262144 < t.length
      · have hlt' : (262144 : Int) < (t.length : Nat) := by omega
        have HE : Hid ((⟨t.toArray⟩ : ByteArray).extract 0 262144 = ⟨t1.toArray⟩) := by show _ = _; rw [ht1, if_pos hlt]; exact extract_to t 262144
        clear ht1
        go_wp2_with fail
        rw [HE.out]
        go_meet
        case rel => exact ⟨rfl, rfl⟩
      · have hlt' : ¬ (262144 : Int) < (t.length : Nat) := by omega
        have e1 : t1 = t := by rw [ht1, if_neg hlt]
        subst e1
        clear ht1
        go_wp2_with fail
        go_meet
        case rel => exact ⟨rfl, rfl⟩
    case rest =>
      obtain ⟨rfl, rfl⟩ := hcut
      have htl : t1.length ≤ 262144 := by
        rw [ht1]
        split
        · rw [List.length_take]; omega
        · omega
      clear ht1 HFP
      have HPA := parse17 wc t1 (HL.out.below HB8.out) (by omega)
      cases hp : parseP t1 with
      | ok s2 =>
        obtain ⟨g1, g2⟩ := text_parse hp
        have HPO := Lib.hid hp
        clear hp
        go_wp2_with fail
        refine HPA.mono ?_
        rintro e w5 ⟨sv, k, n, rfl, hb5, ho⟩
        obtain ⟨⟨v5, rfl, hev⟩, rfl, rfl⟩ := ho.ok (by omega) HPO.out
        obtain ⟨vb, vd, rfl⟩ := hev.form
        obtain ⟨n5, hn5⟩ : ∃ n5, n5 = s2.evs.length := ⟨_, rfl⟩
        rw [← hn5] at hev ⊢
        unfold scrV
        obtain ⟨⟨qg, qs, ql, qp, qc⟩, evs2⟩ := s2
        dsimp only at hev ⊢
        obtain ⟨Y, W6, HY, HW6, HK6, _⟩ := boxed1 w5 #[.int .i64 qg, .int .i64 qs, .int .i64 ql, .int .i64 qp, .int .i64 qc, .slice vb n5 vd] 26
        have y0 : W6.cell? ⟨Y, 0, none⟩ = some (.int .i64 qg) := blk_cell HK6.out.b0 0
        have y1 : W6.cell? ⟨Y, 1, none⟩ = some (.int .i64 qs) := blk_cell HK6.out.b0 1
        have y2 : W6.cell? ⟨Y, 2, none⟩ = some (.int .i64 ql) := blk_cell HK6.out.b0 2
        have y3 : W6.cell? ⟨Y, 3, none⟩ = some (.int .i64 qp) := blk_cell HK6.out.b0 3
        have y4 : W6.cell? ⟨Y, 4, none⟩ = some (.int .i64 qc) := blk_cell HK6.out.b0 4
        have y5 : W6.cell? ⟨Y, 5, none⟩ = some (.slice vb n5 vd) := blk_cell HK6.out.b0 5
        have HEV := Lib.hid (hev.at.below HK6.out.below (Nat.le_refl _))
        have HB6 := Lib.hid (HB8.out.trans ((hb5.trans (HK6.out.below.mono hb5.size)).mono HB8.out.size))
        have HPR := print11 W6 (.agg #[.int .i64 qg, .int .i64 qs, .int .i64 ql, .int .i64 qp, .int .i64 qc, .slice vb n5 vd]) ⟨⟨qg, qs, ql, qp, qc⟩, evs2⟩ ⟨_, rfl, HEV.out⟩ (HL.out.below HB6.out)
        obtain ⟨e1, e2⟩ := pr_of g2 (by rw [g1]; omega)
        rw [e1, e2, g1] at HPR
        have HCK : Hid (checkS ⟨⟨qg, qs, ql, qp, qc⟩, evs2⟩ = true) := g2
        clear hb5 ho hev hn5 g1 g2 e1 e2 HPO HPA
        go_upto_region 14 with fail
        rw [HW6.out, HY.out]
        clear HW6 HY
        go_wp2_with fail
        refine HPR.mono ?_
        rintro e w7 ⟨rfl, hb7⟩
        have hk7 := HK6.out.step hb7
        have HC := check12 w7 (.agg #[.int .i64 qg, .int .i64 qs, .int .i64 ql, .int .i64 qp, .int .i64 qc, .slice vb n5 vd]) ⟨⟨qg, qs, ql, qp, qc⟩, evs2⟩ ⟨_, rfl, HEV.out.below hb7 (Nat.le_refl _)⟩
        rw [HCK.out] at HC
        have HB7 := Lib.hid (HB6.out.trans (hb7.mono HB6.out.size))
        clear y0 y1 y2 y3 y4 y5
        have y0 : w7.cell? ⟨Y, 0, none⟩ = some (.int .i64 qg) := blk_cell hk7.b0 0
        have y1 : w7.cell? ⟨Y, 1, none⟩ = some (.int .i64 qs) := blk_cell hk7.b0 1
        have y2 : w7.cell? ⟨Y, 2, none⟩ = some (.int .i64 ql) := blk_cell hk7.b0 2
        have y3 : w7.cell? ⟨Y, 3, none⟩ = some (.int .i64 qp) := blk_cell hk7.b0 3
        have y4 : w7.cell? ⟨Y, 4, none⟩ = some (.int .i64 qc) := blk_cell hk7.b0 4
        have y5 : w7.cell? ⟨Y, 5, none⟩ = some (.slice vb n5 vd) := blk_cell hk7.b0 5
        clear hb7 hk7 HPR
        go_wp2_with fail
        refine HC.mono ?_
        rintro e w9 ⟨rfl, hb9⟩
        have HB9 := Lib.hid (HB7.out.trans (hb9.mono HB7.out.size))
        clear hb9 HC y0 y1 y2 y3 y4 y5
        go_wp2_with fail
        go_ret
        exact ⟨rfl, HB9.out⟩
      | error j =>
        obtain ⟨q1, _, _⟩ := parse_err hp
        have HPO := Lib.hid hp
        have hj0 : (0 : Int) ≤ (j : Nat) := by omega
        have hj1 : ((j : Nat) : Int) ≤ (t1.length : Nat) := by omega
        clear hp
        go_wp2_with fail
        refine HPA.mono ?_
        rintro e w5 ⟨sv, k, n, rfl, hb5, ho⟩
        obtain ⟨rfl, rfl, rfl⟩ := ho.bad (by omega) HPO.out
        unfold zeroS
        obtain ⟨Y, W6, HY, HW6, HK6, _⟩ := boxed1 w5 #[.int .i64 0, .int .i64 0, .int .i64 0, .int .i64 0, .int .i64 0, .slice none 0 0] 26
        have y0 : W6.cell? ⟨Y, 0, none⟩ = some (.int .i64 0) := blk_cell HK6.out.b0 0
        have y1 : W6.cell? ⟨Y, 1, none⟩ = some (.int .i64 0) := blk_cell HK6.out.b0 1
        have y2 : W6.cell? ⟨Y, 2, none⟩ = some (.int .i64 0) := blk_cell HK6.out.b0 2
        have y3 : W6.cell? ⟨Y, 3, none⟩ = some (.int .i64 0) := blk_cell HK6.out.b0 3
        have y4 : W6.cell? ⟨Y, 4, none⟩ = some (.int .i64 0) := blk_cell HK6.out.b0 4
        have y5 : W6.cell? ⟨Y, 5, none⟩ = some (.slice none 0 0) := blk_cell HK6.out.b0 5
        have HB6 := Lib.hid (HB8.out.trans ((hb5.trans (HK6.out.below.mono hb5.size)).mono HB8.out.size))
        clear hb5 ho HPA
        go_upto_region 13 with fail
        rw [HW6.out, HY.out]
        go_wp2_with fail
        go_ret
        exact ⟨rfl, HB6.out⟩
end Go.Proofs.YtelaijogjgcloaaDoor
