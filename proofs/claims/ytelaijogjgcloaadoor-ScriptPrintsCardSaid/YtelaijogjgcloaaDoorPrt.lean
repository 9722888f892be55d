/- The law ScriptPrints, its walk. Conditions: the script lies in memory; the variables are as laid. -/
import Derived.Test.YtelaijogjgcloaaDoorRrt
import Derived.Test.YtelaijogjgcloaaDoorRtx
import Derived.Test.YtelaijogjgcloaaDoorLsm
import Derived.Test.YtelaijogjgcloaaDoorPnt
set_option linter.unusedVariables false
set_option linter.unusedSimpArgs false
namespace Go.Proofs.YtelaijogjgcloaaDoor
open Go.RowKit Go.Ice Go.Scr

/-- What Text wants of a script, of one that may be. -/
theorem text_of {s : Scr} (h : checkS s = true) : (∀ n ∈ planN5 s.plan, 0 ≤ n ∧ n < 10000000000) ∧
    (∀ x ∈ s.evs, (1 ≤ x.kind ∧ x.kind ≤ 8) ∧ (0 ≤ x.conn ∧ x.conn < 10000000000) ∧ (0 ≤ x.n ∧ x.n < 10000000000) ∧ x.bytes.length ≤ 4096 ∧ x.keep.length ≤ 4096) ∧ s.evs.length ≤ 200 := by
  obtain ⟨h1, h2, h3⟩ := checkS_facts (p := s.plan) (evs := s.evs) h
  refine ⟨fun n hn => ?_, fun x hx => ?_, h2⟩
  · have := plan_facts h1 n hn
    omega
  · obtain ⟨a, b, c, d, e⟩ := right_facts h1 (h3 x hx)
    exact ⟨a, ⟨b.1, by omega⟩, ⟨c.1, by omega⟩, d, e⟩

set_option maxHeartbeats 16000000 in
set_option maxRecDepth 100000 in
theorem prints3 (w : World) (u : Value) (sc : Scr) (hs : ScrAt w u sc) (hl : Laid w) :
    Calls Tryd.prog 3 #[u] w fun e w' => e = .returned (.bool true) ∧ Below w.heap.size w w' := by
  obtain ⟨v, rfl, hv⟩ := hs
  obtain ⟨p, evs⟩ := sc
  dsimp only at hv
  have HL := Lib.hid hl
  obtain ⟨a, cap, rfl, hm⟩ := hv.form
  obtain ⟨ne, hne⟩ : ∃ ne, ne = evs.length := ⟨_, rfl⟩
  rw [← hne] at hv hm ⊢
  have HNE := Lib.hid hne
  unfold maxLen at hm
  unfold scrV
  dsimp only
  obtain ⟨S, W0, HS, HW, HK, _⟩ := boxed1 w #[.int .i64 p.g, .int .i64 p.s, .int .i64 p.l, .int .i64 p.p, .int .i64 p.c, .slice a ne cap] 26
  have hSw : w.heap.size ≤ S := by have := HS.out; omega
  have HV0 := Lib.hid (hv.below HK.out.below (Nat.le_refl _))
  have HWK := wakes8 W0 (HL.out.below HK.out.below)
  clear hl hv hne
  go_enter Tryd.func3, Tryd.ntmps3
  go_upto_region 1 with fail
  rw [HW.out, HS.out]
  go_wp2_with fail
  refine HWK.mono ?_
  rintro e w1 ⟨rfl, hb1⟩
  have HK1 := Lib.hid (HK.out.step hb1)
  have HV1 := Lib.hid (HV0.out.below hb1 (Nat.le_refl _))
  clear hb1 HWK HW HS
  have s0 : w1.cell? ⟨S, 0, none⟩ = some (.int .i64 p.g) := blk_cell HK1.out.b0 0
  have s1 : w1.cell? ⟨S, 1, none⟩ = some (.int .i64 p.s) := blk_cell HK1.out.b0 1
  have s2 : w1.cell? ⟨S, 2, none⟩ = some (.int .i64 p.l) := blk_cell HK1.out.b0 2
  have s3 : w1.cell? ⟨S, 3, none⟩ = some (.int .i64 p.p) := blk_cell HK1.out.b0 3
  have s4 : w1.cell? ⟨S, 4, none⟩ = some (.int .i64 p.c) := blk_cell HK1.out.b0 4
  have s5 : w1.cell? ⟨S, 5, none⟩ = some (.slice a ne cap) := blk_cell HK1.out.b0 5
  have HFW := few9 w1 (.agg #[.int .i64 p.g, .int .i64 p.s, .int .i64 p.l, .int .i64 p.p, .int .i64 p.c, .slice a ne cap]) ⟨p, evs⟩ ⟨_, rfl, HV1.out⟩
  go_wp2_with fail
  refine HFW.mono ?_
  rintro e w2 ⟨v2, rfl, hr2, hb2⟩
  obtain ⟨va, vc, rfl⟩ := hr2.form
  obtain ⟨n2, hn2⟩ : ∃ n2, n2 = (fewS ⟨p, evs⟩).evs.length := ⟨_, rfl⟩
  rw [← hn2] at hr2 ⊢
  clear hn2
  clear s0 s1 s2 s3 s4 s5 HFW HV0
  unfold scrV
  dsimp only
  have HK2 := Lib.hid (HK1.out.step hb2)
  have s0 : w2.cell? ⟨S, 0, none⟩ = some (.int .i64 p.g) := blk_cell HK2.out.b0 0
  have s1 : w2.cell? ⟨S, 1, none⟩ = some (.int .i64 p.s) := blk_cell HK2.out.b0 1
  have s2 : w2.cell? ⟨S, 2, none⟩ = some (.int .i64 p.l) := blk_cell HK2.out.b0 2
  have s3 : w2.cell? ⟨S, 3, none⟩ = some (.int .i64 p.p) := blk_cell HK2.out.b0 3
  have s4 : w2.cell? ⟨S, 4, none⟩ = some (.int .i64 p.c) := blk_cell HK2.out.b0 4
  have s5 : w2.cell? ⟨S, 5, none⟩ = some (.slice a ne cap) := blk_cell HK2.out.b0 5
  have fs := fun r => blk_frozen HK2.out.b0 r
  have HZ := Lib.hid (hr2.store hb2 HK1.out.b0 (frm_set6 S (.int .i64 p.g) (.int .i64 p.s) (.int .i64 p.l) (.int .i64 p.p) (.int .i64 p.c) (.slice va n2 vc)))
  have hz := set6 (v0 := .int .i64 p.g) (v1 := .int .i64 p.s) (v2 := .int .i64 p.l) (v3 := .int .i64 p.p) (v4 := .int .i64 p.c) (v5 := .slice va n2 vc) HK2.out.b0
  have HSZ := Lib.hid hz
  have HBZ := Lib.hid (HK2.out.below.trans (below_frm (frm_set6 S (.int .i64 p.g) (.int .i64 p.s) (.int .i64 p.l) (.int .i64 p.p) (.int .i64 p.c) (.slice va n2 vc)) hSw HK2.out.below.size))
  clear hr2 hb2 hz
  go_upto_region 4 with fail
  obtain ⟨W3, hW3⟩ : ∃ W3, W3 = ((((((w2.setCell ⟨S, 0, none⟩ (.int .i64 p.g)).setCell ⟨S, 1, none⟩ (.int .i64 p.s)).setCell ⟨S, 2, none⟩ (.int .i64 p.l)).setCell ⟨S, 3, none⟩ (.int .i64 p.p)).setCell ⟨S, 4, none⟩ (.int .i64 p.c)).setCell ⟨S, 5, none⟩ (.slice va n2 vc)) := ⟨_, rfl⟩
  rw [← hW3] at HZ HSZ HBZ ⊢
  clear hW3 s0 s1 s2 s3 s4 s5 fs HK1 HK2 HV1 hm
  have s0 : W3.cell? ⟨S, 0, none⟩ = some (.int .i64 p.g) := blk_cell HSZ.out 0
  have s1 : W3.cell? ⟨S, 1, none⟩ = some (.int .i64 p.s) := blk_cell HSZ.out 1
  have s2 : W3.cell? ⟨S, 2, none⟩ = some (.int .i64 p.l) := blk_cell HSZ.out 2
  have s3 : W3.cell? ⟨S, 3, none⟩ = some (.int .i64 p.p) := blk_cell HSZ.out 3
  have s4 : W3.cell? ⟨S, 4, none⟩ = some (.int .i64 p.c) := blk_cell HSZ.out 4
  have s5 : W3.cell? ⟨S, 5, none⟩ = some (.slice va n2 vc) := blk_cell HSZ.out 5
  have HZ' : Hid (EvsAt W3 (.slice va n2 vc) (fewS ⟨p, evs⟩).evs) := HZ.out
  have HFS := Lib.hid (few_short ⟨p, evs⟩)
  obtain ⟨FS, hFS⟩ : ∃ FS, FS = fewS ⟨p, evs⟩ := ⟨_, rfl⟩
  have hFP : FS.plan = p := by rw [hFS]; rfl
  rw [← hFS] at HZ' HFS
  have HFP := Lib.hid hFP
  have HCP := copied10 W3 (.agg #[.int .i64 p.g, .int .i64 p.s, .int .i64 p.l, .int .i64 p.p, .int .i64 p.c, .slice va n2 vc]) FS ⟨_, by rw [hFP]; rfl, HZ'.out⟩ HFS.out.1 HFS.out.2
  clear hFS HNE hFP HZ
  go_wp2_with fail
  refine HCP.mono ?_
  rintro e w4 ⟨v4, rfl, he4, hb4⟩
  obtain ⟨oa, oc, rfl, hm4⟩ := he4.form
  obtain ⟨on, hon⟩ : ∃ n, n = FS.evs.length := ⟨_, rfl⟩
  rw [← hon] at he4 ⊢
  rw [HFP.out]
  unfold scrV
  have hS4 := (hb4.block S (blk_lt HSZ.out)).trans HSZ.out
  obtain ⟨Y, W5, HY, HW5, HK5, _⟩ := boxed1 w4 #[.int .i64 p.g, .int .i64 p.s, .int .i64 p.l, .int .i64 p.p, .int .i64 p.c, .slice oa on oc] 26
  have HB5 := Lib.hid (HBZ.out.trans ((hb4.trans (HK5.out.below.mono hb4.size)).mono HBZ.out.size))
  have HS5 := Lib.hid ((HK5.out.below.block S (blk_lt hS4)).trans hS4)
  have HY5 := Lib.hid HK5.out.b0
  have HZ5 := Lib.hid (HZ'.out.below (hb4.trans (HK5.out.below.mono hb4.size)) (Nat.le_refl _))
  have HO5 := Lib.hid (he4.below HK5.out.below (Nat.le_refl _))
  clear hb4 hS4 he4 HK5 hon hm4 HCP s0 s1 s2 s3 s4 s5 HZ' HSZ HBZ
  obtain ⟨pt, hpt⟩ : ∃ pt, pt = prT FS := ⟨_, rfl⟩
  obtain ⟨pn, hpn⟩ : ∃ pn, pn = prN FS := ⟨_, rfl⟩
  obtain ⟨cs, hcs⟩ : ∃ cs, cs = checkS FS := ⟨_, rfl⟩
  have HPT := Lib.hid hpt
  have HPN := Lib.hid hpn
  have HCS := Lib.hid hcs
  have HPR : Hid (Calls Tryd.prog 11 #[.agg #[.int .i64 p.g, .int .i64 p.s, .int .i64 p.l, .int .i64 p.p, .int .i64 p.c, .slice oa on oc]] W5 fun e w' => e = .returned (.tuple #[.string ⟨pt.toArray⟩, .int .i64 pn]) ∧ Below W5.heap.size W5 w') := by
    have h := print11 W5 (.agg #[.int .i64 p.g, .int .i64 p.s, .int .i64 p.l, .int .i64 p.p, .int .i64 p.c, .slice oa on oc]) FS ⟨_, by rw [HFP.out]; rfl, HO5.out⟩ (HL.out.below HB5.out)
    rw [← HPT.out, ← HPN.out] at h
    exact h
  have HPR' := HPR.out
  clear hpt hpn hcs
  have y0 : W5.cell? ⟨Y, 0, none⟩ = some (.int .i64 p.g) := blk_cell HY5.out 0
  have y1 : W5.cell? ⟨Y, 1, none⟩ = some (.int .i64 p.s) := blk_cell HY5.out 1
  have y2 : W5.cell? ⟨Y, 2, none⟩ = some (.int .i64 p.l) := blk_cell HY5.out 2
  have y3 : W5.cell? ⟨Y, 3, none⟩ = some (.int .i64 p.p) := blk_cell HY5.out 3
  have y4 : W5.cell? ⟨Y, 4, none⟩ = some (.int .i64 p.c) := blk_cell HY5.out 4
  have y5 : W5.cell? ⟨Y, 5, none⟩ = some (.slice oa on oc) := blk_cell HY5.out 5
  go_upto_region 5 with fail
  rw [HW5.out, HY.out]
  clear HW5 HY HPR
  go_wp2_with fail
  refine HPR'.mono ?_
  rintro e w6 ⟨rfl, hb6⟩
  clear HPR' y0 y1 y2 y3 y4 y5
  have HB6 := Lib.hid (HB5.out.trans (hb6.mono HB5.out.size))
  have HS6 := Lib.hid ((hb6.block S (blk_lt HS5.out)).trans HS5.out)
  have HY6 := Lib.hid ((hb6.block Y (blk_lt HY5.out)).trans HY5.out)
  have HZ6 := Lib.hid (HZ5.out.below hb6 (Nat.le_refl _))
  have HO6 := Lib.hid (HO5.out.below hb6 (Nat.le_refl _))
  clear hb6 HS5 HY5 HZ5 HO5 HB5
  have HCK := check12 w6 (.agg #[.int .i64 p.g, .int .i64 p.s, .int .i64 p.l, .int .i64 p.p, .int .i64 p.c, .slice oa on oc]) FS ⟨_, by rw [HFP.out]; rfl, HO6.out⟩
  obtain ⟨cn, hcn⟩ : ∃ cn : Int, cn = (if checkS FS then 0 else 2) := ⟨_, rfl⟩
  rw [← hcn] at HCK
  have HCN := Lib.hid hcn
  clear hcn
  have y0 : w6.cell? ⟨Y, 0, none⟩ = some (.int .i64 p.g) := blk_cell HY6.out 0
  have y1 : w6.cell? ⟨Y, 1, none⟩ = some (.int .i64 p.s) := blk_cell HY6.out 1
  have y2 : w6.cell? ⟨Y, 2, none⟩ = some (.int .i64 p.l) := blk_cell HY6.out 2
  have y3 : w6.cell? ⟨Y, 3, none⟩ = some (.int .i64 p.p) := blk_cell HY6.out 3
  have y4 : w6.cell? ⟨Y, 4, none⟩ = some (.int .i64 p.c) := blk_cell HY6.out 4
  have y5 : w6.cell? ⟨Y, 5, none⟩ = some (.slice oa on oc) := blk_cell HY6.out 5
  go_wp2_with fail
  refine HCK.mono ?_
  rintro e w7 ⟨rfl, hb7⟩
  clear HCK y0 y1 y2 y3 y4 y5
  have HB7 := Lib.hid (HB6.out.trans (hb7.mono HB6.out.size))
  have HS7 := Lib.hid ((hb7.block S (blk_lt HS6.out)).trans HS6.out)
  have HY7 := Lib.hid ((hb7.block Y (blk_lt HY6.out)).trans HY6.out)
  have HZ7 := Lib.hid (HZ6.out.below hb7 (Nat.le_refl _))
  have HO7 := Lib.hid (HO6.out.below hb7 (Nat.le_refl _))
  clear hb7 HS6 HY6 HZ6 HO6 HB6
  have HKB := Lib.hid (fun x (hx : x ∈ FS.evs) => (show x.keep.length ≤ 1000000 by have := (HFS.out.1 x hx).2; omega))
  have HSM := rsame13 w7 (.agg #[.int .i64 p.g, .int .i64 p.s, .int .i64 p.l, .int .i64 p.p, .int .i64 p.c, .slice oa on oc]) (.agg #[.int .i64 p.g, .int .i64 p.s, .int .i64 p.l, .int .i64 p.p, .int .i64 p.c, .slice va n2 vc]) FS FS ⟨_, by rw [HFP.out]; rfl, HO7.out⟩ ⟨_, by rw [HFP.out]; rfl, HZ7.out⟩ HKB.out HKB.out
  rw [decide_eq_true rfl] at HSM
  have y0 : w7.cell? ⟨Y, 0, none⟩ = some (.int .i64 p.g) := blk_cell HY7.out 0
  have y1 : w7.cell? ⟨Y, 1, none⟩ = some (.int .i64 p.s) := blk_cell HY7.out 1
  have y2 : w7.cell? ⟨Y, 2, none⟩ = some (.int .i64 p.l) := blk_cell HY7.out 2
  have y3 : w7.cell? ⟨Y, 3, none⟩ = some (.int .i64 p.p) := blk_cell HY7.out 3
  have y4 : w7.cell? ⟨Y, 4, none⟩ = some (.int .i64 p.c) := blk_cell HY7.out 4
  have y5 : w7.cell? ⟨Y, 5, none⟩ = some (.slice oa on oc) := blk_cell HY7.out 5
  have s0 : w7.cell? ⟨S, 0, none⟩ = some (.int .i64 p.g) := blk_cell HS7.out 0
  have s1 : w7.cell? ⟨S, 1, none⟩ = some (.int .i64 p.s) := blk_cell HS7.out 1
  have s2 : w7.cell? ⟨S, 2, none⟩ = some (.int .i64 p.l) := blk_cell HS7.out 2
  have s3 : w7.cell? ⟨S, 3, none⟩ = some (.int .i64 p.p) := blk_cell HS7.out 3
  have s4 : w7.cell? ⟨S, 4, none⟩ = some (.int .i64 p.c) := blk_cell HS7.out 4
  have s5 : w7.cell? ⟨S, 5, none⟩ = some (.slice va n2 vc) := blk_cell HS7.out 5
  go_wp2_with fail
  refine HSM.mono ?_
  rintro e w8 ⟨rfl, hb8⟩
  clear HSM y0 y1 y2 y3 y4 y5 s0 s1 s2 s3 s4 s5
  have HB8 := Lib.hid (HB7.out.trans (hb8.mono HB7.out.size))
  have HS8 := Lib.hid ((hb8.block S (blk_lt HS7.out)).trans HS7.out)
  have HZ8 := Lib.hid (HZ7.out.below hb8 (Nat.le_refl _))
  clear hb8 HS7 HY7 HZ7 HO7 HB7
  have HRG := right14 w8 (.agg #[.int .i64 p.g, .int .i64 p.s, .int .i64 p.l, .int .i64 p.p, .int .i64 p.c, .slice va n2 vc]) FS ⟨_, by rw [HFP.out]; rfl, HZ8.out⟩
  rw [← HCS.out] at HRG
  have s0 : w8.cell? ⟨S, 0, none⟩ = some (.int .i64 p.g) := blk_cell HS8.out 0
  have s1 : w8.cell? ⟨S, 1, none⟩ = some (.int .i64 p.s) := blk_cell HS8.out 1
  have s2 : w8.cell? ⟨S, 2, none⟩ = some (.int .i64 p.l) := blk_cell HS8.out 2
  have s3 : w8.cell? ⟨S, 3, none⟩ = some (.int .i64 p.p) := blk_cell HS8.out 3
  have s4 : w8.cell? ⟨S, 4, none⟩ = some (.int .i64 p.c) := blk_cell HS8.out 4
  have s5 : w8.cell? ⟨S, 5, none⟩ = some (.slice va n2 vc) := blk_cell HS8.out 5
  go_wp2_with fail
  refine HRG.mono ?_
  rintro e w9 ⟨rfl, hb9⟩
  clear HRG s0 s1 s2 s3 s4 s5
  have HB9 := Lib.hid (HB8.out.trans (hb9.mono HB8.out.size))
  have HS9 := Lib.hid ((hb9.block S (blk_lt HS8.out)).trans HS8.out)
  have HZ9 := Lib.hid (HZ8.out.below hb9 (Nat.le_refl _))
  clear hb9 HS8 HZ8 HB8
  cases cs with
  | false =>
    have HE : Hid (pt = [] ∧ pn = 2 ∧ cn = 2) := by
      refine ⟨?_, ?_, ?_⟩
      · rw [HPT.out]; unfold prT; rw [← HCS.out]; rfl
      · rw [HPN.out]; unfold prN; rw [← HCS.out]; rfl
      · rw [HCN.out, ← HCS.out]; rfl
    obtain ⟨rfl, rfl, rfl⟩ := HE.out
    clear HE HCN HPN HPT
    go_wp2_with fail
    go_ret
    exact ⟨by simp, HB9.out⟩
  | true =>
    obtain ⟨tx, htx⟩ : ∃ tx, tx = textS FS := ⟨_, rfl⟩
    have HTX := Lib.hid htx
    obtain ⟨ta, tb, tc⟩ := text_of HCS.out.symm
    have HTT := text15 w9 (.agg #[.int .i64 p.g, .int .i64 p.s, .int .i64 p.l, .int .i64 p.p, .int .i64 p.c, .slice va n2 vc]) FS ⟨_, by rw [HFP.out]; rfl, HZ9.out⟩ ta tb tc
    rw [← htx] at HTT
    have HC0 : Hid (cn = 0) := by show _ = _; rw [HCN.out, ← HCS.out]; rfl
    have HPC := Lib.hid (And.intro HPT.out HPN.out)
    clear htx ta tb tc
    have s0 : w9.cell? ⟨S, 0, none⟩ = some (.int .i64 p.g) := blk_cell HS9.out 0
    have s1 : w9.cell? ⟨S, 1, none⟩ = some (.int .i64 p.s) := blk_cell HS9.out 1
    have s2 : w9.cell? ⟨S, 2, none⟩ = some (.int .i64 p.l) := blk_cell HS9.out 2
    have s3 : w9.cell? ⟨S, 3, none⟩ = some (.int .i64 p.p) := blk_cell HS9.out 3
    have s4 : w9.cell? ⟨S, 4, none⟩ = some (.int .i64 p.c) := blk_cell HS9.out 4
    have s5 : w9.cell? ⟨S, 5, none⟩ = some (.slice va n2 vc) := blk_cell HS9.out 5
    go_wp2_with fail
    refine HTT.mono ?_
    rintro e w10 ⟨rfl, hb10⟩
    have HB10 := Lib.hid (HB9.out.trans (hb10.mono HB9.out.size))
    clear hb10 HTT s0 s1 s2 s3 s4 s5
    by_cases hlen : 262144 < tx.length
    · have HE : Hid (pt = [] ∧ pn = 3 ∧ cn = 0) := by
        refine ⟨?_, ?_, HC0.out⟩
        · rw [HPC.out.1]; unfold prT; rw [← HCS.out, if_pos rfl, ← HTX.out, if_pos hlen]
        · rw [HPC.out.2]; unfold prN; rw [← HCS.out, if_pos rfl, ← HTX.out, if_pos hlen]
      obtain ⟨rfl, rfl, rfl⟩ := HE.out
      have hl' : (262144 : Int) < (tx.length : Nat) := by omega
      clear HE HCN HPN HPT HPC HC0
      go_wp2_with fail
      go_ret
      exact ⟨by simp, HB10.out⟩
    · have HE : Hid (pt = tx ∧ pn = 0 ∧ cn = 0) := by
        refine ⟨?_, ?_, HC0.out⟩
        · rw [HPC.out.1]; unfold prT; rw [← HCS.out, if_pos rfl, ← HTX.out, if_neg hlen]
        · rw [HPC.out.2]; unfold prN; rw [← HCS.out, if_pos rfl, ← HTX.out, if_neg hlen]
      obtain ⟨rfl, rfl, rfl⟩ := HE.out
      have hl' : ¬ (262144 : Int) < (pt.length : Nat) := by omega
      clear HE HCN HPN HPT HPC HC0
      go_wp2_with fail
      go_ret
      exact ⟨by simp, HB10.out⟩
end Go.Proofs.YtelaijogjgcloaaDoor
