/- The document's same, at events. Conditions: the events lie in memory, their bools are not more than a million. -/
import Derived.Test.YtelaijogjgcloaaDoorRfk
set_option linter.unusedVariables false
set_option linter.unusedSimpArgs false
namespace Go.Proofs.YtelaijogjgcloaaDoor
open Go.RowKit Go.Ice Go.Scr

theorem keepT_inj {a b : List Bool} : (keepT a = keepT b) ↔ a = b := by
  constructor
  · intro h
    have h1 := keep_text a
    rw [h, keep_text b] at h1
    injection h1 with h1
    exact h1.symm
  · rintro rfl; rfl
set_option maxHeartbeats 16000000 in
set_option maxRecDepth 100000 in
theorem rsame33 (w : World) (va vb : Value) (x y : Ev) (hx : EvAt w va x) (hy : EvAt w vb y) (hxl : x.keep.length ≤ 1000000) (hyl : y.keep.length ≤ 1000000) :
    Calls Tryd.prog 33 #[va, vb] w fun e w' => e = .returned (.bool (decide (x = y))) ∧ Below w.heap.size w w' := by
  obtain ⟨v1, v2, rfl, hxb, hxk⟩ := hx
  obtain ⟨v3, v4, rfl, hyb, hyk⟩ := hy
  obtain ⟨rr, hrr⟩ : ∃ rr, rr = decide (x = y) := ⟨_, rfl⟩
  rw [← hrr]
  obtain ⟨xk, xc, xn, xb, xp⟩ := x
  obtain ⟨yk, yc, yn, yb, yp⟩ := y
  have hrr2 : rr = decide (xk = yk ∧ xc = yc ∧ xn = yn ∧ xb = yb ∧ xp = yp) := by rw [hrr]; simp only [Ev.mk.injEq]
  have HR := Lib.hid hrr2
  dsimp only at hxb hxk hyb hyk hxl hyl
  clear hrr hrr2
  obtain ⟨ab, cb, rfl, _⟩ := hxb.form
  obtain ⟨ak, ck, rfl, _⟩ := hxk.form
  obtain ⟨ab', cb', rfl, _⟩ := hyb.form
  obtain ⟨ak', ck', rfl, _⟩ := hyk.form
  unfold evV
  dsimp only
  obtain ⟨nb, hnb⟩ : ∃ n, n = xb.length := ⟨_, rfl⟩
  obtain ⟨nk, hnk⟩ : ∃ n, n = xp.length := ⟨_, rfl⟩
  obtain ⟨nb', hnb'⟩ : ∃ n, n = yb.length := ⟨_, rfl⟩
  obtain ⟨nk', hnk'⟩ : ∃ n, n = yp.length := ⟨_, rfl⟩
  rw [← hnb] at hxb ⊢
  rw [← hnk] at hxk ⊢
  rw [← hnb'] at hyb ⊢
  rw [← hnk'] at hyk ⊢
  clear hnb hnk hnb' hnk'
  obtain ⟨B, C, W0, HB, HC, HW, HK, HZ⟩ := boxed2 w #[.int .i64 xk, .int .i64 xc, .int .i64 xn, .slice ab nb cb, .slice ak nk ck] 41 #[.int .i64 yk, .int .i64 yc, .int .i64 yn, .slice ab' nb' cb', .slice ak' nk' ck'] 41
  have HXB := Lib.hid (hxb.below HK.out.below (Nat.le_refl _))
  have HXK := Lib.hid (hxk.below HK.out.below (Nat.le_refl _))
  have HYB := Lib.hid (hyb.below HK.out.below (Nat.le_refl _))
  have HYK := Lib.hid (hyk.below HK.out.below (Nat.le_refl _))
  have HLX := Lib.hid hxl
  have HLY := Lib.hid hyl
  have HKB := Lib.hid HK.out.b0
  have HKC := Lib.hid HK.out.b1
  have HBW := Lib.hid (show Below w.heap.size w W0 from HK.out.below)
  clear hxb hxk hyb hyk hxl hyl
  go_enter Tryd.func33, Tryd.ntmps33
  go_upto_region 1 with fail
  rw [HW.out, HC.out, HB.out]
  clear HW HC HB HK HZ
  by_cases hhk : xk = yk
  · have hk : (xk == yk) = true := by simp [hhk]
    by_cases hhc : xc = yc
    · have hc0 : (xc == yc) = true := by simp [hhc]
      by_cases hhn : xn = yn
      · have hn0 : (xn == yn) = true := by simp [hhn]
        by_cases hhb : xb = yb
        · have hb0 : (xb == yb) = true := by simp [hhb]
          by_cases hhp : xp = yp
          · have hp0 : (keepT xp == keepT yp) = true := by simp [hhp]
            have HRV : Hid (rr = true) := by show _ = _; rw [HR.out]; exact decide_eq_true ⟨hhk, hhc, hhn, hhb, hhp⟩
            clear hhk hhc hhn hhb hhp
            refine wp_region_inv2 (by kernel_rfl) (hord_of2 (by kernel_rfl)) (fun done ac W => ∃ (u : Unit), ac = { tmps := #[.agg #[.int .i64 xk, .int .i64 xc, .int .i64 xn, .slice ab nb cb, .slice ak nk ck], .agg #[.int .i64 yk, .int .i64 yc, .int .i64 yn, .slice ab' nb' cb', .slice ak' nk' ck'], (.pointer (some ⟨B, 0, none⟩)), (.pointer (some ⟨C, 0, none⟩)), if done 37 then (.bool true) else .bool false, if done 0 then (.pointer (some ⟨B, 0, none⟩)) else undef, if done 1 then (.int .i64 xk) else undef, if done 2 then (.pointer (some ⟨C, 0, none⟩)) else undef, if done 3 then (.int .i64 yk) else undef, if done 4 then (.bool true) else undef, if done 5 then (.bool true) else undef, if done 6 then (.pointer (some ⟨B, 1, none⟩)) else undef, if done 7 then (.int .i64 xc) else undef, if done 8 then (.pointer (some ⟨C, 1, none⟩)) else undef, if done 9 then (.int .i64 yc) else undef, if done 10 then (.bool true) else undef, if done 11 then (.bool true) else undef, if done 12 then (.bool true) else undef, if done 13 then (.pointer (some ⟨B, 2, none⟩)) else undef, if done 14 then (.int .i64 xn) else undef, if done 15 then (.pointer (some ⟨C, 2, none⟩)) else undef, if done 16 then (.int .i64 yn) else undef, if done 17 then (.bool true) else undef, if done 18 then (.bool true) else undef, if done 19 then (.bool true) else undef, if done 20 then (.pointer (some ⟨B, 3, none⟩)) else undef, if done 21 then (.slice ab nb cb) else undef, if done 22 then (.string ⟨xb.toArray⟩) else undef, if done 23 then (.pointer (some ⟨C, 3, none⟩)) else undef, if done 24 then (.slice ab' nb' cb') else undef, if done 25 then (.string ⟨yb.toArray⟩) else undef, if done 26 then (.bool true) else undef, if done 27 then (.bool true) else undef, if done 28 then (.bool true) else undef, if done 29 then (.pointer (some ⟨B, 4, none⟩)) else undef, if done 30 then (.slice ak nk ck) else undef, if done 31 then (.string ⟨(keepT xp).toArray⟩) else undef, if done 32 then (.pointer (some ⟨C, 4, none⟩)) else undef, if done 33 then (.slice ak' nk' ck') else undef, if done 34 then (.string ⟨(keepT yp).toArray⟩) else undef, if done 35 then (.bool true) else undef, if done 36 then (.bool true) else undef], defers := [] } ∧ Below W0.heap.size W0 W) ?_ ?_ ?_
            · exact ⟨(), by simp, (Below.refl _ W0).drew⟩
            · intro done ac W j oq ho hd hdep hcl ⟨u, hlit, hI⟩
              have hj : j < 38 := (Array.getElem?_eq_some_iff.1 ho).1
              subst hlit
              obtain rfl | rfl | rfl | rfl | rfl | rfl | rfl | rfl | rfl | rfl | rfl | rfl | rfl | rfl | rfl | rfl | rfl | rfl | rfl | rfl | rfl | rfl | rfl | rfl | rfl | rfl | rfl | rfl | rfl | rfl | rfl | rfl | rfl | rfl | rfl | rfl | rfl | rfl : j = 0 ∨ j = 1 ∨ j = 2 ∨ j = 3 ∨ j = 4 ∨ j = 5 ∨ j = 6 ∨ j = 7 ∨ j = 8 ∨ j = 9 ∨ j = 10 ∨ j = 11 ∨ j = 12 ∨ j = 13 ∨ j = 14 ∨ j = 15 ∨ j = 16 ∨ j = 17 ∨ j = 18 ∨ j = 19 ∨ j = 20 ∨ j = 21 ∨ j = 22 ∨ j = 23 ∨ j = 24 ∨ j = 25 ∨ j = 26 ∨ j = 27 ∨ j = 28 ∨ j = 29 ∨ j = 30 ∨ j = 31 ∨ j = 32 ∨ j = 33 ∨ j = 34 ∨ j = 35 ∨ j = 36 ∨ j = 37 := by omega
              · refine wpOp_val ho (by cases ho; rfl) (w' := W) (v := (.pointer (some ⟨B, 0, none⟩))) (by cases ho; simp [execOp, go_sem]) ?_
                cases ho
                exact ⟨u, by simp [Act.put], hI⟩
              · have p0 : done 0 = true := by cases ho; exact hdep ⟨0, .data⟩ (by simp) rfl
                have hx := blk_cell ((hI.block B (blk_lt HKB.out)).trans HKB.out) 0
                simp at hx
                refine wpOp_val ho (by cases ho; rfl) (w' := W) (v := (.int .i64 xk)) (by cases ho; simp [execOp, go_sem, p0, hx]) ?_
                cases ho
                exact ⟨(), by simp [Act.put], hI⟩
              · refine wpOp_val ho (by cases ho; rfl) (w' := W) (v := (.pointer (some ⟨C, 0, none⟩))) (by cases ho; simp [execOp, go_sem]) ?_
                cases ho
                exact ⟨u, by simp [Act.put], hI⟩
              · have p2 : done 2 = true := by cases ho; exact hdep ⟨2, .data⟩ (by simp) rfl
                have hx := blk_cell ((hI.block C (blk_lt HKC.out)).trans HKC.out) 0
                simp at hx
                refine wpOp_val ho (by cases ho; rfl) (w' := W) (v := (.int .i64 yk)) (by cases ho; simp [execOp, go_sem, p2, hx]) ?_
                cases ho
                exact ⟨(), by simp [Act.put], hI⟩
              · have p1 : done 1 = true := by cases ho; exact hdep ⟨1, .data⟩ (by simp) rfl
                have p3 : done 3 = true := by cases ho; exact hdep ⟨3, .data⟩ (by simp) rfl
                refine wpOp_val ho (by cases ho; rfl) (w' := W) (v := (.bool true)) (by cases ho; simp [execOp, go_sem, p1, p3, hk]) ?_
                cases ho
                exact ⟨u, by simp [Act.put], hI⟩
              · have p4 : done 4 = true := by cases ho; exact hdep ⟨4, .data⟩ (by simp) rfl
                refine wpOp_val ho (by cases ho; rfl) (w' := W) (v := (.bool true)) (by cases ho; simp [execOp, go_sem, p4]) ?_
                cases ho
                exact ⟨u, by simp [Act.put], hI⟩
              · have p5 : done 5 = true := by cases ho; exact hdep ⟨5, .guard⟩ (by simp) rfl
                refine wpOp_valW ho (by cases ho; simp [Region.wanted, yielded, go_sem, p5]) (w' := W) (v := (.pointer (some ⟨B, 1, none⟩))) (by cases ho; simp [execOp, go_sem, p5]) ?_
                cases ho
                exact ⟨u, by simp [Act.put], hI⟩
              · have p6 : done 6 = true := by cases ho; exact hdep ⟨6, .data⟩ (by simp) rfl
                have p5 : done 5 = true := by cases ho; exact hdep ⟨5, .guard⟩ (by simp) rfl
                have hx := blk_cell ((hI.block B (blk_lt HKB.out)).trans HKB.out) 1
                simp at hx
                refine wpOp_valW ho (by cases ho; simp [Region.wanted, yielded, go_sem, p6, p5]) (w' := W) (v := (.int .i64 xc)) (by cases ho; simp [execOp, go_sem, p6, p5, hx]) ?_
                cases ho
                exact ⟨(), by simp [Act.put], hI⟩
              · have p5 : done 5 = true := by cases ho; exact hdep ⟨5, .guard⟩ (by simp) rfl
                refine wpOp_valW ho (by cases ho; simp [Region.wanted, yielded, go_sem, p5]) (w' := W) (v := (.pointer (some ⟨C, 1, none⟩))) (by cases ho; simp [execOp, go_sem, p5]) ?_
                cases ho
                exact ⟨u, by simp [Act.put], hI⟩
              · have p8 : done 8 = true := by cases ho; exact hdep ⟨8, .data⟩ (by simp) rfl
                have p5 : done 5 = true := by cases ho; exact hdep ⟨5, .guard⟩ (by simp) rfl
                have hx := blk_cell ((hI.block C (blk_lt HKC.out)).trans HKC.out) 1
                simp at hx
                refine wpOp_valW ho (by cases ho; simp [Region.wanted, yielded, go_sem, p8, p5]) (w' := W) (v := (.int .i64 yc)) (by cases ho; simp [execOp, go_sem, p8, p5, hx]) ?_
                cases ho
                exact ⟨(), by simp [Act.put], hI⟩
              · have p7 : done 7 = true := by cases ho; exact hdep ⟨7, .data⟩ (by simp) rfl
                have p9 : done 9 = true := by cases ho; exact hdep ⟨9, .data⟩ (by simp) rfl
                have p5 : done 5 = true := by cases ho; exact hdep ⟨5, .guard⟩ (by simp) rfl
                refine wpOp_valW ho (by cases ho; simp [Region.wanted, yielded, go_sem, p7, p9, p5, hc0]) (w' := W) (v := (.bool true)) (by cases ho; simp [execOp, go_sem, p7, p9, p5, hc0]) ?_
                cases ho
                exact ⟨u, by simp [Act.put], hI⟩
              · have p5 : done 5 = true := by cases ho; exact hdep ⟨5, .data⟩ (by simp) rfl
                have p10 : done 10 = true := by cases ho; exact hdep ⟨10, .data⟩ (by simp) rfl
                refine wpOp_val ho (by cases ho; rfl) (w' := W) (v := (.bool true)) (by cases ho; simp [execOp, go_sem, p5, p10]) ?_
                cases ho
                exact ⟨u, by simp [Act.put], hI⟩
              · have p11 : done 11 = true := by cases ho; exact hdep ⟨11, .data⟩ (by simp) rfl
                refine wpOp_val ho (by cases ho; rfl) (w' := W) (v := (.bool true)) (by cases ho; simp [execOp, go_sem, p11]) ?_
                cases ho
                exact ⟨u, by simp [Act.put], hI⟩
              · have p12 : done 12 = true := by cases ho; exact hdep ⟨12, .guard⟩ (by simp) rfl
                refine wpOp_valW ho (by cases ho; simp [Region.wanted, yielded, go_sem, p12]) (w' := W) (v := (.pointer (some ⟨B, 2, none⟩))) (by cases ho; simp [execOp, go_sem, p12]) ?_
                cases ho
                exact ⟨u, by simp [Act.put], hI⟩
              · have p13 : done 13 = true := by cases ho; exact hdep ⟨13, .data⟩ (by simp) rfl
                have p12 : done 12 = true := by cases ho; exact hdep ⟨12, .guard⟩ (by simp) rfl
                have hx := blk_cell ((hI.block B (blk_lt HKB.out)).trans HKB.out) 2
                simp at hx
                refine wpOp_valW ho (by cases ho; simp [Region.wanted, yielded, go_sem, p13, p12]) (w' := W) (v := (.int .i64 xn)) (by cases ho; simp [execOp, go_sem, p13, p12, hx]) ?_
                cases ho
                exact ⟨(), by simp [Act.put], hI⟩
              · have p12 : done 12 = true := by cases ho; exact hdep ⟨12, .guard⟩ (by simp) rfl
                refine wpOp_valW ho (by cases ho; simp [Region.wanted, yielded, go_sem, p12]) (w' := W) (v := (.pointer (some ⟨C, 2, none⟩))) (by cases ho; simp [execOp, go_sem, p12]) ?_
                cases ho
                exact ⟨u, by simp [Act.put], hI⟩
              · have p15 : done 15 = true := by cases ho; exact hdep ⟨15, .data⟩ (by simp) rfl
                have p12 : done 12 = true := by cases ho; exact hdep ⟨12, .guard⟩ (by simp) rfl
                have hx := blk_cell ((hI.block C (blk_lt HKC.out)).trans HKC.out) 2
                simp at hx
                refine wpOp_valW ho (by cases ho; simp [Region.wanted, yielded, go_sem, p15, p12]) (w' := W) (v := (.int .i64 yn)) (by cases ho; simp [execOp, go_sem, p15, p12, hx]) ?_
                cases ho
                exact ⟨(), by simp [Act.put], hI⟩
              · have p14 : done 14 = true := by cases ho; exact hdep ⟨14, .data⟩ (by simp) rfl
                have p16 : done 16 = true := by cases ho; exact hdep ⟨16, .data⟩ (by simp) rfl
                have p12 : done 12 = true := by cases ho; exact hdep ⟨12, .guard⟩ (by simp) rfl
                refine wpOp_valW ho (by cases ho; simp [Region.wanted, yielded, go_sem, p14, p16, p12, hn0]) (w' := W) (v := (.bool true)) (by cases ho; simp [execOp, go_sem, p14, p16, p12, hn0]) ?_
                cases ho
                exact ⟨u, by simp [Act.put], hI⟩
              · have p12 : done 12 = true := by cases ho; exact hdep ⟨12, .data⟩ (by simp) rfl
                have p17 : done 17 = true := by cases ho; exact hdep ⟨17, .data⟩ (by simp) rfl
                refine wpOp_val ho (by cases ho; rfl) (w' := W) (v := (.bool true)) (by cases ho; simp [execOp, go_sem, p12, p17]) ?_
                cases ho
                exact ⟨u, by simp [Act.put], hI⟩
              · have p18 : done 18 = true := by cases ho; exact hdep ⟨18, .data⟩ (by simp) rfl
                refine wpOp_val ho (by cases ho; rfl) (w' := W) (v := (.bool true)) (by cases ho; simp [execOp, go_sem, p18]) ?_
                cases ho
                exact ⟨u, by simp [Act.put], hI⟩
              · have p19 : done 19 = true := by cases ho; exact hdep ⟨19, .guard⟩ (by simp) rfl
                refine wpOp_valW ho (by cases ho; simp [Region.wanted, yielded, go_sem, p19]) (w' := W) (v := (.pointer (some ⟨B, 3, none⟩))) (by cases ho; simp [execOp, go_sem, p19]) ?_
                cases ho
                exact ⟨u, by simp [Act.put], hI⟩
              · have p20 : done 20 = true := by cases ho; exact hdep ⟨20, .data⟩ (by simp) rfl
                have p19 : done 19 = true := by cases ho; exact hdep ⟨19, .guard⟩ (by simp) rfl
                have hx := blk_cell ((hI.block B (blk_lt HKB.out)).trans HKB.out) 3
                simp at hx
                refine wpOp_valW ho (by cases ho; simp [Region.wanted, yielded, go_sem, p20, p19]) (w' := W) (v := (.slice ab nb cb)) (by cases ho; simp [execOp, go_sem, p20, p19, hx]) ?_
                cases ho
                exact ⟨(), by simp [Act.put], hI⟩
              · have p21 : done 21 = true := by cases ho; exact hdep ⟨21, .data⟩ (by simp) rfl
                have p19 : done 19 = true := by cases ho; exact hdep ⟨19, .guard⟩ (by simp) rfl
                have hc := convert_sl (P := Tryd.prog) 38 5 Tryd.underlying38 Tryd.underlying5 (w := W) (bs := xb) (HXB.out.below hI (Nat.le_refl _)) 9 Tryd.underlying9
                refine wpOp_valW ho (by cases ho; simp [Region.wanted, yielded, go_sem, p21, p19]) (w' := W) (v := (.string ⟨xb.toArray⟩)) (by cases ho; simp [execOp, go_sem, p21, p19, hc]) ?_
                cases ho
                exact ⟨(), by simp [Act.put], hI⟩
              · have p19 : done 19 = true := by cases ho; exact hdep ⟨19, .guard⟩ (by simp) rfl
                refine wpOp_valW ho (by cases ho; simp [Region.wanted, yielded, go_sem, p19]) (w' := W) (v := (.pointer (some ⟨C, 3, none⟩))) (by cases ho; simp [execOp, go_sem, p19]) ?_
                cases ho
                exact ⟨u, by simp [Act.put], hI⟩
              · have p23 : done 23 = true := by cases ho; exact hdep ⟨23, .data⟩ (by simp) rfl
                have p19 : done 19 = true := by cases ho; exact hdep ⟨19, .guard⟩ (by simp) rfl
                have hx := blk_cell ((hI.block C (blk_lt HKC.out)).trans HKC.out) 3
                simp at hx
                refine wpOp_valW ho (by cases ho; simp [Region.wanted, yielded, go_sem, p23, p19]) (w' := W) (v := (.slice ab' nb' cb')) (by cases ho; simp [execOp, go_sem, p23, p19, hx]) ?_
                cases ho
                exact ⟨(), by simp [Act.put], hI⟩
              · have p24 : done 24 = true := by cases ho; exact hdep ⟨24, .data⟩ (by simp) rfl
                have p19 : done 19 = true := by cases ho; exact hdep ⟨19, .guard⟩ (by simp) rfl
                have hc := convert_sl (P := Tryd.prog) 38 5 Tryd.underlying38 Tryd.underlying5 (w := W) (bs := yb) (HYB.out.below hI (Nat.le_refl _)) 9 Tryd.underlying9
                refine wpOp_valW ho (by cases ho; simp [Region.wanted, yielded, go_sem, p24, p19]) (w' := W) (v := (.string ⟨yb.toArray⟩)) (by cases ho; simp [execOp, go_sem, p24, p19, hc]) ?_
                cases ho
                exact ⟨(), by simp [Act.put], hI⟩
              · have p22 : done 22 = true := by cases ho; exact hdep ⟨22, .data⟩ (by simp) rfl
                have p25 : done 25 = true := by cases ho; exact hdep ⟨25, .data⟩ (by simp) rfl
                have p19 : done 19 = true := by cases ho; exact hdep ⟨19, .guard⟩ (by simp) rfl
                refine wpOp_valW ho (by cases ho; simp [Region.wanted, yielded, go_sem, p22, p25, p19, hb0]) (w' := W) (v := (.bool true)) (by cases ho; simp [execOp, go_sem, p22, p25, p19, hb0]) ?_
                cases ho
                exact ⟨u, by simp [Act.put], hI⟩
              · have p19 : done 19 = true := by cases ho; exact hdep ⟨19, .data⟩ (by simp) rfl
                have p26 : done 26 = true := by cases ho; exact hdep ⟨26, .data⟩ (by simp) rfl
                refine wpOp_val ho (by cases ho; rfl) (w' := W) (v := (.bool true)) (by cases ho; simp [execOp, go_sem, p19, p26]) ?_
                cases ho
                exact ⟨u, by simp [Act.put], hI⟩
              · have p27 : done 27 = true := by cases ho; exact hdep ⟨27, .data⟩ (by simp) rfl
                refine wpOp_val ho (by cases ho; rfl) (w' := W) (v := (.bool true)) (by cases ho; simp [execOp, go_sem, p27]) ?_
                cases ho
                exact ⟨u, by simp [Act.put], hI⟩
              · have p28 : done 28 = true := by cases ho; exact hdep ⟨28, .guard⟩ (by simp) rfl
                refine wpOp_valW ho (by cases ho; simp [Region.wanted, yielded, go_sem, p28]) (w' := W) (v := (.pointer (some ⟨B, 4, none⟩))) (by cases ho; simp [execOp, go_sem, p28]) ?_
                cases ho
                exact ⟨u, by simp [Act.put], hI⟩
              · have p29 : done 29 = true := by cases ho; exact hdep ⟨29, .data⟩ (by simp) rfl
                have p28 : done 28 = true := by cases ho; exact hdep ⟨28, .guard⟩ (by simp) rfl
                have hx := blk_cell ((hI.block B (blk_lt HKB.out)).trans HKB.out) 4
                simp at hx
                refine wpOp_valW ho (by cases ho; simp [Region.wanted, yielded, go_sem, p29, p28]) (w' := W) (v := (.slice ak nk ck)) (by cases ho; simp [execOp, go_sem, p29, p28, hx]) ?_
                cases ho
                exact ⟨(), by simp [Act.put], hI⟩
              · have p30 : done 30 = true := by cases ho; exact hdep ⟨30, .data⟩ (by simp) rfl
                have p28 : done 28 = true := by cases ho; exact hdep ⟨28, .guard⟩ (by simp) rfl
                refine wpOp_callW ho (by cases ho; simp [Region.wanted, yielded, go_sem, p30, p28]) (f := 52) (args := #[.slice ak nk ck]) (by cases ho; simp [execOp, go_sem, p30, p28]) (keep52 W (.slice ak nk ck) xp (HXK.out.below hI (Nat.le_refl _)) HLX.out) ?_
                rintro e w' ⟨rfl, hb⟩
                cases ho
                exact ⟨_, rfl, (), by simp [Act.put], hI.trans (hb.mono hI.size)⟩
              · have p28 : done 28 = true := by cases ho; exact hdep ⟨28, .guard⟩ (by simp) rfl
                refine wpOp_valW ho (by cases ho; simp [Region.wanted, yielded, go_sem, p28]) (w' := W) (v := (.pointer (some ⟨C, 4, none⟩))) (by cases ho; simp [execOp, go_sem, p28]) ?_
                cases ho
                exact ⟨u, by simp [Act.put], hI⟩
              · have p32 : done 32 = true := by cases ho; exact hdep ⟨32, .data⟩ (by simp) rfl
                have p28 : done 28 = true := by cases ho; exact hdep ⟨28, .guard⟩ (by simp) rfl
                have hx := blk_cell ((hI.block C (blk_lt HKC.out)).trans HKC.out) 4
                simp at hx
                refine wpOp_valW ho (by cases ho; simp [Region.wanted, yielded, go_sem, p32, p28]) (w' := W) (v := (.slice ak' nk' ck')) (by cases ho; simp [execOp, go_sem, p32, p28, hx]) ?_
                cases ho
                exact ⟨(), by simp [Act.put], hI⟩
              · have p33 : done 33 = true := by cases ho; exact hdep ⟨33, .data⟩ (by simp) rfl
                have p28 : done 28 = true := by cases ho; exact hdep ⟨28, .guard⟩ (by simp) rfl
                refine wpOp_callW ho (by cases ho; simp [Region.wanted, yielded, go_sem, p33, p28]) (f := 52) (args := #[.slice ak' nk' ck']) (by cases ho; simp [execOp, go_sem, p33, p28]) (keep52 W (.slice ak' nk' ck') yp (HYK.out.below hI (Nat.le_refl _)) HLY.out) ?_
                rintro e w' ⟨rfl, hb⟩
                cases ho
                exact ⟨_, rfl, (), by simp [Act.put], hI.trans (hb.mono hI.size)⟩
              · have p31 : done 31 = true := by cases ho; exact hdep ⟨31, .data⟩ (by simp) rfl
                have p34 : done 34 = true := by cases ho; exact hdep ⟨34, .data⟩ (by simp) rfl
                have p28 : done 28 = true := by cases ho; exact hdep ⟨28, .guard⟩ (by simp) rfl
                refine wpOp_valW ho (by cases ho; simp [Region.wanted, yielded, go_sem, p31, p34, p28, hp0]) (w' := W) (v := (.bool true)) (by cases ho; simp [execOp, go_sem, p31, p34, p28, hp0]) ?_
                cases ho
                exact ⟨u, by simp [Act.put], hI⟩
              · have p28 : done 28 = true := by cases ho; exact hdep ⟨28, .data⟩ (by simp) rfl
                have p35 : done 35 = true := by cases ho; exact hdep ⟨35, .data⟩ (by simp) rfl
                refine wpOp_val ho (by cases ho; rfl) (w' := W) (v := (.bool true)) (by cases ho; simp [execOp, go_sem, p28, p35]) ?_
                cases ho
                exact ⟨u, by simp [Act.put], hI⟩
              · have p36 : done 36 = true := by cases ho; exact hdep ⟨36, .data⟩ (by simp) rfl
                refine wpOp_val ho (by cases ho; rfl) (w' := W) (v := (.bool true)) (by cases ho; simp [execOp, go_sem, p36]) ?_
                cases ho
                exact ⟨u, by simp [Act.put], hI⟩
            · rintro done ac W hall ⟨u, rfl, hI⟩
              have hl := hall
              clear hall
              have e0 := hl 0 (by decide)
              have e1 := hl 1 (by decide)
              have e2 := hl 2 (by decide)
              have e3 := hl 3 (by decide)
              have e4 := hl 4 (by decide)
              have e5 := hl 5 (by decide)
              have e6 := hl 6 (by decide)
              have e7 := hl 7 (by decide)
              have e8 := hl 8 (by decide)
              have e9 := hl 9 (by decide)
              have e10 := hl 10 (by decide)
              have e11 := hl 11 (by decide)
              have e12 := hl 12 (by decide)
              have e13 := hl 13 (by decide)
              have e14 := hl 14 (by decide)
              have e15 := hl 15 (by decide)
              have e16 := hl 16 (by decide)
              have e17 := hl 17 (by decide)
              have e18 := hl 18 (by decide)
              have e19 := hl 19 (by decide)
              have e20 := hl 20 (by decide)
              have e21 := hl 21 (by decide)
              have e22 := hl 22 (by decide)
              have e23 := hl 23 (by decide)
              have e24 := hl 24 (by decide)
              have e25 := hl 25 (by decide)
              have e26 := hl 26 (by decide)
              have e27 := hl 27 (by decide)
              have e28 := hl 28 (by decide)
              have e29 := hl 29 (by decide)
              have e30 := hl 30 (by decide)
              have e31 := hl 31 (by decide)
              have e32 := hl 32 (by decide)
              have e33 := hl 33 (by decide)
              have e34 := hl 34 (by decide)
              have e35 := hl 35 (by decide)
              have e36 := hl 36 (by decide)
              have e37 := hl 37 (by decide)
              have HBI := Lib.hid hI
              simp only [e0, e1, e2, e3, e4, e5, e6, e7, e8, e9, e10, e11, e12, e13, e14, e15, e16, e17, e18, e19, e20, e21, e22, e23, e24, e25, e26, e27, e28, e29, e30, e31, e32, e33, e34, e35, e36, e37, if_true]
              clear e0 e1 e2 e3 e4 e5 e6 e7 e8 e9 e10 e11 e12 e13 e14 e15 e16 e17 e18 e19 e20 e21 e22 e23 e24 e25 e26 e27 e28 e29 e30 e31 e32 e33 e34 e35 e36 e37 hl hI
              go_wp2_with fail
              go_ret
              exact ⟨by rw [HRV.out]; rfl, HBW.out.trans (HBI.out.mono HBW.out.size)⟩
          · have hp0 : (keepT xp == keepT yp) = false := by
              rw [beq_eq_false_iff_ne]; exact fun e => hhp (keepT_inj.1 e)
            have HRV : Hid (rr = false) := by show _ = _; rw [HR.out]; exact decide_eq_false fun h => hhp h.2.2.2.2
            clear hhk hhc hhn hhb hhp
            refine wp_region_inv2 (by kernel_rfl) (hord_of2 (by kernel_rfl)) (fun done ac W => ∃ (u : Unit), ac = { tmps := #[.agg #[.int .i64 xk, .int .i64 xc, .int .i64 xn, .slice ab nb cb, .slice ak nk ck], .agg #[.int .i64 yk, .int .i64 yc, .int .i64 yn, .slice ab' nb' cb', .slice ak' nk' ck'], (.pointer (some ⟨B, 0, none⟩)), (.pointer (some ⟨C, 0, none⟩)), if done 37 then (.bool false) else .bool false, if done 0 then (.pointer (some ⟨B, 0, none⟩)) else undef, if done 1 then (.int .i64 xk) else undef, if done 2 then (.pointer (some ⟨C, 0, none⟩)) else undef, if done 3 then (.int .i64 yk) else undef, if done 4 then (.bool true) else undef, if done 5 then (.bool true) else undef, if done 6 then (.pointer (some ⟨B, 1, none⟩)) else undef, if done 7 then (.int .i64 xc) else undef, if done 8 then (.pointer (some ⟨C, 1, none⟩)) else undef, if done 9 then (.int .i64 yc) else undef, if done 10 then (.bool true) else undef, if done 11 then (.bool true) else undef, if done 12 then (.bool true) else undef, if done 13 then (.pointer (some ⟨B, 2, none⟩)) else undef, if done 14 then (.int .i64 xn) else undef, if done 15 then (.pointer (some ⟨C, 2, none⟩)) else undef, if done 16 then (.int .i64 yn) else undef, if done 17 then (.bool true) else undef, if done 18 then (.bool true) else undef, if done 19 then (.bool true) else undef, if done 20 then (.pointer (some ⟨B, 3, none⟩)) else undef, if done 21 then (.slice ab nb cb) else undef, if done 22 then (.string ⟨xb.toArray⟩) else undef, if done 23 then (.pointer (some ⟨C, 3, none⟩)) else undef, if done 24 then (.slice ab' nb' cb') else undef, if done 25 then (.string ⟨yb.toArray⟩) else undef, if done 26 then (.bool true) else undef, if done 27 then (.bool true) else undef, if done 28 then (.bool true) else undef, if done 29 then (.pointer (some ⟨B, 4, none⟩)) else undef, if done 30 then (.slice ak nk ck) else undef, if done 31 then (.string ⟨(keepT xp).toArray⟩) else undef, if done 32 then (.pointer (some ⟨C, 4, none⟩)) else undef, if done 33 then (.slice ak' nk' ck') else undef, if done 34 then (.string ⟨(keepT yp).toArray⟩) else undef, if done 35 then (.bool false) else undef, if done 36 then (.bool false) else undef], defers := [] } ∧ Below W0.heap.size W0 W) ?_ ?_ ?_
            · exact ⟨(), by simp, (Below.refl _ W0).drew⟩
            · intro done ac W j oq ho hd hdep hcl ⟨u, hlit, hI⟩
              have hj : j < 38 := (Array.getElem?_eq_some_iff.1 ho).1
              subst hlit
              obtain rfl | rfl | rfl | rfl | rfl | rfl | rfl | rfl | rfl | rfl | rfl | rfl | rfl | rfl | rfl | rfl | rfl | rfl | rfl | rfl | rfl | rfl | rfl | rfl | rfl | rfl | rfl | rfl | rfl | rfl | rfl | rfl | rfl | rfl | rfl | rfl | rfl | rfl : j = 0 ∨ j = 1 ∨ j = 2 ∨ j = 3 ∨ j = 4 ∨ j = 5 ∨ j = 6 ∨ j = 7 ∨ j = 8 ∨ j = 9 ∨ j = 10 ∨ j = 11 ∨ j = 12 ∨ j = 13 ∨ j = 14 ∨ j = 15 ∨ j = 16 ∨ j = 17 ∨ j = 18 ∨ j = 19 ∨ j = 20 ∨ j = 21 ∨ j = 22 ∨ j = 23 ∨ j = 24 ∨ j = 25 ∨ j = 26 ∨ j = 27 ∨ j = 28 ∨ j = 29 ∨ j = 30 ∨ j = 31 ∨ j = 32 ∨ j = 33 ∨ j = 34 ∨ j = 35 ∨ j = 36 ∨ j = 37 := by omega
              · refine wpOp_val ho (by cases ho; rfl) (w' := W) (v := (.pointer (some ⟨B, 0, none⟩))) (by cases ho; simp [execOp, go_sem]) ?_
                cases ho
                exact ⟨u, by simp [Act.put], hI⟩
              · have p0 : done 0 = true := by cases ho; exact hdep ⟨0, .data⟩ (by simp) rfl
                have hx := blk_cell ((hI.block B (blk_lt HKB.out)).trans HKB.out) 0
                simp at hx
                refine wpOp_val ho (by cases ho; rfl) (w' := W) (v := (.int .i64 xk)) (by cases ho; simp [execOp, go_sem, p0, hx]) ?_
                cases ho
                exact ⟨(), by simp [Act.put], hI⟩
              · refine wpOp_val ho (by cases ho; rfl) (w' := W) (v := (.pointer (some ⟨C, 0, none⟩))) (by cases ho; simp [execOp, go_sem]) ?_
                cases ho
                exact ⟨u, by simp [Act.put], hI⟩
              · have p2 : done 2 = true := by cases ho; exact hdep ⟨2, .data⟩ (by simp) rfl
                have hx := blk_cell ((hI.block C (blk_lt HKC.out)).trans HKC.out) 0
                simp at hx
                refine wpOp_val ho (by cases ho; rfl) (w' := W) (v := (.int .i64 yk)) (by cases ho; simp [execOp, go_sem, p2, hx]) ?_
                cases ho
                exact ⟨(), by simp [Act.put], hI⟩
              · have p1 : done 1 = true := by cases ho; exact hdep ⟨1, .data⟩ (by simp) rfl
                have p3 : done 3 = true := by cases ho; exact hdep ⟨3, .data⟩ (by simp) rfl
                refine wpOp_val ho (by cases ho; rfl) (w' := W) (v := (.bool true)) (by cases ho; simp [execOp, go_sem, p1, p3, hk]) ?_
                cases ho
                exact ⟨u, by simp [Act.put], hI⟩
              · have p4 : done 4 = true := by cases ho; exact hdep ⟨4, .data⟩ (by simp) rfl
                refine wpOp_val ho (by cases ho; rfl) (w' := W) (v := (.bool true)) (by cases ho; simp [execOp, go_sem, p4]) ?_
                cases ho
                exact ⟨u, by simp [Act.put], hI⟩
              · have p5 : done 5 = true := by cases ho; exact hdep ⟨5, .guard⟩ (by simp) rfl
                refine wpOp_valW ho (by cases ho; simp [Region.wanted, yielded, go_sem, p5]) (w' := W) (v := (.pointer (some ⟨B, 1, none⟩))) (by cases ho; simp [execOp, go_sem, p5]) ?_
                cases ho
                exact ⟨u, by simp [Act.put], hI⟩
              · have p6 : done 6 = true := by cases ho; exact hdep ⟨6, .data⟩ (by simp) rfl
                have p5 : done 5 = true := by cases ho; exact hdep ⟨5, .guard⟩ (by simp) rfl
                have hx := blk_cell ((hI.block B (blk_lt HKB.out)).trans HKB.out) 1
                simp at hx
                refine wpOp_valW ho (by cases ho; simp [Region.wanted, yielded, go_sem, p6, p5]) (w' := W) (v := (.int .i64 xc)) (by cases ho; simp [execOp, go_sem, p6, p5, hx]) ?_
                cases ho
                exact ⟨(), by simp [Act.put], hI⟩
              · have p5 : done 5 = true := by cases ho; exact hdep ⟨5, .guard⟩ (by simp) rfl
                refine wpOp_valW ho (by cases ho; simp [Region.wanted, yielded, go_sem, p5]) (w' := W) (v := (.pointer (some ⟨C, 1, none⟩))) (by cases ho; simp [execOp, go_sem, p5]) ?_
                cases ho
                exact ⟨u, by simp [Act.put], hI⟩
              · have p8 : done 8 = true := by cases ho; exact hdep ⟨8, .data⟩ (by simp) rfl
                have p5 : done 5 = true := by cases ho; exact hdep ⟨5, .guard⟩ (by simp) rfl
                have hx := blk_cell ((hI.block C (blk_lt HKC.out)).trans HKC.out) 1
                simp at hx
                refine wpOp_valW ho (by cases ho; simp [Region.wanted, yielded, go_sem, p8, p5]) (w' := W) (v := (.int .i64 yc)) (by cases ho; simp [execOp, go_sem, p8, p5, hx]) ?_
                cases ho
                exact ⟨(), by simp [Act.put], hI⟩
              · have p7 : done 7 = true := by cases ho; exact hdep ⟨7, .data⟩ (by simp) rfl
                have p9 : done 9 = true := by cases ho; exact hdep ⟨9, .data⟩ (by simp) rfl
                have p5 : done 5 = true := by cases ho; exact hdep ⟨5, .guard⟩ (by simp) rfl
                refine wpOp_valW ho (by cases ho; simp [Region.wanted, yielded, go_sem, p7, p9, p5, hc0]) (w' := W) (v := (.bool true)) (by cases ho; simp [execOp, go_sem, p7, p9, p5, hc0]) ?_
                cases ho
                exact ⟨u, by simp [Act.put], hI⟩
              · have p5 : done 5 = true := by cases ho; exact hdep ⟨5, .data⟩ (by simp) rfl
                have p10 : done 10 = true := by cases ho; exact hdep ⟨10, .data⟩ (by simp) rfl
                refine wpOp_val ho (by cases ho; rfl) (w' := W) (v := (.bool true)) (by cases ho; simp [execOp, go_sem, p5, p10]) ?_
                cases ho
                exact ⟨u, by simp [Act.put], hI⟩
              · have p11 : done 11 = true := by cases ho; exact hdep ⟨11, .data⟩ (by simp) rfl
                refine wpOp_val ho (by cases ho; rfl) (w' := W) (v := (.bool true)) (by cases ho; simp [execOp, go_sem, p11]) ?_
                cases ho
                exact ⟨u, by simp [Act.put], hI⟩
              · have p12 : done 12 = true := by cases ho; exact hdep ⟨12, .guard⟩ (by simp) rfl
                refine wpOp_valW ho (by cases ho; simp [Region.wanted, yielded, go_sem, p12]) (w' := W) (v := (.pointer (some ⟨B, 2, none⟩))) (by cases ho; simp [execOp, go_sem, p12]) ?_
                cases ho
                exact ⟨u, by simp [Act.put], hI⟩
              · have p13 : done 13 = true := by cases ho; exact hdep ⟨13, .data⟩ (by simp) rfl
                have p12 : done 12 = true := by cases ho; exact hdep ⟨12, .guard⟩ (by simp) rfl
                have hx := blk_cell ((hI.block B (blk_lt HKB.out)).trans HKB.out) 2
                simp at hx
                refine wpOp_valW ho (by cases ho; simp [Region.wanted, yielded, go_sem, p13, p12]) (w' := W) (v := (.int .i64 xn)) (by cases ho; simp [execOp, go_sem, p13, p12, hx]) ?_
                cases ho
                exact ⟨(), by simp [Act.put], hI⟩
              · have p12 : done 12 = true := by cases ho; exact hdep ⟨12, .guard⟩ (by simp) rfl
                refine wpOp_valW ho (by cases ho; simp [Region.wanted, yielded, go_sem, p12]) (w' := W) (v := (.pointer (some ⟨C, 2, none⟩))) (by cases ho; simp [execOp, go_sem, p12]) ?_
                cases ho
                exact ⟨u, by simp [Act.put], hI⟩
              · have p15 : done 15 = true := by cases ho; exact hdep ⟨15, .data⟩ (by simp) rfl
                have p12 : done 12 = true := by cases ho; exact hdep ⟨12, .guard⟩ (by simp) rfl
                have hx := blk_cell ((hI.block C (blk_lt HKC.out)).trans HKC.out) 2
                simp at hx
                refine wpOp_valW ho (by cases ho; simp [Region.wanted, yielded, go_sem, p15, p12]) (w' := W) (v := (.int .i64 yn)) (by cases ho; simp [execOp, go_sem, p15, p12, hx]) ?_
                cases ho
                exact ⟨(), by simp [Act.put], hI⟩
              · have p14 : done 14 = true := by cases ho; exact hdep ⟨14, .data⟩ (by simp) rfl
                have p16 : done 16 = true := by cases ho; exact hdep ⟨16, .data⟩ (by simp) rfl
                have p12 : done 12 = true := by cases ho; exact hdep ⟨12, .guard⟩ (by simp) rfl
                refine wpOp_valW ho (by cases ho; simp [Region.wanted, yielded, go_sem, p14, p16, p12, hn0]) (w' := W) (v := (.bool true)) (by cases ho; simp [execOp, go_sem, p14, p16, p12, hn0]) ?_
                cases ho
                exact ⟨u, by simp [Act.put], hI⟩
              · have p12 : done 12 = true := by cases ho; exact hdep ⟨12, .data⟩ (by simp) rfl
                have p17 : done 17 = true := by cases ho; exact hdep ⟨17, .data⟩ (by simp) rfl
                refine wpOp_val ho (by cases ho; rfl) (w' := W) (v := (.bool true)) (by cases ho; simp [execOp, go_sem, p12, p17]) ?_
                cases ho
                exact ⟨u, by simp [Act.put], hI⟩
              · have p18 : done 18 = true := by cases ho; exact hdep ⟨18, .data⟩ (by simp) rfl
                refine wpOp_val ho (by cases ho; rfl) (w' := W) (v := (.bool true)) (by cases ho; simp [execOp, go_sem, p18]) ?_
                cases ho
                exact ⟨u, by simp [Act.put], hI⟩
              · have p19 : done 19 = true := by cases ho; exact hdep ⟨19, .guard⟩ (by simp) rfl
                refine wpOp_valW ho (by cases ho; simp [Region.wanted, yielded, go_sem, p19]) (w' := W) (v := (.pointer (some ⟨B, 3, none⟩))) (by cases ho; simp [execOp, go_sem, p19]) ?_
                cases ho
                exact ⟨u, by simp [Act.put], hI⟩
              · have p20 : done 20 = true := by cases ho; exact hdep ⟨20, .data⟩ (by simp) rfl
                have p19 : done 19 = true := by cases ho; exact hdep ⟨19, .guard⟩ (by simp) rfl
                have hx := blk_cell ((hI.block B (blk_lt HKB.out)).trans HKB.out) 3
                simp at hx
                refine wpOp_valW ho (by cases ho; simp [Region.wanted, yielded, go_sem, p20, p19]) (w' := W) (v := (.slice ab nb cb)) (by cases ho; simp [execOp, go_sem, p20, p19, hx]) ?_
                cases ho
                exact ⟨(), by simp [Act.put], hI⟩
              · have p21 : done 21 = true := by cases ho; exact hdep ⟨21, .data⟩ (by simp) rfl
                have p19 : done 19 = true := by cases ho; exact hdep ⟨19, .guard⟩ (by simp) rfl
                have hc := convert_sl (P := Tryd.prog) 38 5 Tryd.underlying38 Tryd.underlying5 (w := W) (bs := xb) (HXB.out.below hI (Nat.le_refl _)) 9 Tryd.underlying9
                refine wpOp_valW ho (by cases ho; simp [Region.wanted, yielded, go_sem, p21, p19]) (w' := W) (v := (.string ⟨xb.toArray⟩)) (by cases ho; simp [execOp, go_sem, p21, p19, hc]) ?_
                cases ho
                exact ⟨(), by simp [Act.put], hI⟩
              · have p19 : done 19 = true := by cases ho; exact hdep ⟨19, .guard⟩ (by simp) rfl
                refine wpOp_valW ho (by cases ho; simp [Region.wanted, yielded, go_sem, p19]) (w' := W) (v := (.pointer (some ⟨C, 3, none⟩))) (by cases ho; simp [execOp, go_sem, p19]) ?_
                cases ho
                exact ⟨u, by simp [Act.put], hI⟩
              · have p23 : done 23 = true := by cases ho; exact hdep ⟨23, .data⟩ (by simp) rfl
                have p19 : done 19 = true := by cases ho; exact hdep ⟨19, .guard⟩ (by simp) rfl
                have hx := blk_cell ((hI.block C (blk_lt HKC.out)).trans HKC.out) 3
                simp at hx
                refine wpOp_valW ho (by cases ho; simp [Region.wanted, yielded, go_sem, p23, p19]) (w' := W) (v := (.slice ab' nb' cb')) (by cases ho; simp [execOp, go_sem, p23, p19, hx]) ?_
                cases ho
                exact ⟨(), by simp [Act.put], hI⟩
              · have p24 : done 24 = true := by cases ho; exact hdep ⟨24, .data⟩ (by simp) rfl
                have p19 : done 19 = true := by cases ho; exact hdep ⟨19, .guard⟩ (by simp) rfl
                have hc := convert_sl (P := Tryd.prog) 38 5 Tryd.underlying38 Tryd.underlying5 (w := W) (bs := yb) (HYB.out.below hI (Nat.le_refl _)) 9 Tryd.underlying9
                refine wpOp_valW ho (by cases ho; simp [Region.wanted, yielded, go_sem, p24, p19]) (w' := W) (v := (.string ⟨yb.toArray⟩)) (by cases ho; simp [execOp, go_sem, p24, p19, hc]) ?_
                cases ho
                exact ⟨(), by simp [Act.put], hI⟩
              · have p22 : done 22 = true := by cases ho; exact hdep ⟨22, .data⟩ (by simp) rfl
                have p25 : done 25 = true := by cases ho; exact hdep ⟨25, .data⟩ (by simp) rfl
                have p19 : done 19 = true := by cases ho; exact hdep ⟨19, .guard⟩ (by simp) rfl
                refine wpOp_valW ho (by cases ho; simp [Region.wanted, yielded, go_sem, p22, p25, p19, hb0]) (w' := W) (v := (.bool true)) (by cases ho; simp [execOp, go_sem, p22, p25, p19, hb0]) ?_
                cases ho
                exact ⟨u, by simp [Act.put], hI⟩
              · have p19 : done 19 = true := by cases ho; exact hdep ⟨19, .data⟩ (by simp) rfl
                have p26 : done 26 = true := by cases ho; exact hdep ⟨26, .data⟩ (by simp) rfl
                refine wpOp_val ho (by cases ho; rfl) (w' := W) (v := (.bool true)) (by cases ho; simp [execOp, go_sem, p19, p26]) ?_
                cases ho
                exact ⟨u, by simp [Act.put], hI⟩
              · have p27 : done 27 = true := by cases ho; exact hdep ⟨27, .data⟩ (by simp) rfl
                refine wpOp_val ho (by cases ho; rfl) (w' := W) (v := (.bool true)) (by cases ho; simp [execOp, go_sem, p27]) ?_
                cases ho
                exact ⟨u, by simp [Act.put], hI⟩
              · have p28 : done 28 = true := by cases ho; exact hdep ⟨28, .guard⟩ (by simp) rfl
                refine wpOp_valW ho (by cases ho; simp [Region.wanted, yielded, go_sem, p28]) (w' := W) (v := (.pointer (some ⟨B, 4, none⟩))) (by cases ho; simp [execOp, go_sem, p28]) ?_
                cases ho
                exact ⟨u, by simp [Act.put], hI⟩
              · have p29 : done 29 = true := by cases ho; exact hdep ⟨29, .data⟩ (by simp) rfl
                have p28 : done 28 = true := by cases ho; exact hdep ⟨28, .guard⟩ (by simp) rfl
                have hx := blk_cell ((hI.block B (blk_lt HKB.out)).trans HKB.out) 4
                simp at hx
                refine wpOp_valW ho (by cases ho; simp [Region.wanted, yielded, go_sem, p29, p28]) (w' := W) (v := (.slice ak nk ck)) (by cases ho; simp [execOp, go_sem, p29, p28, hx]) ?_
                cases ho
                exact ⟨(), by simp [Act.put], hI⟩
              · have p30 : done 30 = true := by cases ho; exact hdep ⟨30, .data⟩ (by simp) rfl
                have p28 : done 28 = true := by cases ho; exact hdep ⟨28, .guard⟩ (by simp) rfl
                refine wpOp_callW ho (by cases ho; simp [Region.wanted, yielded, go_sem, p30, p28]) (f := 52) (args := #[.slice ak nk ck]) (by cases ho; simp [execOp, go_sem, p30, p28]) (keep52 W (.slice ak nk ck) xp (HXK.out.below hI (Nat.le_refl _)) HLX.out) ?_
                rintro e w' ⟨rfl, hb⟩
                cases ho
                exact ⟨_, rfl, (), by simp [Act.put], hI.trans (hb.mono hI.size)⟩
              · have p28 : done 28 = true := by cases ho; exact hdep ⟨28, .guard⟩ (by simp) rfl
                refine wpOp_valW ho (by cases ho; simp [Region.wanted, yielded, go_sem, p28]) (w' := W) (v := (.pointer (some ⟨C, 4, none⟩))) (by cases ho; simp [execOp, go_sem, p28]) ?_
                cases ho
                exact ⟨u, by simp [Act.put], hI⟩
              · have p32 : done 32 = true := by cases ho; exact hdep ⟨32, .data⟩ (by simp) rfl
                have p28 : done 28 = true := by cases ho; exact hdep ⟨28, .guard⟩ (by simp) rfl
                have hx := blk_cell ((hI.block C (blk_lt HKC.out)).trans HKC.out) 4
                simp at hx
                refine wpOp_valW ho (by cases ho; simp [Region.wanted, yielded, go_sem, p32, p28]) (w' := W) (v := (.slice ak' nk' ck')) (by cases ho; simp [execOp, go_sem, p32, p28, hx]) ?_
                cases ho
                exact ⟨(), by simp [Act.put], hI⟩
              · have p33 : done 33 = true := by cases ho; exact hdep ⟨33, .data⟩ (by simp) rfl
                have p28 : done 28 = true := by cases ho; exact hdep ⟨28, .guard⟩ (by simp) rfl
                refine wpOp_callW ho (by cases ho; simp [Region.wanted, yielded, go_sem, p33, p28]) (f := 52) (args := #[.slice ak' nk' ck']) (by cases ho; simp [execOp, go_sem, p33, p28]) (keep52 W (.slice ak' nk' ck') yp (HYK.out.below hI (Nat.le_refl _)) HLY.out) ?_
                rintro e w' ⟨rfl, hb⟩
                cases ho
                exact ⟨_, rfl, (), by simp [Act.put], hI.trans (hb.mono hI.size)⟩
              · have p31 : done 31 = true := by cases ho; exact hdep ⟨31, .data⟩ (by simp) rfl
                have p34 : done 34 = true := by cases ho; exact hdep ⟨34, .data⟩ (by simp) rfl
                have p28 : done 28 = true := by cases ho; exact hdep ⟨28, .guard⟩ (by simp) rfl
                refine wpOp_valW ho (by cases ho; simp [Region.wanted, yielded, go_sem, p31, p34, p28, hp0]) (w' := W) (v := (.bool false)) (by cases ho; simp [execOp, go_sem, p31, p34, p28, hp0]) ?_
                cases ho
                exact ⟨u, by simp [Act.put], hI⟩
              · have p28 : done 28 = true := by cases ho; exact hdep ⟨28, .data⟩ (by simp) rfl
                have p35 : done 35 = true := by cases ho; exact hdep ⟨35, .data⟩ (by simp) rfl
                refine wpOp_val ho (by cases ho; rfl) (w' := W) (v := (.bool false)) (by cases ho; simp [execOp, go_sem, p28, p35]) ?_
                cases ho
                exact ⟨u, by simp [Act.put], hI⟩
              · have p36 : done 36 = true := by cases ho; exact hdep ⟨36, .data⟩ (by simp) rfl
                refine wpOp_val ho (by cases ho; rfl) (w' := W) (v := (.bool false)) (by cases ho; simp [execOp, go_sem, p36]) ?_
                cases ho
                exact ⟨u, by simp [Act.put], hI⟩
            · rintro done ac W hall ⟨u, rfl, hI⟩
              have hl := hall
              clear hall
              have e0 := hl 0 (by decide)
              have e1 := hl 1 (by decide)
              have e2 := hl 2 (by decide)
              have e3 := hl 3 (by decide)
              have e4 := hl 4 (by decide)
              have e5 := hl 5 (by decide)
              have e6 := hl 6 (by decide)
              have e7 := hl 7 (by decide)
              have e8 := hl 8 (by decide)
              have e9 := hl 9 (by decide)
              have e10 := hl 10 (by decide)
              have e11 := hl 11 (by decide)
              have e12 := hl 12 (by decide)
              have e13 := hl 13 (by decide)
              have e14 := hl 14 (by decide)
              have e15 := hl 15 (by decide)
              have e16 := hl 16 (by decide)
              have e17 := hl 17 (by decide)
              have e18 := hl 18 (by decide)
              have e19 := hl 19 (by decide)
              have e20 := hl 20 (by decide)
              have e21 := hl 21 (by decide)
              have e22 := hl 22 (by decide)
              have e23 := hl 23 (by decide)
              have e24 := hl 24 (by decide)
              have e25 := hl 25 (by decide)
              have e26 := hl 26 (by decide)
              have e27 := hl 27 (by decide)
              have e28 := hl 28 (by decide)
              have e29 := hl 29 (by decide)
              have e30 := hl 30 (by decide)
              have e31 := hl 31 (by decide)
              have e32 := hl 32 (by decide)
              have e33 := hl 33 (by decide)
              have e34 := hl 34 (by decide)
              have e35 := hl 35 (by decide)
              have e36 := hl 36 (by decide)
              have e37 := hl 37 (by decide)
              have HBI := Lib.hid hI
              simp only [e0, e1, e2, e3, e4, e5, e6, e7, e8, e9, e10, e11, e12, e13, e14, e15, e16, e17, e18, e19, e20, e21, e22, e23, e24, e25, e26, e27, e28, e29, e30, e31, e32, e33, e34, e35, e36, e37, if_true]
              clear e0 e1 e2 e3 e4 e5 e6 e7 e8 e9 e10 e11 e12 e13 e14 e15 e16 e17 e18 e19 e20 e21 e22 e23 e24 e25 e26 e27 e28 e29 e30 e31 e32 e33 e34 e35 e36 e37 hl hI
              go_wp2_with fail
              go_ret
              exact ⟨by rw [HRV.out]; rfl, HBW.out.trans (HBI.out.mono HBW.out.size)⟩
        · have hb0 : (xb == yb) = false := by simp [hhb]
          have HRV : Hid (rr = false) := by show _ = _; rw [HR.out]; exact decide_eq_false fun h => hhb h.2.2.2.1
          clear hhk hhc hhn hhb
          refine wp_region_inv2 (by kernel_rfl) (hord_of2 (by kernel_rfl)) (fun done ac W => ∃ (u : Unit), ac = { tmps := #[.agg #[.int .i64 xk, .int .i64 xc, .int .i64 xn, .slice ab nb cb, .slice ak nk ck], .agg #[.int .i64 yk, .int .i64 yc, .int .i64 yn, .slice ab' nb' cb', .slice ak' nk' ck'], (.pointer (some ⟨B, 0, none⟩)), (.pointer (some ⟨C, 0, none⟩)), if done 37 then (.bool false) else .bool false, if done 0 then (.pointer (some ⟨B, 0, none⟩)) else undef, if done 1 then (.int .i64 xk) else undef, if done 2 then (.pointer (some ⟨C, 0, none⟩)) else undef, if done 3 then (.int .i64 yk) else undef, if done 4 then (.bool true) else undef, if done 5 then (.bool true) else undef, if done 6 then (.pointer (some ⟨B, 1, none⟩)) else undef, if done 7 then (.int .i64 xc) else undef, if done 8 then (.pointer (some ⟨C, 1, none⟩)) else undef, if done 9 then (.int .i64 yc) else undef, if done 10 then (.bool true) else undef, if done 11 then (.bool true) else undef, if done 12 then (.bool true) else undef, if done 13 then (.pointer (some ⟨B, 2, none⟩)) else undef, if done 14 then (.int .i64 xn) else undef, if done 15 then (.pointer (some ⟨C, 2, none⟩)) else undef, if done 16 then (.int .i64 yn) else undef, if done 17 then (.bool true) else undef, if done 18 then (.bool true) else undef, if done 19 then (.bool true) else undef, if done 20 then (.pointer (some ⟨B, 3, none⟩)) else undef, if done 21 then (.slice ab nb cb) else undef, if done 22 then (.string ⟨xb.toArray⟩) else undef, if done 23 then (.pointer (some ⟨C, 3, none⟩)) else undef, if done 24 then (.slice ab' nb' cb') else undef, if done 25 then (.string ⟨yb.toArray⟩) else undef, if done 26 then (.bool false) else undef, if done 27 then (.bool false) else undef, if done 28 then (.bool false) else undef, if done 29 then undef else undef, if done 30 then undef else undef, if done 31 then undef else undef, if done 32 then undef else undef, if done 33 then undef else undef, if done 34 then undef else undef, if done 35 then undef else undef, if done 36 then (.bool false) else undef], defers := [] } ∧ Below W0.heap.size W0 W) ?_ ?_ ?_
          · exact ⟨(), by simp, (Below.refl _ W0).drew⟩
          · intro done ac W j oq ho hd hdep hcl ⟨u, hlit, hI⟩
            have hj : j < 38 := (Array.getElem?_eq_some_iff.1 ho).1
            subst hlit
            obtain rfl | rfl | rfl | rfl | rfl | rfl | rfl | rfl | rfl | rfl | rfl | rfl | rfl | rfl | rfl | rfl | rfl | rfl | rfl | rfl | rfl | rfl | rfl | rfl | rfl | rfl | rfl | rfl | rfl | rfl | rfl | rfl | rfl | rfl | rfl | rfl | rfl | rfl : j = 0 ∨ j = 1 ∨ j = 2 ∨ j = 3 ∨ j = 4 ∨ j = 5 ∨ j = 6 ∨ j = 7 ∨ j = 8 ∨ j = 9 ∨ j = 10 ∨ j = 11 ∨ j = 12 ∨ j = 13 ∨ j = 14 ∨ j = 15 ∨ j = 16 ∨ j = 17 ∨ j = 18 ∨ j = 19 ∨ j = 20 ∨ j = 21 ∨ j = 22 ∨ j = 23 ∨ j = 24 ∨ j = 25 ∨ j = 26 ∨ j = 27 ∨ j = 28 ∨ j = 29 ∨ j = 30 ∨ j = 31 ∨ j = 32 ∨ j = 33 ∨ j = 34 ∨ j = 35 ∨ j = 36 ∨ j = 37 := by omega
            · refine wpOp_val ho (by cases ho; rfl) (w' := W) (v := (.pointer (some ⟨B, 0, none⟩))) (by cases ho; simp [execOp, go_sem]) ?_
              cases ho
              exact ⟨u, by simp [Act.put], hI⟩
            · have p0 : done 0 = true := by cases ho; exact hdep ⟨0, .data⟩ (by simp) rfl
              have hx := blk_cell ((hI.block B (blk_lt HKB.out)).trans HKB.out) 0
              simp at hx
              refine wpOp_val ho (by cases ho; rfl) (w' := W) (v := (.int .i64 xk)) (by cases ho; simp [execOp, go_sem, p0, hx]) ?_
              cases ho
              exact ⟨(), by simp [Act.put], hI⟩
            · refine wpOp_val ho (by cases ho; rfl) (w' := W) (v := (.pointer (some ⟨C, 0, none⟩))) (by cases ho; simp [execOp, go_sem]) ?_
              cases ho
              exact ⟨u, by simp [Act.put], hI⟩
            · have p2 : done 2 = true := by cases ho; exact hdep ⟨2, .data⟩ (by simp) rfl
              have hx := blk_cell ((hI.block C (blk_lt HKC.out)).trans HKC.out) 0
              simp at hx
              refine wpOp_val ho (by cases ho; rfl) (w' := W) (v := (.int .i64 yk)) (by cases ho; simp [execOp, go_sem, p2, hx]) ?_
              cases ho
              exact ⟨(), by simp [Act.put], hI⟩
            · have p1 : done 1 = true := by cases ho; exact hdep ⟨1, .data⟩ (by simp) rfl
              have p3 : done 3 = true := by cases ho; exact hdep ⟨3, .data⟩ (by simp) rfl
              refine wpOp_val ho (by cases ho; rfl) (w' := W) (v := (.bool true)) (by cases ho; simp [execOp, go_sem, p1, p3, hk]) ?_
              cases ho
              exact ⟨u, by simp [Act.put], hI⟩
            · have p4 : done 4 = true := by cases ho; exact hdep ⟨4, .data⟩ (by simp) rfl
              refine wpOp_val ho (by cases ho; rfl) (w' := W) (v := (.bool true)) (by cases ho; simp [execOp, go_sem, p4]) ?_
              cases ho
              exact ⟨u, by simp [Act.put], hI⟩
            · have p5 : done 5 = true := by cases ho; exact hdep ⟨5, .guard⟩ (by simp) rfl
              refine wpOp_valW ho (by cases ho; simp [Region.wanted, yielded, go_sem, p5]) (w' := W) (v := (.pointer (some ⟨B, 1, none⟩))) (by cases ho; simp [execOp, go_sem, p5]) ?_
              cases ho
              exact ⟨u, by simp [Act.put], hI⟩
            · have p6 : done 6 = true := by cases ho; exact hdep ⟨6, .data⟩ (by simp) rfl
              have p5 : done 5 = true := by cases ho; exact hdep ⟨5, .guard⟩ (by simp) rfl
              have hx := blk_cell ((hI.block B (blk_lt HKB.out)).trans HKB.out) 1
              simp at hx
              refine wpOp_valW ho (by cases ho; simp [Region.wanted, yielded, go_sem, p6, p5]) (w' := W) (v := (.int .i64 xc)) (by cases ho; simp [execOp, go_sem, p6, p5, hx]) ?_
              cases ho
              exact ⟨(), by simp [Act.put], hI⟩
            · have p5 : done 5 = true := by cases ho; exact hdep ⟨5, .guard⟩ (by simp) rfl
              refine wpOp_valW ho (by cases ho; simp [Region.wanted, yielded, go_sem, p5]) (w' := W) (v := (.pointer (some ⟨C, 1, none⟩))) (by cases ho; simp [execOp, go_sem, p5]) ?_
              cases ho
              exact ⟨u, by simp [Act.put], hI⟩
            · have p8 : done 8 = true := by cases ho; exact hdep ⟨8, .data⟩ (by simp) rfl
              have p5 : done 5 = true := by cases ho; exact hdep ⟨5, .guard⟩ (by simp) rfl
              have hx := blk_cell ((hI.block C (blk_lt HKC.out)).trans HKC.out) 1
              simp at hx
              refine wpOp_valW ho (by cases ho; simp [Region.wanted, yielded, go_sem, p8, p5]) (w' := W) (v := (.int .i64 yc)) (by cases ho; simp [execOp, go_sem, p8, p5, hx]) ?_
              cases ho
              exact ⟨(), by simp [Act.put], hI⟩
            · have p7 : done 7 = true := by cases ho; exact hdep ⟨7, .data⟩ (by simp) rfl
              have p9 : done 9 = true := by cases ho; exact hdep ⟨9, .data⟩ (by simp) rfl
              have p5 : done 5 = true := by cases ho; exact hdep ⟨5, .guard⟩ (by simp) rfl
              refine wpOp_valW ho (by cases ho; simp [Region.wanted, yielded, go_sem, p7, p9, p5, hc0]) (w' := W) (v := (.bool true)) (by cases ho; simp [execOp, go_sem, p7, p9, p5, hc0]) ?_
              cases ho
              exact ⟨u, by simp [Act.put], hI⟩
            · have p5 : done 5 = true := by cases ho; exact hdep ⟨5, .data⟩ (by simp) rfl
              have p10 : done 10 = true := by cases ho; exact hdep ⟨10, .data⟩ (by simp) rfl
              refine wpOp_val ho (by cases ho; rfl) (w' := W) (v := (.bool true)) (by cases ho; simp [execOp, go_sem, p5, p10]) ?_
              cases ho
              exact ⟨u, by simp [Act.put], hI⟩
            · have p11 : done 11 = true := by cases ho; exact hdep ⟨11, .data⟩ (by simp) rfl
              refine wpOp_val ho (by cases ho; rfl) (w' := W) (v := (.bool true)) (by cases ho; simp [execOp, go_sem, p11]) ?_
              cases ho
              exact ⟨u, by simp [Act.put], hI⟩
            · have p12 : done 12 = true := by cases ho; exact hdep ⟨12, .guard⟩ (by simp) rfl
              refine wpOp_valW ho (by cases ho; simp [Region.wanted, yielded, go_sem, p12]) (w' := W) (v := (.pointer (some ⟨B, 2, none⟩))) (by cases ho; simp [execOp, go_sem, p12]) ?_
              cases ho
              exact ⟨u, by simp [Act.put], hI⟩
            · have p13 : done 13 = true := by cases ho; exact hdep ⟨13, .data⟩ (by simp) rfl
              have p12 : done 12 = true := by cases ho; exact hdep ⟨12, .guard⟩ (by simp) rfl
              have hx := blk_cell ((hI.block B (blk_lt HKB.out)).trans HKB.out) 2
              simp at hx
              refine wpOp_valW ho (by cases ho; simp [Region.wanted, yielded, go_sem, p13, p12]) (w' := W) (v := (.int .i64 xn)) (by cases ho; simp [execOp, go_sem, p13, p12, hx]) ?_
              cases ho
              exact ⟨(), by simp [Act.put], hI⟩
            · have p12 : done 12 = true := by cases ho; exact hdep ⟨12, .guard⟩ (by simp) rfl
              refine wpOp_valW ho (by cases ho; simp [Region.wanted, yielded, go_sem, p12]) (w' := W) (v := (.pointer (some ⟨C, 2, none⟩))) (by cases ho; simp [execOp, go_sem, p12]) ?_
              cases ho
              exact ⟨u, by simp [Act.put], hI⟩
            · have p15 : done 15 = true := by cases ho; exact hdep ⟨15, .data⟩ (by simp) rfl
              have p12 : done 12 = true := by cases ho; exact hdep ⟨12, .guard⟩ (by simp) rfl
              have hx := blk_cell ((hI.block C (blk_lt HKC.out)).trans HKC.out) 2
              simp at hx
              refine wpOp_valW ho (by cases ho; simp [Region.wanted, yielded, go_sem, p15, p12]) (w' := W) (v := (.int .i64 yn)) (by cases ho; simp [execOp, go_sem, p15, p12, hx]) ?_
              cases ho
              exact ⟨(), by simp [Act.put], hI⟩
            · have p14 : done 14 = true := by cases ho; exact hdep ⟨14, .data⟩ (by simp) rfl
              have p16 : done 16 = true := by cases ho; exact hdep ⟨16, .data⟩ (by simp) rfl
              have p12 : done 12 = true := by cases ho; exact hdep ⟨12, .guard⟩ (by simp) rfl
              refine wpOp_valW ho (by cases ho; simp [Region.wanted, yielded, go_sem, p14, p16, p12, hn0]) (w' := W) (v := (.bool true)) (by cases ho; simp [execOp, go_sem, p14, p16, p12, hn0]) ?_
              cases ho
              exact ⟨u, by simp [Act.put], hI⟩
            · have p12 : done 12 = true := by cases ho; exact hdep ⟨12, .data⟩ (by simp) rfl
              have p17 : done 17 = true := by cases ho; exact hdep ⟨17, .data⟩ (by simp) rfl
              refine wpOp_val ho (by cases ho; rfl) (w' := W) (v := (.bool true)) (by cases ho; simp [execOp, go_sem, p12, p17]) ?_
              cases ho
              exact ⟨u, by simp [Act.put], hI⟩
            · have p18 : done 18 = true := by cases ho; exact hdep ⟨18, .data⟩ (by simp) rfl
              refine wpOp_val ho (by cases ho; rfl) (w' := W) (v := (.bool true)) (by cases ho; simp [execOp, go_sem, p18]) ?_
              cases ho
              exact ⟨u, by simp [Act.put], hI⟩
            · have p19 : done 19 = true := by cases ho; exact hdep ⟨19, .guard⟩ (by simp) rfl
              refine wpOp_valW ho (by cases ho; simp [Region.wanted, yielded, go_sem, p19]) (w' := W) (v := (.pointer (some ⟨B, 3, none⟩))) (by cases ho; simp [execOp, go_sem, p19]) ?_
              cases ho
              exact ⟨u, by simp [Act.put], hI⟩
            · have p20 : done 20 = true := by cases ho; exact hdep ⟨20, .data⟩ (by simp) rfl
              have p19 : done 19 = true := by cases ho; exact hdep ⟨19, .guard⟩ (by simp) rfl
              have hx := blk_cell ((hI.block B (blk_lt HKB.out)).trans HKB.out) 3
              simp at hx
              refine wpOp_valW ho (by cases ho; simp [Region.wanted, yielded, go_sem, p20, p19]) (w' := W) (v := (.slice ab nb cb)) (by cases ho; simp [execOp, go_sem, p20, p19, hx]) ?_
              cases ho
              exact ⟨(), by simp [Act.put], hI⟩
            · have p21 : done 21 = true := by cases ho; exact hdep ⟨21, .data⟩ (by simp) rfl
              have p19 : done 19 = true := by cases ho; exact hdep ⟨19, .guard⟩ (by simp) rfl
              have hc := convert_sl (P := Tryd.prog) 38 5 Tryd.underlying38 Tryd.underlying5 (w := W) (bs := xb) (HXB.out.below hI (Nat.le_refl _)) 9 Tryd.underlying9
              refine wpOp_valW ho (by cases ho; simp [Region.wanted, yielded, go_sem, p21, p19]) (w' := W) (v := (.string ⟨xb.toArray⟩)) (by cases ho; simp [execOp, go_sem, p21, p19, hc]) ?_
              cases ho
              exact ⟨(), by simp [Act.put], hI⟩
            · have p19 : done 19 = true := by cases ho; exact hdep ⟨19, .guard⟩ (by simp) rfl
              refine wpOp_valW ho (by cases ho; simp [Region.wanted, yielded, go_sem, p19]) (w' := W) (v := (.pointer (some ⟨C, 3, none⟩))) (by cases ho; simp [execOp, go_sem, p19]) ?_
              cases ho
              exact ⟨u, by simp [Act.put], hI⟩
            · have p23 : done 23 = true := by cases ho; exact hdep ⟨23, .data⟩ (by simp) rfl
              have p19 : done 19 = true := by cases ho; exact hdep ⟨19, .guard⟩ (by simp) rfl
              have hx := blk_cell ((hI.block C (blk_lt HKC.out)).trans HKC.out) 3
              simp at hx
              refine wpOp_valW ho (by cases ho; simp [Region.wanted, yielded, go_sem, p23, p19]) (w' := W) (v := (.slice ab' nb' cb')) (by cases ho; simp [execOp, go_sem, p23, p19, hx]) ?_
              cases ho
              exact ⟨(), by simp [Act.put], hI⟩
            · have p24 : done 24 = true := by cases ho; exact hdep ⟨24, .data⟩ (by simp) rfl
              have p19 : done 19 = true := by cases ho; exact hdep ⟨19, .guard⟩ (by simp) rfl
              have hc := convert_sl (P := Tryd.prog) 38 5 Tryd.underlying38 Tryd.underlying5 (w := W) (bs := yb) (HYB.out.below hI (Nat.le_refl _)) 9 Tryd.underlying9
              refine wpOp_valW ho (by cases ho; simp [Region.wanted, yielded, go_sem, p24, p19]) (w' := W) (v := (.string ⟨yb.toArray⟩)) (by cases ho; simp [execOp, go_sem, p24, p19, hc]) ?_
              cases ho
              exact ⟨(), by simp [Act.put], hI⟩
            · have p22 : done 22 = true := by cases ho; exact hdep ⟨22, .data⟩ (by simp) rfl
              have p25 : done 25 = true := by cases ho; exact hdep ⟨25, .data⟩ (by simp) rfl
              have p19 : done 19 = true := by cases ho; exact hdep ⟨19, .guard⟩ (by simp) rfl
              refine wpOp_valW ho (by cases ho; simp [Region.wanted, yielded, go_sem, p22, p25, p19, hb0]) (w' := W) (v := (.bool false)) (by cases ho; simp [execOp, go_sem, p22, p25, p19, hb0]) ?_
              cases ho
              exact ⟨u, by simp [Act.put], hI⟩
            · have p19 : done 19 = true := by cases ho; exact hdep ⟨19, .data⟩ (by simp) rfl
              have p26 : done 26 = true := by cases ho; exact hdep ⟨26, .data⟩ (by simp) rfl
              refine wpOp_val ho (by cases ho; rfl) (w' := W) (v := (.bool false)) (by cases ho; simp [execOp, go_sem, p19, p26]) ?_
              cases ho
              exact ⟨u, by simp [Act.put], hI⟩
            · have p27 : done 27 = true := by cases ho; exact hdep ⟨27, .data⟩ (by simp) rfl
              refine wpOp_val ho (by cases ho; rfl) (w' := W) (v := (.bool false)) (by cases ho; simp [execOp, go_sem, p27]) ?_
              cases ho
              exact ⟨u, by simp [Act.put], hI⟩
            · have pg : done 28 = true := by cases ho; exact hdep ⟨28, .guard⟩ (by simp) rfl
              refine wpOp_pass ho (by cases ho; simp [Region.wanted, yielded, go_sem, pg]) ?_
              cases ho
              exact ⟨(), by simp [Act.put], hI⟩
            · have p29 : done 29 = true := by cases ho; exact hdep ⟨29, .data⟩ (by simp) rfl
              have pg : done 28 = true := by cases ho; exact hdep ⟨28, .guard⟩ (by simp) rfl
              refine wpOp_pass ho (by cases ho; simp [Region.wanted, yielded, go_sem, pg]) ?_
              cases ho
              exact ⟨(), by simp [Act.put], hI⟩
            · have p30 : done 30 = true := by cases ho; exact hdep ⟨30, .data⟩ (by simp) rfl
              have pg : done 28 = true := by cases ho; exact hdep ⟨28, .guard⟩ (by simp) rfl
              refine wpOp_pass ho (by cases ho; simp [Region.wanted, yielded, go_sem, pg]) ?_
              cases ho
              exact ⟨(), by simp [Act.put], hI⟩
            · have pg : done 28 = true := by cases ho; exact hdep ⟨28, .guard⟩ (by simp) rfl
              refine wpOp_pass ho (by cases ho; simp [Region.wanted, yielded, go_sem, pg]) ?_
              cases ho
              exact ⟨(), by simp [Act.put], hI⟩
            · have p32 : done 32 = true := by cases ho; exact hdep ⟨32, .data⟩ (by simp) rfl
              have pg : done 28 = true := by cases ho; exact hdep ⟨28, .guard⟩ (by simp) rfl
              refine wpOp_pass ho (by cases ho; simp [Region.wanted, yielded, go_sem, pg]) ?_
              cases ho
              exact ⟨(), by simp [Act.put], hI⟩
            · have p33 : done 33 = true := by cases ho; exact hdep ⟨33, .data⟩ (by simp) rfl
              have pg : done 28 = true := by cases ho; exact hdep ⟨28, .guard⟩ (by simp) rfl
              refine wpOp_pass ho (by cases ho; simp [Region.wanted, yielded, go_sem, pg]) ?_
              cases ho
              exact ⟨(), by simp [Act.put], hI⟩
            · have p31 : done 31 = true := by cases ho; exact hdep ⟨31, .data⟩ (by simp) rfl
              have p34 : done 34 = true := by cases ho; exact hdep ⟨34, .data⟩ (by simp) rfl
              have pg : done 28 = true := by cases ho; exact hdep ⟨28, .guard⟩ (by simp) rfl
              refine wpOp_pass ho (by cases ho; simp [Region.wanted, yielded, go_sem, pg]) ?_
              cases ho
              exact ⟨(), by simp [Act.put], hI⟩
            · have p28 : done 28 = true := by cases ho; exact hdep ⟨28, .data⟩ (by simp) rfl
              have p35 : done 35 = true := by cases ho; exact hdep ⟨35, .data⟩ (by simp) rfl
              refine wpOp_val ho (by cases ho; rfl) (w' := W) (v := (.bool false)) (by cases ho; simp [execOp, go_sem, p28, p35]) ?_
              cases ho
              exact ⟨u, by simp [Act.put], hI⟩
            · have p36 : done 36 = true := by cases ho; exact hdep ⟨36, .data⟩ (by simp) rfl
              refine wpOp_val ho (by cases ho; rfl) (w' := W) (v := (.bool false)) (by cases ho; simp [execOp, go_sem, p36]) ?_
              cases ho
              exact ⟨u, by simp [Act.put], hI⟩
          · rintro done ac W hall ⟨u, rfl, hI⟩
            have hl := hall
            clear hall
            have e0 := hl 0 (by decide)
            have e1 := hl 1 (by decide)
            have e2 := hl 2 (by decide)
            have e3 := hl 3 (by decide)
            have e4 := hl 4 (by decide)
            have e5 := hl 5 (by decide)
            have e6 := hl 6 (by decide)
            have e7 := hl 7 (by decide)
            have e8 := hl 8 (by decide)
            have e9 := hl 9 (by decide)
            have e10 := hl 10 (by decide)
            have e11 := hl 11 (by decide)
            have e12 := hl 12 (by decide)
            have e13 := hl 13 (by decide)
            have e14 := hl 14 (by decide)
            have e15 := hl 15 (by decide)
            have e16 := hl 16 (by decide)
            have e17 := hl 17 (by decide)
            have e18 := hl 18 (by decide)
            have e19 := hl 19 (by decide)
            have e20 := hl 20 (by decide)
            have e21 := hl 21 (by decide)
            have e22 := hl 22 (by decide)
            have e23 := hl 23 (by decide)
            have e24 := hl 24 (by decide)
            have e25 := hl 25 (by decide)
            have e26 := hl 26 (by decide)
            have e27 := hl 27 (by decide)
            have e28 := hl 28 (by decide)
            have e29 := hl 29 (by decide)
            have e30 := hl 30 (by decide)
            have e31 := hl 31 (by decide)
            have e32 := hl 32 (by decide)
            have e33 := hl 33 (by decide)
            have e34 := hl 34 (by decide)
            have e35 := hl 35 (by decide)
            have e36 := hl 36 (by decide)
            have e37 := hl 37 (by decide)
            have HBI := Lib.hid hI
            simp only [e0, e1, e2, e3, e4, e5, e6, e7, e8, e9, e10, e11, e12, e13, e14, e15, e16, e17, e18, e19, e20, e21, e22, e23, e24, e25, e26, e27, e28, e29, e30, e31, e32, e33, e34, e35, e36, e37, if_true]
            clear e0 e1 e2 e3 e4 e5 e6 e7 e8 e9 e10 e11 e12 e13 e14 e15 e16 e17 e18 e19 e20 e21 e22 e23 e24 e25 e26 e27 e28 e29 e30 e31 e32 e33 e34 e35 e36 e37 hl hI
            go_wp2_with fail
            go_ret
            exact ⟨by rw [HRV.out]; rfl, HBW.out.trans (HBI.out.mono HBW.out.size)⟩
      · have hn0 : (xn == yn) = false := by simp [hhn]
        have HRV : Hid (rr = false) := by show _ = _; rw [HR.out]; exact decide_eq_false fun h => hhn h.2.2.1
        clear hhk hhc hhn
        refine wp_region_inv2 (by kernel_rfl) (hord_of2 (by kernel_rfl)) (fun done ac W => ∃ (u : Unit), ac = { tmps := #[.agg #[.int .i64 xk, .int .i64 xc, .int .i64 xn, .slice ab nb cb, .slice ak nk ck], .agg #[.int .i64 yk, .int .i64 yc, .int .i64 yn, .slice ab' nb' cb', .slice ak' nk' ck'], (.pointer (some ⟨B, 0, none⟩)), (.pointer (some ⟨C, 0, none⟩)), if done 37 then (.bool false) else .bool false, if done 0 then (.pointer (some ⟨B, 0, none⟩)) else undef, if done 1 then (.int .i64 xk) else undef, if done 2 then (.pointer (some ⟨C, 0, none⟩)) else undef, if done 3 then (.int .i64 yk) else undef, if done 4 then (.bool true) else undef, if done 5 then (.bool true) else undef, if done 6 then (.pointer (some ⟨B, 1, none⟩)) else undef, if done 7 then (.int .i64 xc) else undef, if done 8 then (.pointer (some ⟨C, 1, none⟩)) else undef, if done 9 then (.int .i64 yc) else undef, if done 10 then (.bool true) else undef, if done 11 then (.bool true) else undef, if done 12 then (.bool true) else undef, if done 13 then (.pointer (some ⟨B, 2, none⟩)) else undef, if done 14 then (.int .i64 xn) else undef, if done 15 then (.pointer (some ⟨C, 2, none⟩)) else undef, if done 16 then (.int .i64 yn) else undef, if done 17 then (.bool false) else undef, if done 18 then (.bool false) else undef, if done 19 then (.bool false) else undef, if done 20 then undef else undef, if done 21 then undef else undef, if done 22 then undef else undef, if done 23 then undef else undef, if done 24 then undef else undef, if done 25 then undef else undef, if done 26 then undef else undef, if done 27 then (.bool false) else undef, if done 28 then (.bool false) else undef, if done 29 then undef else undef, if done 30 then undef else undef, if done 31 then undef else undef, if done 32 then undef else undef, if done 33 then undef else undef, if done 34 then undef else undef, if done 35 then undef else undef, if done 36 then (.bool false) else undef], defers := [] } ∧ Below W0.heap.size W0 W) ?_ ?_ ?_
        · exact ⟨(), by simp, (Below.refl _ W0).drew⟩
        · intro done ac W j oq ho hd hdep hcl ⟨u, hlit, hI⟩
          have hj : j < 38 := (Array.getElem?_eq_some_iff.1 ho).1
          subst hlit
          obtain rfl | rfl | rfl | rfl | rfl | rfl | rfl | rfl | rfl | rfl | rfl | rfl | rfl | rfl | rfl | rfl | rfl | rfl | rfl | rfl | rfl | rfl | rfl | rfl | rfl | rfl | rfl | rfl | rfl | rfl | rfl | rfl | rfl | rfl | rfl | rfl | rfl | rfl : j = 0 ∨ j = 1 ∨ j = 2 ∨ j = 3 ∨ j = 4 ∨ j = 5 ∨ j = 6 ∨ j = 7 ∨ j = 8 ∨ j = 9 ∨ j = 10 ∨ j = 11 ∨ j = 12 ∨ j = 13 ∨ j = 14 ∨ j = 15 ∨ j = 16 ∨ j = 17 ∨ j = 18 ∨ j = 19 ∨ j = 20 ∨ j = 21 ∨ j = 22 ∨ j = 23 ∨ j = 24 ∨ j = 25 ∨ j = 26 ∨ j = 27 ∨ j = 28 ∨ j = 29 ∨ j = 30 ∨ j = 31 ∨ j = 32 ∨ j = 33 ∨ j = 34 ∨ j = 35 ∨ j = 36 ∨ j = 37 := by omega
          · refine wpOp_val ho (by cases ho; rfl) (w' := W) (v := (.pointer (some ⟨B, 0, none⟩))) (by cases ho; simp [execOp, go_sem]) ?_
            cases ho
            exact ⟨u, by simp [Act.put], hI⟩
          · have p0 : done 0 = true := by cases ho; exact hdep ⟨0, .data⟩ (by simp) rfl
            have hx := blk_cell ((hI.block B (blk_lt HKB.out)).trans HKB.out) 0
            simp at hx
            refine wpOp_val ho (by cases ho; rfl) (w' := W) (v := (.int .i64 xk)) (by cases ho; simp [execOp, go_sem, p0, hx]) ?_
            cases ho
            exact ⟨(), by simp [Act.put], hI⟩
          · refine wpOp_val ho (by cases ho; rfl) (w' := W) (v := (.pointer (some ⟨C, 0, none⟩))) (by cases ho; simp [execOp, go_sem]) ?_
            cases ho
            exact ⟨u, by simp [Act.put], hI⟩
          · have p2 : done 2 = true := by cases ho; exact hdep ⟨2, .data⟩ (by simp) rfl
            have hx := blk_cell ((hI.block C (blk_lt HKC.out)).trans HKC.out) 0
            simp at hx
            refine wpOp_val ho (by cases ho; rfl) (w' := W) (v := (.int .i64 yk)) (by cases ho; simp [execOp, go_sem, p2, hx]) ?_
            cases ho
            exact ⟨(), by simp [Act.put], hI⟩
          · have p1 : done 1 = true := by cases ho; exact hdep ⟨1, .data⟩ (by simp) rfl
            have p3 : done 3 = true := by cases ho; exact hdep ⟨3, .data⟩ (by simp) rfl
            refine wpOp_val ho (by cases ho; rfl) (w' := W) (v := (.bool true)) (by cases ho; simp [execOp, go_sem, p1, p3, hk]) ?_
            cases ho
            exact ⟨u, by simp [Act.put], hI⟩
          · have p4 : done 4 = true := by cases ho; exact hdep ⟨4, .data⟩ (by simp) rfl
            refine wpOp_val ho (by cases ho; rfl) (w' := W) (v := (.bool true)) (by cases ho; simp [execOp, go_sem, p4]) ?_
            cases ho
            exact ⟨u, by simp [Act.put], hI⟩
          · have p5 : done 5 = true := by cases ho; exact hdep ⟨5, .guard⟩ (by simp) rfl
            refine wpOp_valW ho (by cases ho; simp [Region.wanted, yielded, go_sem, p5]) (w' := W) (v := (.pointer (some ⟨B, 1, none⟩))) (by cases ho; simp [execOp, go_sem, p5]) ?_
            cases ho
            exact ⟨u, by simp [Act.put], hI⟩
          · have p6 : done 6 = true := by cases ho; exact hdep ⟨6, .data⟩ (by simp) rfl
            have p5 : done 5 = true := by cases ho; exact hdep ⟨5, .guard⟩ (by simp) rfl
            have hx := blk_cell ((hI.block B (blk_lt HKB.out)).trans HKB.out) 1
            simp at hx
            refine wpOp_valW ho (by cases ho; simp [Region.wanted, yielded, go_sem, p6, p5]) (w' := W) (v := (.int .i64 xc)) (by cases ho; simp [execOp, go_sem, p6, p5, hx]) ?_
            cases ho
            exact ⟨(), by simp [Act.put], hI⟩
          · have p5 : done 5 = true := by cases ho; exact hdep ⟨5, .guard⟩ (by simp) rfl
            refine wpOp_valW ho (by cases ho; simp [Region.wanted, yielded, go_sem, p5]) (w' := W) (v := (.pointer (some ⟨C, 1, none⟩))) (by cases ho; simp [execOp, go_sem, p5]) ?_
            cases ho
            exact ⟨u, by simp [Act.put], hI⟩
          · have p8 : done 8 = true := by cases ho; exact hdep ⟨8, .data⟩ (by simp) rfl
            have p5 : done 5 = true := by cases ho; exact hdep ⟨5, .guard⟩ (by simp) rfl
            have hx := blk_cell ((hI.block C (blk_lt HKC.out)).trans HKC.out) 1
            simp at hx
            refine wpOp_valW ho (by cases ho; simp [Region.wanted, yielded, go_sem, p8, p5]) (w' := W) (v := (.int .i64 yc)) (by cases ho; simp [execOp, go_sem, p8, p5, hx]) ?_
            cases ho
            exact ⟨(), by simp [Act.put], hI⟩
          · have p7 : done 7 = true := by cases ho; exact hdep ⟨7, .data⟩ (by simp) rfl
            have p9 : done 9 = true := by cases ho; exact hdep ⟨9, .data⟩ (by simp) rfl
            have p5 : done 5 = true := by cases ho; exact hdep ⟨5, .guard⟩ (by simp) rfl
            refine wpOp_valW ho (by cases ho; simp [Region.wanted, yielded, go_sem, p7, p9, p5, hc0]) (w' := W) (v := (.bool true)) (by cases ho; simp [execOp, go_sem, p7, p9, p5, hc0]) ?_
            cases ho
            exact ⟨u, by simp [Act.put], hI⟩
          · have p5 : done 5 = true := by cases ho; exact hdep ⟨5, .data⟩ (by simp) rfl
            have p10 : done 10 = true := by cases ho; exact hdep ⟨10, .data⟩ (by simp) rfl
            refine wpOp_val ho (by cases ho; rfl) (w' := W) (v := (.bool true)) (by cases ho; simp [execOp, go_sem, p5, p10]) ?_
            cases ho
            exact ⟨u, by simp [Act.put], hI⟩
          · have p11 : done 11 = true := by cases ho; exact hdep ⟨11, .data⟩ (by simp) rfl
            refine wpOp_val ho (by cases ho; rfl) (w' := W) (v := (.bool true)) (by cases ho; simp [execOp, go_sem, p11]) ?_
            cases ho
            exact ⟨u, by simp [Act.put], hI⟩
          · have p12 : done 12 = true := by cases ho; exact hdep ⟨12, .guard⟩ (by simp) rfl
            refine wpOp_valW ho (by cases ho; simp [Region.wanted, yielded, go_sem, p12]) (w' := W) (v := (.pointer (some ⟨B, 2, none⟩))) (by cases ho; simp [execOp, go_sem, p12]) ?_
            cases ho
            exact ⟨u, by simp [Act.put], hI⟩
          · have p13 : done 13 = true := by cases ho; exact hdep ⟨13, .data⟩ (by simp) rfl
            have p12 : done 12 = true := by cases ho; exact hdep ⟨12, .guard⟩ (by simp) rfl
            have hx := blk_cell ((hI.block B (blk_lt HKB.out)).trans HKB.out) 2
            simp at hx
            refine wpOp_valW ho (by cases ho; simp [Region.wanted, yielded, go_sem, p13, p12]) (w' := W) (v := (.int .i64 xn)) (by cases ho; simp [execOp, go_sem, p13, p12, hx]) ?_
            cases ho
            exact ⟨(), by simp [Act.put], hI⟩
          · have p12 : done 12 = true := by cases ho; exact hdep ⟨12, .guard⟩ (by simp) rfl
            refine wpOp_valW ho (by cases ho; simp [Region.wanted, yielded, go_sem, p12]) (w' := W) (v := (.pointer (some ⟨C, 2, none⟩))) (by cases ho; simp [execOp, go_sem, p12]) ?_
            cases ho
            exact ⟨u, by simp [Act.put], hI⟩
          · have p15 : done 15 = true := by cases ho; exact hdep ⟨15, .data⟩ (by simp) rfl
            have p12 : done 12 = true := by cases ho; exact hdep ⟨12, .guard⟩ (by simp) rfl
            have hx := blk_cell ((hI.block C (blk_lt HKC.out)).trans HKC.out) 2
            simp at hx
            refine wpOp_valW ho (by cases ho; simp [Region.wanted, yielded, go_sem, p15, p12]) (w' := W) (v := (.int .i64 yn)) (by cases ho; simp [execOp, go_sem, p15, p12, hx]) ?_
            cases ho
            exact ⟨(), by simp [Act.put], hI⟩
          · have p14 : done 14 = true := by cases ho; exact hdep ⟨14, .data⟩ (by simp) rfl
            have p16 : done 16 = true := by cases ho; exact hdep ⟨16, .data⟩ (by simp) rfl
            have p12 : done 12 = true := by cases ho; exact hdep ⟨12, .guard⟩ (by simp) rfl
            refine wpOp_valW ho (by cases ho; simp [Region.wanted, yielded, go_sem, p14, p16, p12, hn0]) (w' := W) (v := (.bool false)) (by cases ho; simp [execOp, go_sem, p14, p16, p12, hn0]) ?_
            cases ho
            exact ⟨u, by simp [Act.put], hI⟩
          · have p12 : done 12 = true := by cases ho; exact hdep ⟨12, .data⟩ (by simp) rfl
            have p17 : done 17 = true := by cases ho; exact hdep ⟨17, .data⟩ (by simp) rfl
            refine wpOp_val ho (by cases ho; rfl) (w' := W) (v := (.bool false)) (by cases ho; simp [execOp, go_sem, p12, p17]) ?_
            cases ho
            exact ⟨u, by simp [Act.put], hI⟩
          · have p18 : done 18 = true := by cases ho; exact hdep ⟨18, .data⟩ (by simp) rfl
            refine wpOp_val ho (by cases ho; rfl) (w' := W) (v := (.bool false)) (by cases ho; simp [execOp, go_sem, p18]) ?_
            cases ho
            exact ⟨u, by simp [Act.put], hI⟩
          · have pg : done 19 = true := by cases ho; exact hdep ⟨19, .guard⟩ (by simp) rfl
            refine wpOp_pass ho (by cases ho; simp [Region.wanted, yielded, go_sem, pg]) ?_
            cases ho
            exact ⟨(), by simp [Act.put], hI⟩
          · have p20 : done 20 = true := by cases ho; exact hdep ⟨20, .data⟩ (by simp) rfl
            have pg : done 19 = true := by cases ho; exact hdep ⟨19, .guard⟩ (by simp) rfl
            refine wpOp_pass ho (by cases ho; simp [Region.wanted, yielded, go_sem, pg]) ?_
            cases ho
            exact ⟨(), by simp [Act.put], hI⟩
          · have p21 : done 21 = true := by cases ho; exact hdep ⟨21, .data⟩ (by simp) rfl
            have pg : done 19 = true := by cases ho; exact hdep ⟨19, .guard⟩ (by simp) rfl
            refine wpOp_pass ho (by cases ho; simp [Region.wanted, yielded, go_sem, pg]) ?_
            cases ho
            exact ⟨(), by simp [Act.put], hI⟩
          · have pg : done 19 = true := by cases ho; exact hdep ⟨19, .guard⟩ (by simp) rfl
            refine wpOp_pass ho (by cases ho; simp [Region.wanted, yielded, go_sem, pg]) ?_
            cases ho
            exact ⟨(), by simp [Act.put], hI⟩
          · have p23 : done 23 = true := by cases ho; exact hdep ⟨23, .data⟩ (by simp) rfl
            have pg : done 19 = true := by cases ho; exact hdep ⟨19, .guard⟩ (by simp) rfl
            refine wpOp_pass ho (by cases ho; simp [Region.wanted, yielded, go_sem, pg]) ?_
            cases ho
            exact ⟨(), by simp [Act.put], hI⟩
          · have p24 : done 24 = true := by cases ho; exact hdep ⟨24, .data⟩ (by simp) rfl
            have pg : done 19 = true := by cases ho; exact hdep ⟨19, .guard⟩ (by simp) rfl
            refine wpOp_pass ho (by cases ho; simp [Region.wanted, yielded, go_sem, pg]) ?_
            cases ho
            exact ⟨(), by simp [Act.put], hI⟩
          · have p22 : done 22 = true := by cases ho; exact hdep ⟨22, .data⟩ (by simp) rfl
            have p25 : done 25 = true := by cases ho; exact hdep ⟨25, .data⟩ (by simp) rfl
            have pg : done 19 = true := by cases ho; exact hdep ⟨19, .guard⟩ (by simp) rfl
            refine wpOp_pass ho (by cases ho; simp [Region.wanted, yielded, go_sem, pg]) ?_
            cases ho
            exact ⟨(), by simp [Act.put], hI⟩
          · have p19 : done 19 = true := by cases ho; exact hdep ⟨19, .data⟩ (by simp) rfl
            have p26 : done 26 = true := by cases ho; exact hdep ⟨26, .data⟩ (by simp) rfl
            refine wpOp_val ho (by cases ho; rfl) (w' := W) (v := (.bool false)) (by cases ho; simp [execOp, go_sem, p19, p26]) ?_
            cases ho
            exact ⟨u, by simp [Act.put], hI⟩
          · have p27 : done 27 = true := by cases ho; exact hdep ⟨27, .data⟩ (by simp) rfl
            refine wpOp_val ho (by cases ho; rfl) (w' := W) (v := (.bool false)) (by cases ho; simp [execOp, go_sem, p27]) ?_
            cases ho
            exact ⟨u, by simp [Act.put], hI⟩
          · have pg : done 28 = true := by cases ho; exact hdep ⟨28, .guard⟩ (by simp) rfl
            refine wpOp_pass ho (by cases ho; simp [Region.wanted, yielded, go_sem, pg]) ?_
            cases ho
            exact ⟨(), by simp [Act.put], hI⟩
          · have p29 : done 29 = true := by cases ho; exact hdep ⟨29, .data⟩ (by simp) rfl
            have pg : done 28 = true := by cases ho; exact hdep ⟨28, .guard⟩ (by simp) rfl
            refine wpOp_pass ho (by cases ho; simp [Region.wanted, yielded, go_sem, pg]) ?_
            cases ho
            exact ⟨(), by simp [Act.put], hI⟩
          · have p30 : done 30 = true := by cases ho; exact hdep ⟨30, .data⟩ (by simp) rfl
            have pg : done 28 = true := by cases ho; exact hdep ⟨28, .guard⟩ (by simp) rfl
            refine wpOp_pass ho (by cases ho; simp [Region.wanted, yielded, go_sem, pg]) ?_
            cases ho
            exact ⟨(), by simp [Act.put], hI⟩
          · have pg : done 28 = true := by cases ho; exact hdep ⟨28, .guard⟩ (by simp) rfl
            refine wpOp_pass ho (by cases ho; simp [Region.wanted, yielded, go_sem, pg]) ?_
            cases ho
            exact ⟨(), by simp [Act.put], hI⟩
          · have p32 : done 32 = true := by cases ho; exact hdep ⟨32, .data⟩ (by simp) rfl
            have pg : done 28 = true := by cases ho; exact hdep ⟨28, .guard⟩ (by simp) rfl
            refine wpOp_pass ho (by cases ho; simp [Region.wanted, yielded, go_sem, pg]) ?_
            cases ho
            exact ⟨(), by simp [Act.put], hI⟩
          · have p33 : done 33 = true := by cases ho; exact hdep ⟨33, .data⟩ (by simp) rfl
            have pg : done 28 = true := by cases ho; exact hdep ⟨28, .guard⟩ (by simp) rfl
            refine wpOp_pass ho (by cases ho; simp [Region.wanted, yielded, go_sem, pg]) ?_
            cases ho
            exact ⟨(), by simp [Act.put], hI⟩
          · have p31 : done 31 = true := by cases ho; exact hdep ⟨31, .data⟩ (by simp) rfl
            have p34 : done 34 = true := by cases ho; exact hdep ⟨34, .data⟩ (by simp) rfl
            have pg : done 28 = true := by cases ho; exact hdep ⟨28, .guard⟩ (by simp) rfl
            refine wpOp_pass ho (by cases ho; simp [Region.wanted, yielded, go_sem, pg]) ?_
            cases ho
            exact ⟨(), by simp [Act.put], hI⟩
          · have p28 : done 28 = true := by cases ho; exact hdep ⟨28, .data⟩ (by simp) rfl
            have p35 : done 35 = true := by cases ho; exact hdep ⟨35, .data⟩ (by simp) rfl
            refine wpOp_val ho (by cases ho; rfl) (w' := W) (v := (.bool false)) (by cases ho; simp [execOp, go_sem, p28, p35]) ?_
            cases ho
            exact ⟨u, by simp [Act.put], hI⟩
          · have p36 : done 36 = true := by cases ho; exact hdep ⟨36, .data⟩ (by simp) rfl
            refine wpOp_val ho (by cases ho; rfl) (w' := W) (v := (.bool false)) (by cases ho; simp [execOp, go_sem, p36]) ?_
            cases ho
            exact ⟨u, by simp [Act.put], hI⟩
        · rintro done ac W hall ⟨u, rfl, hI⟩
          have hl := hall
          clear hall
          have e0 := hl 0 (by decide)
          have e1 := hl 1 (by decide)
          have e2 := hl 2 (by decide)
          have e3 := hl 3 (by decide)
          have e4 := hl 4 (by decide)
          have e5 := hl 5 (by decide)
          have e6 := hl 6 (by decide)
          have e7 := hl 7 (by decide)
          have e8 := hl 8 (by decide)
          have e9 := hl 9 (by decide)
          have e10 := hl 10 (by decide)
          have e11 := hl 11 (by decide)
          have e12 := hl 12 (by decide)
          have e13 := hl 13 (by decide)
          have e14 := hl 14 (by decide)
          have e15 := hl 15 (by decide)
          have e16 := hl 16 (by decide)
          have e17 := hl 17 (by decide)
          have e18 := hl 18 (by decide)
          have e19 := hl 19 (by decide)
          have e20 := hl 20 (by decide)
          have e21 := hl 21 (by decide)
          have e22 := hl 22 (by decide)
          have e23 := hl 23 (by decide)
          have e24 := hl 24 (by decide)
          have e25 := hl 25 (by decide)
          have e26 := hl 26 (by decide)
          have e27 := hl 27 (by decide)
          have e28 := hl 28 (by decide)
          have e29 := hl 29 (by decide)
          have e30 := hl 30 (by decide)
          have e31 := hl 31 (by decide)
          have e32 := hl 32 (by decide)
          have e33 := hl 33 (by decide)
          have e34 := hl 34 (by decide)
          have e35 := hl 35 (by decide)
          have e36 := hl 36 (by decide)
          have e37 := hl 37 (by decide)
          have HBI := Lib.hid hI
          simp only [e0, e1, e2, e3, e4, e5, e6, e7, e8, e9, e10, e11, e12, e13, e14, e15, e16, e17, e18, e19, e20, e21, e22, e23, e24, e25, e26, e27, e28, e29, e30, e31, e32, e33, e34, e35, e36, e37, if_true]
          clear e0 e1 e2 e3 e4 e5 e6 e7 e8 e9 e10 e11 e12 e13 e14 e15 e16 e17 e18 e19 e20 e21 e22 e23 e24 e25 e26 e27 e28 e29 e30 e31 e32 e33 e34 e35 e36 e37 hl hI
          go_wp2_with fail
          go_ret
          exact ⟨by rw [HRV.out]; rfl, HBW.out.trans (HBI.out.mono HBW.out.size)⟩
    · have hc0 : (xc == yc) = false := by simp [hhc]
      have HRV : Hid (rr = false) := by show _ = _; rw [HR.out]; exact decide_eq_false fun h => hhc h.2.1
      clear hhk hhc
      refine wp_region_inv2 (by kernel_rfl) (hord_of2 (by kernel_rfl)) (fun done ac W => ∃ (u : Unit), ac = { tmps := #[.agg #[.int .i64 xk, .int .i64 xc, .int .i64 xn, .slice ab nb cb, .slice ak nk ck], .agg #[.int .i64 yk, .int .i64 yc, .int .i64 yn, .slice ab' nb' cb', .slice ak' nk' ck'], (.pointer (some ⟨B, 0, none⟩)), (.pointer (some ⟨C, 0, none⟩)), if done 37 then (.bool false) else .bool false, if done 0 then (.pointer (some ⟨B, 0, none⟩)) else undef, if done 1 then (.int .i64 xk) else undef, if done 2 then (.pointer (some ⟨C, 0, none⟩)) else undef, if done 3 then (.int .i64 yk) else undef, if done 4 then (.bool true) else undef, if done 5 then (.bool true) else undef, if done 6 then (.pointer (some ⟨B, 1, none⟩)) else undef, if done 7 then (.int .i64 xc) else undef, if done 8 then (.pointer (some ⟨C, 1, none⟩)) else undef, if done 9 then (.int .i64 yc) else undef, if done 10 then (.bool false) else undef, if done 11 then (.bool false) else undef, if done 12 then (.bool false) else undef, if done 13 then undef else undef, if done 14 then undef else undef, if done 15 then undef else undef, if done 16 then undef else undef, if done 17 then undef else undef, if done 18 then (.bool false) else undef, if done 19 then (.bool false) else undef, if done 20 then undef else undef, if done 21 then undef else undef, if done 22 then undef else undef, if done 23 then undef else undef, if done 24 then undef else undef, if done 25 then undef else undef, if done 26 then undef else undef, if done 27 then (.bool false) else undef, if done 28 then (.bool false) else undef, if done 29 then undef else undef, if done 30 then undef else undef, if done 31 then undef else undef, if done 32 then undef else undef, if done 33 then undef else undef, if done 34 then undef else undef, if done 35 then undef else undef, if done 36 then (.bool false) else undef], defers := [] } ∧ Below W0.heap.size W0 W) ?_ ?_ ?_
      · exact ⟨(), by simp, (Below.refl _ W0).drew⟩
      · intro done ac W j oq ho hd hdep hcl ⟨u, hlit, hI⟩
        have hj : j < 38 := (Array.getElem?_eq_some_iff.1 ho).1
        subst hlit
        obtain rfl | rfl | rfl | rfl | rfl | rfl | rfl | rfl | rfl | rfl | rfl | rfl | rfl | rfl | rfl | rfl | rfl | rfl | rfl | rfl | rfl | rfl | rfl | rfl | rfl | rfl | rfl | rfl | rfl | rfl | rfl | rfl | rfl | rfl | rfl | rfl | rfl | rfl : j = 0 ∨ j = 1 ∨ j = 2 ∨ j = 3 ∨ j = 4 ∨ j = 5 ∨ j = 6 ∨ j = 7 ∨ j = 8 ∨ j = 9 ∨ j = 10 ∨ j = 11 ∨ j = 12 ∨ j = 13 ∨ j = 14 ∨ j = 15 ∨ j = 16 ∨ j = 17 ∨ j = 18 ∨ j = 19 ∨ j = 20 ∨ j = 21 ∨ j = 22 ∨ j = 23 ∨ j = 24 ∨ j = 25 ∨ j = 26 ∨ j = 27 ∨ j = 28 ∨ j = 29 ∨ j = 30 ∨ j = 31 ∨ j = 32 ∨ j = 33 ∨ j = 34 ∨ j = 35 ∨ j = 36 ∨ j = 37 := by omega
        · refine wpOp_val ho (by cases ho; rfl) (w' := W) (v := (.pointer (some ⟨B, 0, none⟩))) (by cases ho; simp [execOp, go_sem]) ?_
          cases ho
          exact ⟨u, by simp [Act.put], hI⟩
        · have p0 : done 0 = true := by cases ho; exact hdep ⟨0, .data⟩ (by simp) rfl
          have hx := blk_cell ((hI.block B (blk_lt HKB.out)).trans HKB.out) 0
          simp at hx
          refine wpOp_val ho (by cases ho; rfl) (w' := W) (v := (.int .i64 xk)) (by cases ho; simp [execOp, go_sem, p0, hx]) ?_
          cases ho
          exact ⟨(), by simp [Act.put], hI⟩
        · refine wpOp_val ho (by cases ho; rfl) (w' := W) (v := (.pointer (some ⟨C, 0, none⟩))) (by cases ho; simp [execOp, go_sem]) ?_
          cases ho
          exact ⟨u, by simp [Act.put], hI⟩
        · have p2 : done 2 = true := by cases ho; exact hdep ⟨2, .data⟩ (by simp) rfl
          have hx := blk_cell ((hI.block C (blk_lt HKC.out)).trans HKC.out) 0
          simp at hx
          refine wpOp_val ho (by cases ho; rfl) (w' := W) (v := (.int .i64 yk)) (by cases ho; simp [execOp, go_sem, p2, hx]) ?_
          cases ho
          exact ⟨(), by simp [Act.put], hI⟩
        · have p1 : done 1 = true := by cases ho; exact hdep ⟨1, .data⟩ (by simp) rfl
          have p3 : done 3 = true := by cases ho; exact hdep ⟨3, .data⟩ (by simp) rfl
          refine wpOp_val ho (by cases ho; rfl) (w' := W) (v := (.bool true)) (by cases ho; simp [execOp, go_sem, p1, p3, hk]) ?_
          cases ho
          exact ⟨u, by simp [Act.put], hI⟩
        · have p4 : done 4 = true := by cases ho; exact hdep ⟨4, .data⟩ (by simp) rfl
          refine wpOp_val ho (by cases ho; rfl) (w' := W) (v := (.bool true)) (by cases ho; simp [execOp, go_sem, p4]) ?_
          cases ho
          exact ⟨u, by simp [Act.put], hI⟩
        · have p5 : done 5 = true := by cases ho; exact hdep ⟨5, .guard⟩ (by simp) rfl
          refine wpOp_valW ho (by cases ho; simp [Region.wanted, yielded, go_sem, p5]) (w' := W) (v := (.pointer (some ⟨B, 1, none⟩))) (by cases ho; simp [execOp, go_sem, p5]) ?_
          cases ho
          exact ⟨u, by simp [Act.put], hI⟩
        · have p6 : done 6 = true := by cases ho; exact hdep ⟨6, .data⟩ (by simp) rfl
          have p5 : done 5 = true := by cases ho; exact hdep ⟨5, .guard⟩ (by simp) rfl
          have hx := blk_cell ((hI.block B (blk_lt HKB.out)).trans HKB.out) 1
          simp at hx
          refine wpOp_valW ho (by cases ho; simp [Region.wanted, yielded, go_sem, p6, p5]) (w' := W) (v := (.int .i64 xc)) (by cases ho; simp [execOp, go_sem, p6, p5, hx]) ?_
          cases ho
          exact ⟨(), by simp [Act.put], hI⟩
        · have p5 : done 5 = true := by cases ho; exact hdep ⟨5, .guard⟩ (by simp) rfl
          refine wpOp_valW ho (by cases ho; simp [Region.wanted, yielded, go_sem, p5]) (w' := W) (v := (.pointer (some ⟨C, 1, none⟩))) (by cases ho; simp [execOp, go_sem, p5]) ?_
          cases ho
          exact ⟨u, by simp [Act.put], hI⟩
        · have p8 : done 8 = true := by cases ho; exact hdep ⟨8, .data⟩ (by simp) rfl
          have p5 : done 5 = true := by cases ho; exact hdep ⟨5, .guard⟩ (by simp) rfl
          have hx := blk_cell ((hI.block C (blk_lt HKC.out)).trans HKC.out) 1
          simp at hx
          refine wpOp_valW ho (by cases ho; simp [Region.wanted, yielded, go_sem, p8, p5]) (w' := W) (v := (.int .i64 yc)) (by cases ho; simp [execOp, go_sem, p8, p5, hx]) ?_
          cases ho
          exact ⟨(), by simp [Act.put], hI⟩
        · have p7 : done 7 = true := by cases ho; exact hdep ⟨7, .data⟩ (by simp) rfl
          have p9 : done 9 = true := by cases ho; exact hdep ⟨9, .data⟩ (by simp) rfl
          have p5 : done 5 = true := by cases ho; exact hdep ⟨5, .guard⟩ (by simp) rfl
          refine wpOp_valW ho (by cases ho; simp [Region.wanted, yielded, go_sem, p7, p9, p5, hc0]) (w' := W) (v := (.bool false)) (by cases ho; simp [execOp, go_sem, p7, p9, p5, hc0]) ?_
          cases ho
          exact ⟨u, by simp [Act.put], hI⟩
        · have p5 : done 5 = true := by cases ho; exact hdep ⟨5, .data⟩ (by simp) rfl
          have p10 : done 10 = true := by cases ho; exact hdep ⟨10, .data⟩ (by simp) rfl
          refine wpOp_val ho (by cases ho; rfl) (w' := W) (v := (.bool false)) (by cases ho; simp [execOp, go_sem, p5, p10]) ?_
          cases ho
          exact ⟨u, by simp [Act.put], hI⟩
        · have p11 : done 11 = true := by cases ho; exact hdep ⟨11, .data⟩ (by simp) rfl
          refine wpOp_val ho (by cases ho; rfl) (w' := W) (v := (.bool false)) (by cases ho; simp [execOp, go_sem, p11]) ?_
          cases ho
          exact ⟨u, by simp [Act.put], hI⟩
        · have pg : done 12 = true := by cases ho; exact hdep ⟨12, .guard⟩ (by simp) rfl
          refine wpOp_pass ho (by cases ho; simp [Region.wanted, yielded, go_sem, pg]) ?_
          cases ho
          exact ⟨(), by simp [Act.put], hI⟩
        · have p13 : done 13 = true := by cases ho; exact hdep ⟨13, .data⟩ (by simp) rfl
          have pg : done 12 = true := by cases ho; exact hdep ⟨12, .guard⟩ (by simp) rfl
          refine wpOp_pass ho (by cases ho; simp [Region.wanted, yielded, go_sem, pg]) ?_
          cases ho
          exact ⟨(), by simp [Act.put], hI⟩
        · have pg : done 12 = true := by cases ho; exact hdep ⟨12, .guard⟩ (by simp) rfl
          refine wpOp_pass ho (by cases ho; simp [Region.wanted, yielded, go_sem, pg]) ?_
          cases ho
          exact ⟨(), by simp [Act.put], hI⟩
        · have p15 : done 15 = true := by cases ho; exact hdep ⟨15, .data⟩ (by simp) rfl
          have pg : done 12 = true := by cases ho; exact hdep ⟨12, .guard⟩ (by simp) rfl
          refine wpOp_pass ho (by cases ho; simp [Region.wanted, yielded, go_sem, pg]) ?_
          cases ho
          exact ⟨(), by simp [Act.put], hI⟩
        · have p14 : done 14 = true := by cases ho; exact hdep ⟨14, .data⟩ (by simp) rfl
          have p16 : done 16 = true := by cases ho; exact hdep ⟨16, .data⟩ (by simp) rfl
          have pg : done 12 = true := by cases ho; exact hdep ⟨12, .guard⟩ (by simp) rfl
          refine wpOp_pass ho (by cases ho; simp [Region.wanted, yielded, go_sem, pg]) ?_
          cases ho
          exact ⟨(), by simp [Act.put], hI⟩
        · have p12 : done 12 = true := by cases ho; exact hdep ⟨12, .data⟩ (by simp) rfl
          have p17 : done 17 = true := by cases ho; exact hdep ⟨17, .data⟩ (by simp) rfl
          refine wpOp_val ho (by cases ho; rfl) (w' := W) (v := (.bool false)) (by cases ho; simp [execOp, go_sem, p12, p17]) ?_
          cases ho
          exact ⟨u, by simp [Act.put], hI⟩
        · have p18 : done 18 = true := by cases ho; exact hdep ⟨18, .data⟩ (by simp) rfl
          refine wpOp_val ho (by cases ho; rfl) (w' := W) (v := (.bool false)) (by cases ho; simp [execOp, go_sem, p18]) ?_
          cases ho
          exact ⟨u, by simp [Act.put], hI⟩
        · have pg : done 19 = true := by cases ho; exact hdep ⟨19, .guard⟩ (by simp) rfl
          refine wpOp_pass ho (by cases ho; simp [Region.wanted, yielded, go_sem, pg]) ?_
          cases ho
          exact ⟨(), by simp [Act.put], hI⟩
        · have p20 : done 20 = true := by cases ho; exact hdep ⟨20, .data⟩ (by simp) rfl
          have pg : done 19 = true := by cases ho; exact hdep ⟨19, .guard⟩ (by simp) rfl
          refine wpOp_pass ho (by cases ho; simp [Region.wanted, yielded, go_sem, pg]) ?_
          cases ho
          exact ⟨(), by simp [Act.put], hI⟩
        · have p21 : done 21 = true := by cases ho; exact hdep ⟨21, .data⟩ (by simp) rfl
          have pg : done 19 = true := by cases ho; exact hdep ⟨19, .guard⟩ (by simp) rfl
          refine wpOp_pass ho (by cases ho; simp [Region.wanted, yielded, go_sem, pg]) ?_
          cases ho
          exact ⟨(), by simp [Act.put], hI⟩
        · have pg : done 19 = true := by cases ho; exact hdep ⟨19, .guard⟩ (by simp) rfl
          refine wpOp_pass ho (by cases ho; simp [Region.wanted, yielded, go_sem, pg]) ?_
          cases ho
          exact ⟨(), by simp [Act.put], hI⟩
        · have p23 : done 23 = true := by cases ho; exact hdep ⟨23, .data⟩ (by simp) rfl
          have pg : done 19 = true := by cases ho; exact hdep ⟨19, .guard⟩ (by simp) rfl
          refine wpOp_pass ho (by cases ho; simp [Region.wanted, yielded, go_sem, pg]) ?_
          cases ho
          exact ⟨(), by simp [Act.put], hI⟩
        · have p24 : done 24 = true := by cases ho; exact hdep ⟨24, .data⟩ (by simp) rfl
          have pg : done 19 = true := by cases ho; exact hdep ⟨19, .guard⟩ (by simp) rfl
          refine wpOp_pass ho (by cases ho; simp [Region.wanted, yielded, go_sem, pg]) ?_
          cases ho
          exact ⟨(), by simp [Act.put], hI⟩
        · have p22 : done 22 = true := by cases ho; exact hdep ⟨22, .data⟩ (by simp) rfl
          have p25 : done 25 = true := by cases ho; exact hdep ⟨25, .data⟩ (by simp) rfl
          have pg : done 19 = true := by cases ho; exact hdep ⟨19, .guard⟩ (by simp) rfl
          refine wpOp_pass ho (by cases ho; simp [Region.wanted, yielded, go_sem, pg]) ?_
          cases ho
          exact ⟨(), by simp [Act.put], hI⟩
        · have p19 : done 19 = true := by cases ho; exact hdep ⟨19, .data⟩ (by simp) rfl
          have p26 : done 26 = true := by cases ho; exact hdep ⟨26, .data⟩ (by simp) rfl
          refine wpOp_val ho (by cases ho; rfl) (w' := W) (v := (.bool false)) (by cases ho; simp [execOp, go_sem, p19, p26]) ?_
          cases ho
          exact ⟨u, by simp [Act.put], hI⟩
        · have p27 : done 27 = true := by cases ho; exact hdep ⟨27, .data⟩ (by simp) rfl
          refine wpOp_val ho (by cases ho; rfl) (w' := W) (v := (.bool false)) (by cases ho; simp [execOp, go_sem, p27]) ?_
          cases ho
          exact ⟨u, by simp [Act.put], hI⟩
        · have pg : done 28 = true := by cases ho; exact hdep ⟨28, .guard⟩ (by simp) rfl
          refine wpOp_pass ho (by cases ho; simp [Region.wanted, yielded, go_sem, pg]) ?_
          cases ho
          exact ⟨(), by simp [Act.put], hI⟩
        · have p29 : done 29 = true := by cases ho; exact hdep ⟨29, .data⟩ (by simp) rfl
          have pg : done 28 = true := by cases ho; exact hdep ⟨28, .guard⟩ (by simp) rfl
          refine wpOp_pass ho (by cases ho; simp [Region.wanted, yielded, go_sem, pg]) ?_
          cases ho
          exact ⟨(), by simp [Act.put], hI⟩
        · have p30 : done 30 = true := by cases ho; exact hdep ⟨30, .data⟩ (by simp) rfl
          have pg : done 28 = true := by cases ho; exact hdep ⟨28, .guard⟩ (by simp) rfl
          refine wpOp_pass ho (by cases ho; simp [Region.wanted, yielded, go_sem, pg]) ?_
          cases ho
          exact ⟨(), by simp [Act.put], hI⟩
        · have pg : done 28 = true := by cases ho; exact hdep ⟨28, .guard⟩ (by simp) rfl
          refine wpOp_pass ho (by cases ho; simp [Region.wanted, yielded, go_sem, pg]) ?_
          cases ho
          exact ⟨(), by simp [Act.put], hI⟩
        · have p32 : done 32 = true := by cases ho; exact hdep ⟨32, .data⟩ (by simp) rfl
          have pg : done 28 = true := by cases ho; exact hdep ⟨28, .guard⟩ (by simp) rfl
          refine wpOp_pass ho (by cases ho; simp [Region.wanted, yielded, go_sem, pg]) ?_
          cases ho
          exact ⟨(), by simp [Act.put], hI⟩
        · have p33 : done 33 = true := by cases ho; exact hdep ⟨33, .data⟩ (by simp) rfl
          have pg : done 28 = true := by cases ho; exact hdep ⟨28, .guard⟩ (by simp) rfl
          refine wpOp_pass ho (by cases ho; simp [Region.wanted, yielded, go_sem, pg]) ?_
          cases ho
          exact ⟨(), by simp [Act.put], hI⟩
        · have p31 : done 31 = true := by cases ho; exact hdep ⟨31, .data⟩ (by simp) rfl
          have p34 : done 34 = true := by cases ho; exact hdep ⟨34, .data⟩ (by simp) rfl
          have pg : done 28 = true := by cases ho; exact hdep ⟨28, .guard⟩ (by simp) rfl
          refine wpOp_pass ho (by cases ho; simp [Region.wanted, yielded, go_sem, pg]) ?_
          cases ho
          exact ⟨(), by simp [Act.put], hI⟩
        · have p28 : done 28 = true := by cases ho; exact hdep ⟨28, .data⟩ (by simp) rfl
          have p35 : done 35 = true := by cases ho; exact hdep ⟨35, .data⟩ (by simp) rfl
          refine wpOp_val ho (by cases ho; rfl) (w' := W) (v := (.bool false)) (by cases ho; simp [execOp, go_sem, p28, p35]) ?_
          cases ho
          exact ⟨u, by simp [Act.put], hI⟩
        · have p36 : done 36 = true := by cases ho; exact hdep ⟨36, .data⟩ (by simp) rfl
          refine wpOp_val ho (by cases ho; rfl) (w' := W) (v := (.bool false)) (by cases ho; simp [execOp, go_sem, p36]) ?_
          cases ho
          exact ⟨u, by simp [Act.put], hI⟩
      · rintro done ac W hall ⟨u, rfl, hI⟩
        have hl := hall
        clear hall
        have e0 := hl 0 (by decide)
        have e1 := hl 1 (by decide)
        have e2 := hl 2 (by decide)
        have e3 := hl 3 (by decide)
        have e4 := hl 4 (by decide)
        have e5 := hl 5 (by decide)
        have e6 := hl 6 (by decide)
        have e7 := hl 7 (by decide)
        have e8 := hl 8 (by decide)
        have e9 := hl 9 (by decide)
        have e10 := hl 10 (by decide)
        have e11 := hl 11 (by decide)
        have e12 := hl 12 (by decide)
        have e13 := hl 13 (by decide)
        have e14 := hl 14 (by decide)
        have e15 := hl 15 (by decide)
        have e16 := hl 16 (by decide)
        have e17 := hl 17 (by decide)
        have e18 := hl 18 (by decide)
        have e19 := hl 19 (by decide)
        have e20 := hl 20 (by decide)
        have e21 := hl 21 (by decide)
        have e22 := hl 22 (by decide)
        have e23 := hl 23 (by decide)
        have e24 := hl 24 (by decide)
        have e25 := hl 25 (by decide)
        have e26 := hl 26 (by decide)
        have e27 := hl 27 (by decide)
        have e28 := hl 28 (by decide)
        have e29 := hl 29 (by decide)
        have e30 := hl 30 (by decide)
        have e31 := hl 31 (by decide)
        have e32 := hl 32 (by decide)
        have e33 := hl 33 (by decide)
        have e34 := hl 34 (by decide)
        have e35 := hl 35 (by decide)
        have e36 := hl 36 (by decide)
        have e37 := hl 37 (by decide)
        have HBI := Lib.hid hI
        simp only [e0, e1, e2, e3, e4, e5, e6, e7, e8, e9, e10, e11, e12, e13, e14, e15, e16, e17, e18, e19, e20, e21, e22, e23, e24, e25, e26, e27, e28, e29, e30, e31, e32, e33, e34, e35, e36, e37, if_true]
        clear e0 e1 e2 e3 e4 e5 e6 e7 e8 e9 e10 e11 e12 e13 e14 e15 e16 e17 e18 e19 e20 e21 e22 e23 e24 e25 e26 e27 e28 e29 e30 e31 e32 e33 e34 e35 e36 e37 hl hI
        go_wp2_with fail
        go_ret
        exact ⟨by rw [HRV.out]; rfl, HBW.out.trans (HBI.out.mono HBW.out.size)⟩
  · have hk : (xk == yk) = false := by simp [hhk]
    have HRV : Hid (rr = false) := by show _ = _; rw [HR.out]; exact decide_eq_false fun h => hhk h.1
    clear hhk
    refine wp_region_inv2 (by kernel_rfl) (hord_of2 (by kernel_rfl)) (fun done ac W => ∃ (u : Unit), ac = { tmps := #[.agg #[.int .i64 xk, .int .i64 xc, .int .i64 xn, .slice ab nb cb, .slice ak nk ck], .agg #[.int .i64 yk, .int .i64 yc, .int .i64 yn, .slice ab' nb' cb', .slice ak' nk' ck'], (.pointer (some ⟨B, 0, none⟩)), (.pointer (some ⟨C, 0, none⟩)), if done 37 then (.bool false) else .bool false, if done 0 then (.pointer (some ⟨B, 0, none⟩)) else undef, if done 1 then (.int .i64 xk) else undef, if done 2 then (.pointer (some ⟨C, 0, none⟩)) else undef, if done 3 then (.int .i64 yk) else undef, if done 4 then (.bool false) else undef, if done 5 then (.bool false) else undef, if done 6 then undef else undef, if done 7 then undef else undef, if done 8 then undef else undef, if done 9 then undef else undef, if done 10 then undef else undef, if done 11 then (.bool false) else undef, if done 12 then (.bool false) else undef, if done 13 then undef else undef, if done 14 then undef else undef, if done 15 then undef else undef, if done 16 then undef else undef, if done 17 then undef else undef, if done 18 then (.bool false) else undef, if done 19 then (.bool false) else undef, if done 20 then undef else undef, if done 21 then undef else undef, if done 22 then undef else undef, if done 23 then undef else undef, if done 24 then undef else undef, if done 25 then undef else undef, if done 26 then undef else undef, if done 27 then (.bool false) else undef, if done 28 then (.bool false) else undef, if done 29 then undef else undef, if done 30 then undef else undef, if done 31 then undef else undef, if done 32 then undef else undef, if done 33 then undef else undef, if done 34 then undef else undef, if done 35 then undef else undef, if done 36 then (.bool false) else undef], defers := [] } ∧ Below W0.heap.size W0 W) ?_ ?_ ?_
    · exact ⟨(), by simp, (Below.refl _ W0).drew⟩
    · intro done ac W j oq ho hd hdep hcl ⟨u, hlit, hI⟩
      have hj : j < 38 := (Array.getElem?_eq_some_iff.1 ho).1
      subst hlit
      obtain rfl | rfl | rfl | rfl | rfl | rfl | rfl | rfl | rfl | rfl | rfl | rfl | rfl | rfl | rfl | rfl | rfl | rfl | rfl | rfl | rfl | rfl | rfl | rfl | rfl | rfl | rfl | rfl | rfl | rfl | rfl | rfl | rfl | rfl | rfl | rfl | rfl | rfl : j = 0 ∨ j = 1 ∨ j = 2 ∨ j = 3 ∨ j = 4 ∨ j = 5 ∨ j = 6 ∨ j = 7 ∨ j = 8 ∨ j = 9 ∨ j = 10 ∨ j = 11 ∨ j = 12 ∨ j = 13 ∨ j = 14 ∨ j = 15 ∨ j = 16 ∨ j = 17 ∨ j = 18 ∨ j = 19 ∨ j = 20 ∨ j = 21 ∨ j = 22 ∨ j = 23 ∨ j = 24 ∨ j = 25 ∨ j = 26 ∨ j = 27 ∨ j = 28 ∨ j = 29 ∨ j = 30 ∨ j = 31 ∨ j = 32 ∨ j = 33 ∨ j = 34 ∨ j = 35 ∨ j = 36 ∨ j = 37 := by omega
      · refine wpOp_val ho (by cases ho; rfl) (w' := W) (v := (.pointer (some ⟨B, 0, none⟩))) (by cases ho; simp [execOp, go_sem]) ?_
        cases ho
        exact ⟨u, by simp [Act.put], hI⟩
      · have p0 : done 0 = true := by cases ho; exact hdep ⟨0, .data⟩ (by simp) rfl
        have hx := blk_cell ((hI.block B (blk_lt HKB.out)).trans HKB.out) 0
        simp at hx
        refine wpOp_val ho (by cases ho; rfl) (w' := W) (v := (.int .i64 xk)) (by cases ho; simp [execOp, go_sem, p0, hx]) ?_
        cases ho
        exact ⟨(), by simp [Act.put], hI⟩
      · refine wpOp_val ho (by cases ho; rfl) (w' := W) (v := (.pointer (some ⟨C, 0, none⟩))) (by cases ho; simp [execOp, go_sem]) ?_
        cases ho
        exact ⟨u, by simp [Act.put], hI⟩
      · have p2 : done 2 = true := by cases ho; exact hdep ⟨2, .data⟩ (by simp) rfl
        have hx := blk_cell ((hI.block C (blk_lt HKC.out)).trans HKC.out) 0
        simp at hx
        refine wpOp_val ho (by cases ho; rfl) (w' := W) (v := (.int .i64 yk)) (by cases ho; simp [execOp, go_sem, p2, hx]) ?_
        cases ho
        exact ⟨(), by simp [Act.put], hI⟩
      · have p1 : done 1 = true := by cases ho; exact hdep ⟨1, .data⟩ (by simp) rfl
        have p3 : done 3 = true := by cases ho; exact hdep ⟨3, .data⟩ (by simp) rfl
        refine wpOp_val ho (by cases ho; rfl) (w' := W) (v := (.bool false)) (by cases ho; simp [execOp, go_sem, p1, p3, hk]) ?_
        cases ho
        exact ⟨u, by simp [Act.put], hI⟩
      · have p4 : done 4 = true := by cases ho; exact hdep ⟨4, .data⟩ (by simp) rfl
        refine wpOp_val ho (by cases ho; rfl) (w' := W) (v := (.bool false)) (by cases ho; simp [execOp, go_sem, p4]) ?_
        cases ho
        exact ⟨u, by simp [Act.put], hI⟩
      · have pg : done 5 = true := by cases ho; exact hdep ⟨5, .guard⟩ (by simp) rfl
        refine wpOp_pass ho (by cases ho; simp [Region.wanted, yielded, go_sem, pg]) ?_
        cases ho
        exact ⟨(), by simp [Act.put], hI⟩
      · have p6 : done 6 = true := by cases ho; exact hdep ⟨6, .data⟩ (by simp) rfl
        have pg : done 5 = true := by cases ho; exact hdep ⟨5, .guard⟩ (by simp) rfl
        refine wpOp_pass ho (by cases ho; simp [Region.wanted, yielded, go_sem, pg]) ?_
        cases ho
        exact ⟨(), by simp [Act.put], hI⟩
      · have pg : done 5 = true := by cases ho; exact hdep ⟨5, .guard⟩ (by simp) rfl
        refine wpOp_pass ho (by cases ho; simp [Region.wanted, yielded, go_sem, pg]) ?_
        cases ho
        exact ⟨(), by simp [Act.put], hI⟩
      · have p8 : done 8 = true := by cases ho; exact hdep ⟨8, .data⟩ (by simp) rfl
        have pg : done 5 = true := by cases ho; exact hdep ⟨5, .guard⟩ (by simp) rfl
        refine wpOp_pass ho (by cases ho; simp [Region.wanted, yielded, go_sem, pg]) ?_
        cases ho
        exact ⟨(), by simp [Act.put], hI⟩
      · have p7 : done 7 = true := by cases ho; exact hdep ⟨7, .data⟩ (by simp) rfl
        have p9 : done 9 = true := by cases ho; exact hdep ⟨9, .data⟩ (by simp) rfl
        have pg : done 5 = true := by cases ho; exact hdep ⟨5, .guard⟩ (by simp) rfl
        refine wpOp_pass ho (by cases ho; simp [Region.wanted, yielded, go_sem, pg]) ?_
        cases ho
        exact ⟨(), by simp [Act.put], hI⟩
      · have p5 : done 5 = true := by cases ho; exact hdep ⟨5, .data⟩ (by simp) rfl
        have p10 : done 10 = true := by cases ho; exact hdep ⟨10, .data⟩ (by simp) rfl
        refine wpOp_val ho (by cases ho; rfl) (w' := W) (v := (.bool false)) (by cases ho; simp [execOp, go_sem, p5, p10]) ?_
        cases ho
        exact ⟨u, by simp [Act.put], hI⟩
      · have p11 : done 11 = true := by cases ho; exact hdep ⟨11, .data⟩ (by simp) rfl
        refine wpOp_val ho (by cases ho; rfl) (w' := W) (v := (.bool false)) (by cases ho; simp [execOp, go_sem, p11]) ?_
        cases ho
        exact ⟨u, by simp [Act.put], hI⟩
      · have pg : done 12 = true := by cases ho; exact hdep ⟨12, .guard⟩ (by simp) rfl
        refine wpOp_pass ho (by cases ho; simp [Region.wanted, yielded, go_sem, pg]) ?_
        cases ho
        exact ⟨(), by simp [Act.put], hI⟩
      · have p13 : done 13 = true := by cases ho; exact hdep ⟨13, .data⟩ (by simp) rfl
        have pg : done 12 = true := by cases ho; exact hdep ⟨12, .guard⟩ (by simp) rfl
        refine wpOp_pass ho (by cases ho; simp [Region.wanted, yielded, go_sem, pg]) ?_
        cases ho
        exact ⟨(), by simp [Act.put], hI⟩
      · have pg : done 12 = true := by cases ho; exact hdep ⟨12, .guard⟩ (by simp) rfl
        refine wpOp_pass ho (by cases ho; simp [Region.wanted, yielded, go_sem, pg]) ?_
        cases ho
        exact ⟨(), by simp [Act.put], hI⟩
      · have p15 : done 15 = true := by cases ho; exact hdep ⟨15, .data⟩ (by simp) rfl
        have pg : done 12 = true := by cases ho; exact hdep ⟨12, .guard⟩ (by simp) rfl
        refine wpOp_pass ho (by cases ho; simp [Region.wanted, yielded, go_sem, pg]) ?_
        cases ho
        exact ⟨(), by simp [Act.put], hI⟩
      · have p14 : done 14 = true := by cases ho; exact hdep ⟨14, .data⟩ (by simp) rfl
        have p16 : done 16 = true := by cases ho; exact hdep ⟨16, .data⟩ (by simp) rfl
        have pg : done 12 = true := by cases ho; exact hdep ⟨12, .guard⟩ (by simp) rfl
        refine wpOp_pass ho (by cases ho; simp [Region.wanted, yielded, go_sem, pg]) ?_
        cases ho
        exact ⟨(), by simp [Act.put], hI⟩
      · have p12 : done 12 = true := by cases ho; exact hdep ⟨12, .data⟩ (by simp) rfl
        have p17 : done 17 = true := by cases ho; exact hdep ⟨17, .data⟩ (by simp) rfl
        refine wpOp_val ho (by cases ho; rfl) (w' := W) (v := (.bool false)) (by cases ho; simp [execOp, go_sem, p12, p17]) ?_
        cases ho
        exact ⟨u, by simp [Act.put], hI⟩
      · have p18 : done 18 = true := by cases ho; exact hdep ⟨18, .data⟩ (by simp) rfl
        refine wpOp_val ho (by cases ho; rfl) (w' := W) (v := (.bool false)) (by cases ho; simp [execOp, go_sem, p18]) ?_
        cases ho
        exact ⟨u, by simp [Act.put], hI⟩
      · have pg : done 19 = true := by cases ho; exact hdep ⟨19, .guard⟩ (by simp) rfl
        refine wpOp_pass ho (by cases ho; simp [Region.wanted, yielded, go_sem, pg]) ?_
        cases ho
        exact ⟨(), by simp [Act.put], hI⟩
      · have p20 : done 20 = true := by cases ho; exact hdep ⟨20, .data⟩ (by simp) rfl
        have pg : done 19 = true := by cases ho; exact hdep ⟨19, .guard⟩ (by simp) rfl
        refine wpOp_pass ho (by cases ho; simp [Region.wanted, yielded, go_sem, pg]) ?_
        cases ho
        exact ⟨(), by simp [Act.put], hI⟩
      · have p21 : done 21 = true := by cases ho; exact hdep ⟨21, .data⟩ (by simp) rfl
        have pg : done 19 = true := by cases ho; exact hdep ⟨19, .guard⟩ (by simp) rfl
        refine wpOp_pass ho (by cases ho; simp [Region.wanted, yielded, go_sem, pg]) ?_
        cases ho
        exact ⟨(), by simp [Act.put], hI⟩
      · have pg : done 19 = true := by cases ho; exact hdep ⟨19, .guard⟩ (by simp) rfl
        refine wpOp_pass ho (by cases ho; simp [Region.wanted, yielded, go_sem, pg]) ?_
        cases ho
        exact ⟨(), by simp [Act.put], hI⟩
      · have p23 : done 23 = true := by cases ho; exact hdep ⟨23, .data⟩ (by simp) rfl
        have pg : done 19 = true := by cases ho; exact hdep ⟨19, .guard⟩ (by simp) rfl
        refine wpOp_pass ho (by cases ho; simp [Region.wanted, yielded, go_sem, pg]) ?_
        cases ho
        exact ⟨(), by simp [Act.put], hI⟩
      · have p24 : done 24 = true := by cases ho; exact hdep ⟨24, .data⟩ (by simp) rfl
        have pg : done 19 = true := by cases ho; exact hdep ⟨19, .guard⟩ (by simp) rfl
        refine wpOp_pass ho (by cases ho; simp [Region.wanted, yielded, go_sem, pg]) ?_
        cases ho
        exact ⟨(), by simp [Act.put], hI⟩
      · have p22 : done 22 = true := by cases ho; exact hdep ⟨22, .data⟩ (by simp) rfl
        have p25 : done 25 = true := by cases ho; exact hdep ⟨25, .data⟩ (by simp) rfl
        have pg : done 19 = true := by cases ho; exact hdep ⟨19, .guard⟩ (by simp) rfl
        refine wpOp_pass ho (by cases ho; simp [Region.wanted, yielded, go_sem, pg]) ?_
        cases ho
        exact ⟨(), by simp [Act.put], hI⟩
      · have p19 : done 19 = true := by cases ho; exact hdep ⟨19, .data⟩ (by simp) rfl
        have p26 : done 26 = true := by cases ho; exact hdep ⟨26, .data⟩ (by simp) rfl
        refine wpOp_val ho (by cases ho; rfl) (w' := W) (v := (.bool false)) (by cases ho; simp [execOp, go_sem, p19, p26]) ?_
        cases ho
        exact ⟨u, by simp [Act.put], hI⟩
      · have p27 : done 27 = true := by cases ho; exact hdep ⟨27, .data⟩ (by simp) rfl
        refine wpOp_val ho (by cases ho; rfl) (w' := W) (v := (.bool false)) (by cases ho; simp [execOp, go_sem, p27]) ?_
        cases ho
        exact ⟨u, by simp [Act.put], hI⟩
      · have pg : done 28 = true := by cases ho; exact hdep ⟨28, .guard⟩ (by simp) rfl
        refine wpOp_pass ho (by cases ho; simp [Region.wanted, yielded, go_sem, pg]) ?_
        cases ho
        exact ⟨(), by simp [Act.put], hI⟩
      · have p29 : done 29 = true := by cases ho; exact hdep ⟨29, .data⟩ (by simp) rfl
        have pg : done 28 = true := by cases ho; exact hdep ⟨28, .guard⟩ (by simp) rfl
        refine wpOp_pass ho (by cases ho; simp [Region.wanted, yielded, go_sem, pg]) ?_
        cases ho
        exact ⟨(), by simp [Act.put], hI⟩
      · have p30 : done 30 = true := by cases ho; exact hdep ⟨30, .data⟩ (by simp) rfl
        have pg : done 28 = true := by cases ho; exact hdep ⟨28, .guard⟩ (by simp) rfl
        refine wpOp_pass ho (by cases ho; simp [Region.wanted, yielded, go_sem, pg]) ?_
        cases ho
        exact ⟨(), by simp [Act.put], hI⟩
      · have pg : done 28 = true := by cases ho; exact hdep ⟨28, .guard⟩ (by simp) rfl
        refine wpOp_pass ho (by cases ho; simp [Region.wanted, yielded, go_sem, pg]) ?_
        cases ho
        exact ⟨(), by simp [Act.put], hI⟩
      · have p32 : done 32 = true := by cases ho; exact hdep ⟨32, .data⟩ (by simp) rfl
        have pg : done 28 = true := by cases ho; exact hdep ⟨28, .guard⟩ (by simp) rfl
        refine wpOp_pass ho (by cases ho; simp [Region.wanted, yielded, go_sem, pg]) ?_
        cases ho
        exact ⟨(), by simp [Act.put], hI⟩
      · have p33 : done 33 = true := by cases ho; exact hdep ⟨33, .data⟩ (by simp) rfl
        have pg : done 28 = true := by cases ho; exact hdep ⟨28, .guard⟩ (by simp) rfl
        refine wpOp_pass ho (by cases ho; simp [Region.wanted, yielded, go_sem, pg]) ?_
        cases ho
        exact ⟨(), by simp [Act.put], hI⟩
      · have p31 : done 31 = true := by cases ho; exact hdep ⟨31, .data⟩ (by simp) rfl
        have p34 : done 34 = true := by cases ho; exact hdep ⟨34, .data⟩ (by simp) rfl
        have pg : done 28 = true := by cases ho; exact hdep ⟨28, .guard⟩ (by simp) rfl
        refine wpOp_pass ho (by cases ho; simp [Region.wanted, yielded, go_sem, pg]) ?_
        cases ho
        exact ⟨(), by simp [Act.put], hI⟩
      · have p28 : done 28 = true := by cases ho; exact hdep ⟨28, .data⟩ (by simp) rfl
        have p35 : done 35 = true := by cases ho; exact hdep ⟨35, .data⟩ (by simp) rfl
        refine wpOp_val ho (by cases ho; rfl) (w' := W) (v := (.bool false)) (by cases ho; simp [execOp, go_sem, p28, p35]) ?_
        cases ho
        exact ⟨u, by simp [Act.put], hI⟩
      · have p36 : done 36 = true := by cases ho; exact hdep ⟨36, .data⟩ (by simp) rfl
        refine wpOp_val ho (by cases ho; rfl) (w' := W) (v := (.bool false)) (by cases ho; simp [execOp, go_sem, p36]) ?_
        cases ho
        exact ⟨u, by simp [Act.put], hI⟩
    · rintro done ac W hall ⟨u, rfl, hI⟩
      have hl := hall
      clear hall
      have e0 := hl 0 (by decide)
      have e1 := hl 1 (by decide)
      have e2 := hl 2 (by decide)
      have e3 := hl 3 (by decide)
      have e4 := hl 4 (by decide)
      have e5 := hl 5 (by decide)
      have e6 := hl 6 (by decide)
      have e7 := hl 7 (by decide)
      have e8 := hl 8 (by decide)
      have e9 := hl 9 (by decide)
      have e10 := hl 10 (by decide)
      have e11 := hl 11 (by decide)
      have e12 := hl 12 (by decide)
      have e13 := hl 13 (by decide)
      have e14 := hl 14 (by decide)
      have e15 := hl 15 (by decide)
      have e16 := hl 16 (by decide)
      have e17 := hl 17 (by decide)
      have e18 := hl 18 (by decide)
      have e19 := hl 19 (by decide)
      have e20 := hl 20 (by decide)
      have e21 := hl 21 (by decide)
      have e22 := hl 22 (by decide)
      have e23 := hl 23 (by decide)
      have e24 := hl 24 (by decide)
      have e25 := hl 25 (by decide)
      have e26 := hl 26 (by decide)
      have e27 := hl 27 (by decide)
      have e28 := hl 28 (by decide)
      have e29 := hl 29 (by decide)
      have e30 := hl 30 (by decide)
      have e31 := hl 31 (by decide)
      have e32 := hl 32 (by decide)
      have e33 := hl 33 (by decide)
      have e34 := hl 34 (by decide)
      have e35 := hl 35 (by decide)
      have e36 := hl 36 (by decide)
      have e37 := hl 37 (by decide)
      have HBI := Lib.hid hI
      simp only [e0, e1, e2, e3, e4, e5, e6, e7, e8, e9, e10, e11, e12, e13, e14, e15, e16, e17, e18, e19, e20, e21, e22, e23, e24, e25, e26, e27, e28, e29, e30, e31, e32, e33, e34, e35, e36, e37, if_true]
      clear e0 e1 e2 e3 e4 e5 e6 e7 e8 e9 e10 e11 e12 e13 e14 e15 e16 e17 e18 e19 e20 e21 e22 e23 e24 e25 e26 e27 e28 e29 e30 e31 e32 e33 e34 e35 e36 e37 hl hI
      go_wp2_with fail
      go_ret
      exact ⟨by rw [HRV.out]; rfl, HBW.out.trans (HBI.out.mono HBW.out.size)⟩
end Go.Proofs.YtelaijogjgcloaaDoor

