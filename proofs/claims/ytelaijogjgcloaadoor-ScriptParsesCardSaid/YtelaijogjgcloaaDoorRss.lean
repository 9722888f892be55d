/- The document's Same, at scripts. Conditions: the scripts lie in memory, their bools are not more than a million. -/
import Derived.Test.YtelaijogjgcloaaDoorRsm
set_option linter.unusedVariables false
set_option linter.unusedSimpArgs false
namespace Go.Proofs.YtelaijogjgcloaaDoor
open Go.RowKit Go.Ice Go.Scr

set_option maxHeartbeats 16000000 in
set_option maxRecDepth 100000 in
theorem rsame13 (w : World) (ua ub : Value) (x y : Scr) (hx : ScrAt w ua x) (hy : ScrAt w ub y) (hxk : ∀ e ∈ x.evs, e.keep.length ≤ 1000000) (hyk : ∀ e ∈ y.evs, e.keep.length ≤ 1000000) :
    Calls Tryd.prog 13 #[ua, ub] w fun e w' => e = .returned (.bool (decide (x = y))) ∧ Below w.heap.size w w' := by
  obtain ⟨va, rfl, ha⟩ := hx
  obtain ⟨vb, rfl, hb⟩ := hy
  obtain ⟨rr, hrr⟩ : ∃ rr, rr = decide (x = y) := ⟨_, rfl⟩
  rw [← hrr]
  obtain ⟨p, l⟩ := x
  obtain ⟨p', l'⟩ := y
  rw [show decide ((⟨p, l⟩ : Scr) = ⟨p', l'⟩) = decide (p = p' ∧ l = l') by congr 1; rw [Scr.mk.injEq]] at hrr
  have HR := Lib.hid hrr
  have HXK := Lib.hid hxk
  have HYK := Lib.hid hyk
  dsimp only at ha hb HXK HYK
  clear hrr hxk hyk
  obtain ⟨a, ca, rfl, hma⟩ := ha.form
  obtain ⟨b, cb, rfl, hmb⟩ := hb.form
  unfold scrV
  dsimp only
  unfold maxLen at hma hmb
  obtain ⟨na, hna⟩ : ∃ n, n = l.length := ⟨_, rfl⟩
  obtain ⟨nb, hnb⟩ : ∃ n, n = l'.length := ⟨_, rfl⟩
  rw [← hna] at ha hma ⊢
  rw [← hnb] at hb hmb ⊢
  have HNA := Lib.hid hna
  have HNB := Lib.hid hnb
  clear hna hnb
  obtain ⟨B, C, W0, HB, HC, HW, HK, HZ⟩ := boxed2 w #[.int .i64 p.g, .int .i64 p.s, .int .i64 p.l, .int .i64 p.p, .int .i64 p.c, .slice a na ca] 26 #[.int .i64 p'.g, .int .i64 p'.s, .int .i64 p'.l, .int .i64 p'.p, .int .i64 p'.c, .slice b nb cb] 26
  have HA := Lib.hid (ha.below HK.out.below (Nat.le_refl _))
  have HBB := Lib.hid (hb.below HK.out.below (Nat.le_refl _))
  clear ha hb
  obtain ⟨g0, s0, l0, q0, c0⟩ := p
  obtain ⟨g1, s1, l1, q1, c1⟩ := p'
  have HPE : Hid ((⟨g0, s0, l0, q0, c0⟩ : Plan) = ⟨g1, s1, l1, q1, c1⟩ ↔ g0 = g1 ∧ s0 = s1 ∧ l0 = l1 ∧ q0 = q1 ∧ c0 = c1) := by show _ ↔ _; rw [Plan.mk.injEq]
  dsimp only at HK HW ⊢
  have x00 : W0.cell? ⟨B, 0, none⟩ = some (.int .i64 g0) := blk_cell HK.out.b0 0
  have x01 : W0.cell? ⟨B, 1, none⟩ = some (.int .i64 s0) := blk_cell HK.out.b0 1
  have x02 : W0.cell? ⟨B, 2, none⟩ = some (.int .i64 l0) := blk_cell HK.out.b0 2
  have x03 : W0.cell? ⟨B, 3, none⟩ = some (.int .i64 q0) := blk_cell HK.out.b0 3
  have x04 : W0.cell? ⟨B, 4, none⟩ = some (.int .i64 c0) := blk_cell HK.out.b0 4
  have x05 : W0.cell? ⟨B, 5, none⟩ = some (.slice a na ca) := blk_cell HK.out.b0 5
  have x10 : W0.cell? ⟨C, 0, none⟩ = some (.int .i64 g1) := blk_cell HK.out.b1 0
  have x11 : W0.cell? ⟨C, 1, none⟩ = some (.int .i64 s1) := blk_cell HK.out.b1 1
  have x12 : W0.cell? ⟨C, 2, none⟩ = some (.int .i64 l1) := blk_cell HK.out.b1 2
  have x13 : W0.cell? ⟨C, 3, none⟩ = some (.int .i64 q1) := blk_cell HK.out.b1 3
  have x14 : W0.cell? ⟨C, 4, none⟩ = some (.int .i64 c1) := blk_cell HK.out.b1 4
  have x15 : W0.cell? ⟨C, 5, none⟩ = some (.slice b nb cb) := blk_cell HK.out.b1 5
  go_enter Tryd.func13, Tryd.ntmps13
  go_upto_region 1 with fail
  rw [HC.out, HB.out, HW.out]
  clear HC HB HW
  by_cases hg : g0 = g1
  · subst hg
    by_cases hs : s0 = s1
    · subst hs
      by_cases hl : l0 = l1
      · subst hl
        by_cases hq : q0 = q1
        · subst hq
          by_cases hc : c0 = c1
          · subst hc
            by_cases hn : na = nb
            · subst hn
              have HPL : Hid (rr = decide (l = l')) := by show _ = _; rw [HR.out]; simp
              have HBC : Hid (∀ W, Below W0.heap.size W0 W → W.cell? ⟨B, 5, none⟩ = some (.slice a na ca) ∧ W.cell? ⟨C, 5, none⟩ = some (.slice b na cb)) := fun W hW => ⟨blk_cell (HK.out.step hW).b0 5, blk_cell (HK.out.step hW).b1 5⟩
              go_wp2_with fail
              go_loopg [5, 23] na (fun g iv kv wr => ∃ k : Nat, g = na - k ∧ k ≤ na ∧ kv = .int .i64 k ∧ Hid (Below W0.heap.size W0 wr ∧ ∀ i e e', i < k → l[i]? = some e → l'[i]? = some e' → e = e'))
              case atStart => exact ⟨0, rfl, by omega, rfl, Below.refl _ _, fun i e e' hi => by omega⟩
              case round =>
                obtain ⟨k, rfl, hk, rfl, HJ⟩ := hrel
                by_cases hlt : k < na
                · obtain ⟨xe, hxe⟩ : ∃ x, l[k]? = some x := ⟨l[k]'(by rw [← HNA.out]; exact hlt), List.getElem?_eq_getElem _⟩
                  obtain ⟨ye, hye⟩ : ∃ x, l'[k]? = some x := ⟨l'[k]'(by rw [← HNB.out]; exact hlt), List.getElem?_eq_getElem _⟩
                  have HXE := Lib.hid hxe
                  have HYE := Lib.hid hye
                  obtain ⟨bx, ox, cx, vbx, vkx, e1, e2, e3, e4, a0, a1, a2, a3, a4, hbx, hkx⟩ := HA.out.at hxe
                  obtain ⟨by', oy, cy, vby, vky, f1, f2, f3, f4, d0, d1, d2, d3, d4, hby, hky⟩ := HBB.out.at hye
                  rw [← HNA.out] at e1 e2
                  rw [← HNB.out] at f1 f2
                  injection e1 with z1 z2 z3
                  subst z1 z3
                  injection f1 with z1 z2 z3
                  subst z1 z3
                  obtain ⟨abx, cbx, rfl, _⟩ := hbx.form
                  obtain ⟨akx, ckx, rfl, _⟩ := hkx.form
                  obtain ⟨aby, cby, rfl, _⟩ := hby.form
                  obtain ⟨aky, cky, rfl, _⟩ := hky.form
                  have HBX := Lib.hid hbx
                  have HKX := Lib.hid hkx
                  have HBY := Lib.hid hby
                  have HKY := Lib.hid hky
                  unfold maxLen at e3 f3
                  clear hxe hye hbx hkx hby hky
                  have HJB : Hid (Below W0.heap.size W0 wr) := HJ.out.1
                  obtain ⟨xk, xc, xn, xb, xp⟩ := xe
                  obtain ⟨yk, yc, yn, yb, yp⟩ := ye
                  dsimp only at a0 a1 a2 a3 a4 d0 d1 d2 d3 d4 HBX HKX HBY HKY
                  obtain ⟨m1, hm1⟩ : ∃ n, n = xb.length := ⟨_, rfl⟩
                  obtain ⟨m2, hm2⟩ : ∃ n, n = xp.length := ⟨_, rfl⟩
                  obtain ⟨m3, hm3⟩ : ∃ n, n = yb.length := ⟨_, rfl⟩
                  obtain ⟨m4, hm4⟩ : ∃ n, n = yp.length := ⟨_, rfl⟩
                  rw [← hm1] at a3 HBX
                  rw [← hm2] at a4 HKX
                  rw [← hm3] at d3 HBY
                  rw [← hm4] at d4 HKY
                  clear hm1 hm2 hm3 hm4
                  have HXX : Hid (EvAt W0 (.agg #[.int .i64 xk, .int .i64 xc, .int .i64 xn, .slice abx m1 cbx, .slice akx m2 ckx]) ⟨xk, xc, xn, xb, xp⟩) := ⟨_, _, rfl, HBX.out, HKX.out⟩
                  have HYY : Hid (EvAt W0 (.agg #[.int .i64 yk, .int .i64 yc, .int .i64 yn, .slice aby m3 cby, .slice aky m4 cky]) ⟨yk, yc, yn, yb, yp⟩) := ⟨_, _, rfl, HBY.out, HKY.out⟩
                  have HXL := Lib.hid (HXK.out _ (List.mem_of_getElem? HXE.out))
                  have HYL := Lib.hid (HYK.out _ (List.mem_of_getElem? HYE.out))
                  have HD : Hid (∀ W, Below W0.heap.size W0 W → (W.cell? ⟨bx, ox + k * 5, none⟩ = some (.int .i64 xk) ∧ W.cell? ⟨bx, ox + k * 5 + 1, none⟩ = some (.int .i64 xc) ∧ W.cell? ⟨bx, ox + k * 5 + 2, none⟩ = some (.int .i64 xn) ∧ W.cell? ⟨bx, ox + k * 5 + 3, none⟩ = some (.slice abx m1 cbx) ∧ W.cell? ⟨bx, ox + k * 5 + 4, none⟩ = some (.slice akx m2 ckx)) ∧
                      (W.cell? ⟨by', oy + k * 5, none⟩ = some (.int .i64 yk) ∧ W.cell? ⟨by', oy + k * 5 + 1, none⟩ = some (.int .i64 yc) ∧ W.cell? ⟨by', oy + k * 5 + 2, none⟩ = some (.int .i64 yn) ∧ W.cell? ⟨by', oy + k * 5 + 3, none⟩ = some (.slice aby m3 cby) ∧ W.cell? ⟨by', oy + k * 5 + 4, none⟩ = some (.slice aky m4 cky))) := fun W hW => by
                    rw [hW.cell (p := ⟨bx, _, none⟩) e4, hW.cell (p := ⟨bx, _, none⟩) e4, hW.cell (p := ⟨bx, _, none⟩) e4, hW.cell (p := ⟨bx, _, none⟩) e4, hW.cell (p := ⟨bx, _, none⟩) e4, hW.cell (p := ⟨by', _, none⟩) f4, hW.cell (p := ⟨by', _, none⟩) f4, hW.cell (p := ⟨by', _, none⟩) f4, hW.cell (p := ⟨by', _, none⟩) f4, hW.cell (p := ⟨by', _, none⟩) f4]
                    exact ⟨⟨a0, a1, a2, a3, a4⟩, d0, d1, d2, d3, d4⟩
                  have hlt1 : (k : Int) < (na : Nat) := by omega
                  clear a0 a1 a2 a3 a4 d0 d1 d2 d3 d4 e4 f4 z2
                  go_upto_region 6 with fail
                  obtain ⟨dd, hdd⟩ : ∃ d, d = decide ((⟨xk, xc, xn, xb, xp⟩ : Ev) = ⟨yk, yc, yn, yb, yp⟩) := ⟨_, rfl⟩
                  have HDD := Lib.hid hdd
                  clear hdd
                  refine wp_region_inv2 (by kernel_rfl) (hord_of2 (by kernel_rfl)) (fun done ac W => ∃ (u : Unit), ac = { tmps := #[.agg #[.int .i64 g0, .int .i64 s0, .int .i64 l0, .int .i64 q0, .int .i64 c0, .slice (some ⟨bx, ox, none⟩) na ca], .agg #[.int .i64 g0, .int .i64 s0, .int .i64 l0, .int .i64 q0, .int .i64 c0, .slice (some ⟨by', oy, none⟩) na cb], (.pointer (some ⟨B, 0, none⟩)), (.pointer (some ⟨C, 0, none⟩)), u4, (.int .i64 (k : Nat)), (.pointer (some ⟨B, 0, none⟩)), .agg #[.int .i64 g0, .int .i64 s0, .int .i64 l0, .int .i64 q0, .int .i64 c0], (.pointer (some ⟨C, 0, none⟩)), .agg #[.int .i64 g0, .int .i64 s0, .int .i64 l0, .int .i64 q0, .int .i64 c0], .bool false, .bool false, (.pointer (some ⟨B, 5, none⟩)), (.slice (some ⟨bx, ox, none⟩) na ca), (.int .i64 (na : Nat)), (.pointer (some ⟨C, 5, none⟩)), (.slice (some ⟨by', oy, none⟩) na cb), (.int .i64 (na : Nat)), .bool false, .bool false, (.pointer (some ⟨B, 5, none⟩)), (.slice (some ⟨bx, ox, none⟩) na ca), (.int .i64 (na : Nat)), (.int .i64 (k : Nat)), .bool true, (.int .i64 (k : Nat)), if done 0 then (.pointer (some ⟨B, 5, none⟩)) else u26, if done 1 then (.slice (some ⟨bx, ox, none⟩) na ca) else u27, if done 2 then (.int .i64 (k : Nat)) else u28, if done 3 then (.pointer (some ⟨bx, ox + k * 5, none⟩)) else u29, if done 4 then (.agg #[.int .i64 xk, .int .i64 xc, .int .i64 xn, .slice abx m1 cbx, .slice akx m2 ckx]) else u30, if done 5 then (.pointer (some ⟨C, 5, none⟩)) else u31, if done 6 then (.slice (some ⟨by', oy, none⟩) na cb) else u32, if done 7 then (.int .i64 (k : Nat)) else u33, if done 8 then (.pointer (some ⟨by', oy + k * 5, none⟩)) else u34, if done 9 then (.agg #[.int .i64 yk, .int .i64 yc, .int .i64 yn, .slice aby m3 cby, .slice aky m4 cky]) else u35, if done 10 then (.bool dd) else u36, if done 11 then (.bool !dd) else u37, u38], defers := [] } ∧ Below W0.heap.size W0 W) ?_ ?_ ?_
                  · exact ⟨(), by simp, HJB.out.drew⟩
                  · intro done ac W j oq ho hd hdep hcl ⟨u, hlit, hI⟩
                    have hj : j < 12 := (Array.getElem?_eq_some_iff.1 ho).1
                    subst hlit
                    obtain rfl | rfl | rfl | rfl | rfl | rfl | rfl | rfl | rfl | rfl | rfl | rfl : j = 0 ∨ j = 1 ∨ j = 2 ∨ j = 3 ∨ j = 4 ∨ j = 5 ∨ j = 6 ∨ j = 7 ∨ j = 8 ∨ j = 9 ∨ j = 10 ∨ j = 11 := by omega
                    · refine wpOp_val ho (by cases ho; rfl) (w' := W) (v := (.pointer (some ⟨B, 5, none⟩))) (by cases ho; simp [execOp, go_sem]) ?_
                      cases ho
                      exact ⟨u, by simp [Act.put], hI⟩
                    · have p0 : done 0 = true := by cases ho; exact hdep ⟨0, .data⟩ (by simp) rfl
                      have hx := (HBC.out W hI).1
                      refine wpOp_val ho (by cases ho; rfl) (w' := W) (v := (.slice (some ⟨bx, ox, none⟩) na ca)) (by cases ho; simp [execOp, go_sem, p0, hx]) ?_
                      cases ho
                      exact ⟨(), by simp [Act.put], hI⟩
                    · refine wpOp_val ho (by cases ho; rfl) (w' := W) (v := (.int .i64 (k : Nat))) (by cases ho; simp [execOp, go_sem]) ?_
                      cases ho
                      exact ⟨u, by simp [Act.put], hI⟩
                    · have p1 : done 1 = true := by cases ho; exact hdep ⟨1, .data⟩ (by simp) rfl
                      have p2 : done 2 = true := by cases ho; exact hdep ⟨2, .data⟩ (by simp) rfl
                      refine wpOp_val ho (by cases ho; rfl) (w' := W) (v := (.pointer (some ⟨bx, ox + k * 5, none⟩))) (by cases ho; simp [execOp, go_sem, p1, p2, hlt, hlt1]) ?_
                      cases ho
                      exact ⟨u, by simp [Act.put], hI⟩
                    · have p3 : done 3 = true := by cases ho; exact hdep ⟨3, .data⟩ (by simp) rfl
                      have hx := (HD.out W hI).1
                      refine wpOp_val ho (by cases ho; rfl) (w' := W) (v := (.agg #[.int .i64 xk, .int .i64 xc, .int .i64 xn, .slice abx m1 cbx, .slice akx m2 ckx])) (by cases ho; simp [execOp, go_sem, p3, hx.1, hx.2.1, hx.2.2.1, hx.2.2.2.1, hx.2.2.2.2]) ?_
                      cases ho
                      exact ⟨(), by simp [Act.put], hI⟩
                    · refine wpOp_val ho (by cases ho; rfl) (w' := W) (v := (.pointer (some ⟨C, 5, none⟩))) (by cases ho; simp [execOp, go_sem]) ?_
                      cases ho
                      exact ⟨u, by simp [Act.put], hI⟩
                    · have p5 : done 5 = true := by cases ho; exact hdep ⟨5, .data⟩ (by simp) rfl
                      have hx := (HBC.out W hI).2
                      refine wpOp_val ho (by cases ho; rfl) (w' := W) (v := (.slice (some ⟨by', oy, none⟩) na cb)) (by cases ho; simp [execOp, go_sem, p5, hx]) ?_
                      cases ho
                      exact ⟨(), by simp [Act.put], hI⟩
                    · refine wpOp_val ho (by cases ho; rfl) (w' := W) (v := (.int .i64 (k : Nat))) (by cases ho; simp [execOp, go_sem]) ?_
                      cases ho
                      exact ⟨u, by simp [Act.put], hI⟩
                    · have p6 : done 6 = true := by cases ho; exact hdep ⟨6, .data⟩ (by simp) rfl
                      have p7 : done 7 = true := by cases ho; exact hdep ⟨7, .data⟩ (by simp) rfl
                      refine wpOp_val ho (by cases ho; rfl) (w' := W) (v := (.pointer (some ⟨by', oy + k * 5, none⟩))) (by cases ho; simp [execOp, go_sem, p6, p7, hlt, hlt1]) ?_
                      cases ho
                      exact ⟨u, by simp [Act.put], hI⟩
                    · have p8 : done 8 = true := by cases ho; exact hdep ⟨8, .data⟩ (by simp) rfl
                      have hx := (HD.out W hI).2
                      refine wpOp_val ho (by cases ho; rfl) (w' := W) (v := (.agg #[.int .i64 yk, .int .i64 yc, .int .i64 yn, .slice aby m3 cby, .slice aky m4 cky])) (by cases ho; simp [execOp, go_sem, p8, hx.1, hx.2.1, hx.2.2.1, hx.2.2.2.1, hx.2.2.2.2]) ?_
                      cases ho
                      exact ⟨(), by simp [Act.put], hI⟩
                    · have p4 : done 4 = true := by cases ho; exact hdep ⟨4, .data⟩ (by simp) rfl
                      have p9 : done 9 = true := by cases ho; exact hdep ⟨9, .data⟩ (by simp) rfl
                      refine wpOp_call ho (by cases ho; rfl) (f := 33) (args := #[(.agg #[.int .i64 xk, .int .i64 xc, .int .i64 xn, .slice abx m1 cbx, .slice akx m2 ckx]), (.agg #[.int .i64 yk, .int .i64 yc, .int .i64 yn, .slice aby m3 cby, .slice aky m4 cky])]) (by cases ho; simp [execOp, go_sem, p4, p9]) ((by rw [HDD.out]; exact rsame33 W _ _ _ _ (HXX.out.below hI (Nat.le_refl _)) (HYY.out.below hI (Nat.le_refl _)) HXL.out HYL.out : Calls Tryd.prog 33 _ W fun e w' => e = .returned (.bool dd) ∧ Below W.heap.size W w')) ?_
                      rintro e w' ⟨rfl, hb⟩
                      cases ho
                      exact ⟨_, rfl, (), by simp [Act.put], hI.trans (hb.mono hI.size)⟩
                    · have p10 : done 10 = true := by cases ho; exact hdep ⟨10, .data⟩ (by simp) rfl
                      refine wpOp_val ho (by cases ho; rfl) (w' := W) (v := (.bool !dd)) (by cases ho; simp [execOp, go_sem, p10]) ?_
                      cases ho
                      exact ⟨u, by simp [Act.put], hI⟩
                  · rintro done ac W hall ⟨u, rfl, hI⟩
                    have hl := hall
                    clear hall
                    have e0 := hl 0 (by decide)
                    have e1 := hl 1 (by decide)
                    have e2 := hl 2 (by decide)
                    have e3 := hl 3 (by decide)
                    have e4 := hl 4 (by decide)
                    have e5 := hl 5 (by decide)
                    have e6 := hl 6 (by decide)
                    have e7 := hl 7 (by decide)
                    have e8 := hl 8 (by decide)
                    have e9 := hl 9 (by decide)
                    have e10 := hl 10 (by decide)
                    have e11 := hl 11 (by decide)
                    have HBI := Lib.hid hI
                    simp only [e0, e1, e2, e3, e4, e5, e6, e7, e8, e9, e10, e11, if_true]
                    clear e0 e1 e2 e3 e4 e5 e6 e7 e8 e9 e10 e11 hl hI
                    cases dd with
                    | true =>
                      go_wp2_with fail
                      go_roundg (na - (k + 1))
                      case measure => omega
                      case rel =>
                        refine ⟨k + 1, rfl, by omega, by go_num, HBI.out, fun i e e' hi he he' => ?_⟩
                        rcases Nat.lt_succ_iff_lt_or_eq.1 hi with h | rfl
                        · exact HJ.out.2 i e e' h he he'
                        · have h1 := HXE.out.symm.trans he
                          have h2 := HYE.out.symm.trans he'
                          injection h1 with h1
                          injection h2 with h2
                          rw [← h1, ← h2]
                          exact of_decide_eq_true HDD.out.symm
                    | false =>
                      have HX : Hid (rr = false) := by
                        show _ = _
                        rw [HPL.out]
                        refine decide_eq_false fun h => of_decide_eq_false HDD.out.symm ?_
                        have h1 := HXE.out
                        rw [h, HYE.out] at h1
                        injection h1 with h1
                        exact h1.symm
                      go_wp2_with fail
                      go_ret
                      exact ⟨by rw [HX.out]; rfl, HK.out.below.trans (HBI.out.mono HK.out.below.size)⟩
                · obtain rfl : k = na := by omega
                  have HLE : Hid (l = l') := by
                    show _ = _
                    refine List.ext_getElem? fun i => ?_
                    rcases Nat.lt_or_ge i k with h | h
                    · have h1 : i < l.length := by rw [← HNA.out]; exact h
                      have h2 : i < l'.length := by rw [← HNB.out]; exact h
                      rw [List.getElem?_eq_getElem h1, List.getElem?_eq_getElem h2, HJ.out.2 i _ _ h (List.getElem?_eq_getElem h1) (List.getElem?_eq_getElem h2)]
                    · rw [List.getElem?_eq_none (by rw [← HNA.out]; exact h), List.getElem?_eq_none (by rw [← HNB.out]; exact h)]
                  have HJB : Hid (Below W0.heap.size W0 wr) := HJ.out.1
                  go_wp2_with fail
                  go_ret
                  exact ⟨by rw [HPL.out, decide_eq_true HLE.out]; rfl, HK.out.below.trans (HJB.out.mono HK.out.below.size)⟩
            · have HX : Hid (rr = false) := by
                show _ = _
                rw [HR.out]; exact decide_eq_false fun h => hn (by rw [HNA.out, HNB.out, h.2])
              have hnn : ((na : Int) == (nb : Int)) = false := beq_eq_false_iff_ne.2 (by omega)
              go_wp2_with fail
              go_ret
              exact ⟨by rw [HX.out]; rfl, HK.out.below⟩
          · have HX : Hid (rr = false) := by
              show _ = _
              rw [HR.out]; exact decide_eq_false fun h => hc (by have := HPE.out.1 h.1; simp_all)
            have hq' : (c0 == c1) = false := by simp [hc]
            go_wp2_with fail
            go_ret
            exact ⟨by rw [HX.out]; rfl, HK.out.below⟩
        · have HX : Hid (rr = false) := by
            show _ = _
            rw [HR.out]; exact decide_eq_false fun h => hq (by have := HPE.out.1 h.1; simp_all)
          have hq' : (q0 == q1) = false := by simp [hq]
          go_wp2_with fail
          go_ret
          exact ⟨by rw [HX.out]; rfl, HK.out.below⟩
      · have HX : Hid (rr = false) := by
          show _ = _
          rw [HR.out]; exact decide_eq_false fun h => hl (by have := HPE.out.1 h.1; simp_all)
        have hq' : (l0 == l1) = false := by simp [hl]
        go_wp2_with fail
        go_ret
        exact ⟨by rw [HX.out]; rfl, HK.out.below⟩
    · have HX : Hid (rr = false) := by
        show _ = _
        rw [HR.out]; exact decide_eq_false fun h => hs (by have := HPE.out.1 h.1; simp_all)
      have hq' : (s0 == s1) = false := by simp [hs]
      go_wp2_with fail
      go_ret
      exact ⟨by rw [HX.out]; rfl, HK.out.below⟩
  · have HX : Hid (rr = false) := by
      show _ = _
      rw [HR.out]; exact decide_eq_false fun h => hg (by have := HPE.out.1 h.1; simp_all)
    have hq' : (g0 == g1) = false := by simp [hg]
    go_wp2_with fail
    go_ret
    exact ⟨by rw [HX.out]; rfl, HK.out.below⟩
end Go.Proofs.YtelaijogjgcloaaDoor
