/- The document's Event: may an event be, by a plan? Condition: the event lies in memory. -/
import Derived.Test.YtelaijogjgcloaaDoorRsm
set_option linter.unusedVariables false
set_option linter.unusedSimpArgs false
namespace Go.Proofs.YtelaijogjgcloaaDoor
open Go.RowKit Go.Ice Go.Scr

set_option maxHeartbeats 16000000 in
set_option maxRecDepth 40000 in
theorem event35 (w : World) (p : Plan) (v : Value) (x : Ev) (hx : EvAt w v x) :
    Calls Tryd.prog 35 #[.agg #[.int .i64 p.g, .int .i64 p.s, .int .i64 p.l, .int .i64 p.p, .int .i64 p.c], v] w fun e w' => e = .returned (.bool (rightE p x)) ∧ Below w.heap.size w w' := by
  obtain ⟨vb, vk, rfl, hb, hk⟩ := hx
  obtain ⟨rr, hrr⟩ : ∃ rr, rr = rightE p x := ⟨_, rfl⟩
  rw [← hrr]
  obtain ⟨ab, cb, rfl, hmb⟩ := hb.form
  obtain ⟨ak, ck, rfl, hmk⟩ := hk.form
  unfold rightE at hrr
  have HR := Lib.hid hrr
  clear hrr hmb hmk
  obtain ⟨g, s, l, q, pc⟩ := p
  obtain ⟨k, c, n, bytes, keep⟩ := x
  unfold evV
  dsimp only at hb hk HR ⊢
  obtain ⟨nb, hnb⟩ : ∃ nb, nb = bytes.length := ⟨_, rfl⟩
  obtain ⟨nk, hnk⟩ : ∃ nk, nk = keep.length := ⟨_, rfl⟩
  rw [← hnb] at hb HR ⊢
  rw [← hnk] at hk HR ⊢
  have HBY := Lib.hid hb
  have HKE := Lib.hid hk
  have HNB := Lib.hid hnb
  have HNK := Lib.hid hnk
  clear hb hk hnb hnk
  obtain ⟨A, B, W0, HA, HB, HW, HK, HZ⟩ := boxed2 w #[.int .i64 g, .int .i64 s, .int .i64 l, .int .i64 q, .int .i64 pc] 23 #[.int .i64 k, .int .i64 c, .int .i64 n, .slice ab nb cb, .slice ak nk ck] 41
  have b0 : W0.cell? ⟨B, 0, none⟩ = some (.int .i64 k) := blk_cell HK.out.b1 0
  have b1 : W0.cell? ⟨B, 1, none⟩ = some (.int .i64 c) := blk_cell HK.out.b1 1
  have b2 : W0.cell? ⟨B, 2, none⟩ = some (.int .i64 n) := blk_cell HK.out.b1 2
  have b3 : W0.cell? ⟨B, 3, none⟩ = some (.slice ab nb cb) := blk_cell HK.out.b1 3
  have b4 : W0.cell? ⟨B, 4, none⟩ = some (.slice ak nk ck) := blk_cell HK.out.b1 4
  have a4 : W0.cell? ⟨A, 4, none⟩ = some (.int .i64 pc) := blk_cell HK.out.b0 4
  go_enter Tryd.func35, Tryd.ntmps35
  go_upto_region 1 with fail
  rw [HW.out, HB.out, HA.out]
  clear HA HB HW
  by_cases h1 : c < 0
  · have HX := Lib.hid (show rr = false by rw [HR.out]; simp only [Bool.and_eq_false_iff, decide_eq_false_iff_not]; left; omega)
    go_wp2_with fail
    go_ret
    exact ⟨by rw [HX.out]; rfl, HK.out.below⟩
  · by_cases h2 : pc ≤ c
    · have HX := Lib.hid (show rr = false by rw [HR.out]; simp only [Bool.and_eq_false_iff, decide_eq_false_iff_not]; left; omega)
      go_wp2_with fail
      go_ret
      exact ⟨by rw [HX.out]; rfl, HK.out.below⟩
    · by_cases h3 : n < 0
      · have HX := Lib.hid (show rr = false by rw [HR.out]; simp only [Bool.and_eq_false_iff, decide_eq_false_iff_not]; left; omega)
        go_wp2_with fail
        go_ret
        exact ⟨by rw [HX.out]; rfl, HK.out.below⟩
      · by_cases h4 : 4294967295 < n
        · have HX := Lib.hid (show rr = false by rw [HR.out]; simp only [Bool.and_eq_false_iff, decide_eq_false_iff_not]; left; omega)
          go_wp2_with fail
          go_ret
          exact ⟨by rw [HX.out]; rfl, HK.out.below⟩
        · by_cases h5 : (4096 : Int) < (nb : Nat)
          · have HX := Lib.hid (show rr = false by rw [HR.out]; simp only [Bool.and_eq_false_iff, decide_eq_false_iff_not]; left; omega)
            go_wp2_with fail
            go_ret
            exact ⟨by rw [HX.out]; rfl, HK.out.below⟩
          · by_cases h6 : (4096 : Int) < (nk : Nat)
            · have HX := Lib.hid (show rr = false by rw [HR.out]; simp only [Bool.and_eq_false_iff, decide_eq_false_iff_not]; left; omega)
              go_wp2_with fail
              go_ret
              exact ⟨by rw [HX.out]; rfl, HK.out.below⟩
            · have HG : Hid ((0 ≤ c ∧ c < pc) ∧ (0 ≤ n ∧ n < 4294967296) ∧ nb ≤ 4096 ∧ nk ≤ 4096) := by show _ ∧ _; omega
              have HRV : Hid (1 ≤ k ∧ k ≤ 8 → rr = decide (only ⟨k, c, n, bytes, keep⟩ = ⟨k, c, n, bytes, keep⟩)) := by
                intro hk
                rw [HR.out, decide_eq_true ⟨hk, HG.out⟩, Bool.true_and]
                exact decide_eq_decide.2 eq_comm
              have HRN : Hid (¬ (1 ≤ k ∧ k ≤ 8) → rr = false) := by
                intro hk
                rw [HR.out, decide_eq_false (fun h => hk h.1), Bool.false_and]
              have HK3 : Hid (Kp w [(W0.heap.size, .cells #[.int .i64 k, .int .i64 0, .int .i64 0, .slice none 0 0, .slice none 0 0] 41), (A, .cells #[.int .i64 g, .int .i64 s, .int .i64 l, .int .i64 q, .int .i64 pc] 23), (B, .cells #[.int .i64 k, .int .i64 c, .int .i64 n, .slice ab nb cb, .slice ak nk ck] 41)] (W0.alloc (.cells #[.int .i64 k, .int .i64 0, .int .i64 0, .slice none 0 0, .slice none 0 0] 41))) := HK.out.alloc _
              have hAlt := blk_lt HK.out.b0
              have hBlt := blk_lt HK.out.b1
              have HDZ := Lib.hid (show w.heap.size ≤ W0.heap.size ∧ W0.heap.size ≠ B ∧ W0.heap.size ≠ A by have := HK.out.below.size; omega)
              obtain ⟨D, hD⟩ : ∃ D, W0.heap.size = D := ⟨_, rfl⟩
              rw [hD] at HK3 HDZ
              go_upto_region 4 with fail
              refine wp_world (R := fun W => Kp w [(D, .cells #[.int .i64 k, .int .i64 0, .int .i64 0, .slice none 0 0, .slice none 0 0] 41), (A, .cells #[.int .i64 g, .int .i64 s, .int .i64 l, .int .i64 q, .int .i64 pc] 23), (B, .cells #[.int .i64 k, .int .i64 c, .int .i64 n, .slice ab nb cb, .slice ak nk ck] 41)] W) HK3.out ?_
              intro w2 hk2
              have HK2 := Lib.hid hk2
              clear hk2 HK3 b0 b1 b2 b3 b4 a4 HK hD hAlt hBlt h1 h2 h3 h4 h5 h6
              have b0 : w2.cell? ⟨B, 0, none⟩ = some (.int .i64 k) := blk_cell HK2.out.b2 0
              have b1 : w2.cell? ⟨B, 1, none⟩ = some (.int .i64 c) := blk_cell HK2.out.b2 1
              have b2 : w2.cell? ⟨B, 2, none⟩ = some (.int .i64 n) := blk_cell HK2.out.b2 2
              have b3 : w2.cell? ⟨B, 3, none⟩ = some (.slice ab nb cb) := blk_cell HK2.out.b2 3
              have b4 : w2.cell? ⟨B, 4, none⟩ = some (.slice ak nk ck) := blk_cell HK2.out.b2 4
              have d0 : w2.cell? ⟨D, 0, none⟩ = some (.int .i64 k) := blk_cell HK2.out.b0 0
              have d1 : w2.cell? ⟨D, 1, none⟩ = some (.int .i64 0) := blk_cell HK2.out.b0 1
              have d2 : w2.cell? ⟨D, 2, none⟩ = some (.int .i64 0) := blk_cell HK2.out.b0 2
              have d3 : w2.cell? ⟨D, 3, none⟩ = some (.slice none 0 0) := blk_cell HK2.out.b0 3
              have d4 : w2.cell? ⟨D, 4, none⟩ = some (.slice none 0 0) := blk_cell HK2.out.b0 4
              have f0 := fun r => blk_frozen HK2.out.b0 r
              have hDB : D ≠ B := HDZ.out.2.1
              have hBD : B ≠ D := fun e => hDB e.symm
              by_cases h1 : k = 1
              · subst h1
                have HX : Hid (rr = decide ((⟨1, c, 0, bytes, []⟩ : Ev) = ⟨1, c, n, bytes, keep⟩)) := by
                  have e : only ⟨1, c, n, bytes, keep⟩ = ⟨1, c, 0, bytes, []⟩ := by simp [only]
                  show _ = _
                  rw [HRV.out (by decide), e]
                have HLL : Hid (∀ p ∈ [(A, Obj.cells #[.int .i64 g, .int .i64 s, .int .i64 l, .int .i64 q, .int .i64 pc] 23), (B, Obj.cells #[.int .i64 1, .int .i64 c, .int .i64 n, .slice ab nb cb, .slice ak nk ck] 41)], p.1 ≠ D) := by
                  intro p hp
                  rcases List.mem_cons.1 hp with rfl | hp
                  · exact fun e => HDZ.out.2.2 e.symm
                  · rcases List.mem_cons.1 hp with rfl | hp
                    · exact fun e => HDZ.out.2.1 e.symm
                    · cases hp
                go_upto_region 7 with fail
                clear b0 d0 b1 d1 b2 d2 b3 d3 b4 d4 f0
                refine wp_region_inv2 (by kernel_rfl) (hord_of2 (by kernel_rfl)) (fun done ac W => ∃ (u : Unit), ac = { tmps := #[.agg #[.int .i64 g, .int .i64 s, .int .i64 l, .int .i64 q, .int .i64 pc], .agg #[.int .i64 1, .int .i64 c, .int .i64 n, .slice ab nb cb, .slice ak nk ck], (.pointer (some ⟨A, 0, none⟩)), (.pointer (some ⟨B, 0, none⟩)), .bool false, (.pointer (some ⟨D, 0, none⟩)), (.pointer (some ⟨B, 1, none⟩)), .int .i64 c, .bool false, .bool false, (.pointer (some ⟨B, 1, none⟩)), .int .i64 c, (.pointer (some ⟨A, 4, none⟩)), .int .i64 pc, .bool false, .bool false, .bool false, (.pointer (some ⟨B, 2, none⟩)), .int .i64 n, .bool false, .bool false, .bool false, (.pointer (some ⟨B, 2, none⟩)), .int .i64 n, .bool false, .bool false, .bool false, (.pointer (some ⟨B, 3, none⟩)), .slice ab nb cb, .int .i64 (nb : Nat), .bool false, .bool false, .bool false, (.pointer (some ⟨B, 4, none⟩)), .slice ak nk ck, .int .i64 (nk : Nat), .bool false, .bool false, (.pointer (some ⟨B, 0, none⟩)), .int .i64 1, .agg #[.int .i64 1, .int .i64 0, .int .i64 0, .slice none 0 0, .slice none 0 0], (.pointer (some ⟨B, 0, none⟩)), .int .i64 1, .bool true, .bool true, if done 0 then (.pointer (some ⟨B, 1, none⟩)) else undef, if done 1 then (.int .i64 c) else undef, if done 2 then (.pointer (some ⟨B, 3, none⟩)) else undef, if done 3 then (.slice ab nb cb) else undef, if done 4 then (.pointer (some ⟨D, 1, none⟩)) else undef, if done 6 then (.pointer (some ⟨D, 3, none⟩)) else undef, undef, undef, undef, undef, undef, undef, undef, undef, undef, undef, undef, undef, undef, undef, undef, undef, undef, undef, undef, undef, undef, undef, undef], defers := [] } ∧ Kp w [(D, .cells #[.int .i64 1, if done 5 then .int .i64 c else .int .i64 0, .int .i64 0, if done 7 then .slice ab nb cb else .slice none 0 0, .slice none 0 0] 41), (A, .cells #[.int .i64 g, .int .i64 s, .int .i64 l, .int .i64 q, .int .i64 pc] 23), (B, .cells #[.int .i64 1, .int .i64 c, .int .i64 n, .slice ab nb cb, .slice ak nk ck] 41)] W) ?_ ?_ ?_
                · exact ⟨(), by simp, by simpa using HK2.out.drew⟩
                · intro done ac W j oq ho hd hdep hcl ⟨u, hlit, hI⟩
                  have hj : j < 8 := (Array.getElem?_eq_some_iff.1 ho).1
                  subst hlit
                  obtain rfl | rfl | rfl | rfl | rfl | rfl | rfl | rfl : j = 0 ∨ j = 1 ∨ j = 2 ∨ j = 3 ∨ j = 4 ∨ j = 5 ∨ j = 6 ∨ j = 7 := by omega
                  · refine wpOp_val ho (by cases ho; rfl) (w' := W) (v := (.pointer (some ⟨B, 1, none⟩))) (by cases ho; simp [execOp, go_sem]) ?_
                    cases ho
                    exact ⟨(), by simp [Act.put], by simpa using hI⟩
                  · have p0 : done 0 = true := by cases ho; exact hdep ⟨0, .data⟩ (by simp) rfl
                    have h1 : W.cell? ⟨B, 1, none⟩ = some (.int .i64 c) := blk_cell hI.b2 1
                    refine wpOp_val ho (by cases ho; rfl) (w' := W) (v := (.int .i64 c)) (by cases ho; simp [execOp, go_sem, p0, h1]) ?_
                    cases ho
                    exact ⟨(), by simp [Act.put], by simpa using hI⟩
                  · refine wpOp_val ho (by cases ho; rfl) (w' := W) (v := (.pointer (some ⟨B, 3, none⟩))) (by cases ho; simp [execOp, go_sem]) ?_
                    cases ho
                    exact ⟨(), by simp [Act.put], by simpa using hI⟩
                  · have p2 : done 2 = true := by cases ho; exact hdep ⟨2, .data⟩ (by simp) rfl
                    have h1 : W.cell? ⟨B, 3, none⟩ = some (.slice ab nb cb) := blk_cell hI.b2 3
                    refine wpOp_val ho (by cases ho; rfl) (w' := W) (v := (.slice ab nb cb)) (by cases ho; simp [execOp, go_sem, p2, h1]) ?_
                    cases ho
                    exact ⟨(), by simp [Act.put], by simpa using hI⟩
                  · refine wpOp_val ho (by cases ho; rfl) (w' := W) (v := (.pointer (some ⟨D, 1, none⟩))) (by cases ho; simp [execOp, go_sem]) ?_
                    cases ho
                    exact ⟨(), by simp [Act.put], by simpa using hI⟩
                  · have p1 : done 1 = true := by cases ho; exact hdep ⟨1, .data⟩ (by simp) rfl
                    have p4 : done 4 = true := by cases ho; exact hdep ⟨4, .data⟩ (by simp) rfl
                    obtain ⟨x0, hx0⟩ : ∃ x0, W.cell? ⟨D, 1, none⟩ = some x0 := ⟨_, blk_cell hI.b0 1⟩
                    have h2 := blk_frozen hI.b0 1
                    refine wpOp_skip ho (by cases ho; rfl) (w' := W.setCell ⟨D, 1, none⟩ (.int .i64 c)) (by cases ho; simp [execOp, go_sem, p1, p4, hx0, h2]) ?_
                    cases ho
                    exact ⟨(), by simp [Act.put], by simpa using hI.set0 (k := 1) HDZ.out.1 HLL.out (.int .i64 c)⟩
                  · refine wpOp_val ho (by cases ho; rfl) (w' := W) (v := (.pointer (some ⟨D, 3, none⟩))) (by cases ho; simp [execOp, go_sem]) ?_
                    cases ho
                    exact ⟨(), by simp [Act.put], by simpa using hI⟩
                  · have p3 : done 3 = true := by cases ho; exact hdep ⟨3, .data⟩ (by simp) rfl
                    have p6 : done 6 = true := by cases ho; exact hdep ⟨6, .data⟩ (by simp) rfl
                    obtain ⟨x0, hx0⟩ : ∃ x0, W.cell? ⟨D, 3, none⟩ = some x0 := ⟨_, blk_cell hI.b0 3⟩
                    have h2 := blk_frozen hI.b0 3
                    refine wpOp_skip ho (by cases ho; rfl) (w' := W.setCell ⟨D, 3, none⟩ (.slice ab nb cb)) (by cases ho; simp [execOp, go_sem, p3, p6, hx0, h2]) ?_
                    cases ho
                    exact ⟨(), by simp [Act.put], by simpa using hI.set0 (k := 3) HDZ.out.1 HLL.out (.slice ab nb cb)⟩
                · rintro done ac w3 hall ⟨u, rfl, hI⟩
                  have hl := hall
                  clear hall
                  have e0 := hl 0 (by decide)
                  have e1 := hl 1 (by decide)
                  have e2 := hl 2 (by decide)
                  have e3 := hl 3 (by decide)
                  have e4 := hl 4 (by decide)
                  have e5 := hl 5 (by decide)
                  have e6 := hl 6 (by decide)
                  have e7 := hl 7 (by decide)
                  simp only [e0, e1, e2, e3, e4, e6, if_true]
                  simp only [e5, e7, if_true] at hI
                  have HK4 := Lib.hid hI
                  clear e0 e1 e2 e3 e4 e5 e6 e7 hl hI
                  have b0 : w3.cell? ⟨B, 0, none⟩ = some (.int .i64 1) := blk_cell HK4.out.b2 0
                  have b1 : w3.cell? ⟨B, 1, none⟩ = some (.int .i64 c) := blk_cell HK4.out.b2 1
                  have b2 : w3.cell? ⟨B, 2, none⟩ = some (.int .i64 n) := blk_cell HK4.out.b2 2
                  have b3 : w3.cell? ⟨B, 3, none⟩ = some (.slice ab nb cb) := blk_cell HK4.out.b2 3
                  have b4 : w3.cell? ⟨B, 4, none⟩ = some (.slice ak nk ck) := blk_cell HK4.out.b2 4
                  have d0 : w3.cell? ⟨D, 0, none⟩ = some (.int .i64 1) := blk_cell HK4.out.b0 0
                  have d1 : w3.cell? ⟨D, 1, none⟩ = some (.int .i64 c) := blk_cell HK4.out.b0 1
                  have d2 : w3.cell? ⟨D, 2, none⟩ = some (.int .i64 0) := blk_cell HK4.out.b0 2
                  have d3 : w3.cell? ⟨D, 3, none⟩ = some (.slice ab nb cb) := blk_cell HK4.out.b0 3
                  have d4 : w3.cell? ⟨D, 4, none⟩ = some (.slice none 0 0) := blk_cell HK4.out.b0 4
                  go_wp2_with fail
                  refine (rsame33 _ _ _ ⟨1, c, 0, bytes, []⟩ ⟨1, c, n, bytes, keep⟩ ⟨_, _, rfl, HBY.out.below HK4.out.below (Nat.le_refl _), boolsNil _⟩ ⟨_, _, rfl, HBY.out.below HK4.out.below (Nat.le_refl _), HKE.out.below HK4.out.below (Nat.le_refl _)⟩ (by simp only []; decide) (by have := HG.out; have := HNK.out; simp only []; omega)).mono ?_
                  rintro e w9 ⟨he9, hb9⟩
                  rw [← HX.out] at he9
                  subst he9
                  have HB9 := Lib.hid ((HK4.out.below).trans (hb9.mono (HK4.out.below).size))
                  clear hb9
                  go_wp2_with fail
                  go_ret
                  exact ⟨rfl, HB9.out⟩
              by_cases h2 : k = 2
              · subst h2
                clear h1
                have HX : Hid (rr = decide ((⟨2, 0, n, [], []⟩ : Ev) = ⟨2, c, n, bytes, keep⟩)) := by
                  have e : only ⟨2, c, n, bytes, keep⟩ = ⟨2, 0, n, [], []⟩ := by simp [only]
                  show _ = _
                  rw [HRV.out (by decide), e]
                go_wp2_with fail
                refine (rsame33 _ _ _ ⟨2, 0, n, [], []⟩ ⟨2, c, n, bytes, keep⟩ ⟨_, _, rfl, bytesNil _, boolsNil _⟩ ⟨_, _, rfl, HBY.out.below (HK2.out.below.setCell (p := ⟨D, 2, none⟩) HDZ.out.1 (.int .i64 n)) (Nat.le_refl _), HKE.out.below (HK2.out.below.setCell (p := ⟨D, 2, none⟩) HDZ.out.1 (.int .i64 n)) (Nat.le_refl _)⟩ (by simp only []; decide) (by have := HG.out; have := HNK.out; simp only []; omega)).mono ?_
                rintro e w9 ⟨he9, hb9⟩
                rw [← HX.out] at he9
                subst he9
                have HB9 := Lib.hid (((HK2.out.below.setCell (p := ⟨D, 2, none⟩) HDZ.out.1 (.int .i64 n))).trans (hb9.mono ((HK2.out.below.setCell (p := ⟨D, 2, none⟩) HDZ.out.1 (.int .i64 n))).size))
                clear hb9
                go_wp2_with fail
                go_ret
                exact ⟨rfl, HB9.out⟩
              by_cases h5 : k = 5
              · subst h5
                clear h1 h2
                have HX : Hid (rr = decide ((⟨5, 0, n, [], []⟩ : Ev) = ⟨5, c, n, bytes, keep⟩)) := by
                  have e : only ⟨5, c, n, bytes, keep⟩ = ⟨5, 0, n, [], []⟩ := by simp [only]
                  show _ = _
                  rw [HRV.out (by decide), e]
                go_wp2_with fail
                refine (rsame33 _ _ _ ⟨5, 0, n, [], []⟩ ⟨5, c, n, bytes, keep⟩ ⟨_, _, rfl, bytesNil _, boolsNil _⟩ ⟨_, _, rfl, HBY.out.below (HK2.out.below.setCell (p := ⟨D, 2, none⟩) HDZ.out.1 (.int .i64 n)) (Nat.le_refl _), HKE.out.below (HK2.out.below.setCell (p := ⟨D, 2, none⟩) HDZ.out.1 (.int .i64 n)) (Nat.le_refl _)⟩ (by simp only []; decide) (by have := HG.out; have := HNK.out; simp only []; omega)).mono ?_
                rintro e w9 ⟨he9, hb9⟩
                rw [← HX.out] at he9
                subst he9
                have HB9 := Lib.hid (((HK2.out.below.setCell (p := ⟨D, 2, none⟩) HDZ.out.1 (.int .i64 n))).trans (hb9.mono ((HK2.out.below.setCell (p := ⟨D, 2, none⟩) HDZ.out.1 (.int .i64 n))).size))
                clear hb9
                go_wp2_with fail
                go_ret
                exact ⟨rfl, HB9.out⟩
              by_cases h6 : k = 6
              · subst h6
                clear h1 h2 h5
                have HX : Hid (rr = decide ((⟨6, 0, n, [], []⟩ : Ev) = ⟨6, c, n, bytes, keep⟩)) := by
                  have e : only ⟨6, c, n, bytes, keep⟩ = ⟨6, 0, n, [], []⟩ := by simp [only]
                  show _ = _
                  rw [HRV.out (by decide), e]
                go_wp2_with fail
                refine (rsame33 _ _ _ ⟨6, 0, n, [], []⟩ ⟨6, c, n, bytes, keep⟩ ⟨_, _, rfl, bytesNil _, boolsNil _⟩ ⟨_, _, rfl, HBY.out.below (HK2.out.below.setCell (p := ⟨D, 2, none⟩) HDZ.out.1 (.int .i64 n)) (Nat.le_refl _), HKE.out.below (HK2.out.below.setCell (p := ⟨D, 2, none⟩) HDZ.out.1 (.int .i64 n)) (Nat.le_refl _)⟩ (by simp only []; decide) (by have := HG.out; have := HNK.out; simp only []; omega)).mono ?_
                rintro e w9 ⟨he9, hb9⟩
                rw [← HX.out] at he9
                subst he9
                have HB9 := Lib.hid (((HK2.out.below.setCell (p := ⟨D, 2, none⟩) HDZ.out.1 (.int .i64 n))).trans (hb9.mono ((HK2.out.below.setCell (p := ⟨D, 2, none⟩) HDZ.out.1 (.int .i64 n))).size))
                clear hb9
                go_wp2_with fail
                go_ret
                exact ⟨rfl, HB9.out⟩
              by_cases h3 : k = 3
              · subst h3
                clear h1 h2 h5 h6
                have HX : Hid (rr = decide ((⟨3, 0, 0, [], []⟩ : Ev) = ⟨3, c, n, bytes, keep⟩)) := by
                  have e : only ⟨3, c, n, bytes, keep⟩ = ⟨3, 0, 0, [], []⟩ := by simp [only]
                  show _ = _
                  rw [HRV.out (by decide), e]
                go_wp2_with fail
                refine (rsame33 _ _ _ ⟨3, 0, 0, [], []⟩ ⟨3, c, n, bytes, keep⟩ ⟨_, _, rfl, bytesNil _, boolsNil _⟩ ⟨_, _, rfl, HBY.out.below HK2.out.below (Nat.le_refl _), HKE.out.below HK2.out.below (Nat.le_refl _)⟩ (by simp only []; decide) (by have := HG.out; have := HNK.out; simp only []; omega)).mono ?_
                rintro e w9 ⟨he9, hb9⟩
                rw [← HX.out] at he9
                subst he9
                have HB9 := Lib.hid ((HK2.out.below).trans (hb9.mono (HK2.out.below).size))
                clear hb9
                go_wp2_with fail
                go_ret
                exact ⟨rfl, HB9.out⟩
              by_cases h4 : k = 4
              · subst h4
                clear h1 h2 h5 h6 h3
                have HX : Hid (rr = decide ((⟨4, 0, 0, [], []⟩ : Ev) = ⟨4, c, n, bytes, keep⟩)) := by
                  have e : only ⟨4, c, n, bytes, keep⟩ = ⟨4, 0, 0, [], []⟩ := by simp [only]
                  show _ = _
                  rw [HRV.out (by decide), e]
                go_wp2_with fail
                refine (rsame33 _ _ _ ⟨4, 0, 0, [], []⟩ ⟨4, c, n, bytes, keep⟩ ⟨_, _, rfl, bytesNil _, boolsNil _⟩ ⟨_, _, rfl, HBY.out.below HK2.out.below (Nat.le_refl _), HKE.out.below HK2.out.below (Nat.le_refl _)⟩ (by simp only []; decide) (by have := HG.out; have := HNK.out; simp only []; omega)).mono ?_
                rintro e w9 ⟨he9, hb9⟩
                rw [← HX.out] at he9
                subst he9
                have HB9 := Lib.hid ((HK2.out.below).trans (hb9.mono (HK2.out.below).size))
                clear hb9
                go_wp2_with fail
                go_ret
                exact ⟨rfl, HB9.out⟩
              by_cases h7 : k = 7
              · subst h7
                clear h1 h2 h5 h6 h3 h4
                have HX : Hid (rr = decide ((⟨7, 0, 0, [], keep⟩ : Ev) = ⟨7, c, n, bytes, keep⟩)) := by
                  have e : only ⟨7, c, n, bytes, keep⟩ = ⟨7, 0, 0, [], keep⟩ := by simp [only]
                  show _ = _
                  rw [HRV.out (by decide), e]
                go_wp2_with fail
                refine (rsame33 _ _ _ ⟨7, 0, 0, [], keep⟩ ⟨7, c, n, bytes, keep⟩ ⟨_, _, rfl, bytesNil _, HKE.out.below (HK2.out.below.setCell (p := ⟨D, 4, none⟩) HDZ.out.1 (.slice ak nk ck)) (Nat.le_refl _)⟩ ⟨_, _, rfl, HBY.out.below (HK2.out.below.setCell (p := ⟨D, 4, none⟩) HDZ.out.1 (.slice ak nk ck)) (Nat.le_refl _), HKE.out.below (HK2.out.below.setCell (p := ⟨D, 4, none⟩) HDZ.out.1 (.slice ak nk ck)) (Nat.le_refl _)⟩ (by simp only []; have := HG.out; have := HNK.out; omega) (by have := HG.out; have := HNK.out; simp only []; omega)).mono ?_
                rintro e w9 ⟨he9, hb9⟩
                rw [← HX.out] at he9
                subst he9
                have HB9 := Lib.hid (((HK2.out.below.setCell (p := ⟨D, 4, none⟩) HDZ.out.1 (.slice ak nk ck))).trans (hb9.mono ((HK2.out.below.setCell (p := ⟨D, 4, none⟩) HDZ.out.1 (.slice ak nk ck))).size))
                clear hb9
                go_wp2_with fail
                go_ret
                exact ⟨rfl, HB9.out⟩
              by_cases h8 : k = 8
              · subst h8
                clear h1 h2 h5 h6 h3 h4 h7
                have HX : Hid (rr = decide ((⟨8, c, 0, [], []⟩ : Ev) = ⟨8, c, n, bytes, keep⟩)) := by
                  have e : only ⟨8, c, n, bytes, keep⟩ = ⟨8, c, 0, [], []⟩ := by simp [only]
                  show _ = _
                  rw [HRV.out (by decide), e]
                go_wp2_with fail
                refine (rsame33 _ _ _ ⟨8, c, 0, [], []⟩ ⟨8, c, n, bytes, keep⟩ ⟨_, _, rfl, bytesNil _, boolsNil _⟩ ⟨_, _, rfl, HBY.out.below (HK2.out.below.setCell (p := ⟨D, 1, none⟩) HDZ.out.1 (.int .i64 c)) (Nat.le_refl _), HKE.out.below (HK2.out.below.setCell (p := ⟨D, 1, none⟩) HDZ.out.1 (.int .i64 c)) (Nat.le_refl _)⟩ (by simp only []; decide) (by have := HG.out; have := HNK.out; simp only []; omega)).mono ?_
                rintro e w9 ⟨he9, hb9⟩
                rw [← HX.out] at he9
                subst he9
                have HB9 := Lib.hid (((HK2.out.below.setCell (p := ⟨D, 1, none⟩) HDZ.out.1 (.int .i64 c))).trans (hb9.mono ((HK2.out.below.setCell (p := ⟨D, 1, none⟩) HDZ.out.1 (.int .i64 c))).size))
                clear hb9
                go_wp2_with fail
                go_ret
                exact ⟨rfl, HB9.out⟩
              have q1 : (k == 1) = false := by simp [h1]
              have q2 : (k == 2) = false := by simp [h2]
              have q5 : (k == 5) = false := by simp [h5]
              have q6 : (k == 6) = false := by simp [h6]
              have q3 : (k == 3) = false := by simp [h3]
              have q4 : (k == 4) = false := by simp [h4]
              have q7 : (k == 7) = false := by simp [h7]
              have q8 : (k == 8) = false := by simp [h8]
              have HX := Lib.hid (HRN.out (by omega))
              clear h1 h2 h5 h6 h3 h4 h7 h8
              go_wp2_with fail
              go_ret
              exact ⟨by rw [HX.out]; rfl, HK2.out.below⟩
end Go.Proofs.YtelaijogjgcloaaDoor
