/- The laws' helper whole. Conditions: the ring was cut to its list, with room behind. -/
import Derived.Test.YtlcdadnfcdjglaaSpl
set_option linter.unusedVariables false
set_option linter.unusedSimpArgs false
namespace Go.Proofs.Ytlcdadnfcdjglaa
open Go.RowKit Go.Ice Go.Ring

set_option maxHeartbeats 8000000 in
theorem whole (w : World) (base g : Nat) (sec : Int) (vw : Value) (l : List Seg) (h : Sht w base g l) (hw : SegsAt w vw l) (hl : l.length ≤ 1000) :
    Calls Try.prog 23 #[ringV sec (shtV g l), ringV sec vw] w fun e w' => e = .returned (.bool true) ∧ Below w.heap.size w w' := by
  obtain ⟨B, C, W0, HB, HC, HW, HK, HZ⟩ := boxed2 w #[.int .i64 sec, shtV g l] 25 #[.int .i64 sec, vw] 25
  have HSS : Hid (sameB sec sec l l = true) := (show sameB sec sec l l = true from by simp [sameB])
  obtain ⟨n, hn⟩ : ∃ n, n = l.length := ⟨_, rfl⟩
  have HN := Lib.hid hn
  unfold shtV at *
  rw [← hn] at HK HW hl ⊢
  have HST : Hid (Kp w [(B, .cells #[.int .i64 sec, .slice (some ⟨g, 0, none⟩) n (n + 2)] 25), (C, .cells #[.int .i64 sec, vw] 25)] W0.drew ∧ Sht W0.drew base g l ∧ SegsAt W0.drew vw l) :=
    ⟨HK.out.drew, h.below HK.out.drew.below, RowAt.below hw HK.out.drew.below (Nat.le_refl _)⟩
  have HWR : Hid (IntKind.i64.wrap ((n : Int) + 1) = (n : Int) + 1) := by show _ = _; rw [IntKind.wrap_i64]; omega
  have HX1 : Hid (n < n + 1) := Nat.lt_succ_self n
  have HX2 : Hid ((n : Int) < ((n + 1 : Nat) : Int)) := by show _ < _; omega
  have HSL : Hid (∀ W : World, (Instr.sliceAt 23 (.slice (some ⟨g, 0, none⟩) n (n + 2)) none (some (.int .i64 ((n : Int) + 1))) none).run Try.prog W = .ok (.slice (some ⟨g, 0, none⟩) (n + 1) (n + 2)) W) := fun W => by
    have := run_slice_to (P := Try.prog) (w := W) Try.underlying23 (by obtain ⟨i, a, b, c, d⟩ := elemSeg.hi; exact ⟨_, run_sizeOf _ a⟩) (some ⟨g, 0, none⟩) n (n + 2) (n + 1) (by omega)
    simpa using this
  clear h hw hn
  unfold ringV
  go_enter Try.func23, Try.ntmps23
  go_upto_region 1 with fail
  rw [HC.out, HB.out, HW.out]
  -- REGION
  refine wp_region_inv2 (by kernel_rfl) (hord_of2 (by kernel_rfl)) (fun done ac W => ∃ (u : Unit), ac = { tmps := #[ringV sec (.slice (some ⟨g, 0, none⟩) n (n + 2)), ringV sec vw, (.pointer (some ⟨B, 0, none⟩)), (.pointer (some ⟨C, 0, none⟩)), if done 19 then (.bool true) else .bool false, if done 0 then (ringV sec (.slice (some ⟨g, 0, none⟩) n (n + 2))) else undef, if done 1 then (ringV sec vw) else undef, if done 2 then (.bool true) else undef, if done 3 then (.bool true) else undef, if done 4 then (.pointer (some ⟨B, 1, none⟩)) else undef, if done 5 then (.slice (some ⟨g, 0, none⟩) n (n + 2)) else undef, if done 6 then (.pointer (some ⟨B, 1, none⟩)) else undef, if done 7 then (.slice (some ⟨g, 0, none⟩) n (n + 2)) else undef, if done 8 then (.int .i64 n) else undef, if done 9 then (.int .i64 ((n : Int) + 1)) else undef, if done 10 then (.slice (some ⟨g, 0, none⟩) (n + 1) (n + 2)) else undef, if done 11 then (.pointer (some ⟨B, 1, none⟩)) else undef, if done 12 then (.slice (some ⟨g, 0, none⟩) n (n + 2)) else undef, if done 13 then (.int .i64 n) else undef, if done 14 then (.pointer (some ⟨g, n * 3, none⟩)) else undef, if done 15 then (.pointer (some ⟨g, n * 3, none⟩)) else undef, if done 16 then (.int .i64 77) else undef, if done 17 then (.bool true) else undef, if done 18 then (.bool true) else undef], defers := [] } ∧ Kp w [(B, .cells #[.int .i64 sec, .slice (some ⟨g, 0, none⟩) n (n + 2)] 25), (C, .cells #[.int .i64 sec, vw] 25)] W ∧ Sht W base g l ∧ SegsAt W vw l) ?_ ?_ ?_
  · exact ⟨(), by simp [ringV], HST.out⟩
  · intro done ac W j oq ho hd hdep hcl ⟨u, hlit, hI⟩
    have hj : j < 20 := (Array.getElem?_eq_some_iff.1 ho).1
    subst hlit
    obtain rfl | rfl | rfl | rfl | rfl | rfl | rfl | rfl | rfl | rfl | rfl | rfl | rfl | rfl | rfl | rfl | rfl | rfl | rfl | rfl : j = 0 ∨ j = 1 ∨ j = 2 ∨ j = 3 ∨ j = 4 ∨ j = 5 ∨ j = 6 ∨ j = 7 ∨ j = 8 ∨ j = 9 ∨ j = 10 ∨ j = 11 ∨ j = 12 ∨ j = 13 ∨ j = 14 ∨ j = 15 ∨ j = 16 ∨ j = 17 ∨ j = 18 ∨ j = 19 := by omega
    · have h0 : W.cell? ⟨B, 0, none⟩ = some (.int .i64 sec) := blk_cell hI.1.b0 0
      have h1 : W.cell? ⟨B, 1, none⟩ = some (.slice (some ⟨g, 0, none⟩) n (n + 2)) := blk_cell hI.1.b0 1
      refine wpOp_val ho (by cases ho; rfl) (w' := W) (v := (ringV sec (.slice (some ⟨g, 0, none⟩) n (n + 2)))) (by cases ho; simp [execOp, go_sem, h0, h1, ringV]) ?_
      cases ho
      exact ⟨(), by simp [Act.put], by simpa using hI⟩
    · have h0 : W.cell? ⟨C, 0, none⟩ = some (.int .i64 sec) := blk_cell hI.1.b1 0
      have h1 : W.cell? ⟨C, 1, none⟩ = some (vw) := blk_cell hI.1.b1 1
      refine wpOp_val ho (by cases ho; rfl) (w' := W) (v := (ringV sec vw)) (by cases ho; simp [execOp, go_sem, h0, h1, ringV]) ?_
      cases ho
      exact ⟨(), by simp [Act.put], by simpa using hI⟩
    · have p0 : done 0 = true := by cases ho; exact hdep ⟨0, .data⟩ (by simp) rfl
      have p1 : done 1 = true := by cases ho; exact hdep ⟨1, .data⟩ (by simp) rfl
      refine wpOp_call ho (by cases ho; rfl) (f := 12) (args := #[(ringV sec (.slice (some ⟨g, 0, none⟩) n (n + 2))), (ringV sec vw)]) (by cases ho; simp [execOp, go_sem, p0, p1]) ((by have h := sameR W sec sec _ vw l l hI.2.1.segs hI.2.2; rw [HSS.out] at h; unfold shtV at h; rw [← HN.out] at h; exact h)) ?_
      rintro e w' ⟨rfl, hb⟩
      cases ho
      refine ⟨_, rfl, (), by simp [Act.put], ?_⟩
      obtain ⟨i1, j2, i3⟩ := hI
      exact ⟨i1.step hb, j2.below hb, RowAt.below i3 hb (Nat.le_refl _)⟩
    · have p2 : done 2 = true := by cases ho; exact hdep ⟨2, .data⟩ (by simp) rfl
      refine wpOp_val ho (by cases ho; rfl) (w' := W) (v := (.bool true)) (by cases ho; simp [execOp, go_sem, p2]) ?_
      cases ho
      exact ⟨(), by simp [Act.put], by simpa using hI⟩
    · have p3 : done 3 = true := by cases ho; exact hdep ⟨3, .guard⟩ (by simp) rfl
      refine wpOp_valW ho (by cases ho; simp [Region.wanted, yielded, go_sem, p3]) (w' := W) (v := (.pointer (some ⟨B, 1, none⟩))) (by cases ho; simp [execOp, go_sem, p3]) ?_
      cases ho
      exact ⟨(), by simp [Act.put], by simpa using hI⟩
    · have p4 : done 4 = true := by cases ho; exact hdep ⟨4, .data⟩ (by simp) rfl
      have p3 : done 3 = true := by cases ho; exact hdep ⟨3, .guard⟩ (by simp) rfl
      have h1 : W.cell? ⟨B, 1, none⟩ = some (.slice (some ⟨g, 0, none⟩) n (n + 2)) := blk_cell hI.1.b0 1
      refine wpOp_valW ho (by cases ho; simp [Region.wanted, yielded, go_sem, p3]) (w' := W) (v := (.slice (some ⟨g, 0, none⟩) n (n + 2))) (by cases ho; simp [execOp, go_sem, p4, h1]) ?_
      cases ho
      exact ⟨(), by simp [Act.put], by simpa using hI⟩
    · have p3 : done 3 = true := by cases ho; exact hdep ⟨3, .guard⟩ (by simp) rfl
      refine wpOp_valW ho (by cases ho; simp [Region.wanted, yielded, go_sem, p3]) (w' := W) (v := (.pointer (some ⟨B, 1, none⟩))) (by cases ho; simp [execOp, go_sem, p3]) ?_
      cases ho
      exact ⟨(), by simp [Act.put], by simpa using hI⟩
    · have p6 : done 6 = true := by cases ho; exact hdep ⟨6, .data⟩ (by simp) rfl
      have p3 : done 3 = true := by cases ho; exact hdep ⟨3, .guard⟩ (by simp) rfl
      have h1 : W.cell? ⟨B, 1, none⟩ = some (.slice (some ⟨g, 0, none⟩) n (n + 2)) := blk_cell hI.1.b0 1
      refine wpOp_valW ho (by cases ho; simp [Region.wanted, yielded, go_sem, p3]) (w' := W) (v := (.slice (some ⟨g, 0, none⟩) n (n + 2))) (by cases ho; simp [execOp, go_sem, p6, h1]) ?_
      cases ho
      exact ⟨(), by simp [Act.put], by simpa using hI⟩
    · have p7 : done 7 = true := by cases ho; exact hdep ⟨7, .data⟩ (by simp) rfl
      have p3 : done 3 = true := by cases ho; exact hdep ⟨3, .guard⟩ (by simp) rfl
      refine wpOp_valW ho (by cases ho; simp [Region.wanted, yielded, go_sem, p7, p3]) (w' := W) (v := (.int .i64 n)) (by cases ho; simp [execOp, go_sem, p7, p3]) ?_
      cases ho
      exact ⟨(), by simp [Act.put], by simpa using hI⟩
    · have p8 : done 8 = true := by cases ho; exact hdep ⟨8, .data⟩ (by simp) rfl
      have p3 : done 3 = true := by cases ho; exact hdep ⟨3, .guard⟩ (by simp) rfl
      refine wpOp_valW ho (by cases ho; simp [Region.wanted, yielded, go_sem, p8, p3, HWR.out]) (w' := W) (v := (.int .i64 ((n : Int) + 1))) (by cases ho; simp [execOp, go_sem, p8, p3, HWR.out]) ?_
      cases ho
      exact ⟨(), by simp [Act.put], by simpa using hI⟩
    · have p5 : done 5 = true := by cases ho; exact hdep ⟨5, .data⟩ (by simp) rfl
      have p9 : done 9 = true := by cases ho; exact hdep ⟨9, .data⟩ (by simp) rfl
      have p3 : done 3 = true := by cases ho; exact hdep ⟨3, .guard⟩ (by simp) rfl
      refine wpOp_valW ho (by cases ho; simp [Region.wanted, yielded, go_sem, p5, p9, p3, HX1.out, HX2.out, HSL.out]) (w' := W) (v := (.slice (some ⟨g, 0, none⟩) (n + 1) (n + 2))) (by cases ho; simp [execOp, go_sem, p5, p9, p3, HX1.out, HX2.out, HSL.out]) ?_
      cases ho
      exact ⟨(), by simp [Act.put], by simpa using hI⟩
    · have p3 : done 3 = true := by cases ho; exact hdep ⟨3, .guard⟩ (by simp) rfl
      refine wpOp_valW ho (by cases ho; simp [Region.wanted, yielded, go_sem, p3]) (w' := W) (v := (.pointer (some ⟨B, 1, none⟩))) (by cases ho; simp [execOp, go_sem, p3]) ?_
      cases ho
      exact ⟨(), by simp [Act.put], by simpa using hI⟩
    · have p11 : done 11 = true := by cases ho; exact hdep ⟨11, .data⟩ (by simp) rfl
      have p3 : done 3 = true := by cases ho; exact hdep ⟨3, .guard⟩ (by simp) rfl
      have h1 : W.cell? ⟨B, 1, none⟩ = some (.slice (some ⟨g, 0, none⟩) n (n + 2)) := blk_cell hI.1.b0 1
      refine wpOp_valW ho (by cases ho; simp [Region.wanted, yielded, go_sem, p3]) (w' := W) (v := (.slice (some ⟨g, 0, none⟩) n (n + 2))) (by cases ho; simp [execOp, go_sem, p11, h1]) ?_
      cases ho
      exact ⟨(), by simp [Act.put], by simpa using hI⟩
    · have p12 : done 12 = true := by cases ho; exact hdep ⟨12, .data⟩ (by simp) rfl
      have p3 : done 3 = true := by cases ho; exact hdep ⟨3, .guard⟩ (by simp) rfl
      refine wpOp_valW ho (by cases ho; simp [Region.wanted, yielded, go_sem, p12, p3]) (w' := W) (v := (.int .i64 n)) (by cases ho; simp [execOp, go_sem, p12, p3]) ?_
      cases ho
      exact ⟨(), by simp [Act.put], by simpa using hI⟩
    · have p10 : done 10 = true := by cases ho; exact hdep ⟨10, .data⟩ (by simp) rfl
      have p13 : done 13 = true := by cases ho; exact hdep ⟨13, .data⟩ (by simp) rfl
      have p3 : done 3 = true := by cases ho; exact hdep ⟨3, .guard⟩ (by simp) rfl
      refine wpOp_valW ho (by cases ho; simp [Region.wanted, yielded, go_sem, p3]) (w' := W) (v := (.pointer (some ⟨g, n * 3, none⟩))) (by cases ho; simp [execOp, go_sem, p10, p13]; omega) ?_
      cases ho
      exact ⟨(), by simp [Act.put], by simpa using hI⟩
    · have p14 : done 14 = true := by cases ho; exact hdep ⟨14, .data⟩ (by simp) rfl
      have p3 : done 3 = true := by cases ho; exact hdep ⟨3, .guard⟩ (by simp) rfl
      refine wpOp_valW ho (by cases ho; simp [Region.wanted, yielded, go_sem, p14, p3]) (w' := W) (v := (.pointer (some ⟨g, n * 3, none⟩))) (by cases ho; simp [execOp, go_sem, p14, p3]) ?_
      cases ho
      exact ⟨(), by simp [Act.put], by simpa using hI⟩
    · have p15 : done 15 = true := by cases ho; exact hdep ⟨15, .data⟩ (by simp) rfl
      have p3 : done 3 = true := by cases ho; exact hdep ⟨3, .guard⟩ (by simp) rfl
      have h1 : W.cell? ⟨g, n * 3, none⟩ = some (.int .i64 77) := by have := hI.2.1.tail; rwa [← HN.out] at this
      refine wpOp_valW ho (by cases ho; simp [Region.wanted, yielded, go_sem, p3]) (w' := W) (v := (.int .i64 77)) (by cases ho; simp [execOp, go_sem, p15, h1]) ?_
      cases ho
      exact ⟨(), by simp [Act.put], by simpa using hI⟩
    · have p16 : done 16 = true := by cases ho; exact hdep ⟨16, .data⟩ (by simp) rfl
      have p3 : done 3 = true := by cases ho; exact hdep ⟨3, .guard⟩ (by simp) rfl
      refine wpOp_valW ho (by cases ho; simp [Region.wanted, yielded, go_sem, p16, p3]) (w' := W) (v := (.bool true)) (by cases ho; simp [execOp, go_sem, p16, p3]) ?_
      cases ho
      exact ⟨(), by simp [Act.put], by simpa using hI⟩
    · have p3 : done 3 = true := by cases ho; exact hdep ⟨3, .data⟩ (by simp) rfl
      have p17 : done 17 = true := by cases ho; exact hdep ⟨17, .data⟩ (by simp) rfl
      refine wpOp_val ho (by cases ho; rfl) (w' := W) (v := (.bool true)) (by cases ho; simp [execOp, go_sem, p3, p17]) ?_
      cases ho
      exact ⟨(), by simp [Act.put], by simpa using hI⟩
    · have p18 : done 18 = true := by cases ho; exact hdep ⟨18, .data⟩ (by simp) rfl
      refine wpOp_val ho (by cases ho; rfl) (w' := W) (v := (.bool true)) (by cases ho; simp [execOp, go_sem, p18]) ?_
      cases ho
      exact ⟨(), by simp [Act.put], by simpa using hI⟩
  · rintro done ac W hall ⟨u, rfl, hI⟩
    have hl := hall
    clear hall
    have e0 := hl 0 (by decide)
    have e1 := hl 1 (by decide)
    have e2 := hl 2 (by decide)
    have e3 := hl 3 (by decide)
    have e4 := hl 4 (by decide)
    have e5 := hl 5 (by decide)
    have e6 := hl 6 (by decide)
    have e7 := hl 7 (by decide)
    have e8 := hl 8 (by decide)
    have e9 := hl 9 (by decide)
    have e10 := hl 10 (by decide)
    have e11 := hl 11 (by decide)
    have e12 := hl 12 (by decide)
    have e13 := hl 13 (by decide)
    have e14 := hl 14 (by decide)
    have e15 := hl 15 (by decide)
    have e16 := hl 16 (by decide)
    have e17 := hl 17 (by decide)
    have e18 := hl 18 (by decide)
    have e19 := hl 19 (by decide)
    have HBB := Lib.hid hI.1.below
    simp only [e0, e1, e2, e3, e4, e5, e6, e7, e8, e9, e10, e11, e12, e13, e14, e15, e16, e17, e18, e19, if_true]
    clear e0 e1 e2 e3 e4 e5 e6 e7 e8 e9 e10 e11 e12 e13 e14 e15 e16 e17 e18 e19 hl hI
    go_wp2_with fail
    go_ret
    exact ⟨rfl, HBB.out⟩
  -- END
end Go.Proofs.Ytlcdadnfcdjglaa
