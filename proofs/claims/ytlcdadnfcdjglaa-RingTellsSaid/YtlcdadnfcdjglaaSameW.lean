/- The walk of the law RingSame. No condition. -/
import Derived.Test.YtlcdadnfcdjglaaNewsW
import Derived.Test.YtlcdadnfcdjglaaSho
set_option linter.unusedVariables false
set_option linter.unusedSimpArgs false
namespace Go.Proofs.Ytlcdadnfcdjglaa
open Go.RowKit Go.Ice Go.Ring Go.ChangeShapes Go.WideShapes

theorem ring_set2 {w : World} {base g c : Nat} {l : List Seg} (h : Sht w base g l) (hc : c < g) (v0 v1 : Value) : Sht ((w.setCell ⟨c, 0, none⟩ v0).setCell ⟨c, 1, none⟩ v1) base g l := by
  have h0 := h.lt g rfl
  refine own_base (own_set (own_set (base := g) ?_ hc _) hc _) h0.1
  obtain ⟨h1, h2⟩ := h
  refine ⟨h1, ?_⟩
  rcases h2 with h2 | ⟨g', cap, cur, hv, hb, r⟩
  · exact .inl h2
  · exact .inr ⟨g', cap, cur, hv, by injection hv with hv; injection hv with hv; injection hv with hv; omega, r⟩

set_option maxHeartbeats 8000000 in
theorem ringSame (w : World) (sa sb : Int) (va vb : Value) (la lb : List Seg) (ha : SegsAt w va la) (hb : SegsAt w vb lb) :
    Calls Try.prog 4 #[ringV sa va, ringV sb vb] w fun e w' => e = .returned (.bool true) ∧ Below w.heap.size w w' := by
  obtain ⟨B, C, W0, HB, HC, HW, HK, HZ⟩ := boxed2 w #[.int .i64 sa, va] 25 #[.int .i64 sb, vb] 25
  have HA := Lib.hid ha
  have HB2 := Lib.hid hb
  have HWK := Lib.hid (wakes W0)
  clear ha hb
  unfold ringV
  go_enter Try.func4, Try.ntmps4
  go_upto_region 1 with fail
  rw [HC.out, HB.out, HW.out]
  go_wp2_with fail
  refine HWK.out.mono ?_
  rintro e w1 ⟨rfl, hb⟩
  have HST : Hid (Kp w [(B, .cells #[.int .i64 sa, if false = true then shtV 0 (la.take 40) else va] 25), (C, .cells #[.int .i64 sb, if false = true then shtV 0 (lb.take 40) else vb] 25)] w1.drew ∧ (false = true → Sht w1.drew w.heap.size 0 (la.take 40)) ∧ (false = true → Sht w1.drew w.heap.size 0 (lb.take 40)) ∧ (false = true → false = true → 0 ≠ 0) ∧ w.heap.size ≤ B ∧ C = B + 1 ∧ (∀ g, (false = true ∧ g = 0) ∨ (false = true ∧ g = 0) → C < g)) :=
    ⟨(HK.out.step hb).drew, fun h => (by cases h), fun h => (by cases h), fun h => (by cases h), (by have := HB.out; omega), (by have := HB.out; have := HC.out; omega), fun g h => by simp at h⟩
  clear hb HWK
  go_upto_region 3 with fail
  -- REGION3
  refine wp_region_inv2 (by kernel_rfl) (hord_of2 (by kernel_rfl)) (fun done ac W => ∃ (g1 g2 : Nat), ac = { tmps := #[ringV sa va, ringV sb vb, (.pointer (some ⟨B, 0, none⟩)), (.pointer (some ⟨C, 0, none⟩)), .bool false, .bool true, .bool false, if done 0 then (ringV sa va) else undef, if done 1 then (ringV sa (shtV g1 (la.take 40))) else undef, if done 2 then (ringV sb vb) else undef, if done 3 then (ringV sb (shtV g2 (lb.take 40))) else undef, undef, undef, undef, undef, undef, undef, undef, undef, undef, undef, undef, undef, undef], defers := [] } ∧ Kp w [(B, .cells #[.int .i64 sa, if done 4 then shtV g1 (la.take 40) else va] 25), (C, .cells #[.int .i64 sb, if done 5 then shtV g2 (lb.take 40) else vb] 25)] W ∧ (done 1 = true → Sht W w.heap.size g1 (la.take 40)) ∧ (done 3 = true → Sht W w.heap.size g2 (lb.take 40)) ∧ (done 1 = true → done 3 = true → g1 ≠ g2) ∧ w.heap.size ≤ B ∧ C = B + 1 ∧ (∀ g, (done 1 = true ∧ g = g1) ∨ (done 3 = true ∧ g = g2) → C < g)) ?_ ?_ ?_
  · exact ⟨0, 0, by simp [ringV], HST.out⟩
  · intro done ac W j oq ho hd hdep hcl ⟨g1, g2, hlit, hI⟩
    have hj : j < 6 := (Array.getElem?_eq_some_iff.1 ho).1
    subst hlit
    obtain rfl | rfl | rfl | rfl | rfl | rfl : j = 0 ∨ j = 1 ∨ j = 2 ∨ j = 3 ∨ j = 4 ∨ j = 5 := by omega
    · have q4 : done 4 = false := by
        cases h : done 4 with
        | false => rfl
        | true =>
          have h0 := hcl 4 _ rfl h ⟨0, .phase⟩ (by simp) rfl
          rw [hd] at h0; cases h0
      have hk := hI.1
      rw [q4] at hk
      have h0 : W.cell? ⟨B, 0, none⟩ = some (.int .i64 sa) := blk_cell hk.b0 0
      have h1 : W.cell? ⟨B, 1, none⟩ = some va := blk_cell hk.b0 1
      refine wpOp_val ho (by cases ho; rfl) (w' := W) (v := ringV sa va) (by cases ho; simp [execOp, go_sem, h0, h1, ringV]) ?_
      cases ho
      exact ⟨g1, g2, by simp [Act.put], by simpa using hI⟩
    · have p0 : done 0 = true := by cases ho; exact hdep ⟨0, .data⟩ (by simp) rfl
      have q3 : done 3 = false := by
        cases h : done 3 with
        | false => rfl
        | true =>
          have h0 := hcl 3 _ rfl h ⟨1, .chain⟩ (by simp) rfl
          rw [hd] at h0; cases h0
      have q4 : done 4 = false := by
        cases h : done 4 with
        | false => rfl
        | true =>
          have h0 := hcl 4 _ rfl h ⟨1, .data⟩ (by simp) rfl
          rw [hd] at h0; cases h0
      have q5 : done 5 = false := by
        cases h : done 5 with
        | false => rfl
        | true =>
          have h0 := hcl 5 _ rfl h ⟨1, .phase⟩ (by simp) rfl
          rw [hd] at h0; cases h0
      refine wpOp_call ho (by cases ho; rfl) (f := 14) (args := #[ringV sa va]) (by cases ho; simp [execOp, go_sem, p0]) (short W sa va la (RowAt.below HA.out hI.1.below (Nat.le_refl _))) ?_
      rintro e w' ⟨g, rfl, hs, hb⟩
      cases ho
      have hlt := hs.lt g rfl
      have hsz := blk_lt hI.1.b1
      refine ⟨_, rfl, g, g2, by simp [Act.put, q4], ?_⟩
      simp only [q4, q3, q5] at hI ⊢
      refine ⟨by simpa using hI.1.step hb, fun _ => own_base hs hI.1.below.size, fun h => by simp at h, fun _ h => by simp at h, hI.2.2.2.2.1, hI.2.2.2.2.2.1, fun g' h => ?_⟩
      simp at h
      omega
    · have q5 : done 5 = false := by
        cases h : done 5 with
        | false => rfl
        | true =>
          have h0 := hcl 5 _ rfl h ⟨2, .phase⟩ (by simp) rfl
          rw [hd] at h0; cases h0
      have hk := hI.1
      rw [q5] at hk
      have h0 : W.cell? ⟨C, 0, none⟩ = some (.int .i64 sb) := blk_cell hk.b1 0
      have h1 : W.cell? ⟨C, 1, none⟩ = some vb := blk_cell hk.b1 1
      refine wpOp_val ho (by cases ho; rfl) (w' := W) (v := ringV sb vb) (by cases ho; simp [execOp, go_sem, h0, h1, ringV]) ?_
      cases ho
      exact ⟨g1, g2, by simp [Act.put], by simpa using hI⟩
    · have p2 : done 2 = true := by cases ho; exact hdep ⟨2, .data⟩ (by simp) rfl
      have q4 : done 4 = false := by
        cases h : done 4 with
        | false => rfl
        | true =>
          have h0 := hcl 4 _ rfl h ⟨3, .chain⟩ (by simp) rfl
          rw [hd] at h0; cases h0
      have q5 : done 5 = false := by
        cases h : done 5 with
        | false => rfl
        | true =>
          have h0 := hcl 5 _ rfl h ⟨3, .data⟩ (by simp) rfl
          rw [hd] at h0; cases h0
      have p1 : done 1 = true := by cases ho; exact hdep ⟨1, .chain⟩ (by simp) rfl
      refine wpOp_call ho (by cases ho; rfl) (f := 14) (args := #[ringV sb vb]) (by cases ho; simp [execOp, go_sem, p2]) (short W sb vb lb (RowAt.below HB2.out hI.1.below (Nat.le_refl _))) ?_
      rintro e w' ⟨g, rfl, hs, hb⟩
      cases ho
      have hlt := hs.lt g rfl
      have hsz := blk_lt hI.1.b1
      have h1 := (hI.2.1 p1).lt g1 rfl
      refine ⟨_, rfl, g1, g, by simp [Act.put, q5], ?_⟩
      simp only [q4, q5, p1] at hI ⊢
      refine ⟨by simpa using hI.1.step hb, fun _ => (hI.2.1 (by simp)).below hb, fun _ => own_base hs hI.1.below.size, fun _ _ => by omega, hI.2.2.2.2.1, hI.2.2.2.2.2.1, fun g' h => ?_⟩
      simp at h
      rcases h with rfl | rfl
      · exact hI.2.2.2.2.2.2 g' (.inl (by simp))
      · omega
    · have p1 : done 1 = true := by cases ho; exact hdep ⟨1, .data⟩ (by simp) rfl
      have p3 : done 3 = true := by cases ho; exact hdep ⟨3, .chain⟩ (by simp) rfl
      have q5 : done 5 = false := by
        cases h : done 5 with
        | false => rfl
        | true =>
          have h0 := hcl 5 _ rfl h ⟨4, .chain⟩ (by simp) rfl
          rw [hd] at h0; cases h0
      have hB0 := blk_cell hI.1.b0 0
      have hB1 := blk_cell hI.1.b0 1
      have hf := fun r => blk_frozen hI.1.b0 r
      refine wpOp_skip ho (by cases ho; rfl) (w' := (W.setCell ⟨B, 0, none⟩ (.int .i64 sa)).setCell ⟨B, 1, none⟩ (shtV g1 (la.take 40))) (by cases ho; simp [execOp, go_sem, p1, stored, hB0, hB1, hf, ringV, shtV]) ?_
      cases ho
      simp only [p1, p3, hd, q5] at hI
      obtain ⟨i1, j2, i3, i4, i5, i6, i7⟩ := hI
      have hg1 := i7 g1 (.inl (by simp))
      have hg2 := i7 g2 (.inr (by simp))
      refine ⟨g1, g2, by simp [Act.put], ?_⟩
      simp only [p1, p3, hd, q5]
      refine ⟨?_, fun _ => ?_, fun _ => ?_, fun _ _ => i4 (by simp) (by simp), i5, i6, fun g h => i7 g (by simpa using h)⟩
      · have := (i1.set0 (k := 0) i5 (fun p hp => by simp only [List.mem_cons, List.mem_nil_iff, or_false] at hp; subst hp; show C ≠ B; omega) (.int .i64 sa)).set0 (k := 1) i5 (fun p hp => by simp only [List.mem_cons, List.mem_nil_iff, or_false] at hp; subst hp; show C ≠ B; omega) (shtV g1 (la.take 40))
        simpa using this
      · exact ring_set2 (j2 (by simp)) (by omega) _ _
      · exact ring_set2 (i3 (by simp)) (by omega) _ _
    · have p3 : done 3 = true := by cases ho; exact hdep ⟨3, .data⟩ (by simp) rfl
      have p4 : done 4 = true := by cases ho; exact hdep ⟨4, .chain⟩ (by simp) rfl
      have p1 : done 1 = true := by cases ho; exact hdep ⟨1, .phase⟩ (by simp) rfl
      have hB0 := blk_cell hI.1.b1 0
      have hB1 := blk_cell hI.1.b1 1
      have hf := fun r => blk_frozen hI.1.b1 r
      refine wpOp_skip ho (by cases ho; rfl) (w' := (W.setCell ⟨C, 0, none⟩ (.int .i64 sb)).setCell ⟨C, 1, none⟩ (shtV g2 (lb.take 40))) (by cases ho; simp [execOp, go_sem, p3, stored, hB0, hB1, hf, ringV, shtV]) ?_
      cases ho
      simp only [p1, p3, hd, p4] at hI
      obtain ⟨i1, j2, i3, i4, i5, i6, i7⟩ := hI
      have hg1 := i7 g1 (.inl (by simp))
      have hg2 := i7 g2 (.inr (by simp))
      refine ⟨g1, g2, by simp [Act.put], ?_⟩
      simp only [p1, p3, hd, p4]
      refine ⟨?_, fun _ => ?_, fun _ => ?_, fun _ _ => i4 (by simp) (by simp), i5, i6, fun g h => i7 g (by simpa using h)⟩
      · have := ((i1.swap.set0 (k := 0) (by omega) (fun p hp => by simp only [List.mem_cons, List.mem_nil_iff, or_false] at hp; subst hp; show B ≠ C; omega) (.int .i64 sb)).set0 (k := 1) (by omega) (fun p hp => by simp only [List.mem_cons, List.mem_nil_iff, or_false] at hp; subst hp; show B ≠ C; omega) (shtV g2 (lb.take 40))).swap
        simpa using this
      · exact ring_set2 (j2 (by simp)) (by omega) _ _
      · exact ring_set2 (i3 (by simp)) (by omega) _ _
  · rintro done ac W hall ⟨g1, g2, rfl, hI⟩
    have hl := hall
    clear hall
    have e0 := hl 0 (by decide)
    have e1 := hl 1 (by decide)
    have e2 := hl 2 (by decide)
    have e3 := hl 3 (by decide)
    have e4 := hl 4 (by decide)
    have e5 := hl 5 (by decide)
    have HK := Lib.hid hI.1
    have HS1 := Lib.hid (hI.2.1 e1)
    have HS2 := Lib.hid (hI.2.2.1 e3)
    simp only [e0, e1, e2, e3, if_true]
    rw [e4, e5] at HK
    simp only [if_true] at HK
    clear e0 e1 e2 e3 e4 e5 hl hI
  -- END REGION3
    generalize hl1 : la.take 40 = l1 at *
    generalize hl2 : lb.take 40 = l2 at *
    have H1000 : Hid (l1.length ≤ 1000) := by show _ ≤ _; rw [← hl1, List.length_take]; omega
    have HSS : Hid (sameB sa sa l1 l1 = true) := (show sameB sa sa l1 l1 = true from by simp [sameB])
    have HST : Hid (Kp w [(B, .cells #[.int .i64 sa, shtV g1 l1] 25), (C, .cells #[.int .i64 sb, shtV g2 l2] 25)] W.drew ∧ SegsAt W.drew (shtV g1 l1) l1 ∧ SegsAt W.drew (shtV g2 l2) l2 ∧ (false = true → SegsAt W.drew undef l1)) := ⟨HK.out.drew, HS1.out.segs, HS2.out.segs, fun h => (by cases h)⟩
    clear hl1 hl2
    go_upto_region 4 with fail
  -- REGION4
    refine wp_region_inv2 (by kernel_rfl) (hord_of2 (by kernel_rfl)) (fun done ac W => ∃ (u : Value), ac = { tmps := #[ringV sa va, ringV sb vb, (.pointer (some ⟨B, 0, none⟩)), (.pointer (some ⟨C, 0, none⟩)), if done 13 then (.bool true) else .bool false, .bool true, .bool false, ringV sa va, ringV sa (shtV g1 l1), ringV sb vb, ringV sb (shtV g2 l2), if done 0 then (ringV sa (shtV g1 l1)) else undef, if done 1 then (ringV sb (shtV g2 l2)) else undef, if done 2 then (.bool (sameB sa sb l1 l2)) else undef, if done 3 then (ringV sa (shtV g1 l1)) else undef, if done 4 then (ringV sb (shtV g2 l2)) else undef, if done 5 then (.bool (sameB sa sb l1 l2)) else undef, if done 6 then (.bool true) else undef, if done 7 then (.bool true) else undef, if done 8 then (ringV sa (shtV g1 l1)) else undef, if done 9 then (ringV sa (shtV g1 l1)) else undef, if done 10 then (ringV sa u) else undef, if done 11 then (.bool true) else undef, if done 12 then (.bool true) else undef], defers := [] } ∧ Kp w [(B, .cells #[.int .i64 sa, shtV g1 l1] 25), (C, .cells #[.int .i64 sb, shtV g2 l2] 25)] W ∧ SegsAt W (shtV g1 l1) l1 ∧ SegsAt W (shtV g2 l2) l2 ∧ (done 10 = true → SegsAt W u l1)) ?_ ?_ ?_
    · exact ⟨undef, by simp [ringV], HST.out⟩
    · intro done ac W j oq ho hd hdep hcl ⟨u, hlit, hI⟩
      have hj : j < 14 := (Array.getElem?_eq_some_iff.1 ho).1
      subst hlit
      obtain rfl | rfl | rfl | rfl | rfl | rfl | rfl | rfl | rfl | rfl | rfl | rfl | rfl | rfl : j = 0 ∨ j = 1 ∨ j = 2 ∨ j = 3 ∨ j = 4 ∨ j = 5 ∨ j = 6 ∨ j = 7 ∨ j = 8 ∨ j = 9 ∨ j = 10 ∨ j = 11 ∨ j = 12 ∨ j = 13 := by omega
      · have h0 : W.cell? ⟨B, 0, none⟩ = some (.int .i64 sa) := blk_cell hI.1.b0 0
        have h1 : W.cell? ⟨B, 1, none⟩ = some (shtV g1 l1) := blk_cell hI.1.b0 1
        refine wpOp_val ho (by cases ho; rfl) (w' := W) (v := ringV sa (shtV g1 l1)) (by cases ho; simp [execOp, go_sem, h0, h1, ringV]) ?_
        cases ho
        exact ⟨u, by simp [Act.put], by simpa using hI⟩
      · have h0 : W.cell? ⟨C, 0, none⟩ = some (.int .i64 sb) := blk_cell hI.1.b1 0
        have h1 : W.cell? ⟨C, 1, none⟩ = some (shtV g2 l2) := blk_cell hI.1.b1 1
        refine wpOp_val ho (by cases ho; rfl) (w' := W) (v := ringV sb (shtV g2 l2)) (by cases ho; simp [execOp, go_sem, h0, h1, ringV]) ?_
        cases ho
        exact ⟨u, by simp [Act.put], by simpa using hI⟩
      · have p0 : done 0 = true := by cases ho; exact hdep ⟨0, .data⟩ (by simp) rfl
        have p1 : done 1 = true := by cases ho; exact hdep ⟨1, .data⟩ (by simp) rfl
        refine wpOp_call ho (by cases ho; rfl) (f := 15) (args := #[(ringV sa (shtV g1 l1)), (ringV sb (shtV g2 l2))]) (by cases ho; simp [execOp, go_sem, p0, p1]) (sameG W sa sb _ _ l1 l2 hI.2.1 hI.2.2.1) ?_
        rintro e w' ⟨rfl, hb⟩
        cases ho
        refine ⟨_, rfl, u, by simp [Act.put], ?_⟩
        obtain ⟨i1, j2, i3, i4⟩ := hI
        exact ⟨i1.step hb, RowAt.below j2 hb (Nat.le_refl _), RowAt.below i3 hb (Nat.le_refl _), fun h => RowAt.below (i4 (by simpa using h)) hb (Nat.le_refl _)⟩
      · have h0 : W.cell? ⟨B, 0, none⟩ = some (.int .i64 sa) := blk_cell hI.1.b0 0
        have h1 : W.cell? ⟨B, 1, none⟩ = some (shtV g1 l1) := blk_cell hI.1.b0 1
        refine wpOp_val ho (by cases ho; rfl) (w' := W) (v := ringV sa (shtV g1 l1)) (by cases ho; simp [execOp, go_sem, h0, h1, ringV]) ?_
        cases ho
        exact ⟨u, by simp [Act.put], by simpa using hI⟩
      · have h0 : W.cell? ⟨C, 0, none⟩ = some (.int .i64 sb) := blk_cell hI.1.b1 0
        have h1 : W.cell? ⟨C, 1, none⟩ = some (shtV g2 l2) := blk_cell hI.1.b1 1
        refine wpOp_val ho (by cases ho; rfl) (w' := W) (v := ringV sb (shtV g2 l2)) (by cases ho; simp [execOp, go_sem, h0, h1, ringV]) ?_
        cases ho
        exact ⟨u, by simp [Act.put], by simpa using hI⟩
      · have p3 : done 3 = true := by cases ho; exact hdep ⟨3, .data⟩ (by simp) rfl
        have p4 : done 4 = true := by cases ho; exact hdep ⟨4, .data⟩ (by simp) rfl
        refine wpOp_call ho (by cases ho; rfl) (f := 12) (args := #[(ringV sa (shtV g1 l1)), (ringV sb (shtV g2 l2))]) (by cases ho; simp [execOp, go_sem, p3, p4]) (sameR W sa sb _ _ l1 l2 hI.2.1 hI.2.2.1) ?_
        rintro e w' ⟨rfl, hb⟩
        cases ho
        refine ⟨_, rfl, u, by simp [Act.put], ?_⟩
        obtain ⟨i1, j2, i3, i4⟩ := hI
        exact ⟨i1.step hb, RowAt.below j2 hb (Nat.le_refl _), RowAt.below i3 hb (Nat.le_refl _), fun h => RowAt.below (i4 (by simpa using h)) hb (Nat.le_refl _)⟩
      · have p2 : done 2 = true := by cases ho; exact hdep ⟨2, .data⟩ (by simp) rfl
        have p5 : done 5 = true := by cases ho; exact hdep ⟨5, .data⟩ (by simp) rfl
        refine wpOp_val ho (by cases ho; rfl) (w' := W) (v := (.bool true)) (by cases ho; simp [execOp, go_sem, p2, p5]) ?_
        cases ho
        exact ⟨u, by simp [Act.put], by simpa using hI⟩
      · have p6 : done 6 = true := by cases ho; exact hdep ⟨6, .data⟩ (by simp) rfl
        refine wpOp_val ho (by cases ho; rfl) (w' := W) (v := (.bool true)) (by cases ho; simp [execOp, go_sem, p6]) ?_
        cases ho
        exact ⟨u, by simp [Act.put], by simpa using hI⟩
      · have p7 : done 7 = true := by cases ho; exact hdep ⟨7, .guard⟩ (by simp) rfl
        have h0 : W.cell? ⟨B, 0, none⟩ = some (.int .i64 sa) := blk_cell hI.1.b0 0
        have h1 : W.cell? ⟨B, 1, none⟩ = some (shtV g1 l1) := blk_cell hI.1.b0 1
        refine wpOp_valW ho (by cases ho; simp [Region.wanted, yielded, go_sem, p7]) (w' := W) (v := ringV sa (shtV g1 l1)) (by cases ho; simp [execOp, go_sem, h0, h1, ringV]) ?_
        cases ho
        exact ⟨u, by simp [Act.put], by simpa using hI⟩
      · have p7 : done 7 = true := by cases ho; exact hdep ⟨7, .guard⟩ (by simp) rfl
        have h0 : W.cell? ⟨B, 0, none⟩ = some (.int .i64 sa) := blk_cell hI.1.b0 0
        have h1 : W.cell? ⟨B, 1, none⟩ = some (shtV g1 l1) := blk_cell hI.1.b0 1
        refine wpOp_valW ho (by cases ho; simp [Region.wanted, yielded, go_sem, p7]) (w' := W) (v := ringV sa (shtV g1 l1)) (by cases ho; simp [execOp, go_sem, h0, h1, ringV]) ?_
        cases ho
        exact ⟨u, by simp [Act.put], by simpa using hI⟩
      · have p9 : done 9 = true := by cases ho; exact hdep ⟨9, .data⟩ (by simp) rfl
        have p7 : done 7 = true := by cases ho; exact hdep ⟨7, .guard⟩ (by simp) rfl
        have q11 : done 11 = false := by
          cases h : done 11 with
          | false => rfl
          | true =>
            have h0 := hcl 11 _ rfl h ⟨10, .data⟩ (by simp) rfl
            rw [hd] at h0; cases h0
        refine wpOp_callW ho (by cases ho; simp [Region.wanted, yielded, go_sem, p9, p7]) (f := 16) (args := #[(ringV sa (shtV g1 l1))]) (by cases ho; simp [execOp, go_sem, p9, p7]) (copy W sa _ l1 hI.2.1 H1000.out) ?_
        rintro e w' ⟨u2, rfl, ho2, hb⟩
        cases ho
        refine ⟨_, rfl, u2, by simp [Act.put, q11], ?_⟩
        obtain ⟨i1, j2, i3, i4⟩ := hI
        exact ⟨i1.step hb, RowAt.below j2 hb (Nat.le_refl _), RowAt.below i3 hb (Nat.le_refl _), fun h => ho2.segs⟩
      · have p8 : done 8 = true := by cases ho; exact hdep ⟨8, .data⟩ (by simp) rfl
        have p10 : done 10 = true := by cases ho; exact hdep ⟨10, .data⟩ (by simp) rfl
        have p7 : done 7 = true := by cases ho; exact hdep ⟨7, .guard⟩ (by simp) rfl
        refine wpOp_callW ho (by cases ho; simp [Region.wanted, yielded, go_sem, p8, p10, p7]) (f := 15) (args := #[(ringV sa (shtV g1 l1)), ringV sa u]) (by cases ho; simp [execOp, go_sem, p8, p10, p7]) (sameG W sa sa _ _ l1 l1 hI.2.1 (hI.2.2.2 p10)) ?_
        rintro e w' ⟨rfl, hb⟩
        cases ho
        refine ⟨_, rfl, u, by simp [Act.put, HSS.out], ?_⟩
        obtain ⟨i1, j2, i3, i4⟩ := hI
        exact ⟨i1.step hb, RowAt.below j2 hb (Nat.le_refl _), RowAt.below i3 hb (Nat.le_refl _), fun h => RowAt.below (i4 (by simpa using h)) hb (Nat.le_refl _)⟩
      · have p7 : done 7 = true := by cases ho; exact hdep ⟨7, .data⟩ (by simp) rfl
        have p11 : done 11 = true := by cases ho; exact hdep ⟨11, .data⟩ (by simp) rfl
        refine wpOp_val ho (by cases ho; rfl) (w' := W) (v := (.bool true)) (by cases ho; simp [execOp, go_sem, p7, p11]) ?_
        cases ho
        exact ⟨u, by simp [Act.put], by simpa using hI⟩
      · have p12 : done 12 = true := by cases ho; exact hdep ⟨12, .data⟩ (by simp) rfl
        refine wpOp_val ho (by cases ho; rfl) (w' := W) (v := (.bool true)) (by cases ho; simp [execOp, go_sem, p12]) ?_
        cases ho
        exact ⟨u, by simp [Act.put], by simpa using hI⟩
    · rintro done ac W hall ⟨u, rfl, hI⟩
      have hl := hall
      clear hall
      have e0 := hl 0 (by decide)
      have e1 := hl 1 (by decide)
      have e2 := hl 2 (by decide)
      have e3 := hl 3 (by decide)
      have e4 := hl 4 (by decide)
      have e5 := hl 5 (by decide)
      have e6 := hl 6 (by decide)
      have e7 := hl 7 (by decide)
      have e8 := hl 8 (by decide)
      have e9 := hl 9 (by decide)
      have e10 := hl 10 (by decide)
      have e11 := hl 11 (by decide)
      have e12 := hl 12 (by decide)
      have e13 := hl 13 (by decide)
      have HBB := Lib.hid hI.1.below
      simp only [e0, e1, e2, e3, e4, e5, e6, e7, e8, e9, e10, e11, e12, e13, if_true]
      clear e0 e1 e2 e3 e4 e5 e6 e7 e8 e9 e10 e11 e12 e13 hl hI
      go_wp2_with fail
      go_ret
      exact ⟨rfl, HBB.out⟩
  -- END REGION4

theorem ringSameW.walk (v0 v1 : Value) (w : World) {H : Type} {enc : TypeId × Value → H} {base b0 b1 : Nat} {spare : Nat → Bool} {held : Bool} {d0 d1 : DataW H} {p0 p1 : List MemPlace} {r : Reach}
    (w0 : Value.okWide Try.prog w r b0 25 v0) (h0 : DataW.Trod enc Try.prog w base spare held 25 v0 d0 p0) (w1 : Value.okWide Try.prog w r b1 25 v1) (h1 : DataW.Trod enc Try.prog w base spare held 25 v1 d1 p1) :
    Calls Try.prog 4 #[v0, v1] w fun e w' => e = .returned (.bool true) ∧ Below w.heap.size w w' := by
  obtain ⟨sa, va, la, rfl, ha⟩ := open_ring w0 h0
  obtain ⟨sb, vb, lb, rfl, hb⟩ := open_ring w1 h1
  exact ringSame w sa sb va vb la lb ha hb
end Go.Proofs.Ytlcdadnfcdjglaa
