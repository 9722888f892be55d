/- The document uses sectors of the open segment. Conditions: the segments lie in memory; at most a thousand. -/
import Derived.Test.YtlcdadnfcdjglaaSlR
set_option linter.unusedVariables false
set_option linter.unusedSimpArgs false
namespace Go.Proofs.Ytlcdadnfcdjglaa
open Go.RowKit Go.Ice Go.Ring

set_option maxHeartbeats 8000000 in
theorem useRef (w : World) (sec : Int) (v : Value) (l : List Seg) (m : Int) (h : SegsAt w v l) :
    Calls Try.prog 35 #[ringV sec v, .int .i64 m] w fun e w' => ∃ u, e = .returned (.tuple #[ringV (secOf sec (useF sec l m).2) u, .int .i64 (useF sec l m).1]) ∧ OwnSegs w' w.heap.size u (segsOf (useF sec l m).2) ∧ Below w.heap.size w w' := by
  obtain ⟨B, C, W0, HB, HC, HW, HK, HZ⟩ := boxed2 w #[.int .i64 sec, v] 25 #[.int .i64 0, .slice none 0 0] 25
  have HR : Hid (SegsAt W0 v l) := RowAt.below h HK.out.below (Nat.le_refl _)
  have HCK := Lib.hid (rightRef W0 sec v l HR.out)
  rw [← check_right] at HCK
  have b0 : W0.cell? ⟨B, 0, none⟩ = some (.int .i64 sec) := blk_cell HK.out.b0 0
  have b1 : W0.cell? ⟨B, 1, none⟩ = some v := blk_cell HK.out.b0 1
  have HFF : Hid (useF sec l m = if checkB sec l = false then ((180 : Int), none) else match openedP l with | none => (181, none) | some i => if m < 0 then (2, none) else if leftP sec l < m then (6, none) else (0, some (l.set i { at' l i with used := (at' l i).used + m }))) := rfl
  generalize useF sec l m = F at *
  obtain ⟨cb, hcb⟩ : ∃ cb, cb = checkB sec l := ⟨_, rfl⟩
  rw [← hcb] at HCK HFF
  have HCB := Lib.hid hcb
  have HVB : Hid (∀ bs off n cap, 0 < l.length → v = .slice (some ⟨bs, off, none⟩) n cap → bs < w.heap.size) := fun bs off n cap hl hv => by
    obtain ⟨b', o', c', e, k1, k2, k3, k4⟩ := h.cell hl
    rw [hv] at e
    injection e with e1
    injection e1 with e1
    injection e1 with e1
    omega
  clear h hcb
  unfold ringV at HCK ⊢
  go_enter Try.func35, Try.ntmps35
  go_upto_region 1 with fail
  rw [HC.out, HB.out, HW.out]
  go_wp2_with fail
  refine HCK.out.mono ?_
  rintro e w1 ⟨rfl, hbl⟩
  have HK1 := Lib.hid (HK.out.step hbl)
  have HR1 : Hid (SegsAt w1 v l) := RowAt.below HR.out hbl (Nat.le_refl _)
  clear hbl b0 b1 HCK HK HR
  cases cb with
  | false =>
    have HF := Lib.hid (show F = (180, none) from by rw [HFF.out]; rfl)
    have HKX := Lib.hid HK1.out.b1
    have HBX := Lib.hid HK1.out.below
    have e0 : w1.cell? ⟨C, 0, none⟩ = some (.int .i64 0) := blk_cell HKX.out 0
    have e1 : w1.cell? ⟨C, 1, none⟩ = some (.slice none 0 0) := blk_cell HKX.out 1
    have fe0 := fun r => blk_frozen HKX.out r
    go_wp2_with fail
    obtain ⟨r0, r1⟩ := res_pair HKX.out (.int .i64 0) (.slice none 0 0)
    refine bodyPost_ret (v := .tuple #[.agg #[.int .i64 0, .slice none 0 0], .int .i64 180]) (by simp [results, Try.f35, go_sem, r0, r1]) rfl ⟨.slice none 0 0, by rw [HF.out]; rfl, by rw [HF.out]; exact ownNil _ _, below_two HBX.out (by have := HC.out; have := HB.out; omega) _ _⟩
  | true =>
    have HOR := Lib.hid (openedRef w1 sec v l HR1.out)
    obtain ⟨op, hop⟩ : ∃ op, op = openedP l := ⟨_, rfl⟩
    rw [← opened_eq HCB.out.symm, ← hop] at HOR
    rw [← hop] at HFF
    have HOP0 := Lib.hid hop
    have c0 : w1.cell? ⟨B, 0, none⟩ = some (.int .i64 sec) := blk_cell HK1.out.b0 0
    have c1 : w1.cell? ⟨B, 1, none⟩ = some v := blk_cell HK1.out.b0 1
    unfold ringV at HOR
    clear hop
    go_wp2_with fail
    refine HOR.out.mono ?_
    rintro e w2 ⟨rfl, hbl⟩
    have HK2 := Lib.hid (HK1.out.step hbl)
    have HR2 : Hid (SegsAt w2 v l) := RowAt.below HR1.out hbl (Nat.le_refl _)
    clear hbl c0 c1 HOR HR1 HK1
    cases op with
    | none =>
      have HF := Lib.hid (show F = (181, none) from by rw [HFF.out]; rfl)
      have HKX := Lib.hid HK2.out.b1
      have HBX := Lib.hid HK2.out.below
      have e0 : w2.cell? ⟨C, 0, none⟩ = some (.int .i64 0) := blk_cell HKX.out 0
      have e1 : w2.cell? ⟨C, 1, none⟩ = some (.slice none 0 0) := blk_cell HKX.out 1
      have fe0 := fun r => blk_frozen HKX.out r
      dsimp only [refI]
      go_wp2_with fail
      obtain ⟨r0, r1⟩ := res_pair HKX.out (.int .i64 0) (.slice none 0 0)
      refine bodyPost_ret (v := .tuple #[.agg #[.int .i64 0, .slice none 0 0], .int .i64 181]) (by simp [results, Try.f35, go_sem, r0, r1]) rfl ⟨.slice none 0 0, by rw [HF.out]; rfl, by rw [HF.out]; exact ownNil _ _, below_two HBX.out (by have := HC.out; have := HB.out; omega) _ _⟩
    | some i =>
      have hil := opened_lt HOP0.out.symm
      have hsz := check_size HCB.out.symm
      have hub := used_bd HCB.out.symm hil.1 (.inl hil.2)
      have HOP : Hid (openedR l = some i) := by show _ = _; rw [← opened_eq HCB.out.symm]; exact HOP0.out.symm
      have HBC : Hid (B = w.heap.size ∧ C = B + 1) := ⟨HB.out.symm, by have := HB.out; have := HC.out; omega⟩
      dsimp only [refI]
      obtain ⟨bs, off, cap, rfl, k1, k2, k3, k4⟩ := HR2.out.cell (by omega)
      have HN0 := Lib.hid (show l.length = l.length from rfl)
      obtain ⟨n, hn⟩ : ∃ n, n = l.length := ⟨_, rfl⟩
      rw [← hn] at HK2 HR2 k1 hsz
      rw [← hn]
      have HN := Lib.hid hn
      have HIL : Hid (i < n) := by show _ < _; rw [hn]; exact hil.1
      have HIN : Hid (n ≤ cap) := k1
      have HIL2 := Lib.hid hil.1
      have H1000 : Hid (l.length ≤ 1000) := by show _ ≤ _; rw [← hn]; omega
      have HBS0 := Lib.hid k3
      have HUB : Hid (1 ≤ (at' l i).used ∧ (at' l i).used ≤ sec ∧ sec ≤ 64) := ⟨hub.1, hub.2, by omega⟩
      clear k4 hn hil hsz hub HN0
      have hi0 : decide ((i : Int) < 0) = false := by simp
      by_cases hm0 : m < 0
      · have HF := Lib.hid (show F = (2, none) from by rw [HFF.out]; simp [hm0])
        have HKX := Lib.hid HK2.out.b1
        have HBX := Lib.hid HK2.out.below
        have e0 : w2.cell? ⟨C, 0, none⟩ = some (.int .i64 0) := blk_cell HKX.out 0
        have e1 : w2.cell? ⟨C, 1, none⟩ = some (.slice none 0 0) := blk_cell HKX.out 1
        have fe0 := fun r => blk_frozen HKX.out r
        go_wp2_with fail
        obtain ⟨r0, r1⟩ := res_pair HKX.out (.int .i64 0) (.slice none 0 0)
        refine bodyPost_ret (v := .tuple #[.agg #[.int .i64 0, .slice none 0 0], .int .i64 2]) (by simp [results, Try.f35, go_sem, r0, r1]) rfl ⟨.slice none 0 0, by rw [HF.out]; rfl, by rw [HF.out]; exact ownNil _ _, below_two HBX.out (by have := HC.out; have := HB.out; omega) _ _⟩
      · have HLF := Lib.hid (leftRef w2 sec _ l HR2.out)
        rw [← HCB.out] at HLF
        have hle : leftR sec l = sec - (at' l i).used := by unfold leftR; rw [HOP.out]
        have hlp : leftP sec l = leftR sec l := by unfold leftP leftR; rw [opened_eq HCB.out.symm]; cases openedR l <;> rfl
        rw [hlp] at HFF
        have HLE := Lib.hid hle
        generalize leftR sec l = lv at *
        have c0 : w2.cell? ⟨B, 0, none⟩ = some (.int .i64 sec) := blk_cell HK2.out.b0 0
        have c1 : w2.cell? ⟨B, 1, none⟩ = some (.slice (some ⟨bs, off, none⟩) n cap) := blk_cell HK2.out.b0 1
        unfold ringV leftV at HLF
        simp only [if_true] at HLF
        clear hle hlp
        go_wp2_with fail
        refine HLF.out.mono ?_
        rintro e w3 ⟨rfl, hbl⟩
        have HK3 := Lib.hid (HK2.out.step hbl)
        have HR3 : Hid (SegsAt w3 (.slice (some ⟨bs, off, none⟩) n cap) l) := RowAt.below HR2.out hbl (Nat.le_refl _)
        clear hbl c0 c1 HLF HR2 HK2
        by_cases hml : lv < m
        · have HF := Lib.hid (show F = (6, none) from by rw [HFF.out]; simp [hml]; omega)
          have HKX := Lib.hid HK3.out.b1
          have HBX := Lib.hid HK3.out.below
          have e0 : w3.cell? ⟨C, 0, none⟩ = some (.int .i64 0) := blk_cell HKX.out 0
          have e1 : w3.cell? ⟨C, 1, none⟩ = some (.slice none 0 0) := blk_cell HKX.out 1
          have fe0 := fun r => blk_frozen HKX.out r
          go_wp2_with fail
          obtain ⟨r0, r1⟩ := res_pair HKX.out (.int .i64 0) (.slice none 0 0)
          refine bodyPost_ret (v := .tuple #[.agg #[.int .i64 0, .slice none 0 0], .int .i64 6]) (by simp [results, Try.f35, go_sem, r0, r1]) rfl ⟨.slice none 0 0, by rw [HF.out]; rfl, by rw [HF.out]; exact ownNil _ _, below_two HBX.out (by have := HC.out; have := HB.out; omega) _ _⟩
        · have HF := Lib.hid (show F = (0, some (l.set i { at' l i with used := (at' l i).used + m })) from by rw [HFF.out]; simp [hml]; omega)
          have HST : Hid (TwoI w B C sec (.slice (some ⟨bs, off, none⟩) n cap) l w3.drew ∧ (false = true → w3.drew.heap[0]? = some (.cells (if false then segArr (at' l i) else zeroArr) 46 (0, 0)) ∧ C < 0 ∧ bs < 0)) := ⟨⟨HK3.out.drew, HR3.out⟩, fun h => (by cases h)⟩
          have HBS : Hid (bs ≠ C) := (show bs ≠ C by have := HVB.out bs off _ cap (by have := HIL2.out; omega) rfl; have := HBC.out; omega)
          go_upto_region 9 with fail
          refine wp_region_inv2 (by kernel_rfl) (hord_of2 (by kernel_rfl)) (fun done ac W => ∃ (P : Nat), ac = { tmps := #[.agg #[.int .i64 sec, .slice (some ⟨bs, off, none⟩) n cap], .int .i64 m, (.pointer (some ⟨B, 0, none⟩)), undef, (.pointer (some ⟨C, 0, none⟩)), .int .i64 0, if done 6 then (.pointer (some ⟨P, 0, none⟩)) else undef, .bool false, .agg #[.int .i64 sec, .slice (some ⟨bs, off, none⟩) n cap], .bool true, .bool false, undef, .bool false, .agg #[.int .i64 sec, .slice (some ⟨bs, off, none⟩) n cap], .int .i64 i, .bool false, undef, .bool false, .int .i64 m, .bool false, undef, .bool (decide (lv < m)), .int .i64 m, .agg #[.int .i64 sec, .slice (some ⟨bs, off, none⟩) n cap], .int .i64 lv, .bool (decide (lv < m)), undef, if done 0 then (.pointer (some ⟨B, 1, none⟩)) else undef, if done 1 then (.slice (some ⟨bs, off, none⟩) n cap) else undef, if done 2 then (ringV sec (.slice (some ⟨bs, off, none⟩) n cap)) else undef, if done 3 then (.int .i64 i) else undef, if done 4 then (.pointer (some ⟨bs, off + i * 3, none⟩)) else undef, if done 5 then (segV (at' l i)) else undef, undef, undef, undef, undef, undef, undef, undef, undef, undef, undef], defers := [] } ∧ TwoI w B C sec (.slice (some ⟨bs, off, none⟩) n cap) l W ∧ (done 6 = true → W.heap[P]? = some (.cells (if done 7 then segArr (at' l i) else zeroArr) 46 (0, 0)) ∧ C < P ∧ bs < P)) ?_ ?_ ?_
          · exact ⟨0, by simp [ringV], HST.out⟩
          · intro done ac W j oq ho hd hdep hcl ⟨P, hlit, hI⟩
            have hj : j < 8 := (Array.getElem?_eq_some_iff.1 ho).1
            have hin1 := HIN.out
            have hin2 := HIL.out
            subst hlit
            obtain rfl | rfl | rfl | rfl | rfl | rfl | rfl | rfl : j = 0 ∨ j = 1 ∨ j = 2 ∨ j = 3 ∨ j = 4 ∨ j = 5 ∨ j = 6 ∨ j = 7 := by omega
            · refine wpOp_val ho (by cases ho; rfl) (w' := W) (v := (.pointer (some ⟨B, 1, none⟩))) (by cases ho; simp [execOp, go_sem]) ?_
              cases ho
              exact ⟨P, by simp [Act.put], by simpa using hI⟩
            · have p0 : done 0 = true := by cases ho; exact hdep ⟨0, .data⟩ (by simp) rfl
              have h1 : W.cell? ⟨B, 1, none⟩ = some (.slice (some ⟨bs, off, none⟩) n cap) := blk_cell hI.1.kp.b0 1
              refine wpOp_val ho (by cases ho; rfl) (w' := W) (v := (.slice (some ⟨bs, off, none⟩) n cap)) (by cases ho; simp [execOp, go_sem, p0, h1]) ?_
              cases ho
              exact ⟨P, by simp [Act.put], by simpa using hI⟩
            · have h0 : W.cell? ⟨B, 0, none⟩ = some (.int .i64 sec) := blk_cell hI.1.kp.b0 0
              have h1 : W.cell? ⟨B, 1, none⟩ = some (.slice (some ⟨bs, off, none⟩) n cap) := blk_cell hI.1.kp.b0 1
              refine wpOp_val ho (by cases ho; rfl) (w' := W) (v := (ringV sec (.slice (some ⟨bs, off, none⟩) n cap))) (by cases ho; simp [execOp, go_sem, h0, h1, ringV]) ?_
              cases ho
              exact ⟨P, by simp [Act.put], by simpa using hI⟩
            · have p2 : done 2 = true := by cases ho; exact hdep ⟨2, .data⟩ (by simp) rfl
              refine wpOp_call ho (by cases ho; rfl) (f := 27) (args := #[(ringV sec (.slice (some ⟨bs, off, none⟩) n cap))]) (by cases ho; simp [execOp, go_sem, p2]) (openedRef W sec _ l hI.1.segs) ?_
              rintro e w' ⟨rfl, hb⟩
              cases ho
              refine ⟨_, rfl, P, by simp [Act.put, HOP.out, refI], ?_⟩
              obtain ⟨i1, j2⟩ := hI
              exact ⟨i1.step hb, fun h => by
                have h := j2 (by simpa using h)
                exact ⟨by simpa using (hb.block P (blk_lt h.1)).trans h.1, h.2⟩⟩
            · have p1 : done 1 = true := by cases ho; exact hdep ⟨1, .data⟩ (by simp) rfl
              have p3 : done 3 = true := by cases ho; exact hdep ⟨3, .data⟩ (by simp) rfl
              refine wpOp_val ho (by cases ho; rfl) (w' := W) (v := (.pointer (some ⟨bs, off + i * 3, none⟩))) (by cases ho; simp [execOp, go_sem, p1, p3, HIN.out, HIL.out, hin1, hin2]) ?_
              cases ho
              exact ⟨P, by simp [Act.put], by simpa using hI⟩
            · have p4 : done 4 = true := by cases ho; exact hdep ⟨4, .data⟩ (by simp) rfl
              obtain ⟨b', o', c', e, h1, h2, h3, h4⟩ := hI.1.segs.cell (by have := HN.out; have := HIL.out; omega)
              injection e with e1 e2 e3
              injection e1 with e1
              injection e1 with e4 e5
              subst e4 e5
              obtain ⟨q0, q1, q2⟩ := h4 i (by rw [← HN.out]; exact HIL.out)
              refine wpOp_val ho (by cases ho; rfl) (w' := W) (v := (segV (at' l i))) (by cases ho; simp [execOp, go_sem, p4, q0, q1, q2, segV]) ?_
              cases ho
              exact ⟨P, by simp [Act.put], by simpa using hI⟩
            · have q7 : done 7 = false := by
                cases h : done 7 with
                | false => rfl
                | true =>
                  have h0 := hcl 7 _ rfl h ⟨6, .data⟩ (by simp) rfl
                  rw [hd] at h0; cases h0
              refine wpOp_val ho (by cases ho; rfl) (w' := W.alloc (.cells zeroArr 46)) (v := .pointer (some ⟨W.heap.size, 0, none⟩)) (by cases ho; simp [execOp, go_sem, zeroArr]) ?_
              cases ho
              have hc := blk_lt hI.1.kp.b1
              have hbs : bs < W.heap.size := by
                obtain ⟨b', o', c', e, h1, h2, h3, h4⟩ := hI.1.segs.cell (by have := HN.out; have := HIL.out; omega)
                injection e with e1 e2 e3
                injection e1 with e1
                injection e1 with e4 e5
                omega
              exact ⟨W.heap.size, by simp [Act.put, q7], hI.1.step ((Below.refl _ W).alloc (Nat.le_refl _) _), fun _ => ⟨by simpa [q7] using heap_alloc_new W (.cells zeroArr 46), hc, hbs⟩⟩
            · have p5 : done 5 = true := by cases ho; exact hdep ⟨5, .data⟩ (by simp) rfl
              have p6 : done 6 = true := by cases ho; exact hdep ⟨6, .data⟩ (by simp) rfl
              obtain ⟨hp, hcp, hbp⟩ := hI.2 p6
              rw [hd] at hp
              have z0 : W.cell? ⟨P, 0, none⟩ = some (.int .i64 0) := blk_cell hp 0
              have z1 : W.cell? ⟨P, 1, none⟩ = some (.int .u64 0) := blk_cell hp 1
              have z2 : W.cell? ⟨P, 2, none⟩ = some (.int .i64 0) := blk_cell hp 2
              have hf := fun r => blk_frozen hp r
              refine wpOp_skip ho (by cases ho; rfl) (w' := ((W.setCell ⟨P, 0, none⟩ (.int .i64 (at' l i).st)).setCell ⟨P, 1, none⟩ (.int .u64 (at' l i).gen)).setCell ⟨P, 2, none⟩ (.int .i64 (at' l i).used)) (by cases ho; simp [execOp, go_sem, p5, p6, stored, z0, z1, z2, hf, segV]) ?_
              cases ho
              have hv : ∀ b, (Value.slice (some ⟨bs, off, none⟩) n cap).ownBlock = some b → b ≠ P := fun b hb => by simp [Value.ownBlock] at hb; omega
              exact ⟨P, by simp [Act.put], ((hI.1.set HBC.out.1 HBC.out.2 hcp hv 0 _).set HBC.out.1 HBC.out.2 hcp hv 1 _).set HBC.out.1 HBC.out.2 hcp hv 2 _, fun _ => ⟨by
                have := set_heap (set_heap (set_heap hp 0 (.int .i64 (at' l i).st)) 1 (.int .u64 (at' l i).gen)) 2 (.int .i64 (at' l i).used)
                simpa [zeroArr, segArr] using this, hcp, hbp⟩⟩
          · rintro done ac W hall ⟨P, rfl, hI⟩
            have hl := hall
            clear hall
            have e0 := hl 0 (by decide)
            have e1 := hl 1 (by decide)
            have e2 := hl 2 (by decide)
            have e3 := hl 3 (by decide)
            have e4 := hl 4 (by decide)
            have e5 := hl 5 (by decide)
            have e6 := hl 6 (by decide)
            have e7 := hl 7 (by decide)
            have HTW := Lib.hid hI.1
            have HPX := Lib.hid (hI.2 e6)
            rw [e7] at HPX
            simp only [if_true] at HPX
            simp only [e0, e1, e2, e3, e4, e5, e6, if_true]
            clear e0 e1 e2 e3 e4 e5 e6 e7 hl hI
            obtain ⟨W4, hW4⟩ : ∃ W4, W4 = W.setCell ⟨P, 2, none⟩ (.int .i64 ((at' l i).used + m)) := ⟨_, rfl⟩
            have z2 : W.cell? ⟨P, 2, none⟩ = some (.int .i64 (at' l i).used) := blk_cell HPX.out.1 2
            have hfz := fun r => blk_frozen HPX.out.1 r
            have HCP : Hid (C < P) := HPX.out.2.1
            have HT4 := HTW.out.set HBC.out.1 HBC.out.2 HCP.out (v := .slice (some ⟨bs, off, none⟩) n cap) (fun b hb => by simp [Value.ownBlock] at hb; have := HPX.out.2.2; omega) 2 (.int .i64 ((at' l i).used + m))
            have hp4 := set_heap HPX.out.1 2 (.int .i64 ((at' l i).used + m))
            rw [← hW4] at HT4 hp4
            have HST2 : Hid (Kp w [(P, .cells (segArr { at' l i with used := (at' l i).used + m }) 46), (B, .cells #[.int .i64 sec, .slice (some ⟨bs, off, none⟩) n cap] 25), (C, .cells #[.int .i64 (if false then sec else 0), if false then undef else .slice none 0 0] 25)] W4.drew ∧ SegsAt W4.drew (.slice (some ⟨bs, off, none⟩) n cap) l ∧ (false = true → OwnSegs W4.drew (C + 1) undef (l.set i { at' l i with used := (at' l i).used + m }))) :=
              ⟨⟨HT4.kp.below.drew, fun p hp => by
                rcases List.mem_cons.1 hp with rfl | hp
                · show W4.heap[P]? = _; simpa [segArr] using hp4
                · exact HT4.kp.blks p (by simpa using hp)⟩, HT4.segs, fun h => (by cases h)⟩
            have hub := HUB.out
            have hle := HLE.out
            have hwr : IntKind.i64.wrap ((at' l i).used + m) = (at' l i).used + m := by rw [IntKind.wrap_i64]; omega
            clear HT4 hp4 hle
            go_upto_region 11 with fail
            rw [← hW4]
            clear hW4 z2 hfz hub hwr
            refine wp_region_inv2 (by kernel_rfl) (hord_of2 (by kernel_rfl)) (fun done ac W => ∃ (u : Value), ac = { tmps := #[.agg #[.int .i64 sec, .slice (some ⟨bs, off, none⟩) n cap], .int .i64 m, (.pointer (some ⟨B, 0, none⟩)), undef, (.pointer (some ⟨C, 0, none⟩)), if done 6 then (.int .i64 0) else .int .i64 0, (.pointer (some ⟨P, 0, none⟩)), .bool false, .agg #[.int .i64 sec, .slice (some ⟨bs, off, none⟩) n cap], .bool true, .bool false, undef, .bool false, .agg #[.int .i64 sec, .slice (some ⟨bs, off, none⟩) n cap], .int .i64 i, .bool false, undef, .bool false, .int .i64 m, .bool false, undef, .bool (decide (lv < m)), .int .i64 m, .agg #[.int .i64 sec, .slice (some ⟨bs, off, none⟩) n cap], .int .i64 lv, .bool (decide (lv < m)), undef, (.pointer (some ⟨B, 1, none⟩)), .slice (some ⟨bs, off, none⟩) n cap, .agg #[.int .i64 sec, .slice (some ⟨bs, off, none⟩) n cap], .int .i64 i, (.pointer (some ⟨bs, off + i * 3, none⟩)), segV (at' l i), (.pointer (some ⟨P, 2, none⟩)), (.int .i64 (at' l i).used), .int .i64 m, (.int .i64 ((at' l i).used + m)), (.pointer (some ⟨P, 2, none⟩)), if done 0 then (ringV sec (.slice (some ⟨bs, off, none⟩) n cap)) else undef, if done 1 then (ringV sec (.slice (some ⟨bs, off, none⟩) n cap)) else undef, if done 2 then (.int .i64 i) else undef, if done 3 then (segV { at' l i with used := (at' l i).used + m }) else undef, if done 4 then (ringV sec u) else undef], defers := [] } ∧ Kp w [(P, .cells (segArr { at' l i with used := (at' l i).used + m }) 46), (B, .cells #[.int .i64 sec, .slice (some ⟨bs, off, none⟩) n cap] 25), (C, .cells #[.int .i64 (if done 5 then sec else 0), if done 5 then u else .slice none 0 0] 25)] W ∧ SegsAt W (.slice (some ⟨bs, off, none⟩) n cap) l ∧ (done 4 = true → OwnSegs W (C + 1) u (l.set i { at' l i with used := (at' l i).used + m }))) ?_ ?_ ?_
            · exact ⟨undef, by simp [ringV], HST2.out⟩
            · intro done ac W j oq ho hd hdep hcl ⟨u, hlit, hI⟩
              have hj : j < 7 := (Array.getElem?_eq_some_iff.1 ho).1
              subst hlit
              obtain rfl | rfl | rfl | rfl | rfl | rfl | rfl : j = 0 ∨ j = 1 ∨ j = 2 ∨ j = 3 ∨ j = 4 ∨ j = 5 ∨ j = 6 := by omega
              · have h0 : W.cell? ⟨B, 0, none⟩ = some (.int .i64 sec) := blk_cell hI.1.b1 0
                have h1 : W.cell? ⟨B, 1, none⟩ = some (.slice (some ⟨bs, off, none⟩) n cap) := blk_cell hI.1.b1 1
                refine wpOp_val ho (by cases ho; rfl) (w' := W) (v := (ringV sec (.slice (some ⟨bs, off, none⟩) n cap))) (by cases ho; simp [execOp, go_sem, h0, h1, ringV]) ?_
                cases ho
                exact ⟨u, by simp [Act.put], by simpa using hI⟩
              · have h0 : W.cell? ⟨B, 0, none⟩ = some (.int .i64 sec) := blk_cell hI.1.b1 0
                have h1 : W.cell? ⟨B, 1, none⟩ = some (.slice (some ⟨bs, off, none⟩) n cap) := blk_cell hI.1.b1 1
                refine wpOp_val ho (by cases ho; rfl) (w' := W) (v := (ringV sec (.slice (some ⟨bs, off, none⟩) n cap))) (by cases ho; simp [execOp, go_sem, h0, h1, ringV]) ?_
                cases ho
                exact ⟨u, by simp [Act.put], by simpa using hI⟩
              · have p1 : done 1 = true := by cases ho; exact hdep ⟨1, .data⟩ (by simp) rfl
                refine wpOp_call ho (by cases ho; rfl) (f := 27) (args := #[(ringV sec (.slice (some ⟨bs, off, none⟩) n cap))]) (by cases ho; simp [execOp, go_sem, p1]) (openedRef W sec _ l hI.2.1) ?_
                rintro e w' ⟨rfl, hb⟩
                cases ho
                refine ⟨_, rfl, u, by simp [Act.put, HOP.out, refI], ?_⟩
                obtain ⟨i1, j2, i3⟩ := hI
                exact ⟨by simpa using i1.step hb, RowAt.below j2 hb (Nat.le_refl _), fun h => OwnSegs.below (i3 (by simpa using h)) hb⟩
              · have h0 : W.cell? ⟨P, 0, none⟩ = some (.int .i64 ({ at' l i with used := (at' l i).used + m }).st) := blk_cell hI.1.b0 0
                have h1 : W.cell? ⟨P, 1, none⟩ = some (.int .u64 ({ at' l i with used := (at' l i).used + m }).gen) := blk_cell hI.1.b0 1
                have h2 : W.cell? ⟨P, 2, none⟩ = some (.int .i64 ({ at' l i with used := (at' l i).used + m }).used) := blk_cell hI.1.b0 2
                refine wpOp_val ho (by cases ho; rfl) (w' := W) (v := (segV { at' l i with used := (at' l i).used + m })) (by cases ho; simp [execOp, go_sem, h0, h1, h2, segV]) ?_
                cases ho
                exact ⟨u, by simp [Act.put], by simpa using hI⟩
              · have p0 : done 0 = true := by cases ho; exact hdep ⟨0, .data⟩ (by simp) rfl
                have p2 : done 2 = true := by cases ho; exact hdep ⟨2, .data⟩ (by simp) rfl
                have p3 : done 3 = true := by cases ho; exact hdep ⟨3, .data⟩ (by simp) rfl
                have q5 : done 5 = false := by
                  cases h : done 5 with
                  | false => rfl
                  | true =>
                    have h0 := hcl 5 _ rfl h ⟨4, .data⟩ (by simp) rfl
                    rw [hd] at h0; cases h0
                refine wpOp_call ho (by cases ho; rfl) (f := 52) (args := #[(ringV sec (.slice (some ⟨bs, off, none⟩) n cap)), .int .i64 i, segV { at' l i with used := (at' l i).used + m }]) (by cases ho; simp [execOp, go_sem, p0, p2, p3]) (withd W sec _ l i { at' l i with used := (at' l i).used + m } hI.2.1 H1000.out HIL2.out) ?_
                rintro e w' ⟨u2, rfl, ho2, hb⟩
                cases ho
                refine ⟨_, rfl, u2, by simp [Act.put], ?_⟩
                obtain ⟨i1, j2, i3⟩ := hI
                have hc := blk_lt i1.b2
                exact ⟨by simpa [q5] using i1.step hb, RowAt.below j2 hb (Nat.le_refl _), fun h => own_base ho2 hc⟩
              · have p4 : done 4 = true := by cases ho; exact hdep ⟨4, .data⟩ (by simp) rfl
                have hk := hI.1
                simp only [hd, if_false, Bool.false_eq_true] at hk
                have z0 : W.cell? ⟨C, 0, none⟩ = some (.int .i64 0) := blk_cell hk.b2 0
                have z1 : W.cell? ⟨C, 1, none⟩ = some (.slice none 0 0) := blk_cell hk.b2 1
                have hf := fun r => blk_frozen hk.b2 r
                have hbc := HBC.out
                have hcp := HCP.out
                obtain ⟨ua, un, uc, hu⟩ := own_sl (hI.2.2 p4)
                refine wpOp_skip ho (by cases ho; rfl) (w' := (W.setCell ⟨C, 0, none⟩ (.int .i64 sec)).setCell ⟨C, 1, none⟩ u) (by cases ho; simp [execOp, go_sem, p4, stored, z0, z1, hf, ringV, hu]) ?_
                cases ho
                obtain ⟨i1, j2, i3⟩ := hI
                refine ⟨u, by simp [Act.put], ?_, ?_, fun _ => own_set (own_set (i3 p4) (by show C < C + 1; omega) _) (by show C < C + 1; omega) _⟩
                · have := ((hk.swap2.set0 (k := 0) (by omega) (fun p hp => by
                      simp only [List.mem_cons, List.mem_nil_iff, or_false] at hp
                      rcases hp with rfl | rfl
                      · show P ≠ C; omega
                      · show B ≠ C; omega) (.int .i64 sec)).set0 (k := 1) (by omega) (fun p hp => by
                      simp only [List.mem_cons, List.mem_nil_iff, or_false] at hp
                      rcases hp with rfl | rfl
                      · show P ≠ C; omega
                      · show B ≠ C; omega) u)
                  exact ⟨this.below, fun p hp => this.blks p (by
                    simp only [List.mem_cons, List.mem_nil_iff, or_false] at hp ⊢
                    rcases hp with h | h | h
                    · exact .inr (.inl h)
                    · exact .inr (.inr h)
                    · exact .inl (by simpa using h))⟩
                · exact RowAt.frm (RowAt.frm j2 (frm_set W C 0 _) (fun b hb e => by simp [Value.ownBlock] at hb; have := HBS.out; omega)) (frm_set _ C 1 _) (fun b hb e => by simp [Value.ownBlock] at hb; have := HBS.out; omega)
              · refine wpOp_val ho (by cases ho; rfl) (w' := W) (v := (.int .i64 0)) (by cases ho; simp [execOp, go_sem]) ?_
                cases ho
                exact ⟨u, by simp [Act.put], by simpa using hI⟩
            · rintro done ac W hall ⟨u, rfl, hI⟩
              have hl := hall
              clear hall
              have e0 := hl 0 (by decide)
              have e1 := hl 1 (by decide)
              have e2 := hl 2 (by decide)
              have e3 := hl 3 (by decide)
              have e4 := hl 4 (by decide)
              have e5 := hl 5 (by decide)
              have e6 := hl 6 (by decide)
              have HTW := Lib.hid hI.1
              rw [e5] at HTW
              simp only [if_true] at HTW
              have HO := Lib.hid (hI.2.2 e4)
              simp only [e0, e1, e2, e3, e4, e6, if_true]
              clear e0 e1 e2 e3 e4 e5 e6 hl hI
              have r0 : W.cell? ⟨C, 0, none⟩ = some (.int .i64 sec) := blk_cell HTW.out.b2 0
              have r1 : W.cell? ⟨C, 1, none⟩ = some u := blk_cell HTW.out.b2 1
              go_wp2_with fail
              refine bodyPost_ret (v := .tuple #[.agg #[.int .i64 sec, u], .int .i64 0]) (by simp [results, Try.f35, go_sem, r0, r1]) rfl ⟨_, by rw [HF.out]; rfl, by rw [HF.out]; exact own_base HO.out (by have := HBC.out; omega), HTW.out.below⟩
end Go.Proofs.Ytlcdadnfcdjglaa
