/- Sectors of the open segment are used; a sealed segment is freed. Conditions: the segments lie in memory; at most a thousand. -/
import Derived.Test.YtlcdadnfcdjglaaTrn
set_option linter.unusedVariables false
set_option linter.unusedSimpArgs false
namespace Go.Proofs.Ytlcdadnfcdjglaa
open Go.RowKit Go.Ice Go.Ring

theorem freed_drop {sec : Int} {l : List Seg} {i : Int} (h : checkB sec l = true) : freeF sec l i = if i < 0 ∨ (l.length : Int) ≤ i then (2, none) else if (at' l i.toNat).st ≠ 2 then (181, none) else (0, some (l.set i.toNat zero)) := by
  unfold freeF; rw [h]; simp

set_option maxHeartbeats 4000000 in
theorem freed (w : World) (sec : Int) (v : Value) (l : List Seg) (i : Int) (h : SegsAt w v l) :
    Calls Try.prog 38 #[ringV sec v, .int .i64 i] w fun e w' => ∃ u, e = .returned (.tuple #[ringV (secOf sec (freeF sec l i).2) u, .int .i64 (freeF sec l i).1]) ∧ OwnSegs w' w.heap.size u (segsOf (freeF sec l i).2) ∧ Below w.heap.size w w' := by
  obtain ⟨B, C, W0, HB, HC, HW, HK, HZ⟩ := boxed2 w #[.int .i64 sec, v] 25 #[.int .i64 0, .slice none 0 0] 25
  have HR : Hid (SegsAt W0 v l) := RowAt.below h HK.out.below (Nat.le_refl _)
  have HCK := Lib.hid (chek W0 sec v l HR.out)
  have b0 : W0.cell? ⟨B, 0, none⟩ = some (.int .i64 sec) := blk_cell HK.out.b0 0
  have b1 : W0.cell? ⟨B, 1, none⟩ = some v := blk_cell HK.out.b0 1
  have HFF : Hid (checkB sec l = false → freeF sec l i = (180, none)) := fun h => by unfold freeF; rw [if_pos h]
  have HFT : Hid (checkB sec l = true → freeF sec l i = if i < 0 ∨ (l.length : Int) ≤ i then (2, none) else if (at' l i.toNat).st ≠ 2 then (181, none) else (0, some (l.set i.toNat zero))) := freed_drop
  generalize freeF sec l i = F at *
  obtain ⟨cb, hcb⟩ : ∃ cb, cb = checkB sec l := ⟨_, rfl⟩
  rw [← hcb] at HCK
  have HCB := Lib.hid hcb
  clear h hcb
  unfold ringV at HCK ⊢
  go_enter Try.func38, Try.ntmps38
  go_upto_region 1 with fail
  rw [HC.out, HB.out, HW.out]
  go_wp2_with fail
  refine HCK.out.mono ?_
  rintro e w1 ⟨rfl, hbl⟩
  have HK1 := Lib.hid (HK.out.step hbl)
  have HR1 : Hid (SegsAt w1 v l) := RowAt.below HR.out hbl (Nat.le_refl _)
  clear hbl b0 b1 HCK HK HR
  have e0 : w1.cell? ⟨C, 0, none⟩ = some (.int .i64 0) := blk_cell HK1.out.b1 0
  have e1 : w1.cell? ⟨C, 1, none⟩ = some (.slice none 0 0) := blk_cell HK1.out.b1 1
  have fe0 := fun r => blk_frozen HK1.out.b1 r
  unfold chekE
  have hbad : ∀ x : Int, F = (x, none) → bodyPost Try.prog Try.f38 (fun e w' => ∃ u, e = .returned (.tuple #[.agg #[.int .i64 (secOf sec F.2), u], .int .i64 F.1]) ∧ OwnSegs w' w.heap.size u (segsOf F.2) ∧ Below w.heap.size w w') .normal ⟨#[], []⟩ w1 ∨ True := fun _ _ => .inr trivial
  clear hbad
  cases cb with
  | false =>
    have HF := Lib.hid (HFF.out HCB.out.symm)
    simp only [Bool.false_eq_true, if_false]
    go_wp2_with fail
    obtain ⟨r0, r1⟩ := res_pair HK1.out.b1 (.int .i64 0) (.slice none 0 0)
    refine bodyPost_ret (v := .tuple #[.agg #[.int .i64 0, .slice none 0 0], .int .i64 180]) (by simp [results, Try.f38, go_sem, r0, r1]) rfl ⟨.slice none 0 0, by rw [HF.out]; rfl, by rw [HF.out]; exact ownNil _ _, below_two HK1.out.below (by have := HC.out; omega) _ _⟩
  | true =>
    simp only [if_true]
    have hf := HFT.out HCB.out.symm
    have hs := check_size HCB.out.symm
    obtain ⟨bs, off, cap, rfl, h1, h2, h3, h4⟩ := HR1.out.cell (by omega)
    have b1 : w1.cell? ⟨B, 1, none⟩ = some (.slice (some ⟨bs, off, none⟩) l.length cap) := blk_cell HK1.out.b0 1
    have H4 : Hid (∀ i, i < l.length → w1.cell? ⟨bs, off + i * 3, none⟩ = some (.int .i64 (at' l i).st)) := fun i hi => (h4 i hi).1
    have hn := Lib.hid (show l.length = l.length from rfl)
    obtain ⟨n, hn⟩ : ∃ n, n = l.length := ⟨_, rfl⟩
    rw [← hn] at hf hs b1 H4 h1
    rw [← hn]
    have HN := Lib.hid hn
    unfold maxLen at h2
    clear hn h4
    by_cases hi0 : i < 0
    · have HF := Lib.hid (show F = (2, none) by rw [hf, if_pos (.inl hi0)])
      clear hf
      go_wp2_with fail
      obtain ⟨r0, r1⟩ := res_pair HK1.out.b1 (.int .i64 0) (.slice none 0 0)
      refine bodyPost_ret (v := .tuple #[.agg #[.int .i64 0, .slice none 0 0], .int .i64 2]) (by simp [results, Try.f38, go_sem, r0, r1]) rfl ⟨.slice none 0 0, by rw [HF.out]; rfl, by rw [HF.out]; exact ownNil _ _, below_two HK1.out.below (by have := HC.out; omega) _ _⟩
    · by_cases hin : (n : Int) ≤ i
      · have HF := Lib.hid (show F = (2, none) by rw [hf, if_pos (.inr hin)])
        clear hf
        go_wp2_with fail
        obtain ⟨r0, r1⟩ := res_pair HK1.out.b1 (.int .i64 0) (.slice none 0 0)
        refine bodyPost_ret (v := .tuple #[.agg #[.int .i64 0, .slice none 0 0], .int .i64 2]) (by simp [results, Try.f38, go_sem, r0, r1]) rfl ⟨.slice none 0 0, by rw [HF.out]; rfl, by rw [HF.out]; exact ownNil _ _, below_two HK1.out.below (by have := HC.out; omega) _ _⟩
      · obtain ⟨k, rfl⟩ : ∃ k : Nat, i = k := ⟨i.toNat, by omega⟩
        rw [if_neg (by omega), Int.toNat_natCast] at hf
        have hk : k < n := by omega
        have q0 := H4.out k hk
        by_cases hst : (at' l k).st = 2
        · rw [hst] at q0
          have HF := Lib.hid (show F = (0, some (l.set k zero)) by rw [hf, if_neg (by simp [hst])])
          have HT := Lib.hid (turnd w1 sec _ l k 57 #[] zero HR1.out (by have := HN.out; omega) (by have := HN.out; omega) cf57 (fun W g cur _ _ h1 h2 h3 => turn_free W g (k * 3) cur h1 h2))
          have b0 : w1.cell? ⟨B, 0, none⟩ = some (.int .i64 sec) := blk_cell HK1.out.b0 0
          unfold ringV at HT
          rw [← HN.out] at HT
          clear hf
          go_upto_region 7 with fail
          clear e0 e1 fe0
          go_wp2_with fail
          refine HT.out.mono ?_
          rintro e w2 ⟨u, rfl, ho, hbl⟩
          have HK2 := Lib.hid (HK1.out.step hbl)
          have HO := Lib.hid ho
          obtain ⟨au, nu, cu, rfl⟩ := own_sl ho
          have e0 : w2.cell? ⟨C, 0, none⟩ = some (.int .i64 0) := blk_cell HK2.out.b1 0
          have e1 : w2.cell? ⟨C, 1, none⟩ = some (.slice none 0 0) := blk_cell HK2.out.b1 1
          have fe0 := fun r => blk_frozen HK2.out.b1 r
          have hsz := blk_lt HK1.out.b1
          have HSZ := Lib.hid hsz
          clear hbl ho HT b0 b1 hsz
          go_wp2_with fail
          obtain ⟨r0, r1⟩ := res_pair HK2.out.b1 (.int .i64 sec) (.slice au nu cu)
          refine bodyPost_ret (v := .tuple #[.agg #[.int .i64 sec, .slice au nu cu], .int .i64 0]) (by simp [results, Try.f38, go_sem, r0, r1]) rfl ⟨_, by rw [HF.out]; rfl, by rw [HF.out]; exact own_base (own_set (own_set HO.out HSZ.out _) HSZ.out _) HK1.out.below.size, below_two HK2.out.below (by have := HC.out; omega) _ _⟩
        · have HF := Lib.hid (show F = (181, none) by rw [hf, if_pos hst])
          have s0 : ((at' l k).st == 2) = false := by simpa using hst
          have s1 : ((at' l k).st != 2) = true := by simpa using hst
          generalize (at' l k).st = st at *
          clear hf
          go_wp2_with fail
          obtain ⟨r0, r1⟩ := res_pair HK1.out.b1 (.int .i64 0) (.slice none 0 0)
          refine bodyPost_ret (v := .tuple #[.agg #[.int .i64 0, .slice none 0 0], .int .i64 181]) (by simp [results, Try.f38, go_sem, r0, r1]) rfl ⟨.slice none 0 0, by rw [HF.out]; rfl, by rw [HF.out]; exact ownNil _ _, below_two HK1.out.below (by have := HC.out; omega) _ _⟩
end Go.Proofs.Ytlcdadnfcdjglaa
