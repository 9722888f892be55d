/- Sectors of the open segment are used. Conditions: the segments lie in memory. -/
import Derived.Test.YtlcdadnfcdjglaaUse
set_option linter.unusedVariables false
set_option linter.unusedSimpArgs false
namespace Go.Proofs.Ytlcdadnfcdjglaa
open Go.RowKit Go.Ice Go.Ring

set_option maxHeartbeats 4000000 in
theorem used (w : World) (sec : Int) (v : Value) (l : List Seg) (n : Int) (h : SegsAt w v l) :
    Calls Try.prog 34 #[ringV sec v, .int .i64 n] w fun e w' => ∃ u, e = .returned (.tuple #[ringV (secOf sec (useF sec l n).2) u, .int .i64 (useF sec l n).1]) ∧ OwnSegs w' w.heap.size u (segsOf (useF sec l n).2) ∧ Below w.heap.size w w' := by
  obtain ⟨B, D, C, W0, HB, HD, HC, HW, HK, HZ⟩ := boxed3 w #[.int .i64 sec, v] 25 #[.int .i64 n] 3 #[.int .i64 0, .slice none 0 0] 25
  have HR : Hid (SegsAt W0 v l) := RowAt.below h HK.out.below (Nat.le_refl _)
  have HCK := Lib.hid (opened W0 sec v l HR.out)
  have b0 : W0.cell? ⟨B, 0, none⟩ = some (.int .i64 sec) := blk_cell HK.out.b0 0
  have b1 : W0.cell? ⟨B, 1, none⟩ = some v := blk_cell HK.out.b0 1
  have HFF : Hid (useF sec l n = if checkB sec l = false then ((180 : Int), none) else match openedP l with
    | none => (181, none)
    | some i => if n < 0 then (2, none) else if leftP sec l < n then (6, none) else (0, some (l.set i { at' l i with used := (at' l i).used + n }))) := rfl
  generalize useF sec l n = F at *
  obtain ⟨cb, hcb⟩ : ∃ cb, cb = checkB sec l := ⟨_, rfl⟩
  obtain ⟨op, hop⟩ : ∃ op, op = openedP l := ⟨_, rfl⟩
  rw [← hcb, ← hop] at HCK HFF
  have HCB := Lib.hid hcb
  have HOP := Lib.hid hop
  clear h hcb hop
  unfold ringV at HCK ⊢
  go_enter Try.func34, Try.ntmps34
  go_upto_region 1 with fail
  rw [HC.out, HD.out, HB.out, HW.out]
  go_wp2_with fail
  refine HCK.out.mono ?_
  rintro e w1 ⟨rfl, hbl⟩
  have HK1 := Lib.hid (HK.out.step hbl)
  have HR1 : Hid (SegsAt w1 v l) := RowAt.below HR.out hbl (Nat.le_refl _)
  clear hbl b0 b1 HCK HK HR
  have e0 : w1.cell? ⟨C, 0, none⟩ = some (.int .i64 0) := blk_cell HK1.out.b2 0
  have e1 : w1.cell? ⟨C, 1, none⟩ = some (.slice none 0 0) := blk_cell HK1.out.b2 1
  have fe0 := fun r => blk_frozen HK1.out.b2 r
  unfold openedV
  cases cb with
  | false =>
    simp only [Bool.false_eq_true, if_false, if_true] at HFF ⊢
    go_wp2_with fail
    obtain ⟨r0, r1⟩ := res_pair HK1.out.b2 (.int .i64 0) (.slice none 0 0)
    refine bodyPost_ret (v := .tuple #[.agg #[.int .i64 0, .slice none 0 0], .int .i64 180]) (by simp [results, Try.f34, go_sem, r0, r1]) rfl ⟨.slice none 0 0, by rw [HFF.out]; rfl, by rw [HFF.out]; exact ownNil _ _, below_two HK1.out.below (by have := HC.out; omega) _ _⟩
  | true =>
    cases op with
    | none =>
      simp only [Bool.true_eq_false, if_false, if_true] at HFF ⊢
      go_wp2_with fail
      obtain ⟨r0, r1⟩ := res_pair HK1.out.b2 (.int .i64 0) (.slice none 0 0)
      refine bodyPost_ret (v := .tuple #[.agg #[.int .i64 0, .slice none 0 0], .int .i64 181]) (by simp [results, Try.f34, go_sem, r0, r1]) rfl ⟨.slice none 0 0, by rw [HFF.out]; rfl, by rw [HFF.out]; exact ownNil _ _, below_two HK1.out.below (by have := HC.out; omega) _ _⟩
    | some i =>
      simp only [Bool.true_eq_false, if_false, if_true] at HFF ⊢
      have d0 : w1.cell? ⟨D, 0, none⟩ = some (.int .i64 n) := blk_cell HK1.out.b1 0
      by_cases hn0 : n < 0
      · have HF := Lib.hid (show F = (2, none) by rw [HFF.out, if_pos hn0])
        go_wp2_with fail
        obtain ⟨r0, r1⟩ := res_pair HK1.out.b2 (.int .i64 0) (.slice none 0 0)
        refine bodyPost_ret (v := .tuple #[.agg #[.int .i64 0, .slice none 0 0], .int .i64 2]) (by simp [results, Try.f34, go_sem, r0, r1]) rfl ⟨.slice none 0 0, by rw [HF.out]; rfl, by rw [HF.out]; exact ownNil _ _, below_two HK1.out.below (by have := HC.out; omega) _ _⟩
      · have hil := opened_lt HOP.out.symm
        have hs := check_size HCB.out.symm
        have hub := used_bd HCB.out.symm hil.1 (.inl hil.2)
        have hlf : leftP sec l = sec - (at' l i).used := by unfold leftP; rw [← HOP.out]
        have HLF : Hid (∀ W, Below w1.heap.size w1 W → Calls Try.prog 21 #[.agg #[.int .i64 sec, v]] W fun e w' => e = .returned (.int .i64 (leftP sec l)) ∧ Below w1.heap.size w1 w') := fun W hW =>
          (left W sec v l (RowAt.below HR1.out hW (Nat.le_refl _))).mono fun e w' ⟨h1, h2⟩ => ⟨by rw [h1, ← HCB.out]; rfl, hW.trans (h2.mono hW.size)⟩
        have HCC : Hid (∀ W, Below w1.heap.size w1 W → W.cell? ⟨B, 0, none⟩ = some (.int .i64 sec) ∧ W.cell? ⟨B, 1, none⟩ = some v ∧ W.cell? ⟨D, 0, none⟩ = some (.int .i64 n)) := fun W hW => by
          have := HK1.out.step hW
          exact ⟨blk_cell this.b0 0, blk_cell this.b0 1, blk_cell this.b1 0⟩
        have HU : Hid (0 ≤ (at' l i).used ∧ (at' l i).used ≤ 64) := ⟨by omega, by omega⟩
        have HLV : Hid (leftP sec l ≤ 64) := (show leftP sec l ≤ 64 by omega)
        generalize leftP sec l = lv at *
        obtain ⟨c0, c1, c2⟩ := HCC.out w1 (Below.refl _ _)
        have HIL := Lib.hid hil.1
        have HSS := Lib.hid hs
        clear hs hub hlf hil e0 e1 fe0 d0
        go_upto_region 6 with fail
        go_region_with (first
          | (go_at_call 21
             refine (HLF.out _ (drewN_below w1 1)).mono ?_
             rintro e W2 ⟨rfl, hw⟩
             have HW2 := Lib.hid hw
             obtain ⟨d0, d1, d2⟩ := HCC.out W2 HW2.out
             clear hw))
        all_goals
          have HK2 := Lib.hid (HK1.out.step HW2.out)
          have HR2 : Hid (SegsAt W2 v l) := RowAt.below HR1.out HW2.out (Nat.le_refl _)
          have HLVN := HLV.out
          have e0 : W2.cell? ⟨C, 0, none⟩ = some (.int .i64 0) := blk_cell HK2.out.b2 0
          have e1 : W2.cell? ⟨C, 1, none⟩ = some (.slice none 0 0) := blk_cell HK2.out.b2 1
          have fe0 := fun r => blk_frozen HK2.out.b2 r
          by_cases hnl : lv < n
          · have HF := Lib.hid (show F = (6, none) by rw [HFF.out, if_neg (by omega), if_pos hnl])
            go_wp2_with fail
            obtain ⟨r0, r1⟩ := res_pair HK2.out.b2 (.int .i64 0) (.slice none 0 0)
            refine bodyPost_ret (v := .tuple #[.agg #[.int .i64 0, .slice none 0 0], .int .i64 6]) (by simp [results, Try.f34, go_sem, r0, r1]) rfl ⟨.slice none 0 0, by rw [HF.out]; rfl, by rw [HF.out]; exact ownNil _ _, below_two HK2.out.below (by have := HC.out; omega) _ _⟩
          · have HF := Lib.hid (show F = (0, some (l.set i { at' l i with used := (at' l i).used + n })) by rw [HFF.out, if_neg (by omega), if_neg hnl])
            have HT := Lib.hid (turnd W2 sec v l i 55 #[.pointer (some ⟨D, 0, none⟩)] { at' l i with used := (at' l i).used + n } HR2.out (by have := HSS.out; omega) HIL.out cf55 (fun W g cur hW hg h1 h2 h3 => turn_use W g (i * 3) cur h1 h2 (at' l i) h3 D n (blk_cell (HK2.out.step hW).b1 0) ⟨by omega, by omega⟩ HU.out))
            unfold ringV at HT
            clear e0 e1 fe0
            go_upto_region 8 with fail
            go_wp2_with fail
            refine HT.out.mono ?_
            rintro e w3 ⟨u, rfl, ho, hbl⟩
            have HK3 := Lib.hid (HK2.out.step hbl)
            have HO := Lib.hid ho
            obtain ⟨au, nu, cu, rfl⟩ := own_sl ho
            have e0 : w3.cell? ⟨C, 0, none⟩ = some (.int .i64 0) := blk_cell HK3.out.b2 0
            have e1 : w3.cell? ⟨C, 1, none⟩ = some (.slice none 0 0) := blk_cell HK3.out.b2 1
            have fe0 := fun r => blk_frozen HK3.out.b2 r
            have hsz := blk_lt HK2.out.b2
            have HSZ := Lib.hid hsz
            clear hbl ho HT hsz d0 d1 d2
            go_wp2_with fail
            obtain ⟨r0, r1⟩ := res_pair HK3.out.b2 (.int .i64 sec) (.slice au nu cu)
            refine bodyPost_ret (v := .tuple #[.agg #[.int .i64 sec, .slice au nu cu], .int .i64 0]) (by simp [results, Try.f34, go_sem, r0, r1]) rfl ⟨_, by rw [HF.out]; rfl, by rw [HF.out]; exact own_base (own_set (own_set HO.out HSZ.out _) HSZ.out _) HK2.out.below.size, below_two HK3.out.below (by have := HC.out; omega) _ _⟩
end Go.Proofs.Ytlcdadnfcdjglaa
