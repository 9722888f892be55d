/- Seal, Free, Use, Open, New. Conditions: the segments lie in memory. The log: what is held of it; header, fails. Conditions: generations are not nought. -/
import Derived.Test.YtjmocjcjiiopnaaGreatLogScans19
import Derived.Test.YtjmocjcjiiopnaaGreatLogScans02
import Derived.Test.YtjmocjcjiiopnaaGreatLogScans15

section
set_option linter.unusedVariables false
set_option linter.unusedSimpArgs false
namespace Go.Proofs.YtjmocjcjiiopnaaGreat.Rg
open Go.RowKit Go.Ice Go.Ring

/-- What a turn answers, in memory: the ring, or an empty one. -/
def secOf (sec : Int) (o : Option (List Seg)) : Int := if o.isSome then sec else 0
def segsOf (o : Option (List Seg)) : List Seg := o.getD []
theorem ownNil (w : World) (base : Nat) : OwnSegs w base (.slice none 0 0) [] := World.ownsRow_nil _ _ _ _

/-- The end of a call that answers an empty ring, laid into block C. -/
theorem res_pair {W : World} {C : Nat} {c0 c1 : Value} (h : W.heap[C]? = some (.cells #[c0, c1] 54 (0, 0))) (v0 v1 : Value) :
    ((W.setCell ⟨C, 0, none⟩ v0).setCell ⟨C, 1, none⟩ v1).cell? ⟨C, 0, none⟩ = some v0 ∧ ((W.setCell ⟨C, 0, none⟩ v0).setCell ⟨C, 1, none⟩ v1).cell? ⟨C, 1, none⟩ = some v1 := res_cells (b' := 0) h

theorem below_two {w W : World} {B C : Nat} (h : Below B w W) (hC : B ≤ C) (v0 v1 : Value) : Below B w ((W.setCell ⟨C, 0, none⟩ v0).setCell ⟨C, 1, none⟩ v1) := (h.setCell hC _).setCell hC _

theorem own_sl {w : World} {base : Nat} {v : Value} {l : List Seg} (h : OwnSegs w base v l) : ∃ a n c, v = .slice a n c := by
  obtain ⟨a, c, h, _⟩ := own_form h
  exact ⟨a, _, c, h⟩

set_option maxHeartbeats 4000000 in
theorem seald (w : World) (sec : Int) (v : Value) (l : List Seg) (h : SegsAt w v l) :
    Calls Tryz.prog 103 #[ringV sec v] w fun e w' => ∃ u, e = .returned (.tuple #[ringV (secOf sec (sealF sec l).2) u, .int .i64 (sealF sec l).1]) ∧ OwnSegs w' w.heap.size u (segsOf (sealF sec l).2) ∧ Below w.heap.size w w' := by
  obtain ⟨B, C, W0, HB, HC, HW, HK, HZ⟩ := boxed2 w #[.int .i64 sec, v] 54 #[.int .i64 0, .slice none 0 0] 54
  have HR : Hid (SegsAt W0 v l) := RowAt.below h HK.out.below (Nat.le_refl _)
  have HCK := Lib.hid (opened W0 sec v l HR.out)
  have b0 : W0.cell? ⟨B, 0, none⟩ = some (.int .i64 sec) := blk_cell HK.out.b0 0
  have b1 : W0.cell? ⟨B, 1, none⟩ = some v := blk_cell HK.out.b0 1
  have HF : Hid (sealF sec l = if checkB sec l = false then ((180 : Int), none) else match openedP l with | none => (181, none) | some i => (0, some (l.set i { at' l i with st := 2 }))) := rfl
  generalize sealF sec l = F at *
  obtain ⟨cb, hcb⟩ : ∃ cb, cb = checkB sec l := ⟨_, rfl⟩
  obtain ⟨op, hop⟩ : ∃ op, op = openedP l := ⟨_, rfl⟩
  rw [← hcb, ← hop] at HCK HF
  have HCB := Lib.hid hcb
  have HOP := Lib.hid hop
  clear h hcb hop
  unfold ringV at HCK ⊢
  go_enter Tryz.func103, Tryz.ntmps103
  go_upto_region 1 with fail
  rw [HC.out, HB.out, HW.out]
  go_wp2_with fail
  refine HCK.out.mono ?_
  rintro e w1 ⟨rfl, hbl⟩
  have HK1 := Lib.hid (HK.out.step hbl)
  have HR1 : Hid (SegsAt w1 v l) := RowAt.below HR.out hbl (Nat.le_refl _)
  clear hbl b0 b1 HCK HK HR
  have e0 : w1.cell? ⟨C, 0, none⟩ = some (.int .i64 0) := blk_cell HK1.out.b1 0
  have e1 : w1.cell? ⟨C, 1, none⟩ = some (.slice none 0 0) := blk_cell HK1.out.b1 1
  have fe0 := fun r => blk_frozen HK1.out.b1 r
  unfold openedV
  cases cb with
  | false =>
    simp only [Bool.false_eq_true, if_false, if_true] at HF ⊢
    go_wp2_with fail
    obtain ⟨r0, r1⟩ := res_pair HK1.out.b1 (.int .i64 0) (.slice none 0 0)
    refine bodyPost_ret (v := .tuple #[.agg #[.int .i64 0, .slice none 0 0], .int .i64 180]) (by simp [results, Tryz.f103, go_sem, r0, r1]) rfl ⟨.slice none 0 0, by rw [HF.out]; rfl, by rw [HF.out]; exact ownNil _ _, below_two HK1.out.below (by have := HC.out; omega) _ _⟩
  | true =>
    cases op with
    | none =>
      simp only [Bool.true_eq_false, if_false, if_true] at HF ⊢
      go_wp2_with fail
      obtain ⟨r0, r1⟩ := res_pair HK1.out.b1 (.int .i64 0) (.slice none 0 0)
      refine bodyPost_ret (v := .tuple #[.agg #[.int .i64 0, .slice none 0 0], .int .i64 181]) (by simp [results, Tryz.f103, go_sem, r0, r1]) rfl ⟨.slice none 0 0, by rw [HF.out]; rfl, by rw [HF.out]; exact ownNil _ _, below_two HK1.out.below (by have := HC.out; omega) _ _⟩
    | some i =>
      simp only [Bool.true_eq_false, if_false, if_true] at HF ⊢
      have hil := opened_lt HOP.out.symm
      have HT := Lib.hid (turnd w1 sec v l i 129 #[] { at' l i with st := 2 } HR1.out (by have := check_size HCB.out.symm; omega) hil.1 cf_Seal (fun W g cur _ _ h1 h2 h3 => turn_seal W g (i * 3) cur h1 h2 (at' l i) h3))
      have b0 : w1.cell? ⟨B, 0, none⟩ = some (.int .i64 sec) := blk_cell HK1.out.b0 0
      have b1 : w1.cell? ⟨B, 1, none⟩ = some v := blk_cell HK1.out.b0 1
      unfold ringV at HT
      clear hil e0 e1 fe0
      go_wp2_with fail
      refine HT.out.mono ?_
      rintro e w2 ⟨u, rfl, ho, hbl⟩
      have HK2 := Lib.hid (HK1.out.step hbl)
      have HO := Lib.hid ho
      obtain ⟨au, nu, cu, rfl⟩ := own_sl ho
      have e0 : w2.cell? ⟨C, 0, none⟩ = some (.int .i64 0) := blk_cell HK2.out.b1 0
      have e1 : w2.cell? ⟨C, 1, none⟩ = some (.slice none 0 0) := blk_cell HK2.out.b1 1
      have fe0 := fun r => blk_frozen HK2.out.b1 r
      have hsz := blk_lt HK1.out.b1
      have HSZ := Lib.hid hsz
      clear hbl ho HT HR1 b0 b1 hsz
      go_wp2_with fail
      obtain ⟨r0, r1⟩ := res_pair HK2.out.b1 (.int .i64 sec) (.slice au nu cu)
      refine bodyPost_ret (v := .tuple #[.agg #[.int .i64 sec, .slice au nu cu], .int .i64 0]) (by simp [results, Tryz.f103, go_sem, r0, r1]) rfl ⟨_, by rw [HF.out]; rfl, by rw [HF.out]; exact own_base (own_set (own_set HO.out HSZ.out _) HSZ.out _) HK1.out.below.size, below_two HK2.out.below (by have := HC.out; omega) _ _⟩
end Go.Proofs.YtjmocjcjiiopnaaGreat.Rg
namespace Go.Proofs.YtjmocjcjiiopnaaGreat.Rg
open Go.RowKit Go.Ice Go.Ring

theorem freed_drop {sec : Int} {l : List Seg} {i : Int} (h : checkB sec l = true) : freeF sec l i = if i < 0 ∨ (l.length : Int) ≤ i then (2, none) else if (at' l i.toNat).st ≠ 2 then (181, none) else (0, some (l.set i.toNat zero)) := by
  unfold freeF; rw [h]; simp

set_option maxHeartbeats 4000000 in
theorem freed (w : World) (sec : Int) (v : Value) (l : List Seg) (i : Int) (h : SegsAt w v l) :
    Calls Tryz.prog 70 #[ringV sec v, .int .i64 i] w fun e w' => ∃ u, e = .returned (.tuple #[ringV (secOf sec (freeF sec l i).2) u, .int .i64 (freeF sec l i).1]) ∧ OwnSegs w' w.heap.size u (segsOf (freeF sec l i).2) ∧ Below w.heap.size w w' := by
  obtain ⟨B, C, W0, HB, HC, HW, HK, HZ⟩ := boxed2 w #[.int .i64 sec, v] 54 #[.int .i64 0, .slice none 0 0] 54
  have HR : Hid (SegsAt W0 v l) := RowAt.below h HK.out.below (Nat.le_refl _)
  have HCK := Lib.hid (chek W0 sec v l HR.out)
  have b0 : W0.cell? ⟨B, 0, none⟩ = some (.int .i64 sec) := blk_cell HK.out.b0 0
  have b1 : W0.cell? ⟨B, 1, none⟩ = some v := blk_cell HK.out.b0 1
  have HFF : Hid (checkB sec l = false → freeF sec l i = (180, none)) := fun h => by unfold freeF; rw [if_pos h]
  have HFT : Hid (checkB sec l = true → freeF sec l i = if i < 0 ∨ (l.length : Int) ≤ i then (2, none) else if (at' l i.toNat).st ≠ 2 then (181, none) else (0, some (l.set i.toNat zero))) := freed_drop
  generalize freeF sec l i = F at *
  obtain ⟨cb, hcb⟩ : ∃ cb, cb = checkB sec l := ⟨_, rfl⟩
  rw [← hcb] at HCK
  have HCB := Lib.hid hcb
  clear h hcb
  unfold ringV at HCK ⊢
  go_enter Tryz.func70, Tryz.ntmps70
  go_upto_region 1 with fail
  rw [HC.out, HB.out, HW.out]
  go_wp2_with fail
  refine HCK.out.mono ?_
  rintro e w1 ⟨rfl, hbl⟩
  have HK1 := Lib.hid (HK.out.step hbl)
  have HR1 : Hid (SegsAt w1 v l) := RowAt.below HR.out hbl (Nat.le_refl _)
  clear hbl b0 b1 HCK HK HR
  have e0 : w1.cell? ⟨C, 0, none⟩ = some (.int .i64 0) := blk_cell HK1.out.b1 0
  have e1 : w1.cell? ⟨C, 1, none⟩ = some (.slice none 0 0) := blk_cell HK1.out.b1 1
  have fe0 := fun r => blk_frozen HK1.out.b1 r
  unfold chekE
  have hbad : ∀ x : Int, F = (x, none) → bodyPost Tryz.prog Tryz.f70 (fun e w' => ∃ u, e = .returned (.tuple #[.agg #[.int .i64 (secOf sec F.2), u], .int .i64 F.1]) ∧ OwnSegs w' w.heap.size u (segsOf F.2) ∧ Below w.heap.size w w') .normal ⟨#[], []⟩ w1 ∨ True := fun _ _ => .inr trivial
  clear hbad
  cases cb with
  | false =>
    have HF := Lib.hid (HFF.out HCB.out.symm)
    simp only [Bool.false_eq_true, if_false]
    go_wp2_with fail
    obtain ⟨r0, r1⟩ := res_pair HK1.out.b1 (.int .i64 0) (.slice none 0 0)
    refine bodyPost_ret (v := .tuple #[.agg #[.int .i64 0, .slice none 0 0], .int .i64 180]) (by simp [results, Tryz.f70, go_sem, r0, r1]) rfl ⟨.slice none 0 0, by rw [HF.out]; rfl, by rw [HF.out]; exact ownNil _ _, below_two HK1.out.below (by have := HC.out; omega) _ _⟩
  | true =>
    simp only [if_true]
    have hf := HFT.out HCB.out.symm
    have hs := check_size HCB.out.symm
    obtain ⟨bs, off, cap, rfl, h1, h2, h3, h4⟩ := HR1.out.cell (by omega)
    have b1 : w1.cell? ⟨B, 1, none⟩ = some (.slice (some ⟨bs, off, none⟩) l.length cap) := blk_cell HK1.out.b0 1
    have H4 : Hid (∀ i, i < l.length → w1.cell? ⟨bs, off + i * 3, none⟩ = some (.int .i64 (at' l i).st)) := fun i hi => (h4 i hi).1
    have hn := Lib.hid (show l.length = l.length from rfl)
    obtain ⟨n, hn⟩ : ∃ n, n = l.length := ⟨_, rfl⟩
    rw [← hn] at hf hs b1 H4 h1
    rw [← hn]
    have HN := Lib.hid hn
    unfold maxLen at h2
    clear hn h4
    by_cases hi0 : i < 0
    · have HF := Lib.hid (show F = (2, none) by rw [hf, if_pos (.inl hi0)])
      clear hf
      go_wp2_with fail
      obtain ⟨r0, r1⟩ := res_pair HK1.out.b1 (.int .i64 0) (.slice none 0 0)
      refine bodyPost_ret (v := .tuple #[.agg #[.int .i64 0, .slice none 0 0], .int .i64 2]) (by simp [results, Tryz.f70, go_sem, r0, r1]) rfl ⟨.slice none 0 0, by rw [HF.out]; rfl, by rw [HF.out]; exact ownNil _ _, below_two HK1.out.below (by have := HC.out; omega) _ _⟩
    · by_cases hin : (n : Int) ≤ i
      · have HF := Lib.hid (show F = (2, none) by rw [hf, if_pos (.inr hin)])
        clear hf
        go_wp2_with fail
        obtain ⟨r0, r1⟩ := res_pair HK1.out.b1 (.int .i64 0) (.slice none 0 0)
        refine bodyPost_ret (v := .tuple #[.agg #[.int .i64 0, .slice none 0 0], .int .i64 2]) (by simp [results, Tryz.f70, go_sem, r0, r1]) rfl ⟨.slice none 0 0, by rw [HF.out]; rfl, by rw [HF.out]; exact ownNil _ _, below_two HK1.out.below (by have := HC.out; omega) _ _⟩
      · obtain ⟨k, rfl⟩ : ∃ k : Nat, i = k := ⟨i.toNat, by omega⟩
        rw [if_neg (by omega), Int.toNat_natCast] at hf
        have hk : k < n := by omega
        have q0 := H4.out k hk
        by_cases hst : (at' l k).st = 2
        · rw [hst] at q0
          have HF := Lib.hid (show F = (0, some (l.set k zero)) by rw [hf, if_neg (by simp [hst])])
          have HT := Lib.hid (turnd w1 sec _ l k 115 #[] zero HR1.out (by have := HN.out; omega) (by have := HN.out; omega) cf_Free (fun W g cur _ _ h1 h2 h3 => turn_free W g (k * 3) cur h1 h2))
          have b0 : w1.cell? ⟨B, 0, none⟩ = some (.int .i64 sec) := blk_cell HK1.out.b0 0
          unfold ringV at HT
          rw [← HN.out] at HT
          clear hf
          go_upto_region 7 with fail
          clear e0 e1 fe0
          go_wp2_with fail
          refine HT.out.mono ?_
          rintro e w2 ⟨u, rfl, ho, hbl⟩
          have HK2 := Lib.hid (HK1.out.step hbl)
          have HO := Lib.hid ho
          obtain ⟨au, nu, cu, rfl⟩ := own_sl ho
          have e0 : w2.cell? ⟨C, 0, none⟩ = some (.int .i64 0) := blk_cell HK2.out.b1 0
          have e1 : w2.cell? ⟨C, 1, none⟩ = some (.slice none 0 0) := blk_cell HK2.out.b1 1
          have fe0 := fun r => blk_frozen HK2.out.b1 r
          have hsz := blk_lt HK1.out.b1
          have HSZ := Lib.hid hsz
          clear hbl ho HT b0 b1 hsz
          go_wp2_with fail
          obtain ⟨r0, r1⟩ := res_pair HK2.out.b1 (.int .i64 sec) (.slice au nu cu)
          refine bodyPost_ret (v := .tuple #[.agg #[.int .i64 sec, .slice au nu cu], .int .i64 0]) (by simp [results, Tryz.f70, go_sem, r0, r1]) rfl ⟨_, by rw [HF.out]; rfl, by rw [HF.out]; exact own_base (own_set (own_set HO.out HSZ.out _) HSZ.out _) HK1.out.below.size, below_two HK2.out.below (by have := HC.out; omega) _ _⟩
        · have HF := Lib.hid (show F = (181, none) by rw [hf, if_pos hst])
          have s0 : ((at' l k).st == 2) = false := by simpa using hst
          have s1 : ((at' l k).st != 2) = true := by simpa using hst
          generalize (at' l k).st = st at *
          clear hf
          go_wp2_with fail
          obtain ⟨r0, r1⟩ := res_pair HK1.out.b1 (.int .i64 0) (.slice none 0 0)
          refine bodyPost_ret (v := .tuple #[.agg #[.int .i64 0, .slice none 0 0], .int .i64 181]) (by simp [results, Tryz.f70, go_sem, r0, r1]) rfl ⟨.slice none 0 0, by rw [HF.out]; rfl, by rw [HF.out]; exact ownNil _ _, below_two HK1.out.below (by have := HC.out; omega) _ _⟩
end Go.Proofs.YtjmocjcjiiopnaaGreat.Rg
namespace Go.Proofs.YtjmocjcjiiopnaaGreat.Rg
open Go.RowKit Go.Ice Go.Ring

set_option maxHeartbeats 4000000 in
theorem used (w : World) (sec : Int) (v : Value) (l : List Seg) (n : Int) (h : SegsAt w v l) :
    Calls Tryz.prog 57 #[ringV sec v, .int .i64 n] w fun e w' => ∃ u, e = .returned (.tuple #[ringV (secOf sec (useF sec l n).2) u, .int .i64 (useF sec l n).1]) ∧ OwnSegs w' w.heap.size u (segsOf (useF sec l n).2) ∧ Below w.heap.size w w' := by
  obtain ⟨B, D, C, W0, HB, HD, HC, HW, HK, HZ⟩ := boxed3 w #[.int .i64 sec, v] 54 #[.int .i64 n] 3 #[.int .i64 0, .slice none 0 0] 54
  have HR : Hid (SegsAt W0 v l) := RowAt.below h HK.out.below (Nat.le_refl _)
  have HCK := Lib.hid (opened W0 sec v l HR.out)
  have b0 : W0.cell? ⟨B, 0, none⟩ = some (.int .i64 sec) := blk_cell HK.out.b0 0
  have b1 : W0.cell? ⟨B, 1, none⟩ = some v := blk_cell HK.out.b0 1
  have HFF : Hid (useF sec l n = if checkB sec l = false then ((180 : Int), none) else match openedP l with
    | none => (181, none)
    | some i => if n < 0 then (2, none) else if leftP sec l < n then (6, none) else (0, some (l.set i { at' l i with used := (at' l i).used + n }))) := rfl
  generalize useF sec l n = F at *
  obtain ⟨cb, hcb⟩ : ∃ cb, cb = checkB sec l := ⟨_, rfl⟩
  obtain ⟨op, hop⟩ : ∃ op, op = openedP l := ⟨_, rfl⟩
  rw [← hcb, ← hop] at HCK HFF
  have HCB := Lib.hid hcb
  have HOP := Lib.hid hop
  clear h hcb hop
  unfold ringV at HCK ⊢
  go_enter Tryz.func57, Tryz.ntmps57
  go_upto_region 1 with fail
  rw [HC.out, HD.out, HB.out, HW.out]
  go_wp2_with fail
  refine HCK.out.mono ?_
  rintro e w1 ⟨rfl, hbl⟩
  have HK1 := Lib.hid (HK.out.step hbl)
  have HR1 : Hid (SegsAt w1 v l) := RowAt.below HR.out hbl (Nat.le_refl _)
  clear hbl b0 b1 HCK HK HR
  have e0 : w1.cell? ⟨C, 0, none⟩ = some (.int .i64 0) := blk_cell HK1.out.b2 0
  have e1 : w1.cell? ⟨C, 1, none⟩ = some (.slice none 0 0) := blk_cell HK1.out.b2 1
  have fe0 := fun r => blk_frozen HK1.out.b2 r
  unfold openedV
  cases cb with
  | false =>
    simp only [Bool.false_eq_true, if_false, if_true] at HFF ⊢
    go_wp2_with fail
    obtain ⟨r0, r1⟩ := res_pair HK1.out.b2 (.int .i64 0) (.slice none 0 0)
    refine bodyPost_ret (v := .tuple #[.agg #[.int .i64 0, .slice none 0 0], .int .i64 180]) (by simp [results, Tryz.f57, go_sem, r0, r1]) rfl ⟨.slice none 0 0, by rw [HFF.out]; rfl, by rw [HFF.out]; exact ownNil _ _, below_two HK1.out.below (by have := HC.out; omega) _ _⟩
  | true =>
    cases op with
    | none =>
      simp only [Bool.true_eq_false, if_false, if_true] at HFF ⊢
      go_wp2_with fail
      obtain ⟨r0, r1⟩ := res_pair HK1.out.b2 (.int .i64 0) (.slice none 0 0)
      refine bodyPost_ret (v := .tuple #[.agg #[.int .i64 0, .slice none 0 0], .int .i64 181]) (by simp [results, Tryz.f57, go_sem, r0, r1]) rfl ⟨.slice none 0 0, by rw [HFF.out]; rfl, by rw [HFF.out]; exact ownNil _ _, below_two HK1.out.below (by have := HC.out; omega) _ _⟩
    | some i =>
      simp only [Bool.true_eq_false, if_false, if_true] at HFF ⊢
      have d0 : w1.cell? ⟨D, 0, none⟩ = some (.int .i64 n) := blk_cell HK1.out.b1 0
      by_cases hn0 : n < 0
      · have HF := Lib.hid (show F = (2, none) by rw [HFF.out, if_pos hn0])
        go_wp2_with fail
        obtain ⟨r0, r1⟩ := res_pair HK1.out.b2 (.int .i64 0) (.slice none 0 0)
        refine bodyPost_ret (v := .tuple #[.agg #[.int .i64 0, .slice none 0 0], .int .i64 2]) (by simp [results, Tryz.f57, go_sem, r0, r1]) rfl ⟨.slice none 0 0, by rw [HF.out]; rfl, by rw [HF.out]; exact ownNil _ _, below_two HK1.out.below (by have := HC.out; omega) _ _⟩
      · have hil := opened_lt HOP.out.symm
        have hs := check_size HCB.out.symm
        have hub := used_bd HCB.out.symm hil.1 (.inl hil.2)
        have hlf : leftP sec l = sec - (at' l i).used := by unfold leftP; rw [← HOP.out]
        have HLF : Hid (∀ W, Below w1.heap.size w1 W → Calls Tryz.prog 53 #[.agg #[.int .i64 sec, v]] W fun e w' => e = .returned (.int .i64 (leftP sec l)) ∧ Below w1.heap.size w1 w') := fun W hW =>
          (left W sec v l (RowAt.below HR1.out hW (Nat.le_refl _))).mono fun e w' ⟨h1, h2⟩ => ⟨by rw [h1, ← HCB.out]; rfl, hW.trans (h2.mono hW.size)⟩
        have HCC : Hid (∀ W, Below w1.heap.size w1 W → W.cell? ⟨B, 0, none⟩ = some (.int .i64 sec) ∧ W.cell? ⟨B, 1, none⟩ = some v ∧ W.cell? ⟨D, 0, none⟩ = some (.int .i64 n)) := fun W hW => by
          have := HK1.out.step hW
          exact ⟨blk_cell this.b0 0, blk_cell this.b0 1, blk_cell this.b1 0⟩
        have HU : Hid (0 ≤ (at' l i).used ∧ (at' l i).used ≤ 64) := ⟨by omega, by omega⟩
        have HLV : Hid (leftP sec l ≤ 64) := (show leftP sec l ≤ 64 by omega)
        generalize leftP sec l = lv at *
        obtain ⟨c0, c1, c2⟩ := HCC.out w1 (Below.refl _ _)
        have HIL := Lib.hid hil.1
        have HSS := Lib.hid hs
        clear hs hub hlf hil e0 e1 fe0 d0
        go_upto_region 6 with fail
        go_region_with (first
          | (go_at_call 53
             refine (HLF.out _ (drewN_below w1 1)).mono ?_
             rintro e W2 ⟨rfl, hw⟩
             have HW2 := Lib.hid hw
             obtain ⟨d0, d1, d2⟩ := HCC.out W2 HW2.out
             clear hw))
        all_goals
          have HK2 := Lib.hid (HK1.out.step HW2.out)
          have HR2 : Hid (SegsAt W2 v l) := RowAt.below HR1.out HW2.out (Nat.le_refl _)
          have HLVN := HLV.out
          have e0 : W2.cell? ⟨C, 0, none⟩ = some (.int .i64 0) := blk_cell HK2.out.b2 0
          have e1 : W2.cell? ⟨C, 1, none⟩ = some (.slice none 0 0) := blk_cell HK2.out.b2 1
          have fe0 := fun r => blk_frozen HK2.out.b2 r
          by_cases hnl : lv < n
          · have HF := Lib.hid (show F = (6, none) by rw [HFF.out, if_neg (by omega), if_pos hnl])
            go_wp2_with fail
            obtain ⟨r0, r1⟩ := res_pair HK2.out.b2 (.int .i64 0) (.slice none 0 0)
            refine bodyPost_ret (v := .tuple #[.agg #[.int .i64 0, .slice none 0 0], .int .i64 6]) (by simp [results, Tryz.f57, go_sem, r0, r1]) rfl ⟨.slice none 0 0, by rw [HF.out]; rfl, by rw [HF.out]; exact ownNil _ _, below_two HK2.out.below (by have := HC.out; omega) _ _⟩
          · have HF := Lib.hid (show F = (0, some (l.set i { at' l i with used := (at' l i).used + n })) by rw [HFF.out, if_neg (by omega), if_neg hnl])
            have HT := Lib.hid (turnd W2 sec v l i 108 #[.pointer (some ⟨D, 0, none⟩)] { at' l i with used := (at' l i).used + n } HR2.out (by have := HSS.out; omega) HIL.out cf_Use (fun W g cur hW hg h1 h2 h3 => turn_use W g (i * 3) cur h1 h2 (at' l i) h3 D n (blk_cell (HK2.out.step hW).b1 0) ⟨by omega, by omega⟩ HU.out))
            unfold ringV at HT
            clear e0 e1 fe0
            go_upto_region 8 with fail
            go_wp2_with fail
            refine HT.out.mono ?_
            rintro e w3 ⟨u, rfl, ho, hbl⟩
            have HK3 := Lib.hid (HK2.out.step hbl)
            have HO := Lib.hid ho
            obtain ⟨au, nu, cu, rfl⟩ := own_sl ho
            have e0 : w3.cell? ⟨C, 0, none⟩ = some (.int .i64 0) := blk_cell HK3.out.b2 0
            have e1 : w3.cell? ⟨C, 1, none⟩ = some (.slice none 0 0) := blk_cell HK3.out.b2 1
            have fe0 := fun r => blk_frozen HK3.out.b2 r
            have hsz := blk_lt HK2.out.b2
            have HSZ := Lib.hid hsz
            clear hbl ho HT hsz d0 d1 d2
            go_wp2_with fail
            obtain ⟨r0, r1⟩ := res_pair HK3.out.b2 (.int .i64 sec) (.slice au nu cu)
            refine bodyPost_ret (v := .tuple #[.agg #[.int .i64 sec, .slice au nu cu], .int .i64 0]) (by simp [results, Tryz.f57, go_sem, r0, r1]) rfl ⟨_, by rw [HF.out]; rfl, by rw [HF.out]; exact own_base (own_set (own_set HO.out HSZ.out _) HSZ.out _) HK2.out.below.size, below_two HK3.out.below (by have := HC.out; omega) _ _⟩
end Go.Proofs.YtjmocjcjiiopnaaGreat.Rg
namespace Go.Proofs.YtjmocjcjiiopnaaGreat.Rg
open Go.RowKit Go.Ice Go.Ring

def idxOf (o : Option (List Seg × Nat)) : Int := match o with | none => 0 | some p => p.2
theorem next_lt {l : List Seg} {i : Nat} (h : nextP l = some i) : i < l.length ∧ (at' l i).st = 0 := by
  unfold nextP at h
  have h1 := List.mem_of_find?_eq_some h
  have h2 := List.find?_some h
  unfold behind at h1
  rw [List.mem_map] at h1
  obtain ⟨k, hk, rfl⟩ := h1
  rw [List.mem_range] at hk
  exact ⟨Nat.mod_lt _ (by omega), by simpa [freeB] using h2⟩

set_option maxHeartbeats 4000000 in
theorem openg (w : World) (sec : Int) (v : Value) (l : List Seg) (g : Nat) (h : SegsAt w v l) :
    Calls Tryz.prog 105 #[ringV sec v, .int .u64 g] w fun e w' => ∃ u, e = .returned (.tuple #[ringV (secOf sec ((openF sec l g).2.map (·.1))) u, .int .i64 (idxOf (openF sec l g).2), .int .i64 (openF sec l g).1]) ∧ OwnSegs w' w.heap.size u (segsOf ((openF sec l g).2.map (·.1))) ∧ Below w.heap.size w w' := by
  obtain ⟨B, D, C, W0, HB, HD, HC, HW, HK, HZ⟩ := boxed3 w #[.int .i64 sec, v] 54 #[.int .u64 g] 40 #[.int .i64 0, .slice none 0 0] 54
  have HR : Hid (SegsAt W0 v l) := RowAt.below h HK.out.below (Nat.le_refl _)
  have HCK := Lib.hid (opend W0 sec v l HR.out)
  have b0 : W0.cell? ⟨B, 0, none⟩ = some (.int .i64 sec) := blk_cell HK.out.b0 0
  have b1 : W0.cell? ⟨B, 1, none⟩ = some v := blk_cell HK.out.b0 1
  have HFF : Hid (openF sec l g = if checkB sec l = false then ((180 : Int), none) else if openedP l ≠ none then (181, none) else if g ≤ lastGen l then (2, none) else
    match nextP l with | none => (6, none) | some i => (0, some (l.set i ⟨1, g, 1⟩, i))) := rfl
  generalize openF sec l g = F at *
  obtain ⟨cb, hcb⟩ : ∃ cb, cb = checkB sec l := ⟨_, rfl⟩
  obtain ⟨op, hop⟩ : ∃ op, op = openedP l := ⟨_, rfl⟩
  rw [← hcb, ← hop] at HCK HFF
  have HCB := Lib.hid hcb
  clear h hcb hop
  unfold ringV at HCK ⊢
  go_enter Tryz.func105, Tryz.ntmps105
  go_upto_region 1 with fail
  rw [HC.out, HD.out, HB.out, HW.out]
  go_wp2_with fail
  refine HCK.out.mono ?_
  rintro e w1 ⟨rfl, hbl⟩
  have HK1 := Lib.hid (HK.out.step hbl)
  have HR1 : Hid (SegsAt w1 v l) := RowAt.below HR.out hbl (Nat.le_refl _)
  clear hbl b0 b1 HCK HK HR
  unfold seekV
  cases cb with
  | false =>
    have e0 : w1.cell? ⟨C, 0, none⟩ = some (.int .i64 0) := blk_cell HK1.out.b2 0
    have e1 : w1.cell? ⟨C, 1, none⟩ = some (.slice none 0 0) := blk_cell HK1.out.b2 1
    have fe0 := fun r => blk_frozen HK1.out.b2 r
    simp only [Bool.false_eq_true, if_false, if_true] at HFF ⊢
    go_wp2_with fail
    obtain ⟨r0, r1⟩ := res_pair HK1.out.b2 (.int .i64 0) (.slice none 0 0)
    refine bodyPost_ret (v := .tuple #[.agg #[.int .i64 0, .slice none 0 0], .int .i64 0, .int .i64 180]) (by simp [results, Tryz.f105, go_sem, r0, r1]) rfl ⟨.slice none 0 0, by rw [HFF.out]; rfl, by rw [HFF.out]; exact ownNil _ _, below_two HK1.out.below (by have := HC.out; omega) _ _⟩
  | true =>
    cases op with
    | some i =>
      have e0 : w1.cell? ⟨C, 0, none⟩ = some (.int .i64 0) := blk_cell HK1.out.b2 0
      have e1 : w1.cell? ⟨C, 1, none⟩ = some (.slice none 0 0) := blk_cell HK1.out.b2 1
      have fe0 := fun r => blk_frozen HK1.out.b2 r
      simp only [Bool.true_eq_false, if_false, if_true, ne_eq, reduceCtorEq, not_false_eq_true] at HFF ⊢
      go_wp2_with fail
      obtain ⟨r0, r1⟩ := res_pair HK1.out.b2 (.int .i64 0) (.slice none 0 0)
      refine bodyPost_ret (v := .tuple #[.agg #[.int .i64 0, .slice none 0 0], .int .i64 0, .int .i64 181]) (by simp [results, Tryz.f105, go_sem, r0, r1]) rfl ⟨.slice none 0 0, by rw [HFF.out]; rfl, by rw [HFF.out]; exact ownNil _ _, below_two HK1.out.below (by have := HC.out; omega) _ _⟩
    | none =>
      simp only [Bool.true_eq_false, if_false, if_true, ne_eq, not_true_eq_false] at HFF ⊢
      have hs := check_size HCB.out.symm
      have HLT := Lib.hid (late w1 sec v l HR1.out (by omega) (by omega))
      have c0 : w1.cell? ⟨B, 0, none⟩ = some (.int .i64 sec) := blk_cell HK1.out.b0 0
      have c1 : w1.cell? ⟨B, 1, none⟩ = some v := blk_cell HK1.out.b0 1
      unfold ringV at HLT
      have HSS := Lib.hid hs
      clear hs
      go_wp2_with fail
      refine HLT.out.mono ?_
      rintro e w2 ⟨rfl, hbl⟩
      have HK2 := Lib.hid (HK1.out.step hbl)
      have HR2 : Hid (SegsAt w2 v l) := RowAt.below HR1.out hbl (Nat.le_refl _)
      clear hbl c0 c1 HLT HR1 HK1
      have d0 : w2.cell? ⟨D, 0, none⟩ = some (.int .u64 g) := blk_cell HK2.out.b1 0
      generalize lateI l = li at *
      by_cases hg : g ≤ lastGen l
      · rw [if_pos hg] at HFF
        have e0 : w2.cell? ⟨C, 0, none⟩ = some (.int .i64 0) := blk_cell HK2.out.b2 0
        have e1 : w2.cell? ⟨C, 1, none⟩ = some (.slice none 0 0) := blk_cell HK2.out.b2 1
        have fe0 := fun r => blk_frozen HK2.out.b2 r
        generalize lastGen l = lg at *
        go_wp2_with fail
        obtain ⟨r0, r1⟩ := res_pair HK2.out.b2 (.int .i64 0) (.slice none 0 0)
        refine bodyPost_ret (v := .tuple #[.agg #[.int .i64 0, .slice none 0 0], .int .i64 0, .int .i64 2]) (by simp [results, Tryz.f105, go_sem, r0, r1]) rfl ⟨.slice none 0 0, by rw [HFF.out]; rfl, by rw [HFF.out]; exact ownNil _ _, below_two HK2.out.below (by have := HC.out; omega) _ _⟩
      · rw [if_neg hg] at HFF
        generalize lastGen l = lg at *
        have HNX := Lib.hid (next w2 sec v l HR2.out)
        rw [← HCB.out] at HNX
        obtain ⟨nx, hnx⟩ : ∃ nx, nx = nextP l := ⟨_, rfl⟩
        rw [← hnx] at HNX HFF
        have HXN := Lib.hid hnx
        have c0 : w2.cell? ⟨B, 0, none⟩ = some (.int .i64 sec) := blk_cell HK2.out.b0 0
        have c1 : w2.cell? ⟨B, 1, none⟩ = some v := blk_cell HK2.out.b0 1
        unfold ringV at HNX
        clear hnx
        go_wp2_with fail
        refine HNX.out.mono ?_
        rintro e w3 ⟨rfl, hbl⟩
        have HK3 := Lib.hid (HK2.out.step hbl)
        have HR3 : Hid (SegsAt w3 v l) := RowAt.below HR2.out hbl (Nat.le_refl _)
        clear hbl c0 c1 HNX HR2 HK2 d0
        unfold nextV
        cases nx with
        | none =>
          have e0 : w3.cell? ⟨C, 0, none⟩ = some (.int .i64 0) := blk_cell HK3.out.b2 0
          have e1 : w3.cell? ⟨C, 1, none⟩ = some (.slice none 0 0) := blk_cell HK3.out.b2 1
          have fe0 := fun r => blk_frozen HK3.out.b2 r
          simp only [if_true] at HFF ⊢
          go_wp2_with fail
          obtain ⟨r0, r1⟩ := res_pair HK3.out.b2 (.int .i64 0) (.slice none 0 0)
          refine bodyPost_ret (v := .tuple #[.agg #[.int .i64 0, .slice none 0 0], .int .i64 0, .int .i64 6]) (by simp [results, Tryz.f105, go_sem, r0, r1]) rfl ⟨.slice none 0 0, by rw [HFF.out]; rfl, by rw [HFF.out]; exact ownNil _ _, below_two HK3.out.below (by have := HC.out; omega) _ _⟩
        | some i =>
          simp only [if_true] at HFF ⊢
          have hil := next_lt HXN.out.symm
          have HT := Lib.hid (turnd w3 sec v l i 131 #[.pointer (some ⟨D, 0, none⟩)] ⟨1, g, 1⟩ HR3.out (by have := HSS.out; omega) hil.1 cf_Open (fun W g' cur hW hg' h1 h2 h3 => turn_open W g' (i * 3) cur h1 h2 D g (blk_cell (HK3.out.step hW).b1 0)))
          unfold ringV at HT
          have c0 : w3.cell? ⟨B, 0, none⟩ = some (.int .i64 sec) := blk_cell HK3.out.b0 0
          have c1 : w3.cell? ⟨B, 1, none⟩ = some v := blk_cell HK3.out.b0 1
          clear hil
          go_wp2_with fail
          refine HT.out.mono ?_
          rintro e w4 ⟨u, rfl, ho, hbl⟩
          have HK4 := Lib.hid (HK3.out.step hbl)
          have HO := Lib.hid ho
          obtain ⟨au, nu, cu, rfl⟩ := own_sl ho
          have e0 : w4.cell? ⟨C, 0, none⟩ = some (.int .i64 0) := blk_cell HK4.out.b2 0
          have e1 : w4.cell? ⟨C, 1, none⟩ = some (.slice none 0 0) := blk_cell HK4.out.b2 1
          have fe0 := fun r => blk_frozen HK4.out.b2 r
          have hsz := blk_lt HK3.out.b2
          have HSZ := Lib.hid hsz
          clear hbl ho HT hsz c0 c1
          go_wp2_with fail
          obtain ⟨r0, r1⟩ := res_pair HK4.out.b2 (.int .i64 sec) (.slice au nu cu)
          refine bodyPost_ret (v := .tuple #[.agg #[.int .i64 sec, .slice au nu cu], .int .i64 i, .int .i64 0]) (by simp [results, Tryz.f105, go_sem, r0, r1]) rfl ⟨_, by rw [HFF.out]; rfl, by rw [HFF.out]; exact own_base (own_set (own_set HO.out HSZ.out _) HSZ.out _) HK3.out.below.size, below_two HK4.out.below (by have := HC.out; omega) _ _⟩
end Go.Proofs.YtjmocjcjiiopnaaGreat.Rg
namespace Go.Proofs.YtjmocjcjiiopnaaGreat.Rg
open Go.RowKit Go.Ice Go.Ring

def sizedI (n sec : Int) : Bool := decide (4 ≤ n ∧ n ≤ 16) && decide (24 ≤ sec ∧ sec ≤ 64)

theorem made_flat (m : Nat) : (madeCells (Value.agg #[.int .i64 0, .int .u64 0, .int .i64 0]).cells (m * 3)).toList = flat m 3 (segX (List.replicate m zero)) := by
  refine List.ext_getElem? fun k => ?_
  rcases Nat.lt_or_ge k (m * 3) with hk | hk
  · rw [flat_get _ hk]
    have hz : at' (List.replicate m zero) (k / 3) = zero := by
      unfold at'
      rw [List.getD_eq_getElem?_getD, List.getElem?_replicate_of_lt (by omega)]
      rfl
    unfold segX madeCells
    rw [hz]
    have : k % 3 = 0 ∨ k % 3 = 1 ∨ k % 3 = 2 := by omega
    have h3 : (Value.agg #[.int .i64 0, .int .u64 0, .int .i64 0]).cells = #[.int .i64 0, .int .u64 0, .int .i64 0] := rfl
    rw [h3]
    rcases this with h | h | h <;> simp [hk, h, segCell, zero]
  · rw [List.getElem?_eq_none (l := flat _ _ _) (by rw [flat_len]; exact hk), List.getElem?_eq_none (by rw [Array.length_toList, size_madeCells]; exact hk)]

/-- A make in a walk, its run known. -/
theorem wpList_make_eq {P : Program} {ops : Array Oper} {rest : List Oper} {o : Oper} {a : Act} {w : World} {Q : Exit → Act → World → Prop} (hgd : o.guard = none) (l c : Operand) (t : TypeId)
    (ho : o.op = .makeSlice t l c) {vl vc v' : Value} {w' : World} (hl : a.eval l = vl) (hc : a.eval c = vc)
    (hrun : (Instr.makeSlice t vl vc).run P w = .ok v' w') (h : wpList P ops Q rest (a.put o.dst v') w') : wpList P ops Q (o :: rest) a w :=
  wpList_plain hgd fun _ hK => by
    unfold Oper.wp
    simp [execOp, ho, hl, hc, hrun, Result.andThen]
    exact hK _ _ h

theorem sized41 (w : World) (n sec : Int) : Calls Tryz.prog 78 #[.int .i64 n, .int .i64 sec] w fun e w' => e = .returned (.bool (sizedI n sec)) ∧ w' = w := by
  obtain ⟨bb, hbb⟩ : ∃ bb, bb = sizedI n sec := ⟨_, rfl⟩
  rw [← hbb]
  unfold sizedI at hbb
  go_enter Tryz.func78, Tryz.ntmps78
  by_cases h1 : 4 ≤ n
  · by_cases h2 : n ≤ 16
    · by_cases h3 : 24 ≤ sec
      · by_cases h4 : sec ≤ 64
        · have HX := Lib.hid (show bb = true by rw [hbb]; simp; omega)
          clear hbb
          go_wp2_with fail
          go_ret
          exact ⟨by rw [HX.out]; rfl, rfl⟩
        · have HX := Lib.hid (show bb = false by rw [hbb]; simp; omega)
          clear hbb
          go_wp2_with fail
          go_ret
          exact ⟨by rw [HX.out]; rfl, rfl⟩
      · have HX := Lib.hid (show bb = false by rw [hbb]; simp; omega)
        clear hbb
        go_wp2_with fail
        go_ret
        exact ⟨by rw [HX.out]; rfl, rfl⟩
    · have HX := Lib.hid (show bb = false by rw [hbb]; simp; omega)
      clear hbb
      go_wp2_with fail
      go_ret
      exact ⟨by rw [HX.out]; rfl, rfl⟩
  · have HX := Lib.hid (show bb = false by rw [hbb]; simp; omega)
    clear hbb
    go_wp2_with fail
    go_ret
    exact ⟨by rw [HX.out]; rfl, rfl⟩

set_option maxHeartbeats 4000000 in
set_option maxRecDepth 20000 in
theorem new (w : World) (n sec : Int) :
    Calls Tryz.prog 37 #[.int .i64 n, .int .i64 sec] w fun e w' => ∃ u, e = .returned (.tuple #[ringV (if sizedI n sec then sec else 0) u, if sizedI n sec then .int .i64 0 else .int .i64 2]) ∧ OwnSegs w' w.heap.size u (if sizedI n sec then List.replicate n.toNat zero else []) ∧ Below w.heap.size w w' := by
  obtain ⟨i0, hi0, hz0, hz1, hz2⟩ := elemSeg.hi
  obtain ⟨C, W0, HC, HW, HK, HZ⟩ := boxed1 w #[.int .i64 0, .slice none 0 0] 54
  have HS := Lib.hid (sized41 W0 n sec)
  obtain ⟨bb, hbb⟩ : ∃ bb, bb = sizedI n sec := ⟨_, rfl⟩
  rw [← hbb] at HS ⊢
  have HBB := Lib.hid hbb
  have e0 : W0.cell? ⟨C, 0, none⟩ = some (.int .i64 0) := blk_cell HK.out.b0 0
  have e1 : W0.cell? ⟨C, 1, none⟩ = some (.slice none 0 0) := blk_cell HK.out.b0 1
  have fe0 := fun r => blk_frozen HK.out.b0 r
  clear hbb
  go_enter Tryz.func37, Tryz.ntmps37
  go_upto_region 1 with fail
  rw [HC.out, HW.out]
  go_wp2_with fail
  refine HS.out.mono ?_
  rintro e w1 ⟨rfl, rfl⟩
  cases bb with
  | false =>
    go_wp2_with fail
    obtain ⟨r0, r1⟩ := res_pair HK.out.b0 (.int .i64 0) (.slice none 0 0)
    refine bodyPost_ret (v := .tuple #[.agg #[.int .i64 0, .slice none 0 0], .int .i64 2]) (by simp [results, Tryz.f37, go_sem, r0, r1]) rfl ⟨.slice none 0 0, rfl, ownNil _ _, below_two HK.out.below (by have := HC.out; omega) _ _⟩
  | true =>
    have hsz : (4 ≤ n ∧ n ≤ 16) ∧ (24 ≤ sec ∧ sec ≤ 64) := by
      have := HBB.out.symm
      unfold sizedI at this
      rw [Bool.and_eq_true] at this
      exact ⟨of_decide_eq_true this.1, of_decide_eq_true this.2⟩
    obtain ⟨⟨k1, k2⟩, k3, k4⟩ := hsz
    obtain ⟨m, rfl⟩ : ∃ m : Nat, n = m := ⟨n.toNat, by omega⟩
    obtain ⟨w', hrun, ho, hg⟩ := run_make_full (P := Tryz.prog) w1 (w1.heap.size) 52 135 i0 (.agg #[.int .i64 0, .int .u64 0, .int .i64 0]) 3 Tryz.underlying52 hi0 hz0 hz1 .i64 .i64 m (by rw [hz2]; omega) (by unfold maxLen; omega) (Nat.le_refl _)
    have HRUN := Lib.hid hrun
    have hb : Below w1.heap.size w1 w' := (Below.refl _ w1).grown hg (Nat.le_refl _) (fun k hk => by cases hk)
    have HK2 := Lib.hid (HK.out.step hb)
    have HO : Hid (OwnSegs w' w1.heap.size (.slice (some ⟨w1.heap.size, 0, none⟩) m m) (List.replicate m zero)) := by
      show World.ownsRow _ _ _ _ _ _ _
      rw [List.length_replicate]
      have e : (madeCells (Value.agg #[.int .i64 0, .int .u64 0, .int .i64 0]).cells (m * 3)).toList = flat m 3 (segX (List.replicate m zero)) := made_flat m
      rw [← e]
      exact ho
    have e0' : w'.cell? ⟨C, 0, none⟩ = some (.int .i64 0) := blk_cell HK2.out.b0 0
    have e1' : w'.cell? ⟨C, 1, none⟩ = some (.slice none 0 0) := blk_cell HK2.out.b0 1
    have fe0' := fun r => blk_frozen HK2.out.b0 r
    have hsz := blk_lt HK.out.b0
    have HSZ := Lib.hid hsz
    clear hrun ho hg hb e0 e1 fe0 hsz
    go_wp2_with (refine wpList_make_eq rfl _ _ _ rfl rfl rfl HRUN.out ?_)
    obtain ⟨r0, r1⟩ := res_pair HK2.out.b0 (.int .i64 sec) (.slice (some ⟨w1.heap.size, 0, none⟩) m m)
    refine bodyPost_ret (v := .tuple #[.agg #[.int .i64 sec, .slice (some ⟨w1.heap.size, 0, none⟩) m m], .int .i64 0]) (by simp [results, Tryz.f37, go_sem, r0, r1]) rfl ⟨_, rfl, own_base (own_set (own_set HO.out HSZ.out _) HSZ.out _) HK.out.below.size, below_two HK2.out.below (by have := HC.out; omega) _ _⟩
end Go.Proofs.YtjmocjcjiiopnaaGreat.Rg
end

section
set_option linter.unusedVariables false
set_option linter.unusedSimpArgs false
namespace Go.Lg
open Go.Ring Go.Dsk Go.Oct
/-- A log: what is known, how often it was said, the disk, the ring's segments, whether it is broken. -/
structure Lg where
  x : Sp
  t : Nat
  D : Dk
  segs : List Seg
  br : Bool
end Go.Lg
namespace Go.Proofs.YtjmocjcjiiopnaaGreat
open Go.RowKit Go.Ice Go.Oct Go.Dsk Go.Ring Go.Lg
def logC (s : Nat) (sec : Int) (v : Value) (br : Bool) : List Value := [.pointer (some ⟨s, 0, none⟩), .int .i64 sec, v, .bool br]
def segsA (v : Value) (l : List Seg) : Asn := ownA 135 3 v l.length (flat l.length 3 (Rg.segX l))
def logL (g s p : Nat) (v : Value) (L : Lg) : List Asn := [blkA g (logC s L.x.sec v L.br) 100, blkA s (stoC L.x L.t p) 102, dskA p L.D, segsA v L.segs]
def logA (g s p : Nat) (L : Lg) : Asn := exA fun v => sepA (logL g s p v L)
section
variable {w0 : World} {B : Nat → Prop} {M S : List Asn} {w : World} {g s p : Nat} {L : Lg} {v : Value}
theorem logA.open (h : St w0 B (logA g s p L :: M) S w) : ∃ a c, St w0 B (logL g s p (.slice a L.segs.length c) L ++ M) S w := by
  obtain ⟨v, h⟩ := h.open_
  have h1 := h.flat
  obtain ⟨a, c, hv, _⟩ := own_form (St.own h1 3 rfl)
  exact ⟨a, c, hv ▸ h1⟩
theorem logA.close (h : St w0 B (logL g s p v L ++ M) S w) : St w0 B (logA g s p L :: M) S w := (St.bind (L := logL g s p v L) h).close_ v
/-- The segments, as the ring's functions want them. -/
theorem segs_of {l : List Seg} (h : St w0 B M S w) (i : Nat) (hi : M[i]? = some (segsA v l)) : Rg.SegsAt w v l := Rg.OwnSegs.segs (base := 0) (h.own i hi)
theorem St.newSegs {w' : World} {u : Value} {l : List Seg} (h : St w0 B M S w) (hb : Below w.heap.size w w') (ho : Rg.OwnSegs w' w.heap.size u l) : St w0 B (segsA u l :: M) S w' := h.newOwn hb ho
end
set_option maxHeartbeats 8000000 in
set_option maxRecDepth 20000 in
theorem fails0 (g : Nat) (a b c : Value) (br : Bool) : Meets Tryz.prog 56 #[.pointer (some ⟨g, 0, none⟩), .int .i64 0] [blkA g [a, b, c, .bool br] 100] [] fun v L => v = .int .i64 0 ∧ L = [blkA g [a, b, c, .bool br] 100] := by
  intro w B H
  go_enter Tryz.func56, Tryz.ntmps56
  go_wp2_with fail
  exact bodyPost_ret (results_tmp rfl _ _ _) rfl (Back.mk ⟨rfl, rfl⟩ H)
set_option maxHeartbeats 8000000 in
set_option maxRecDepth 20000 in
theorem failsE (g : Nat) (a b c : Value) (br : Bool) (e : Nat) (he : e ≠ 0) : Meets Tryz.prog 56 #[.pointer (some ⟨g, 0, none⟩), .int .i64 e] [blkA g [a, b, c, .bool br] 100] [] fun v L => v = .int .i64 e ∧ L = [blkA g [a, b, c, .bool true] 100] := by
  intro w B H
  have hne : ((e : Int) != 0) = true := by simp; omega
  obtain ⟨hc, hf⟩ := St.cells H 0
  have H1 := H.set0 3 (.bool true)
  clear he
  go_enter Tryz.func56, Tryz.ntmps56
  go_wp2_with fail
  exact bodyPost_ret (results_tmp rfl _ _ _) rfl (Back.mk ⟨rfl, rfl⟩ H1)
/-- A segment's header. -/
def headS (g i : Nat) : List UInt8 := packB g 0 (beB i 2)
set_option maxHeartbeats 8000000 in
set_option maxRecDepth 20000 in
theorem header (g i : Nat) (hg : 1 ≤ g ∧ g ≤ 18446744073709551615) (hi : i ≤ 65535) : Meets Tryz.prog 44 #[.int .u64 g, .int .i64 i] [] [] fun v L => v = .tuple #[blkV (headS g i), .int .i64 0] ∧ L = [] := by
  intro w B H
  have hw : IntKind.u16.wrap (i : Int) = (i : Int) := by simp [IntKind.wrap, IntKind.bits, IntKind.signed]; omega
  have hpl := packB_len g 0 (beB i 2) (by rw [beB_len]; decide)
  obtain ⟨fb, hfb⟩ : ∃ fb, fb = (headS g i).map u8v := ⟨_, rfl⟩
  have hfbl : fb.length = 64 := by rw [hfb, List.length_map]; exact hpl
  have hfb1 : ∀ u ∈ fb, u.oneCell' = true := by rw [hfb]; exact u8v_one _
  have HFB := Lib.hid hfb
  have H1 := H.alloc zL64 38
  obtain ⟨rb, hrb⟩ : ∃ rb, rb = w.heap.size := ⟨_, rfl⟩
  rw [← hrb] at H1
  go_enter Tryz.func44, Tryz.ntmps44
  go_upto_region 1 with fail
  rw [← hrb]
  clear hrb
  refine wp_world (fun W => St w B _ _ W) H1 ?_
  intro w1 H2
  clear H1
  go_wp2_with fail
  refine ((put16m (.slice none 0 0) [] i 2 (beB i 2) rfl rfl (by decide) hi).call (L := []) H2 (share1 (byt_nil_imp _) memHead)).mono ?_
  rintro e w3 ⟨_, _, rfl, ⟨a, c, rfl, rfl⟩, H3⟩
  have hby : BytesAt w3 (.slice a 2 c) (beB i 2) := own_byt (St.own H3 0)
  have HP := pack_ok w3 g 0 (.slice a 2 c) (beB i 2) hby hg (by decide) (by rw [beB_len]; decide)
  rw [show packB g 0 (beB i 2) = headS g i from rfl] at HP
  unfold blkV at HP
  rw [← hfb] at HP
  clear hfb hby H2
  go_wp2_with fail
  refine HP.mono ?_
  rintro e w4 ⟨rfl, hb⟩
  have H4 := H3.below hb
  have HT : w4.there rb 0 64 := St.there H4 1 64
  have H5 := St.setAllAt H4 1 (vs := fb) rfl (by rw [hfbl]; rfl)
  clear HP hb H3
  go_wp2_with ((refine wpl_store rfl _ _ _ rfl rb 0 (by rfl) fb (by rfl) 64 hfbl HT bigBlock hfb1 ?_); (refine wpl_world _ H5 ?_); intro w5 H6)
  refine bodyPost_ret (results_ct rfl rfl bigBlock (St.range H6 1) hfbl) rfl (Back.mk ⟨?_, rfl⟩ (St.pick H6 []))
  rw [HFB.out]; rfl
end Go.Proofs.YtjmocjcjiiopnaaGreat
end
