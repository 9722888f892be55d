/- The document opens a segment. Conditions: the segments lie in memory; at most a thousand. -/
import Derived.Test.YtlcdadnfcdjglaaUsR
import Derived.Test.YtlcdadnfcdjglaaOpn
set_option linter.unusedVariables false
set_option linter.unusedSimpArgs false
namespace Go.Proofs.Ytlcdadnfcdjglaa
open Go.RowKit Go.Ice Go.Ring

theorem nextR_eq {sec : Int} {l : List Seg} (h : checkB sec l = true) : nextR l = nextP l := by
  unfold nextR nextP
  rw [latest_eq h]
def lastR (l : List Seg) : Nat := match latestR l with | none => 0 | some a => gen l a
theorem lastR_eq {sec : Int} {l : List Seg} (h : checkB sec l = true) : lastR l = lastGen l := by
  unfold lastR lastGen
  rw [latest_eq h]
  cases latestR l <;> rfl

def openN (l : List Seg) (g : Nat) : Option Nat → Int × Option (List Seg × Nat)
  | none => (6, none)
  | some i => (0, some (l.set i ⟨1, g, 1⟩, i))

set_option maxHeartbeats 8000000 in
theorem openRef (w : World) (sec : Int) (v : Value) (l : List Seg) (g : Nat) (h : SegsAt w v l) :
    Calls Try.prog 32 #[ringV sec v, .int .u64 g] w fun e w' => ∃ u, e = .returned (.tuple #[ringV (secOf sec ((openF sec l g).2.map (·.1))) u, .int .i64 (idxOf (openF sec l g).2), .int .i64 (openF sec l g).1]) ∧ OwnSegs w' w.heap.size u (segsOf ((openF sec l g).2.map (·.1))) ∧ Below w.heap.size w w' := by
  obtain ⟨B, C, W0, HB, HC, HW, HK, HZ⟩ := boxed2 w #[.int .i64 sec, v] 25 #[.int .i64 0, .slice none 0 0] 25
  have HR : Hid (SegsAt W0 v l) := RowAt.below h HK.out.below (Nat.le_refl _)
  have HLT := Lib.hid (latestRef W0 sec v l HR.out)
  have b0 : W0.cell? ⟨B, 0, none⟩ = some (.int .i64 sec) := blk_cell HK.out.b0 0
  have b1 : W0.cell? ⟨B, 1, none⟩ = some v := blk_cell HK.out.b0 1
  have HFF : Hid (openF sec l g = if checkB sec l = false then ((180 : Int), none) else if openedP l ≠ none then (181, none) else if g ≤ lastGen l then (2, none) else
    match nextP l with | none => (6, none) | some i => (0, some (l.set i ⟨1, g, 1⟩, i))) := rfl
  generalize openF sec l g = F at *
  obtain ⟨cb, hcb⟩ : ∃ cb, cb = checkB sec l := ⟨_, rfl⟩
  rw [← hcb] at HFF
  have HCB := Lib.hid hcb
  have HRG : Hid (∀ W, SegsAt W v l → Calls Try.prog 24 #[.agg #[.int .i64 sec, v]] W fun e w' => e = .returned (.bool cb) ∧ Below W.heap.size W w') := fun W hW => by
    have := rightRef W sec v l hW
    rwa [← check_right, ← hcb] at this
  clear h hcb
  unfold ringV at HLT ⊢
  go_enter Try.func32, Try.ntmps32
  go_upto_region 1 with fail
  rw [HC.out, HB.out, HW.out]
  go_wp2_with fail
  refine HLT.out.mono ?_
  rintro e w1 ⟨rfl, hbl⟩
  have HK1 := Lib.hid (HK.out.step hbl)
  have HR1 : Hid (SegsAt w1 v l) := RowAt.below HR.out hbl (Nat.le_refl _)
  have c0 : w1.cell? ⟨B, 0, none⟩ = some (.int .i64 sec) := blk_cell HK1.out.b0 0
  have c1 : w1.cell? ⟨B, 1, none⟩ = some v := blk_cell HK1.out.b0 1
  have HLR : Hid (lastR l = match latestR l with | none => 0 | some a => gen l a) := rfl
  have HLL : Hid (∀ a, latestR l = some a → a < l.length) := fun a ha => latestR_lt ha
  generalize latestR l = la at *
  clear hbl b0 b1 HLT HK HR
  go_wp2_with fail
  refine (HRG.out w1 HR1.out).mono ?_
  rintro e w2 ⟨rfl, hbl⟩
  have HK2 := Lib.hid (HK1.out.step hbl)
  have HR2 : Hid (SegsAt w2 v l) := RowAt.below HR1.out hbl (Nat.le_refl _)
  have d0 : w2.cell? ⟨B, 0, none⟩ = some (.int .i64 sec) := blk_cell HK2.out.b0 0
  have d1 : w2.cell? ⟨B, 1, none⟩ = some v := blk_cell HK2.out.b0 1
  clear hbl c0 c1 HK1 HR1
  cases cb with
  | false =>
    go_wp2_with fail
    refine (HRG.out w2 HR2.out).mono ?_
    rintro e w3 ⟨rfl, hbl⟩
    have HK3 := Lib.hid (HK2.out.step hbl)
    have e0 : w3.cell? ⟨C, 0, none⟩ = some (.int .i64 0) := blk_cell HK3.out.b1 0
    have e1 : w3.cell? ⟨C, 1, none⟩ = some (.slice none 0 0) := blk_cell HK3.out.b1 1
    have fe0 := fun r => blk_frozen HK3.out.b1 r
    have HF := Lib.hid (show F = (180, none) from by rw [HFF.out]; rfl)
    clear hbl d0 d1
    go_wp2_with fail
    obtain ⟨r0, r1⟩ := res_pair HK3.out.b1 (.int .i64 0) (.slice none 0 0)
    refine bodyPost_ret (v := .tuple #[.agg #[.int .i64 0, .slice none 0 0], .int .i64 0, .int .i64 180]) (by simp [results, Try.f32, go_sem, r0, r1]) rfl ⟨.slice none 0 0, by rw [HF.out]; rfl, by rw [HF.out]; exact ownNil _ _, below_two HK3.out.below (by have := HC.out; have := HB.out; omega) _ _⟩
  | true =>
    have hsz := check_size HCB.out.symm
    obtain ⟨bs, off, cap, rfl, k1, k2, k3, k4⟩ := HR2.out.cell (by omega)
    have HSZ := Lib.hid hsz
    have HRG2 : Hid (∀ W, Below w2.heap.size w2 W → SegsAt W (.slice (some ⟨bs, off, none⟩) l.length cap) l ∧ W.cell? ⟨B, 0, none⟩ = some (.int .i64 sec) ∧ W.cell? ⟨B, 1, none⟩ = some (.slice (some ⟨bs, off, none⟩) l.length cap) ∧ W.cell? ⟨C, 0, none⟩ = some (.int .i64 0) ∧ W.cell? ⟨C, 1, none⟩ = some (.slice none 0 0) ∧ ∀ r, W.frozen? ⟨C, r, none⟩ = false) := fun W hW =>
      ⟨RowAt.below HR2.out hW (Nat.le_refl _), blk_cell (HK2.out.step hW).b0 0, blk_cell (HK2.out.step hW).b0 1, blk_cell (HK2.out.step hW).b1 0, blk_cell (HK2.out.step hW).b1 1, fun r => blk_frozen (HK2.out.step hW).b1 r⟩
    have HLE : Hid (lastR l = lastGen l) := lastR_eq HCB.out.symm
    have HNE : Hid (nextR l = nextP l) := nextR_eq HCB.out.symm
    have HOE : Hid (openedR l = openedP l) := (opened_eq HCB.out.symm).symm
    have hw : ∃ (lg : Nat), lg = lastR l := ⟨_, rfl⟩
    obtain ⟨lg, hlg⟩ := hw
    have HLG := Lib.hid hlg
    have hgen : ∀ a, la = some a → w2.cell? ⟨bs, off + a * 3 + 1, none⟩ = some (.int .u64 lg) ∧ a < l.length := fun a ha => by
      have h1 := HLL.out a ha
      refine ⟨?_, h1⟩
      rw [hlg, HLR.out, ha]
      exact (k4 a h1).2.1
    have HGEN := Lib.hid hgen
    have HL0 : Hid (la = none → lg = 0) := fun h => by rw [hlg, HLR.out, h]
    clear k4 hlg hgen hsz HLL
    unfold maxLen at k2
    have HOR : Hid (∀ W, Below w2.heap.size w2 W → Calls Try.prog 27 #[.agg #[.int .i64 sec, .slice (some ⟨bs, off, none⟩) l.length cap]] W fun e w' => e = .returned (.int .i64 (refI (openedP l))) ∧ Below W.heap.size W w') := fun W hW => by
      have := openedRef W sec _ l (HRG2.out W hW).1
      rwa [HOE.out] at this
    have HNR : Hid (∀ W, Below w2.heap.size w2 W → Calls Try.prog 28 #[.agg #[.int .i64 sec, .slice (some ⟨bs, off, none⟩) l.length cap]] W fun e w' => e = .returned (.int .i64 (refI (nextP l))) ∧ Below W.heap.size W w') := fun W hW => by
      have := nextRef W sec _ l (HRG2.out W hW).1 (by have := HSZ.out; omega) (by have := HSZ.out; omega)
      rwa [HNE.out] at this
    have HWT : Hid (∀ W i, Below w2.heap.size w2 W → i < l.length → Calls Try.prog 52 #[.agg #[.int .i64 sec, .slice (some ⟨bs, off, none⟩) l.length cap], .int .i64 i, .agg #[.int .i64 1, .int .u64 g, .int .i64 1]] W fun e w' => ∃ u, e = .returned (ringV sec u) ∧ OwnSegs w' W.heap.size u (l.set i ⟨1, g, 1⟩) ∧ Below W.heap.size W w') := fun W i hW hi =>
      withd W sec _ l i ⟨1, g, 1⟩ (HRG2.out W hW).1 (by have := HSZ.out; omega) hi
    have HOP0 : Hid (∀ o, openedP l = o → if openedP l ≠ none then F = (181, none) else (F = if g ≤ lastGen l then ((2 : Int), none) else openN l g (nextP l))) := fun o _ => by
      by_cases h : openedP l = none
      · rw [if_neg (by simp [h]), HFF.out]; simp [h]; cases nextP l <;> rfl
      · rw [if_pos h, HFF.out]; simp [h]
    have HNX : Hid (∀ i, nextP l = some i → i < l.length) := fun i h => (next_lt h).1
    rw [← HLE.out, ← HLG.out] at HOP0
    generalize openedP l = op at *
    generalize nextP l = nx at *
    obtain ⟨n, hn⟩ : ∃ n, n = l.length := ⟨_, rfl⟩
    rw [← hn] at d1 k1 HRG HRG2 HOR HNR HWT HNX HGEN ⊢
    have HN := Lib.hid hn
    clear hn
    have finish : ∀ (x : Int) (W : World), True := fun _ _ => trivial
    clear finish
    have HRR : Hid (∀ W, Below w2.heap.size w2 W → Calls Try.prog 24 #[.agg #[.int .i64 sec, .slice (some ⟨bs, off, none⟩) n cap]] W fun e w' => e = .returned (.bool true) ∧ Below W.heap.size W w') := fun W hW => HRG.out W (HRG2.out W hW).1
    have HPQ : Hid (la = none ∨ ∃ a, la = some a) := by cases la; exact .inl rfl; exact .inr ⟨_, rfl⟩
    rcases HPQ.out with rfl | ⟨a, rfl⟩
    · have hl0 := HL0.out rfl
      subst hl0
      dsimp only [refI]
      go_wp2_with fail
      refine (HRR.out w2 (Below.refl _ _)).mono ?_
      rintro e w3 ⟨rfl, hbl⟩
      have HB3 : Hid (Below w2.heap.size w2 w3) := hbl
      obtain ⟨-, b0, b1, e0, e1, fe0⟩ := HRG2.out w3 HB3.out
      clear hbl d0 d1
      go_wp2_with fail
      refine (HOR.out w3 HB3.out).mono ?_
      rintro e w4 ⟨rfl, hbl⟩
      have HB4 : Hid (Below w2.heap.size w2 w4) := HB3.out.trans (hbl.mono HB3.out.size)
      clear hbl b0 b1 e0 e1 fe0
      obtain ⟨-, b0, b1, e0, e1, fe0⟩ := HRG2.out w4 HB4.out
      cases op with
      | some i =>
        have HF := Lib.hid (show F = (181, none) from by have := HOP0.out _ rfl; simpa using this)
        have HK4 := Lib.hid (HK2.out.step HB4.out)
        have hi1 : decide ((0 : Int) ≤ (i : Int)) = true := by simp
        dsimp only [refI]
        go_wp2_with fail
        obtain ⟨r0, r1⟩ := res_pair HK4.out.b1 (.int .i64 0) (.slice none 0 0)
        refine bodyPost_ret (v := .tuple #[.agg #[.int .i64 0, .slice none 0 0], .int .i64 0, .int .i64 181]) (by simp [results, Try.f32, go_sem, r0, r1]) rfl ⟨.slice none 0 0, by rw [HF.out]; rfl, by rw [HF.out]; exact ownNil _ _, below_two HK4.out.below (by have := HC.out; have := HB.out; omega) _ _⟩
      | none =>
        dsimp only [refI]
        have HG0 := HOP0.out _ rfl
        simp only [ne_eq, not_true_eq_false, if_false] at HG0
        have HFG := Lib.hid HG0
        clear HG0
        have HK4 := Lib.hid (HK2.out.step HB4.out)
        by_cases hg : g ≤ 0
        · have HF := Lib.hid (show F = (2, none) from by rw [HFG.out, if_pos hg])
          go_wp2_with fail
          obtain ⟨r0, r1⟩ := res_pair HK4.out.b1 (.int .i64 0) (.slice none 0 0)
          refine bodyPost_ret (v := .tuple #[.agg #[.int .i64 0, .slice none 0 0], .int .i64 0, .int .i64 2]) (by simp [results, Try.f32, go_sem, r0, r1]) rfl ⟨.slice none 0 0, by rw [HF.out]; rfl, by rw [HF.out]; exact ownNil _ _, below_two HK4.out.below (by have := HC.out; have := HB.out; omega) _ _⟩
        · have HFN : Hid (F = openN l g nx) := by show _ = _; rw [HFG.out, if_neg hg]
          go_wp2_with fail
          refine (HNR.out w4 HB4.out).mono ?_
          rintro e w5 ⟨rfl, hbl⟩
          have HB5 : Hid (Below w2.heap.size w2 w5) := HB4.out.trans (hbl.mono HB4.out.size)
          clear hbl b0 b1 e0 e1 fe0
          obtain ⟨-, b0, b1, e0, e1, fe0⟩ := HRG2.out w5 HB5.out
          cases nx with
          | none =>
            have HF := Lib.hid (show F = (6, none) from HFN.out)
            have HK5 := Lib.hid (HK2.out.step HB5.out)
            dsimp only [refI]
            go_wp2_with fail
            obtain ⟨r0, r1⟩ := res_pair HK5.out.b1 (.int .i64 0) (.slice none 0 0)
            refine bodyPost_ret (v := .tuple #[.agg #[.int .i64 0, .slice none 0 0], .int .i64 0, .int .i64 6]) (by simp [results, Try.f32, go_sem, r0, r1]) rfl ⟨.slice none 0 0, by rw [HF.out]; rfl, by rw [HF.out]; exact ownNil _ _, below_two HK5.out.below (by have := HC.out; have := HB.out; omega) _ _⟩
          | some i =>
            have HF := Lib.hid (show F = (0, some (l.set i ⟨1, g, 1⟩, i)) from HFN.out)
            have hi1 : decide ((i : Int) < 0) = false := by simp
            dsimp only [refI]
            go_wp2_with fail
            refine (HNR.out w5 HB5.out).mono ?_
            rintro e w6 ⟨rfl, hbl⟩
            have HB6 : Hid (Below w2.heap.size w2 w6) := HB5.out.trans (hbl.mono HB5.out.size)
            clear hbl b0 b1 e0 e1 fe0
            obtain ⟨-, b0, b1, e0, e1, fe0⟩ := HRG2.out w6 HB6.out
            dsimp only [refI]
            go_wp2_with fail
            refine (HWT.out w6 i HB6.out (by have := HNX.out i rfl; exact this)).mono ?_
            rintro e w7 ⟨u, rfl, ho, hbl⟩
            have HB7 : Hid (Below w2.heap.size w2 w7) := HB6.out.trans (hbl.mono HB6.out.size)
            have HO := Lib.hid ho
            have HK7 := Lib.hid (HK2.out.step HB7.out)
            have HC6 : Hid (C < w6.heap.size) := (show C < w6.heap.size from Nat.lt_of_lt_of_le (blk_lt HK2.out.b1) HB6.out.size)
            obtain ⟨au, nu, cu, rfl⟩ := own_sl ho
            unfold ringV
            clear hbl ho b0 b1 e0 e1 fe0
            obtain ⟨-, b0, b1, e0, e1, fe0⟩ := HRG2.out w7 HB7.out
            go_wp2_with fail
            obtain ⟨r0, r1⟩ := res_pair HK7.out.b1 (.int .i64 sec) (.slice au nu cu)
            refine bodyPost_ret (v := .tuple #[.agg #[.int .i64 sec, .slice au nu cu], .int .i64 i, .int .i64 0]) (by simp [results, Try.f32, go_sem, r0, r1]) rfl ⟨_, by rw [HF.out]; rfl, by rw [HF.out]; exact own_base (own_set (own_set HO.out HC6.out _) HC6.out _) (by have := HC6.out; have := HC.out; omega), below_two HK7.out.below (by have := HC.out; have := HB.out; omega) _ _⟩
    · obtain ⟨ga, gal⟩ := HGEN.out _ rfl
      have hi0 : decide ((0 : Int) ≤ (a : Int)) = true := by simp
      dsimp only [refI]
      go_wp2_with fail
      refine (HRR.out w2 (Below.refl _ _)).mono ?_
      rintro e w3 ⟨rfl, hbl⟩
      have HB3 : Hid (Below w2.heap.size w2 w3) := hbl
      obtain ⟨-, b0, b1, e0, e1, fe0⟩ := HRG2.out w3 HB3.out
      clear hbl d0 d1
      go_wp2_with fail
      refine (HOR.out w3 HB3.out).mono ?_
      rintro e w4 ⟨rfl, hbl⟩
      have HB4 : Hid (Below w2.heap.size w2 w4) := HB3.out.trans (hbl.mono HB3.out.size)
      clear hbl b0 b1 e0 e1 fe0
      obtain ⟨-, b0, b1, e0, e1, fe0⟩ := HRG2.out w4 HB4.out
      cases op with
      | some i =>
        have HF := Lib.hid (show F = (181, none) from by have := HOP0.out _ rfl; simpa using this)
        have HK4 := Lib.hid (HK2.out.step HB4.out)
        have hi1 : decide ((0 : Int) ≤ (i : Int)) = true := by simp
        dsimp only [refI]
        go_wp2_with fail
        obtain ⟨r0, r1⟩ := res_pair HK4.out.b1 (.int .i64 0) (.slice none 0 0)
        refine bodyPost_ret (v := .tuple #[.agg #[.int .i64 0, .slice none 0 0], .int .i64 0, .int .i64 181]) (by simp [results, Try.f32, go_sem, r0, r1]) rfl ⟨.slice none 0 0, by rw [HF.out]; rfl, by rw [HF.out]; exact ownNil _ _, below_two HK4.out.below (by have := HC.out; have := HB.out; omega) _ _⟩
      | none =>
        dsimp only [refI]
        have HG0 := HOP0.out _ rfl
        simp only [ne_eq, not_true_eq_false, if_false] at HG0
        have HFG := Lib.hid HG0
        clear HG0
        have HK4 := Lib.hid (HK2.out.step HB4.out)
        by_cases hg : g ≤ lg
        · have HF := Lib.hid (show F = (2, none) from by rw [HFG.out, if_pos hg])
          go_wp2_with fail
          obtain ⟨r0, r1⟩ := res_pair HK4.out.b1 (.int .i64 0) (.slice none 0 0)
          refine bodyPost_ret (v := .tuple #[.agg #[.int .i64 0, .slice none 0 0], .int .i64 0, .int .i64 2]) (by simp [results, Try.f32, go_sem, r0, r1]) rfl ⟨.slice none 0 0, by rw [HF.out]; rfl, by rw [HF.out]; exact ownNil _ _, below_two HK4.out.below (by have := HC.out; have := HB.out; omega) _ _⟩
        · have HFN : Hid (F = openN l g nx) := by show _ = _; rw [HFG.out, if_neg hg]
          go_wp2_with fail
          refine (HNR.out w4 HB4.out).mono ?_
          rintro e w5 ⟨rfl, hbl⟩
          have HB5 : Hid (Below w2.heap.size w2 w5) := HB4.out.trans (hbl.mono HB4.out.size)
          clear hbl b0 b1 e0 e1 fe0
          obtain ⟨-, b0, b1, e0, e1, fe0⟩ := HRG2.out w5 HB5.out
          cases nx with
          | none =>
            have HF := Lib.hid (show F = (6, none) from HFN.out)
            have HK5 := Lib.hid (HK2.out.step HB5.out)
            dsimp only [refI]
            go_wp2_with fail
            obtain ⟨r0, r1⟩ := res_pair HK5.out.b1 (.int .i64 0) (.slice none 0 0)
            refine bodyPost_ret (v := .tuple #[.agg #[.int .i64 0, .slice none 0 0], .int .i64 0, .int .i64 6]) (by simp [results, Try.f32, go_sem, r0, r1]) rfl ⟨.slice none 0 0, by rw [HF.out]; rfl, by rw [HF.out]; exact ownNil _ _, below_two HK5.out.below (by have := HC.out; have := HB.out; omega) _ _⟩
          | some i =>
            have HF := Lib.hid (show F = (0, some (l.set i ⟨1, g, 1⟩, i)) from HFN.out)
            have hi1 : decide ((i : Int) < 0) = false := by simp
            dsimp only [refI]
            go_wp2_with fail
            refine (HNR.out w5 HB5.out).mono ?_
            rintro e w6 ⟨rfl, hbl⟩
            have HB6 : Hid (Below w2.heap.size w2 w6) := HB5.out.trans (hbl.mono HB5.out.size)
            clear hbl b0 b1 e0 e1 fe0
            obtain ⟨-, b0, b1, e0, e1, fe0⟩ := HRG2.out w6 HB6.out
            dsimp only [refI]
            go_wp2_with fail
            refine (HWT.out w6 i HB6.out (by have := HNX.out i rfl; exact this)).mono ?_
            rintro e w7 ⟨u, rfl, ho, hbl⟩
            have HB7 : Hid (Below w2.heap.size w2 w7) := HB6.out.trans (hbl.mono HB6.out.size)
            have HO := Lib.hid ho
            have HK7 := Lib.hid (HK2.out.step HB7.out)
            have HC6 : Hid (C < w6.heap.size) := (show C < w6.heap.size from Nat.lt_of_lt_of_le (blk_lt HK2.out.b1) HB6.out.size)
            obtain ⟨au, nu, cu, rfl⟩ := own_sl ho
            unfold ringV
            clear hbl ho b0 b1 e0 e1 fe0
            obtain ⟨-, b0, b1, e0, e1, fe0⟩ := HRG2.out w7 HB7.out
            go_wp2_with fail
            obtain ⟨r0, r1⟩ := res_pair HK7.out.b1 (.int .i64 sec) (.slice au nu cu)
            refine bodyPost_ret (v := .tuple #[.agg #[.int .i64 sec, .slice au nu cu], .int .i64 i, .int .i64 0]) (by simp [results, Try.f32, go_sem, r0, r1]) rfl ⟨_, by rw [HF.out]; rfl, by rw [HF.out]; exact own_base (own_set (own_set HO.out HC6.out _) HC6.out _) (by have := HC6.out; have := HC.out; omega), below_two HK7.out.below (by have := HC.out; have := HB.out; omega) _ _⟩
end Go.Proofs.Ytlcdadnfcdjglaa
