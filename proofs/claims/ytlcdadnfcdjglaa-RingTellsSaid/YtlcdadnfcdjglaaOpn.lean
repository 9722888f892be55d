/- A segment is opened. Conditions: the segments lie in memory. -/
import Derived.Test.YtlcdadnfcdjglaaUse
set_option linter.unusedVariables false
set_option linter.unusedSimpArgs false
namespace Go.Proofs.Ytlcdadnfcdjglaa
open Go.RowKit Go.Ice Go.Ring

def idxOf (o : Option (List Seg × Nat)) : Int := match o with | none => 0 | some p => p.2
theorem next_lt {l : List Seg} {i : Nat} (h : nextP l = some i) : i < l.length ∧ (at' l i).st = 0 := by
  unfold nextP at h
  have h1 := List.mem_of_find?_eq_some h
  have h2 := List.find?_some h
  unfold behind at h1
  rw [List.mem_map] at h1
  obtain ⟨k, hk, rfl⟩ := h1
  rw [List.mem_range] at hk
  exact ⟨Nat.mod_lt _ (by omega), by simpa [freeB] using h2⟩

set_option maxHeartbeats 4000000 in
theorem openg (w : World) (sec : Int) (v : Value) (l : List Seg) (g : Nat) (h : SegsAt w v l) :
    Calls Try.prog 31 #[ringV sec v, .int .u64 g] w fun e w' => ∃ u, e = .returned (.tuple #[ringV (secOf sec ((openF sec l g).2.map (·.1))) u, .int .i64 (idxOf (openF sec l g).2), .int .i64 (openF sec l g).1]) ∧ OwnSegs w' w.heap.size u (segsOf ((openF sec l g).2.map (·.1))) ∧ Below w.heap.size w w' := by
  obtain ⟨B, D, C, W0, HB, HD, HC, HW, HK, HZ⟩ := boxed3 w #[.int .i64 sec, v] 25 #[.int .u64 g] 44 #[.int .i64 0, .slice none 0 0] 25
  have HR : Hid (SegsAt W0 v l) := RowAt.below h HK.out.below (Nat.le_refl _)
  have HCK := Lib.hid (opend W0 sec v l HR.out)
  have b0 : W0.cell? ⟨B, 0, none⟩ = some (.int .i64 sec) := blk_cell HK.out.b0 0
  have b1 : W0.cell? ⟨B, 1, none⟩ = some v := blk_cell HK.out.b0 1
  have HFF : Hid (openF sec l g = if checkB sec l = false then ((180 : Int), none) else if openedP l ≠ none then (181, none) else if g ≤ lastGen l then (2, none) else
    match nextP l with | none => (6, none) | some i => (0, some (l.set i ⟨1, g, 1⟩, i))) := rfl
  generalize openF sec l g = F at *
  obtain ⟨cb, hcb⟩ : ∃ cb, cb = checkB sec l := ⟨_, rfl⟩
  obtain ⟨op, hop⟩ : ∃ op, op = openedP l := ⟨_, rfl⟩
  rw [← hcb, ← hop] at HCK HFF
  have HCB := Lib.hid hcb
  clear h hcb hop
  unfold ringV at HCK ⊢
  go_enter Try.func31, Try.ntmps31
  go_upto_region 1 with fail
  rw [HC.out, HD.out, HB.out, HW.out]
  go_wp2_with fail
  refine HCK.out.mono ?_
  rintro e w1 ⟨rfl, hbl⟩
  have HK1 := Lib.hid (HK.out.step hbl)
  have HR1 : Hid (SegsAt w1 v l) := RowAt.below HR.out hbl (Nat.le_refl _)
  clear hbl b0 b1 HCK HK HR
  unfold seekV
  cases cb with
  | false =>
    have e0 : w1.cell? ⟨C, 0, none⟩ = some (.int .i64 0) := blk_cell HK1.out.b2 0
    have e1 : w1.cell? ⟨C, 1, none⟩ = some (.slice none 0 0) := blk_cell HK1.out.b2 1
    have fe0 := fun r => blk_frozen HK1.out.b2 r
    simp only [Bool.false_eq_true, if_false, if_true] at HFF ⊢
    go_wp2_with fail
    obtain ⟨r0, r1⟩ := res_pair HK1.out.b2 (.int .i64 0) (.slice none 0 0)
    refine bodyPost_ret (v := .tuple #[.agg #[.int .i64 0, .slice none 0 0], .int .i64 0, .int .i64 180]) (by simp [results, Try.f31, go_sem, r0, r1]) rfl ⟨.slice none 0 0, by rw [HFF.out]; rfl, by rw [HFF.out]; exact ownNil _ _, below_two HK1.out.below (by have := HC.out; omega) _ _⟩
  | true =>
    cases op with
    | some i =>
      have e0 : w1.cell? ⟨C, 0, none⟩ = some (.int .i64 0) := blk_cell HK1.out.b2 0
      have e1 : w1.cell? ⟨C, 1, none⟩ = some (.slice none 0 0) := blk_cell HK1.out.b2 1
      have fe0 := fun r => blk_frozen HK1.out.b2 r
      simp only [Bool.true_eq_false, if_false, if_true, ne_eq, reduceCtorEq, not_false_eq_true] at HFF ⊢
      go_wp2_with fail
      obtain ⟨r0, r1⟩ := res_pair HK1.out.b2 (.int .i64 0) (.slice none 0 0)
      refine bodyPost_ret (v := .tuple #[.agg #[.int .i64 0, .slice none 0 0], .int .i64 0, .int .i64 181]) (by simp [results, Try.f31, go_sem, r0, r1]) rfl ⟨.slice none 0 0, by rw [HFF.out]; rfl, by rw [HFF.out]; exact ownNil _ _, below_two HK1.out.below (by have := HC.out; omega) _ _⟩
    | none =>
      simp only [Bool.true_eq_false, if_false, if_true, ne_eq, not_true_eq_false] at HFF ⊢
      have hs := check_size HCB.out.symm
      have HLT := Lib.hid (late w1 sec v l HR1.out (by omega) (by omega))
      have c0 : w1.cell? ⟨B, 0, none⟩ = some (.int .i64 sec) := blk_cell HK1.out.b0 0
      have c1 : w1.cell? ⟨B, 1, none⟩ = some v := blk_cell HK1.out.b0 1
      unfold ringV at HLT
      have HSS := Lib.hid hs
      clear hs
      go_wp2_with fail
      refine HLT.out.mono ?_
      rintro e w2 ⟨rfl, hbl⟩
      have HK2 := Lib.hid (HK1.out.step hbl)
      have HR2 : Hid (SegsAt w2 v l) := RowAt.below HR1.out hbl (Nat.le_refl _)
      clear hbl c0 c1 HLT HR1 HK1
      have d0 : w2.cell? ⟨D, 0, none⟩ = some (.int .u64 g) := blk_cell HK2.out.b1 0
      generalize lateI l = li at *
      by_cases hg : g ≤ lastGen l
      · rw [if_pos hg] at HFF
        have e0 : w2.cell? ⟨C, 0, none⟩ = some (.int .i64 0) := blk_cell HK2.out.b2 0
        have e1 : w2.cell? ⟨C, 1, none⟩ = some (.slice none 0 0) := blk_cell HK2.out.b2 1
        have fe0 := fun r => blk_frozen HK2.out.b2 r
        generalize lastGen l = lg at *
        go_wp2_with fail
        obtain ⟨r0, r1⟩ := res_pair HK2.out.b2 (.int .i64 0) (.slice none 0 0)
        refine bodyPost_ret (v := .tuple #[.agg #[.int .i64 0, .slice none 0 0], .int .i64 0, .int .i64 2]) (by simp [results, Try.f31, go_sem, r0, r1]) rfl ⟨.slice none 0 0, by rw [HFF.out]; rfl, by rw [HFF.out]; exact ownNil _ _, below_two HK2.out.below (by have := HC.out; omega) _ _⟩
      · rw [if_neg hg] at HFF
        generalize lastGen l = lg at *
        have HNX := Lib.hid (next w2 sec v l HR2.out)
        rw [← HCB.out] at HNX
        obtain ⟨nx, hnx⟩ : ∃ nx, nx = nextP l := ⟨_, rfl⟩
        rw [← hnx] at HNX HFF
        have HXN := Lib.hid hnx
        have c0 : w2.cell? ⟨B, 0, none⟩ = some (.int .i64 sec) := blk_cell HK2.out.b0 0
        have c1 : w2.cell? ⟨B, 1, none⟩ = some v := blk_cell HK2.out.b0 1
        unfold ringV at HNX
        clear hnx
        go_wp2_with fail
        refine HNX.out.mono ?_
        rintro e w3 ⟨rfl, hbl⟩
        have HK3 := Lib.hid (HK2.out.step hbl)
        have HR3 : Hid (SegsAt w3 v l) := RowAt.below HR2.out hbl (Nat.le_refl _)
        clear hbl c0 c1 HNX HR2 HK2 d0
        unfold nextV
        cases nx with
        | none =>
          have e0 : w3.cell? ⟨C, 0, none⟩ = some (.int .i64 0) := blk_cell HK3.out.b2 0
          have e1 : w3.cell? ⟨C, 1, none⟩ = some (.slice none 0 0) := blk_cell HK3.out.b2 1
          have fe0 := fun r => blk_frozen HK3.out.b2 r
          simp only [if_true] at HFF ⊢
          go_wp2_with fail
          obtain ⟨r0, r1⟩ := res_pair HK3.out.b2 (.int .i64 0) (.slice none 0 0)
          refine bodyPost_ret (v := .tuple #[.agg #[.int .i64 0, .slice none 0 0], .int .i64 0, .int .i64 6]) (by simp [results, Try.f31, go_sem, r0, r1]) rfl ⟨.slice none 0 0, by rw [HFF.out]; rfl, by rw [HFF.out]; exact ownNil _ _, below_two HK3.out.below (by have := HC.out; omega) _ _⟩
        | some i =>
          simp only [if_true] at HFF ⊢
          have hil := next_lt HXN.out.symm
          have HT := Lib.hid (turnd w3 sec v l i 51 #[.pointer (some ⟨D, 0, none⟩)] ⟨1, g, 1⟩ HR3.out (by have := HSS.out; omega) hil.1 cf51 (fun W g' cur hW hg' h1 h2 h3 => turn_open W g' (i * 3) cur h1 h2 D g (blk_cell (HK3.out.step hW).b1 0)))
          unfold ringV at HT
          have c0 : w3.cell? ⟨B, 0, none⟩ = some (.int .i64 sec) := blk_cell HK3.out.b0 0
          have c1 : w3.cell? ⟨B, 1, none⟩ = some v := blk_cell HK3.out.b0 1
          clear hil
          go_wp2_with fail
          refine HT.out.mono ?_
          rintro e w4 ⟨u, rfl, ho, hbl⟩
          have HK4 := Lib.hid (HK3.out.step hbl)
          have HO := Lib.hid ho
          obtain ⟨au, nu, cu, rfl⟩ := own_sl ho
          have e0 : w4.cell? ⟨C, 0, none⟩ = some (.int .i64 0) := blk_cell HK4.out.b2 0
          have e1 : w4.cell? ⟨C, 1, none⟩ = some (.slice none 0 0) := blk_cell HK4.out.b2 1
          have fe0 := fun r => blk_frozen HK4.out.b2 r
          have hsz := blk_lt HK3.out.b2
          have HSZ := Lib.hid hsz
          clear hbl ho HT hsz c0 c1
          go_wp2_with fail
          obtain ⟨r0, r1⟩ := res_pair HK4.out.b2 (.int .i64 sec) (.slice au nu cu)
          refine bodyPost_ret (v := .tuple #[.agg #[.int .i64 sec, .slice au nu cu], .int .i64 i, .int .i64 0]) (by simp [results, Try.f31, go_sem, r0, r1]) rfl ⟨_, by rw [HFF.out]; rfl, by rw [HFF.out]; exact own_base (own_set (own_set HO.out HSZ.out _) HSZ.out _) HK3.out.below.size, below_two HK4.out.below (by have := HC.out; omega) _ _⟩
end Go.Proofs.Ytlcdadnfcdjglaa
