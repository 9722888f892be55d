/- New rings, by the program and by the document. No condition. -/
import Derived.Test.YtlcdadnfcdjglaaCpy
set_option linter.unusedVariables false
set_option linter.unusedSimpArgs false
namespace Go.Proofs.Ytlcdadnfcdjglaa
open Go.RowKit Go.Ice Go.Ring

def sizedI (n sec : Int) : Bool := decide (4 ≤ n ∧ n ≤ 16) && decide (24 ≤ sec ∧ sec ≤ 64)

theorem made_flat (m : Nat) : (madeCells (Value.agg #[.int .i64 0, .int .u64 0, .int .i64 0]).cells (m * 3)).toList = flat m 3 (segX (List.replicate m zero)) := by
  refine List.ext_getElem? fun k => ?_
  rcases Nat.lt_or_ge k (m * 3) with hk | hk
  · rw [flat_get _ hk]
    have hz : at' (List.replicate m zero) (k / 3) = zero := by
      unfold at'
      rw [List.getD_eq_getElem?_getD, List.getElem?_replicate_of_lt (by omega)]
      rfl
    unfold segX madeCells
    rw [hz]
    have : k % 3 = 0 ∨ k % 3 = 1 ∨ k % 3 = 2 := by omega
    have h3 : (Value.agg #[.int .i64 0, .int .u64 0, .int .i64 0]).cells = #[.int .i64 0, .int .u64 0, .int .i64 0] := rfl
    rw [h3]
    rcases this with h | h | h <;> simp [hk, h, segCell, zero]
  · rw [List.getElem?_eq_none (l := flat _ _ _) (by rw [flat_len]; exact hk), List.getElem?_eq_none (by rw [Array.length_toList, size_madeCells]; exact hk)]

/-- A make in a walk, its run known. -/
theorem wpList_make_eq {P : Program} {ops : Array Oper} {rest : List Oper} {o : Oper} {a : Act} {w : World} {Q : Exit → Act → World → Prop} (hgd : o.guard = none) (l c : Operand) (t : TypeId)
    (ho : o.op = .makeSlice t l c) {vl vc v' : Value} {w' : World} (hl : a.eval l = vl) (hc : a.eval c = vc)
    (hrun : (Instr.makeSlice t vl vc).run P w = .ok v' w') (h : wpList P ops Q rest (a.put o.dst v') w') : wpList P ops Q (o :: rest) a w :=
  wpList_plain hgd fun _ hK => by
    unfold Oper.wp
    simp [execOp, ho, hl, hc, hrun, Result.andThen]
    exact hK _ _ h

theorem sized41 (w : World) (n sec : Int) : Calls Try.prog 41 #[.int .i64 n, .int .i64 sec] w fun e w' => e = .returned (.bool (sizedI n sec)) ∧ w' = w := by
  obtain ⟨bb, hbb⟩ : ∃ bb, bb = sizedI n sec := ⟨_, rfl⟩
  rw [← hbb]
  unfold sizedI at hbb
  go_enter Try.func41, Try.ntmps41
  by_cases h1 : 4 ≤ n
  · by_cases h2 : n ≤ 16
    · by_cases h3 : 24 ≤ sec
      · by_cases h4 : sec ≤ 64
        · have HX := Lib.hid (show bb = true by rw [hbb]; simp; omega)
          clear hbb
          go_wp2_with fail
          go_ret
          exact ⟨by rw [HX.out]; rfl, rfl⟩
        · have HX := Lib.hid (show bb = false by rw [hbb]; simp; omega)
          clear hbb
          go_wp2_with fail
          go_ret
          exact ⟨by rw [HX.out]; rfl, rfl⟩
      · have HX := Lib.hid (show bb = false by rw [hbb]; simp; omega)
        clear hbb
        go_wp2_with fail
        go_ret
        exact ⟨by rw [HX.out]; rfl, rfl⟩
    · have HX := Lib.hid (show bb = false by rw [hbb]; simp; omega)
      clear hbb
      go_wp2_with fail
      go_ret
      exact ⟨by rw [HX.out]; rfl, rfl⟩
  · have HX := Lib.hid (show bb = false by rw [hbb]; simp; omega)
    clear hbb
    go_wp2_with fail
    go_ret
    exact ⟨by rw [HX.out]; rfl, rfl⟩

theorem sized42 (w : World) (n sec : Int) : Calls Try.prog 42 #[.int .i64 n, .int .i64 sec] w fun e w' => e = .returned (.bool (sizedI n sec)) ∧ w' = w := by
  obtain ⟨bb, hbb⟩ : ∃ bb, bb = sizedI n sec := ⟨_, rfl⟩
  rw [← hbb]
  unfold sizedI at hbb
  go_enter Try.func42, Try.ntmps42
  by_cases h1 : 4 ≤ n
  · by_cases h2 : n ≤ 16
    · by_cases h3 : 24 ≤ sec
      · by_cases h4 : sec ≤ 64
        · have HX := Lib.hid (show bb = true by rw [hbb]; simp; omega)
          clear hbb
          go_wp2_with fail
          go_ret
          exact ⟨by rw [HX.out]; rfl, rfl⟩
        · have HX := Lib.hid (show bb = false by rw [hbb]; simp; omega)
          clear hbb
          go_wp2_with fail
          go_ret
          exact ⟨by rw [HX.out]; rfl, rfl⟩
      · have HX := Lib.hid (show bb = false by rw [hbb]; simp; omega)
        clear hbb
        go_wp2_with fail
        go_ret
        exact ⟨by rw [HX.out]; rfl, rfl⟩
    · have HX := Lib.hid (show bb = false by rw [hbb]; simp; omega)
      clear hbb
      go_wp2_with fail
      go_ret
      exact ⟨by rw [HX.out]; rfl, rfl⟩
  · have HX := Lib.hid (show bb = false by rw [hbb]; simp; omega)
    clear hbb
    go_wp2_with fail
    go_ret
    exact ⟨by rw [HX.out]; rfl, rfl⟩

set_option maxHeartbeats 4000000 in
theorem new (w : World) (n sec : Int) :
    Calls Try.prog 10 #[.int .i64 n, .int .i64 sec] w fun e w' => ∃ u, e = .returned (.tuple #[ringV (if sizedI n sec then sec else 0) u, if sizedI n sec then .int .i64 0 else .int .i64 2]) ∧ OwnSegs w' w.heap.size u (if sizedI n sec then List.replicate n.toNat zero else []) ∧ Below w.heap.size w w' := by
  obtain ⟨i0, hi0, hz0, hz1, hz2⟩ := elemSeg.hi
  obtain ⟨C, W0, HC, HW, HK, HZ⟩ := boxed1 w #[.int .i64 0, .slice none 0 0] 25
  have HS := Lib.hid (sized41 W0 n sec)
  obtain ⟨bb, hbb⟩ : ∃ bb, bb = sizedI n sec := ⟨_, rfl⟩
  rw [← hbb] at HS ⊢
  have HBB := Lib.hid hbb
  have e0 : W0.cell? ⟨C, 0, none⟩ = some (.int .i64 0) := blk_cell HK.out.b0 0
  have e1 : W0.cell? ⟨C, 1, none⟩ = some (.slice none 0 0) := blk_cell HK.out.b0 1
  have fe0 := fun r => blk_frozen HK.out.b0 r
  clear hbb
  go_enter Try.func10, Try.ntmps10
  go_upto_region 1 with fail
  rw [HC.out, HW.out]
  go_wp2_with fail
  refine HS.out.mono ?_
  rintro e w1 ⟨rfl, rfl⟩
  cases bb with
  | false =>
    go_wp2_with fail
    obtain ⟨r0, r1⟩ := res_pair HK.out.b0 (.int .i64 0) (.slice none 0 0)
    refine bodyPost_ret (v := .tuple #[.agg #[.int .i64 0, .slice none 0 0], .int .i64 2]) (by simp [results, Try.f10, go_sem, r0, r1]) rfl ⟨.slice none 0 0, rfl, ownNil _ _, below_two HK.out.below (by have := HC.out; omega) _ _⟩
  | true =>
    have hsz : (4 ≤ n ∧ n ≤ 16) ∧ (24 ≤ sec ∧ sec ≤ 64) := by
      have := HBB.out.symm
      unfold sizedI at this
      rw [Bool.and_eq_true] at this
      exact ⟨of_decide_eq_true this.1, of_decide_eq_true this.2⟩
    obtain ⟨⟨k1, k2⟩, k3, k4⟩ := hsz
    obtain ⟨m, rfl⟩ : ∃ m : Nat, n = m := ⟨n.toNat, by omega⟩
    obtain ⟨w', hrun, ho, hg⟩ := run_make_full (P := Try.prog) w1 (w1.heap.size) 23 46 i0 (.agg #[.int .i64 0, .int .u64 0, .int .i64 0]) 3 Try.underlying23 hi0 hz0 hz1 .i64 .i64 m (by rw [hz2]; omega) (by unfold maxLen; omega) (Nat.le_refl _)
    have HRUN := Lib.hid hrun
    have hb : Below w1.heap.size w1 w' := (Below.refl _ w1).grown hg (Nat.le_refl _) (fun k hk => by cases hk)
    have HK2 := Lib.hid (HK.out.step hb)
    have HO : Hid (OwnSegs w' w1.heap.size (.slice (some ⟨w1.heap.size, 0, none⟩) m m) (List.replicate m zero)) := by
      show World.ownsRow _ _ _ _ _ _ _
      rw [List.length_replicate]
      have e : (madeCells (Value.agg #[.int .i64 0, .int .u64 0, .int .i64 0]).cells (m * 3)).toList = flat m 3 (segX (List.replicate m zero)) := made_flat m
      rw [← e]
      exact ho
    have e0' : w'.cell? ⟨C, 0, none⟩ = some (.int .i64 0) := blk_cell HK2.out.b0 0
    have e1' : w'.cell? ⟨C, 1, none⟩ = some (.slice none 0 0) := blk_cell HK2.out.b0 1
    have fe0' := fun r => blk_frozen HK2.out.b0 r
    have hsz := blk_lt HK.out.b0
    have HSZ := Lib.hid hsz
    clear hrun ho hg hb e0 e1 fe0 hsz
    go_wp2_with (refine wpList_make_eq rfl _ _ _ rfl rfl rfl HRUN.out ?_)
    obtain ⟨r0, r1⟩ := res_pair HK2.out.b0 (.int .i64 sec) (.slice (some ⟨w1.heap.size, 0, none⟩) m m)
    refine bodyPost_ret (v := .tuple #[.agg #[.int .i64 sec, .slice (some ⟨w1.heap.size, 0, none⟩) m m], .int .i64 0]) (by simp [results, Try.f10, go_sem, r0, r1]) rfl ⟨_, rfl, own_base (own_set (own_set HO.out HSZ.out _) HSZ.out _) HK.out.below.size, below_two HK2.out.below (by have := HC.out; omega) _ _⟩

set_option maxHeartbeats 4000000 in
theorem newR (w : World) (n sec : Int) :
    Calls Try.prog 11 #[.int .i64 n, .int .i64 sec] w fun e w' => ∃ u, e = .returned (.tuple #[ringV (if sizedI n sec then sec else 0) u, if sizedI n sec then .bool true else .bool false]) ∧ OwnSegs w' w.heap.size u (if sizedI n sec then List.replicate n.toNat zero else []) ∧ Below w.heap.size w w' := by
  obtain ⟨i0, hi0, hz0, hz1, hz2⟩ := elemSeg.hi
  obtain ⟨C, W0, HC, HW, HK, HZ⟩ := boxed1 w #[.int .i64 0, .slice none 0 0] 25
  have HS := Lib.hid (sized42 W0 n sec)
  obtain ⟨bb, hbb⟩ : ∃ bb, bb = sizedI n sec := ⟨_, rfl⟩
  rw [← hbb] at HS ⊢
  have HBB := Lib.hid hbb
  have e0 : W0.cell? ⟨C, 0, none⟩ = some (.int .i64 0) := blk_cell HK.out.b0 0
  have e1 : W0.cell? ⟨C, 1, none⟩ = some (.slice none 0 0) := blk_cell HK.out.b0 1
  have fe0 := fun r => blk_frozen HK.out.b0 r
  clear hbb
  go_enter Try.func11, Try.ntmps11
  go_upto_region 1 with fail
  rw [HC.out, HW.out]
  go_wp2_with fail
  refine HS.out.mono ?_
  rintro e w1 ⟨rfl, rfl⟩
  cases bb with
  | false =>
    go_wp2_with fail
    obtain ⟨r0, r1⟩ := res_pair HK.out.b0 (.int .i64 0) (.slice none 0 0)
    refine bodyPost_ret (v := .tuple #[.agg #[.int .i64 0, .slice none 0 0], .bool false]) (by simp [results, Try.f11, go_sem, r0, r1]) rfl ⟨.slice none 0 0, rfl, ownNil _ _, below_two HK.out.below (by have := HC.out; omega) _ _⟩
  | true =>
    have hsz : (4 ≤ n ∧ n ≤ 16) ∧ (24 ≤ sec ∧ sec ≤ 64) := by
      have := HBB.out.symm
      unfold sizedI at this
      rw [Bool.and_eq_true] at this
      exact ⟨of_decide_eq_true this.1, of_decide_eq_true this.2⟩
    obtain ⟨⟨k1, k2⟩, k3, k4⟩ := hsz
    obtain ⟨m, rfl⟩ : ∃ m : Nat, n = m := ⟨n.toNat, by omega⟩
    obtain ⟨w', hrun, ho, hg⟩ := run_make_full (P := Try.prog) w1 (w1.heap.size) 23 46 i0 (.agg #[.int .i64 0, .int .u64 0, .int .i64 0]) 3 Try.underlying23 hi0 hz0 hz1 .i64 .i64 m (by rw [hz2]; omega) (by unfold maxLen; omega) (Nat.le_refl _)
    have HRUN := Lib.hid hrun
    have hb : Below w1.heap.size w1 w' := (Below.refl _ w1).grown hg (Nat.le_refl _) (fun k hk => by cases hk)
    have HK2 := Lib.hid (HK.out.step hb)
    have HO : Hid (OwnSegs w' w1.heap.size (.slice (some ⟨w1.heap.size, 0, none⟩) m m) (List.replicate m zero)) := by
      show World.ownsRow _ _ _ _ _ _ _
      rw [List.length_replicate]
      have e : (madeCells (Value.agg #[.int .i64 0, .int .u64 0, .int .i64 0]).cells (m * 3)).toList = flat m 3 (segX (List.replicate m zero)) := made_flat m
      rw [← e]
      exact ho
    have e0' : w'.cell? ⟨C, 0, none⟩ = some (.int .i64 0) := blk_cell HK2.out.b0 0
    have e1' : w'.cell? ⟨C, 1, none⟩ = some (.slice none 0 0) := blk_cell HK2.out.b0 1
    have fe0' := fun r => blk_frozen HK2.out.b0 r
    have hsz := blk_lt HK.out.b0
    have HSZ := Lib.hid hsz
    clear hrun ho hg hb e0 e1 fe0 hsz
    go_wp2_with (refine wpList_make_eq rfl _ _ _ rfl rfl rfl HRUN.out ?_)
    obtain ⟨r0, r1⟩ := res_pair HK2.out.b0 (.int .i64 sec) (.slice (some ⟨w1.heap.size, 0, none⟩) m m)
    refine bodyPost_ret (v := .tuple #[.agg #[.int .i64 sec, .slice (some ⟨w1.heap.size, 0, none⟩) m m], .bool true]) (by simp [results, Try.f11, go_sem, r0, r1]) rfl ⟨_, rfl, own_base (own_set (own_set HO.out HSZ.out _) HSZ.out _) HK.out.below.size, below_two HK2.out.below (by have := HC.out; omega) _ _⟩
end Go.Proofs.Ytlcdadnfcdjglaa
