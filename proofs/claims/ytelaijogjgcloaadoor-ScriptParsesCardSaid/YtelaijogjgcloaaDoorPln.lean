/- Which plans may be: ring.New, server.CheckPlan. No condition. -/
import Derived.Test.YtelaijogjgcloaaDoorEql
set_option linter.unusedVariables false
set_option linter.unusedSimpArgs false
namespace Go.Proofs.YtelaijogjgcloaaDoor
open Go.RowKit Go.Ice Go.Scr

theorem elemSeg : Elem Tryd.prog 87 170 3 24 (.agg #[.int .i64 0, .int .u64 0, .int .i64 0]) :=
  ⟨Tryd.underlying87, by
    obtain ⟨i0, hi, hz0, hz1, hz2⟩ := info_parts (show (Tryd.prog.info? 170).map (fun i => (i.zero, i.size, i.bytes)) = some (some (.agg #[.int .i64 0, .int .u64 0, .int .i64 0]), 3, 24) by kernel_rfl)
    exact ⟨i0, hi, hz0, hz1, hz2⟩, rfl, by decide⟩
def sizedI (n sec : Int) : Bool := decide (4 ≤ n ∧ n ≤ 16) && decide (24 ≤ sec ∧ sec ≤ 64)
/-- A make in a walk, its run known. -/
theorem wpList_make_eq {P : Program} {ops : Array Oper} {rest : List Oper} {o : Oper} {a : Act} {w : World} {Q : Exit → Act → World → Prop} (hgd : o.guard = none) (l c : Operand) (t : TypeId)
    (ho : o.op = .makeSlice t l c) {vl vc v' : Value} {w' : World} (hl : a.eval l = vl) (hc : a.eval c = vc)
    (hrun : (Instr.makeSlice t vl vc).run P w = .ok v' w') (h : wpList P ops Q rest (a.put o.dst v') w') : wpList P ops Q (o :: rest) a w :=
  wpList_plain hgd fun _ hK => by
    unfold Oper.wp
    simp [execOp, ho, hl, hc, hrun, Result.andThen]
    exact hK _ _ h
theorem res_pair {W : World} {C : Nat} {c0 c1 : Value} {t : TypeId} (h : W.heap[C]? = some (.cells #[c0, c1] t (0, 0))) (v0 v1 : Value) :
    ((W.setCell ⟨C, 0, none⟩ v0).setCell ⟨C, 1, none⟩ v1).cell? ⟨C, 0, none⟩ = some v0 ∧ ((W.setCell ⟨C, 0, none⟩ v0).setCell ⟨C, 1, none⟩ v1).cell? ⟨C, 1, none⟩ = some v1 := res_cells (b' := 0) h
theorem below_two {w W : World} {B C : Nat} (h : Below B w W) (hC : B ≤ C) (v0 v1 : Value) : Below B w ((W.setCell ⟨C, 0, none⟩ v0).setCell ⟨C, 1, none⟩ v1) := (h.setCell hC _).setCell hC _

theorem sized72 (w : World) (n sec : Int) : Calls Tryd.prog 72 #[.int .i64 n, .int .i64 sec] w fun e w' => e = .returned (.bool (sizedI n sec)) ∧ w' = w := by
  obtain ⟨bb, hbb⟩ : ∃ bb, bb = sizedI n sec := ⟨_, rfl⟩
  rw [← hbb]
  unfold sizedI at hbb
  go_enter Tryd.func72, Tryd.ntmps72
  by_cases h4 : 4 ≤ n
  · by_cases h3 : n ≤ 16
    · by_cases h2 : 24 ≤ sec
      · by_cases h1 : sec ≤ 64
        · have HX := Lib.hid (show bb = true by rw [hbb]; simp; omega)
          clear hbb
          go_wp2_with fail
          go_ret
          exact ⟨by rw [HX.out]; rfl, rfl⟩
        · have HX := Lib.hid (show bb = false by rw [hbb]; simp; omega)
          clear hbb
          go_wp2_with fail
          go_ret
          exact ⟨by rw [HX.out]; rfl, rfl⟩
      · have HX := Lib.hid (show bb = false by rw [hbb]; simp; omega)
        clear hbb
        go_wp2_with fail
        go_ret
        exact ⟨by rw [HX.out]; rfl, rfl⟩
    · have HX := Lib.hid (show bb = false by rw [hbb]; simp; omega)
      clear hbb
      go_wp2_with fail
      go_ret
      exact ⟨by rw [HX.out]; rfl, rfl⟩
  · have HX := Lib.hid (show bb = false by rw [hbb]; simp; omega)
    clear hbb
    go_wp2_with fail
    go_ret
    exact ⟨by rw [HX.out]; rfl, rfl⟩

set_option maxHeartbeats 4000000 in
set_option maxRecDepth 20000 in
theorem new50 (w : World) (n sec : Int) :
    Calls Tryd.prog 50 #[.int .i64 n, .int .i64 sec] w fun e w' => ∃ s a l c, e = .returned (.tuple #[.agg #[.int .i64 s, .slice a l c], .int .i64 (if sizedI n sec then 0 else 2)]) ∧ Below w.heap.size w w' := by
  obtain ⟨i0, hi0, hz0, hz1, hz2⟩ := elemSeg.hi
  obtain ⟨C, W0, HC, HW, HK, HZ⟩ := boxed1 w #[.int .i64 0, .slice none 0 0] 89
  have HS := Lib.hid (sized72 W0 n sec)
  obtain ⟨bb, hbb⟩ : ∃ bb, bb = sizedI n sec := ⟨_, rfl⟩
  obtain ⟨rr, hrr⟩ : ∃ rr : Int, rr = (if sizedI n sec then 0 else 2) := ⟨_, rfl⟩
  rw [← hrr]
  rw [← hbb] at HS hrr
  have HRR := Lib.hid hrr
  clear hrr
  have HBB := Lib.hid hbb
  have e0 : W0.cell? ⟨C, 0, none⟩ = some (.int .i64 0) := blk_cell HK.out.b0 0
  have e1 : W0.cell? ⟨C, 1, none⟩ = some (.slice none 0 0) := blk_cell HK.out.b0 1
  have fe0 := fun r => blk_frozen HK.out.b0 r
  clear hbb
  go_enter Tryd.func50, Tryd.ntmps50
  go_upto_region 1 with fail
  rw [HC.out, HW.out]
  go_wp2_with fail
  refine HS.out.mono ?_
  rintro e w1 ⟨rfl, rfl⟩
  cases bb with
  | false =>
    go_wp2_with fail
    obtain ⟨r0, r1⟩ := res_pair HK.out.b0 (.int .i64 0) (.slice none 0 0)
    refine bodyPost_ret (v := .tuple #[.agg #[.int .i64 0, .slice none 0 0], .int .i64 2]) (by simp [results, Tryd.f50, go_sem, r0, r1]) rfl ⟨0, none, 0, 0, by rw [HRR.out]; rfl, below_two HK.out.below (by have := HC.out; omega) _ _⟩
  | true =>
    have hsz : (4 ≤ n ∧ n ≤ 16) ∧ (24 ≤ sec ∧ sec ≤ 64) := by
      have := HBB.out.symm
      unfold sizedI at this
      rw [Bool.and_eq_true] at this
      exact ⟨of_decide_eq_true this.1, of_decide_eq_true this.2⟩
    obtain ⟨⟨k1, k2⟩, k3, k4⟩ := hsz
    obtain ⟨m, rfl⟩ : ∃ m : Nat, n = m := ⟨n.toNat, by omega⟩
    obtain ⟨w', hrun, ho, hg⟩ := run_make_full (P := Tryd.prog) w1 (w1.heap.size) 87 170 i0 (.agg #[.int .i64 0, .int .u64 0, .int .i64 0]) 3 Tryd.underlying87 hi0 hz0 hz1 .i64 .i64 m (by rw [hz2]; omega) (by unfold maxLen; omega) (Nat.le_refl _)
    have HRUN := Lib.hid hrun
    have hb : Below w1.heap.size w1 w' := (Below.refl _ w1).grown hg (Nat.le_refl _) (fun k hk => by cases hk)
    have HK2 := Lib.hid (HK.out.step hb)
    have e0' : w'.cell? ⟨C, 0, none⟩ = some (.int .i64 0) := blk_cell HK2.out.b0 0
    have e1' : w'.cell? ⟨C, 1, none⟩ = some (.slice none 0 0) := blk_cell HK2.out.b0 1
    have fe0' := fun r => blk_frozen HK2.out.b0 r
    clear hrun ho hg hb e0 e1 fe0
    go_wp2_with (refine wpList_make_eq rfl _ _ _ rfl rfl rfl HRUN.out ?_)
    obtain ⟨r0, r1⟩ := res_pair HK2.out.b0 (.int .i64 sec) (.slice (some ⟨w1.heap.size, 0, none⟩) m m)
    refine bodyPost_ret (v := .tuple #[.agg #[.int .i64 sec, .slice (some ⟨w1.heap.size, 0, none⟩) m m], .int .i64 0]) (by simp [results, Tryd.f50, go_sem, r0, r1]) rfl ⟨sec, some ⟨w1.heap.size, 0, none⟩, m, m, by rw [HRR.out]; rfl, below_two HK2.out.below (by have := HC.out; omega) _ _⟩

def planV (p : Plan) : Value := .agg #[.int .i64 p.g, .int .i64 p.s, .int .i64 p.l, .int .i64 p.p, .int .i64 p.c]
def planO (p : Plan) : Obj := .cells #[.int .i64 p.g, .int .i64 p.s, .int .i64 p.l, .int .i64 p.p, .int .i64 p.c] 23
theorem planB_eq (g s l q c : Int) : planB ⟨g, s, l, q, c⟩ = (sizedI g s && decide (1 ≤ l ∧ l ≤ 1024 ∧ 1 ≤ q ∧ q ≤ 256 ∧ 1 ≤ c ∧ c ≤ 4)) := by
  unfold planB sizedI
  rw [Bool.eq_iff_iff]
  simp only [Bool.and_eq_true, decide_eq_true_eq]
  omega
set_option maxHeartbeats 4000000 in
set_option maxRecDepth 20000 in
theorem checkPlan (w : World) (p : Plan) : Calls Tryd.prog 31 #[planV p] w fun e w' => e = .returned (.int .i64 (if planB p then 0 else 2)) ∧ Below w.heap.size w w' := by
  obtain ⟨g, s, l, q, c⟩ := p
  obtain ⟨pb, hpb⟩ : ∃ pb, pb = planB ⟨g, s, l, q, c⟩ := ⟨_, rfl⟩
  rw [← hpb]
  obtain ⟨rr, hrr⟩ : ∃ rr : Int, rr = (if pb then 0 else 2) := ⟨_, rfl⟩
  rw [← hrr]
  have HRR := Lib.hid hrr
  clear hrr
  rw [planB_eq] at hpb
  obtain ⟨B, W0, HB, HW, HK, HZ⟩ := boxed1 w #[.int .i64 g, .int .i64 s, .int .i64 l, .int .i64 q, .int .i64 c] 23
  have HN := Lib.hid (new50 W0 g s)
  have b0 : W0.cell? ⟨B, 0, none⟩ = some (.int .i64 g) := blk_cell HK.out.b0 0
  have b1 : W0.cell? ⟨B, 1, none⟩ = some (.int .i64 s) := blk_cell HK.out.b0 1
  obtain ⟨bb, hbb⟩ : ∃ bb, bb = sizedI g s := ⟨_, rfl⟩
  rw [← hbb] at HN hpb
  have HP := Lib.hid hpb
  clear hbb hpb
  unfold planV
  dsimp only
  go_enter Tryd.func31, Tryd.ntmps31
  go_upto_region 1 with fail
  rw [HB.out, HW.out]
  go_wp2_with fail
  refine HN.out.mono ?_
  rintro e w1 ⟨ss, a, ll, cc, rfl, hb⟩
  have HK1 := Lib.hid (HK.out.step hb)
  clear hb b0 b1 HN
  cases bb with
  | false =>
    have HX : Hid (pb = false) := by
      show _ = _
      rw [HP.out]; rfl
    have HE : Hid (Below w.heap.size w (w1.alloc (.cells #[.int .i64 ss, .slice a ll cc] 89))) := HK1.out.below.alloc HK1.out.below.size _
    go_wp2_with fail
    go_ret
    exact ⟨by rw [HRR.out, HX.out]; rfl, HE.out⟩
  | true =>
    have HL : Hid (Kp w [(w1.heap.size, .cells #[.int .i64 ss, .slice a ll cc] 89), (B, .cells #[.int .i64 g, .int .i64 s, .int .i64 l, .int .i64 q, .int .i64 c] 23)] (w1.alloc (.cells #[.int .i64 ss, .slice a ll cc] 89))) := HK1.out.alloc _
    obtain ⟨w2, hw2⟩ : ∃ w2, w2 = w1.alloc (.cells #[.int .i64 ss, .slice a ll cc] 89) := ⟨_, rfl⟩
    rw [← hw2] at HL
    have HW2 := Lib.hid hw2
    have c2 : w2.cell? ⟨B, 2, none⟩ = some (.int .i64 l) := blk_cell HL.out.b1 2
    have c3 : w2.cell? ⟨B, 3, none⟩ = some (.int .i64 q) := blk_cell HL.out.b1 3
    have c4 : w2.cell? ⟨B, 4, none⟩ = some (.int .i64 c) := blk_cell HL.out.b1 4
    clear hw2
    go_upto_region 4 with fail
    rw [← HW2.out]
    clear HW2
    by_cases h6 : 1 ≤ l
    · by_cases h5 : l ≤ 1024
      · by_cases h4 : 1 ≤ q
        · by_cases h3 : q ≤ 256
          · by_cases h2 : 1 ≤ c
            · by_cases h1 : c ≤ 4
              · have HX := Lib.hid (show pb = true by rw [HP.out]; simp; omega)
                go_wp2_with fail
                go_ret
                exact ⟨by rw [HRR.out, HX.out]; rfl, HL.out.below⟩
              · have HX := Lib.hid (show pb = false by rw [HP.out]; simp; omega)
                go_wp2_with fail
                go_ret
                exact ⟨by rw [HRR.out, HX.out]; rfl, HL.out.below⟩
            · have HX := Lib.hid (show pb = false by rw [HP.out]; simp; omega)
              go_wp2_with fail
              go_ret
              exact ⟨by rw [HRR.out, HX.out]; rfl, HL.out.below⟩
          · have HX := Lib.hid (show pb = false by rw [HP.out]; simp; omega)
            go_wp2_with fail
            go_ret
            exact ⟨by rw [HRR.out, HX.out]; rfl, HL.out.below⟩
        · have HX := Lib.hid (show pb = false by rw [HP.out]; simp; omega)
          go_wp2_with fail
          go_ret
          exact ⟨by rw [HRR.out, HX.out]; rfl, HL.out.below⟩
      · have HX := Lib.hid (show pb = false by rw [HP.out]; simp; omega)
        go_wp2_with fail
        go_ret
        exact ⟨by rw [HRR.out, HX.out]; rfl, HL.out.below⟩
    · have HX := Lib.hid (show pb = false by rw [HP.out]; simp; omega)
      go_wp2_with fail
      go_ret
      exact ⟨by rw [HRR.out, HX.out]; rfl, HL.out.below⟩
end Go.Proofs.YtelaijogjgcloaaDoor
