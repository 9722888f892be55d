/- script.only. No condition. -/
import Derived.Test.YtelaijogjgcloaaDoorEvt
set_option linter.unusedVariables false
set_option linter.unusedSimpArgs false
namespace Go.Proofs.YtelaijogjgcloaaDoor
open Go.RowKit Go.Ice Go.Scr

def nilS : Value := .slice none 0 0
def onlyV (k c n : Int) (vb vk : Value) : Value :=
  if k = 1 then evV 1 c 0 vb nilS
  else if k = 2 ∨ k = 5 ∨ k = 6 then evV k 0 n nilS nilS
  else if k = 7 then evV 7 0 0 nilS vk
  else if k = 8 then evV 8 c 0 nilS nilS
  else evV k 0 0 nilS nilS
theorem only_at {w : World} {x : Ev} {vb vk : Value} (hb : BytesAt w vb x.bytes) (hk : BoolsAt w vk x.keep) : EvAt w (onlyV x.kind x.conn x.n vb vk) (only x) := by
  unfold onlyV only
  split
  · exact ⟨_, _, rfl, hb, boolsNil w⟩
  · split
    · exact ⟨_, _, rfl, bytesNil w, boolsNil w⟩
    · split
      · exact ⟨_, _, rfl, bytesNil w, hk⟩
      · split
        · exact ⟨_, _, rfl, bytesNil w, boolsNil w⟩
        · exact ⟨_, _, rfl, bytesNil w, boolsNil w⟩

set_option maxHeartbeats 8000000 in
set_option maxRecDepth 20000 in
theorem only49 (w : World) (k c n : Int) (ab ak : Option Addr) (lb cb lk ck : Nat) :
    Calls Tryd.prog 49 #[evV k c n (.slice ab lb cb) (.slice ak lk ck)] w fun e w' => e = .returned (onlyV k c n (.slice ab lb cb) (.slice ak lk ck)) ∧ Below w.heap.size w w' := by
  obtain ⟨rv, hrv⟩ : ∃ rv, rv = onlyV k c n (.slice ab lb cb) (.slice ak lk ck) := ⟨_, rfl⟩
  rw [← hrv]
  unfold onlyV evV nilS at hrv
  have HR := Lib.hid hrv
  clear hrv
  unfold evV
  obtain ⟨B, C, W0, HB, HC, HW, HK, HZ⟩ := boxed2 w #[.int .i64 k, .int .i64 c, .int .i64 n, .slice ab lb cb, .slice ak lk ck] 41 #[.int .i64 0, .int .i64 0, .int .i64 0, .slice none 0 0, .slice none 0 0] 41
  have HBS := Lib.hid (show w.heap.size ≤ C by have := HC.out; omega)
  have b0 : W0.cell? ⟨B, 0, none⟩ = some (.int .i64 k) := blk_cell HK.out.b0 0
  have b1 : W0.cell? ⟨B, 1, none⟩ = some (.int .i64 c) := blk_cell HK.out.b0 1
  have b2 : W0.cell? ⟨B, 2, none⟩ = some (.int .i64 n) := blk_cell HK.out.b0 2
  have b3 : W0.cell? ⟨B, 3, none⟩ = some (.slice ab lb cb) := blk_cell HK.out.b0 3
  have b4 : W0.cell? ⟨B, 4, none⟩ = some (.slice ak lk ck) := blk_cell HK.out.b0 4
  go_enter Tryd.func49, Tryd.ntmps49
  go_upto_region 1 with fail
  rw [HC.out, HB.out, HW.out]
  have HK3 : Hid (Kp w [(W0.heap.size, .cells #[.int .i64 k, .int .i64 0, .int .i64 0, .slice none 0 0, .slice none 0 0] 41), (B, .cells #[.int .i64 k, .int .i64 c, .int .i64 n, .slice ab lb cb, .slice ak lk ck] 41), (C, .cells #[.int .i64 0, .int .i64 0, .int .i64 0, .slice none 0 0, .slice none 0 0] 41)] (W0.alloc (.cells #[.int .i64 k, .int .i64 0, .int .i64 0, .slice none 0 0, .slice none 0 0] 41))) := HK.out.alloc _
  have HDZ := Lib.hid (show w.heap.size ≤ W0.heap.size ∧ W0.heap.size ≠ B ∧ W0.heap.size ≠ C by have := HZ.out; have := HB.out; have := HC.out; omega)
  obtain ⟨D, hD⟩ : ∃ D, W0.heap.size = D := ⟨_, rfl⟩
  rw [hD] at HK3 HDZ
  clear HC HW
  go_upto_region 2 with fail
  refine wp_world (R := fun W => Kp w [(D, .cells #[.int .i64 k, .int .i64 0, .int .i64 0, .slice none 0 0, .slice none 0 0] 41), (B, .cells #[.int .i64 k, .int .i64 c, .int .i64 n, .slice ab lb cb, .slice ak lk ck] 41), (C, .cells #[.int .i64 0, .int .i64 0, .int .i64 0, .slice none 0 0, .slice none 0 0] 41)] W) HK3.out ?_
  intro w2 hk2
  have HK2 := Lib.hid hk2
  clear hk2 HK3 b0 b1 b2 b3 b4 HK hD
  have b0 : w2.cell? ⟨B, 0, none⟩ = some (.int .i64 k) := blk_cell HK2.out.b1 0
  have b1 : w2.cell? ⟨B, 1, none⟩ = some (.int .i64 c) := blk_cell HK2.out.b1 1
  have b2 : w2.cell? ⟨B, 2, none⟩ = some (.int .i64 n) := blk_cell HK2.out.b1 2
  have b3 : w2.cell? ⟨B, 3, none⟩ = some (.slice ab lb cb) := blk_cell HK2.out.b1 3
  have b4 : w2.cell? ⟨B, 4, none⟩ = some (.slice ak lk ck) := blk_cell HK2.out.b1 4
  have d0 : w2.cell? ⟨D, 0, none⟩ = some (.int .i64 k) := blk_cell HK2.out.b0 0
  have d1 : w2.cell? ⟨D, 1, none⟩ = some (.int .i64 0) := blk_cell HK2.out.b0 1
  have d2 : w2.cell? ⟨D, 2, none⟩ = some (.int .i64 0) := blk_cell HK2.out.b0 2
  have d3 : w2.cell? ⟨D, 3, none⟩ = some (.slice none 0 0) := blk_cell HK2.out.b0 3
  have d4 : w2.cell? ⟨D, 4, none⟩ = some (.slice none 0 0) := blk_cell HK2.out.b0 4
  have f0 := fun r => blk_frozen HK2.out.b0 r
  by_cases h1 : k = 1
  · subst h1
    have HX : Hid (rv = .agg #[.int .i64 1, .int .i64 c, .int .i64 0, .slice ab lb cb, .slice none 0 0]) := by
      show _ = _
      rw [HR.out]; simp
    have HLL : Hid (∀ p ∈ [(B, Obj.cells #[.int .i64 1, .int .i64 c, .int .i64 n, .slice ab lb cb, .slice ak lk ck] 41), (C, Obj.cells #[.int .i64 0, .int .i64 0, .int .i64 0, .slice none 0 0, .slice none 0 0] 41)], p.1 ≠ D) := by
      intro p hp
      rcases List.mem_cons.1 hp with rfl | hp
      · exact fun e => HDZ.out.2.1 e.symm
      · rcases List.mem_cons.1 hp with rfl | hp
        · exact fun e => HDZ.out.2.2 e.symm
        · cases hp
    have HK4 := HK2
    go_upto_region 4 with fail
    clear HK2 b0 d0 b1 d1 b2 d2 b3 d3 b4 d4 f0
    refine wp_region_inv2 (by kernel_rfl) (hord_of2 (by kernel_rfl)) (fun done ac W => ∃ (u : Unit), ac = { tmps := #[.agg #[.int .i64 1, .int .i64 c, .int .i64 n, .slice ab lb cb, .slice ak lk ck], (.pointer (some ⟨B, 0, none⟩)), (.pointer (some ⟨C, 0, none⟩)), (.pointer (some ⟨D, 0, none⟩)), (.pointer (some ⟨B, 0, none⟩)), .int .i64 1, .agg #[.int .i64 1, .int .i64 0, .int .i64 0, .slice none 0 0, .slice none 0 0], (.pointer (some ⟨B, 0, none⟩)), .int .i64 1, .bool true, .bool true, if done 0 then (.pointer (some ⟨B, 1, none⟩)) else undef, if done 1 then (.int .i64 c) else undef, if done 2 then (.pointer (some ⟨B, 3, none⟩)) else undef, if done 3 then (.slice ab lb cb) else undef, if done 4 then (.pointer (some ⟨D, 1, none⟩)) else undef, if done 6 then (.pointer (some ⟨D, 3, none⟩)) else undef, undef, undef, undef, undef, undef, undef, undef, undef, undef, undef, undef, undef, undef, undef, undef, undef, undef, undef], defers := [] } ∧ Kp w [(D, .cells #[.int .i64 1, if done 5 then .int .i64 c else .int .i64 0, .int .i64 0, if done 7 then .slice ab lb cb else .slice none 0 0, .slice none 0 0] 41), (B, .cells #[.int .i64 1, .int .i64 c, .int .i64 n, .slice ab lb cb, .slice ak lk ck] 41), (C, .cells #[.int .i64 0, .int .i64 0, .int .i64 0, .slice none 0 0, .slice none 0 0] 41)] W) ?_ ?_ ?_
    · exact ⟨(), by simp, by simpa using HK4.out.drew⟩
    · intro done ac W j oq ho hd hdep hcl ⟨u, hlit, hI⟩
      have hj : j < 8 := (Array.getElem?_eq_some_iff.1 ho).1
      subst hlit
      obtain rfl | rfl | rfl | rfl | rfl | rfl | rfl | rfl : j = 0 ∨ j = 1 ∨ j = 2 ∨ j = 3 ∨ j = 4 ∨ j = 5 ∨ j = 6 ∨ j = 7 := by omega
      · refine wpOp_val ho (by cases ho; rfl) (w' := W) (v := (.pointer (some ⟨B, 1, none⟩))) (by cases ho; simp [execOp, go_sem]) ?_
        cases ho
        exact ⟨(), by simp [Act.put], by simpa using hI⟩
      · have p0 : done 0 = true := by cases ho; exact hdep ⟨0, .data⟩ (by simp) rfl
        have h1 : W.cell? ⟨B, 1, none⟩ = some (.int .i64 c) := blk_cell hI.b1 1
        refine wpOp_val ho (by cases ho; rfl) (w' := W) (v := (.int .i64 c)) (by cases ho; simp [execOp, go_sem, p0, h1]) ?_
        cases ho
        exact ⟨(), by simp [Act.put], by simpa using hI⟩
      · refine wpOp_val ho (by cases ho; rfl) (w' := W) (v := (.pointer (some ⟨B, 3, none⟩))) (by cases ho; simp [execOp, go_sem]) ?_
        cases ho
        exact ⟨(), by simp [Act.put], by simpa using hI⟩
      · have p2 : done 2 = true := by cases ho; exact hdep ⟨2, .data⟩ (by simp) rfl
        have h1 : W.cell? ⟨B, 3, none⟩ = some (.slice ab lb cb) := blk_cell hI.b1 3
        refine wpOp_val ho (by cases ho; rfl) (w' := W) (v := (.slice ab lb cb)) (by cases ho; simp [execOp, go_sem, p2, h1]) ?_
        cases ho
        exact ⟨(), by simp [Act.put], by simpa using hI⟩
      · refine wpOp_val ho (by cases ho; rfl) (w' := W) (v := (.pointer (some ⟨D, 1, none⟩))) (by cases ho; simp [execOp, go_sem]) ?_
        cases ho
        exact ⟨(), by simp [Act.put], by simpa using hI⟩
      · have p1 : done 1 = true := by cases ho; exact hdep ⟨1, .data⟩ (by simp) rfl
        have p4 : done 4 = true := by cases ho; exact hdep ⟨4, .data⟩ (by simp) rfl
        obtain ⟨x0, hx0⟩ : ∃ x0, W.cell? ⟨D, 1, none⟩ = some x0 := ⟨_, blk_cell hI.b0 1⟩
        have h2 := blk_frozen hI.b0 1
        refine wpOp_skip ho (by cases ho; rfl) (w' := W.setCell ⟨D, 1, none⟩ (.int .i64 c)) (by cases ho; simp [execOp, go_sem, p1, p4, hx0, h2]) ?_
        cases ho
        exact ⟨(), by simp [Act.put], by simpa using hI.set0 (k := 1) HDZ.out.1 HLL.out (.int .i64 c)⟩
      · refine wpOp_val ho (by cases ho; rfl) (w' := W) (v := (.pointer (some ⟨D, 3, none⟩))) (by cases ho; simp [execOp, go_sem]) ?_
        cases ho
        exact ⟨(), by simp [Act.put], by simpa using hI⟩
      · have p3 : done 3 = true := by cases ho; exact hdep ⟨3, .data⟩ (by simp) rfl
        have p6 : done 6 = true := by cases ho; exact hdep ⟨6, .data⟩ (by simp) rfl
        obtain ⟨x0, hx0⟩ : ∃ x0, W.cell? ⟨D, 3, none⟩ = some x0 := ⟨_, blk_cell hI.b0 3⟩
        have h2 := blk_frozen hI.b0 3
        refine wpOp_skip ho (by cases ho; rfl) (w' := W.setCell ⟨D, 3, none⟩ (.slice ab lb cb)) (by cases ho; simp [execOp, go_sem, p3, p6, hx0, h2]) ?_
        cases ho
        exact ⟨(), by simp [Act.put], by simpa using hI.set0 (k := 3) HDZ.out.1 HLL.out (.slice ab lb cb)⟩
    · rintro done ac w3 hall ⟨u, rfl, hI⟩
      have hl := hall
      clear hall
      have e0 := hl 0 (by decide)
      have e1 := hl 1 (by decide)
      have e2 := hl 2 (by decide)
      have e3 := hl 3 (by decide)
      have e4 := hl 4 (by decide)
      have e5 := hl 5 (by decide)
      have e6 := hl 6 (by decide)
      have e7 := hl 7 (by decide)
      simp only [e0, e1, e2, e3, e4, e6, if_true]
      simp only [e5, e7, if_true] at hI
      have HK2 := Lib.hid hI
      clear e0 e1 e2 e3 e4 e5 e6 e7 hl hI
      have d0 : w3.cell? ⟨D, 0, none⟩ = some (.int .i64 1) := blk_cell HK2.out.b0 0
      have d1 : w3.cell? ⟨D, 1, none⟩ = some (.int .i64 c) := blk_cell HK2.out.b0 1
      have d2 : w3.cell? ⟨D, 2, none⟩ = some (.int .i64 0) := blk_cell HK2.out.b0 2
      have d3 : w3.cell? ⟨D, 3, none⟩ = some (.slice ab lb cb) := blk_cell HK2.out.b0 3
      have d4 : w3.cell? ⟨D, 4, none⟩ = some (.slice none 0 0) := blk_cell HK2.out.b0 4
      have f0 := fun r => blk_frozen HK2.out.b0 r
      have hDC : D ≠ C := HDZ.out.2.2
      have hCD : C ≠ D := fun e => hDC e.symm
      have hDB : D ≠ B := HDZ.out.2.1
      have hBD : B ≠ D := fun e => hDB e.symm
      have c0 : w3.cell? ⟨C, 0, none⟩ = some (.int .i64 0) := blk_cell HK2.out.b2 0
      have c1 : w3.cell? ⟨C, 1, none⟩ = some (.int .i64 0) := blk_cell HK2.out.b2 1
      have c2 : w3.cell? ⟨C, 2, none⟩ = some (.int .i64 0) := blk_cell HK2.out.b2 2
      have c3 : w3.cell? ⟨C, 3, none⟩ = some (.slice none 0 0) := blk_cell HK2.out.b2 3
      have c4 : w3.cell? ⟨C, 4, none⟩ = some (.slice none 0 0) := blk_cell HK2.out.b2 4
      have f1 := fun r => blk_frozen HK2.out.b2 r
      go_wp2_with fail
      have hz := set5 (v0 := .int .i64 1) (v1 := .int .i64 c) (v2 := .int .i64 0) (v3 := .slice ab lb cb) (v4 := .slice none 0 0) HK2.out.b2
      have r0 := blk_cell hz 0
      have r1 := blk_cell hz 1
      have r2 := blk_cell hz 2
      have r3 := blk_cell hz 3
      have r4 := blk_cell hz 4
      refine bodyPost_ret (v := .agg #[.int .i64 1, .int .i64 c, .int .i64 0, .slice ab lb cb, .slice none 0 0]) (by simp [results, Tryd.f49, go_sem, r0, r1, r2, r3, r4]) rfl ⟨by rw [HX.out], (((((HK2.out.below).setCell HBS.out _).setCell HBS.out _).setCell HBS.out _).setCell HBS.out _).setCell HBS.out _⟩
  by_cases h2 : k = 2
  · subst h2
    clear h1
    have HX : Hid (rv = .agg #[.int .i64 2, .int .i64 0, .int .i64 n, .slice none 0 0, .slice none 0 0]) := by
      show _ = _
      rw [HR.out]; simp
    have hDC : D ≠ C := HDZ.out.2.2
    have hCD : C ≠ D := fun e => hDC e.symm
    have hDB : D ≠ B := HDZ.out.2.1
    have hBD : B ≠ D := fun e => hDB e.symm
    have c0 : w2.cell? ⟨C, 0, none⟩ = some (.int .i64 0) := blk_cell HK2.out.b2 0
    have c1 : w2.cell? ⟨C, 1, none⟩ = some (.int .i64 0) := blk_cell HK2.out.b2 1
    have c2 : w2.cell? ⟨C, 2, none⟩ = some (.int .i64 0) := blk_cell HK2.out.b2 2
    have c3 : w2.cell? ⟨C, 3, none⟩ = some (.slice none 0 0) := blk_cell HK2.out.b2 3
    have c4 : w2.cell? ⟨C, 4, none⟩ = some (.slice none 0 0) := blk_cell HK2.out.b2 4
    have f1 := fun r => blk_frozen HK2.out.b2 r
    go_wp2_with fail
    have hz := set5 (v0 := .int .i64 2) (v1 := .int .i64 0) (v2 := .int .i64 n) (v3 := .slice none 0 0) (v4 := .slice none 0 0) (blk_set HK2.out.b2 (p := ⟨D, 2, none⟩) hCD (.int .i64 n))
    have r0 := blk_cell hz 0
    have r1 := blk_cell hz 1
    have r2 := blk_cell hz 2
    have r3 := blk_cell hz 3
    have r4 := blk_cell hz 4
    refine bodyPost_ret (v := .agg #[.int .i64 2, .int .i64 0, .int .i64 n, .slice none 0 0, .slice none 0 0]) (by simp [results, Tryd.f49, go_sem, r0, r1, r2, r3, r4]) rfl ⟨by rw [HX.out], (((((((HK2.out.below).setCell HDZ.out.1 _)).setCell HBS.out _).setCell HBS.out _).setCell HBS.out _).setCell HBS.out _).setCell HBS.out _⟩
  by_cases h5 : k = 5
  · subst h5
    clear h1 h2
    have HX : Hid (rv = .agg #[.int .i64 5, .int .i64 0, .int .i64 n, .slice none 0 0, .slice none 0 0]) := by
      show _ = _
      rw [HR.out]; simp
    have hDC : D ≠ C := HDZ.out.2.2
    have hCD : C ≠ D := fun e => hDC e.symm
    have hDB : D ≠ B := HDZ.out.2.1
    have hBD : B ≠ D := fun e => hDB e.symm
    have c0 : w2.cell? ⟨C, 0, none⟩ = some (.int .i64 0) := blk_cell HK2.out.b2 0
    have c1 : w2.cell? ⟨C, 1, none⟩ = some (.int .i64 0) := blk_cell HK2.out.b2 1
    have c2 : w2.cell? ⟨C, 2, none⟩ = some (.int .i64 0) := blk_cell HK2.out.b2 2
    have c3 : w2.cell? ⟨C, 3, none⟩ = some (.slice none 0 0) := blk_cell HK2.out.b2 3
    have c4 : w2.cell? ⟨C, 4, none⟩ = some (.slice none 0 0) := blk_cell HK2.out.b2 4
    have f1 := fun r => blk_frozen HK2.out.b2 r
    go_wp2_with fail
    have hz := set5 (v0 := .int .i64 5) (v1 := .int .i64 0) (v2 := .int .i64 n) (v3 := .slice none 0 0) (v4 := .slice none 0 0) (blk_set HK2.out.b2 (p := ⟨D, 2, none⟩) hCD (.int .i64 n))
    have r0 := blk_cell hz 0
    have r1 := blk_cell hz 1
    have r2 := blk_cell hz 2
    have r3 := blk_cell hz 3
    have r4 := blk_cell hz 4
    refine bodyPost_ret (v := .agg #[.int .i64 5, .int .i64 0, .int .i64 n, .slice none 0 0, .slice none 0 0]) (by simp [results, Tryd.f49, go_sem, r0, r1, r2, r3, r4]) rfl ⟨by rw [HX.out], (((((((HK2.out.below).setCell HDZ.out.1 _)).setCell HBS.out _).setCell HBS.out _).setCell HBS.out _).setCell HBS.out _).setCell HBS.out _⟩
  by_cases h6 : k = 6
  · subst h6
    clear h1 h2 h5
    have HX : Hid (rv = .agg #[.int .i64 6, .int .i64 0, .int .i64 n, .slice none 0 0, .slice none 0 0]) := by
      show _ = _
      rw [HR.out]; simp
    have hDC : D ≠ C := HDZ.out.2.2
    have hCD : C ≠ D := fun e => hDC e.symm
    have hDB : D ≠ B := HDZ.out.2.1
    have hBD : B ≠ D := fun e => hDB e.symm
    have c0 : w2.cell? ⟨C, 0, none⟩ = some (.int .i64 0) := blk_cell HK2.out.b2 0
    have c1 : w2.cell? ⟨C, 1, none⟩ = some (.int .i64 0) := blk_cell HK2.out.b2 1
    have c2 : w2.cell? ⟨C, 2, none⟩ = some (.int .i64 0) := blk_cell HK2.out.b2 2
    have c3 : w2.cell? ⟨C, 3, none⟩ = some (.slice none 0 0) := blk_cell HK2.out.b2 3
    have c4 : w2.cell? ⟨C, 4, none⟩ = some (.slice none 0 0) := blk_cell HK2.out.b2 4
    have f1 := fun r => blk_frozen HK2.out.b2 r
    go_wp2_with fail
    have hz := set5 (v0 := .int .i64 6) (v1 := .int .i64 0) (v2 := .int .i64 n) (v3 := .slice none 0 0) (v4 := .slice none 0 0) (blk_set HK2.out.b2 (p := ⟨D, 2, none⟩) hCD (.int .i64 n))
    have r0 := blk_cell hz 0
    have r1 := blk_cell hz 1
    have r2 := blk_cell hz 2
    have r3 := blk_cell hz 3
    have r4 := blk_cell hz 4
    refine bodyPost_ret (v := .agg #[.int .i64 6, .int .i64 0, .int .i64 n, .slice none 0 0, .slice none 0 0]) (by simp [results, Tryd.f49, go_sem, r0, r1, r2, r3, r4]) rfl ⟨by rw [HX.out], (((((((HK2.out.below).setCell HDZ.out.1 _)).setCell HBS.out _).setCell HBS.out _).setCell HBS.out _).setCell HBS.out _).setCell HBS.out _⟩
  by_cases h7 : k = 7
  · subst h7
    clear h1 h2 h5 h6
    have HX : Hid (rv = .agg #[.int .i64 7, .int .i64 0, .int .i64 0, .slice none 0 0, .slice ak lk ck]) := by
      show _ = _
      rw [HR.out]; simp
    have hDC : D ≠ C := HDZ.out.2.2
    have hCD : C ≠ D := fun e => hDC e.symm
    have hDB : D ≠ B := HDZ.out.2.1
    have hBD : B ≠ D := fun e => hDB e.symm
    have c0 : w2.cell? ⟨C, 0, none⟩ = some (.int .i64 0) := blk_cell HK2.out.b2 0
    have c1 : w2.cell? ⟨C, 1, none⟩ = some (.int .i64 0) := blk_cell HK2.out.b2 1
    have c2 : w2.cell? ⟨C, 2, none⟩ = some (.int .i64 0) := blk_cell HK2.out.b2 2
    have c3 : w2.cell? ⟨C, 3, none⟩ = some (.slice none 0 0) := blk_cell HK2.out.b2 3
    have c4 : w2.cell? ⟨C, 4, none⟩ = some (.slice none 0 0) := blk_cell HK2.out.b2 4
    have f1 := fun r => blk_frozen HK2.out.b2 r
    go_wp2_with fail
    have hz := set5 (v0 := .int .i64 7) (v1 := .int .i64 0) (v2 := .int .i64 0) (v3 := .slice none 0 0) (v4 := .slice ak lk ck) (blk_set HK2.out.b2 (p := ⟨D, 4, none⟩) hCD (.slice ak lk ck))
    have r0 := blk_cell hz 0
    have r1 := blk_cell hz 1
    have r2 := blk_cell hz 2
    have r3 := blk_cell hz 3
    have r4 := blk_cell hz 4
    refine bodyPost_ret (v := .agg #[.int .i64 7, .int .i64 0, .int .i64 0, .slice none 0 0, .slice ak lk ck]) (by simp [results, Tryd.f49, go_sem, r0, r1, r2, r3, r4]) rfl ⟨by rw [HX.out], (((((((HK2.out.below).setCell HDZ.out.1 _)).setCell HBS.out _).setCell HBS.out _).setCell HBS.out _).setCell HBS.out _).setCell HBS.out _⟩
  by_cases h8 : k = 8
  · subst h8
    clear h1 h2 h5 h6 h7
    have HX : Hid (rv = .agg #[.int .i64 8, .int .i64 c, .int .i64 0, .slice none 0 0, .slice none 0 0]) := by
      show _ = _
      rw [HR.out]; simp
    have hDC : D ≠ C := HDZ.out.2.2
    have hCD : C ≠ D := fun e => hDC e.symm
    have hDB : D ≠ B := HDZ.out.2.1
    have hBD : B ≠ D := fun e => hDB e.symm
    have c0 : w2.cell? ⟨C, 0, none⟩ = some (.int .i64 0) := blk_cell HK2.out.b2 0
    have c1 : w2.cell? ⟨C, 1, none⟩ = some (.int .i64 0) := blk_cell HK2.out.b2 1
    have c2 : w2.cell? ⟨C, 2, none⟩ = some (.int .i64 0) := blk_cell HK2.out.b2 2
    have c3 : w2.cell? ⟨C, 3, none⟩ = some (.slice none 0 0) := blk_cell HK2.out.b2 3
    have c4 : w2.cell? ⟨C, 4, none⟩ = some (.slice none 0 0) := blk_cell HK2.out.b2 4
    have f1 := fun r => blk_frozen HK2.out.b2 r
    go_wp2_with fail
    have hz := set5 (v0 := .int .i64 8) (v1 := .int .i64 c) (v2 := .int .i64 0) (v3 := .slice none 0 0) (v4 := .slice none 0 0) (blk_set HK2.out.b2 (p := ⟨D, 1, none⟩) hCD (.int .i64 c))
    have r0 := blk_cell hz 0
    have r1 := blk_cell hz 1
    have r2 := blk_cell hz 2
    have r3 := blk_cell hz 3
    have r4 := blk_cell hz 4
    refine bodyPost_ret (v := .agg #[.int .i64 8, .int .i64 c, .int .i64 0, .slice none 0 0, .slice none 0 0]) (by simp [results, Tryd.f49, go_sem, r0, r1, r2, r3, r4]) rfl ⟨by rw [HX.out], (((((((HK2.out.below).setCell HDZ.out.1 _)).setCell HBS.out _).setCell HBS.out _).setCell HBS.out _).setCell HBS.out _).setCell HBS.out _⟩
  have q1 : (k == 1) = false := by simp [h1]
  have q2 : (k == 2) = false := by simp [h2]
  have q5 : (k == 5) = false := by simp [h5]
  have q6 : (k == 6) = false := by simp [h6]
  have q7 : (k == 7) = false := by simp [h7]
  have q8 : (k == 8) = false := by simp [h8]
  have HX : Hid (rv = .agg #[.int .i64 k, .int .i64 0, .int .i64 0, .slice none 0 0, .slice none 0 0]) := by
    show _ = _
    rw [HR.out]; simp [h1, h2, h5, h6, h7, h8]
  clear h1 h2 h5 h6 h7 h8
  have hDC : D ≠ C := HDZ.out.2.2
  have hCD : C ≠ D := fun e => hDC e.symm
  have hDB : D ≠ B := HDZ.out.2.1
  have hBD : B ≠ D := fun e => hDB e.symm
  have c0 : w2.cell? ⟨C, 0, none⟩ = some (.int .i64 0) := blk_cell HK2.out.b2 0
  have c1 : w2.cell? ⟨C, 1, none⟩ = some (.int .i64 0) := blk_cell HK2.out.b2 1
  have c2 : w2.cell? ⟨C, 2, none⟩ = some (.int .i64 0) := blk_cell HK2.out.b2 2
  have c3 : w2.cell? ⟨C, 3, none⟩ = some (.slice none 0 0) := blk_cell HK2.out.b2 3
  have c4 : w2.cell? ⟨C, 4, none⟩ = some (.slice none 0 0) := blk_cell HK2.out.b2 4
  have f1 := fun r => blk_frozen HK2.out.b2 r
  go_wp2_with fail
  have hz := set5 (v0 := .int .i64 k) (v1 := .int .i64 0) (v2 := .int .i64 0) (v3 := .slice none 0 0) (v4 := .slice none 0 0) HK2.out.b2
  have r0 := blk_cell hz 0
  have r1 := blk_cell hz 1
  have r2 := blk_cell hz 2
  have r3 := blk_cell hz 3
  have r4 := blk_cell hz 4
  refine bodyPost_ret (v := .agg #[.int .i64 k, .int .i64 0, .int .i64 0, .slice none 0 0, .slice none 0 0]) (by simp [results, Tryd.f49, go_sem, r0, r1, r2, r3, r4]) rfl ⟨by rw [HX.out], (((((HK2.out.below).setCell HBS.out _).setCell HBS.out _).setCell HBS.out _).setCell HBS.out _).setCell HBS.out _⟩
end Go.Proofs.YtelaijogjgcloaaDoor
