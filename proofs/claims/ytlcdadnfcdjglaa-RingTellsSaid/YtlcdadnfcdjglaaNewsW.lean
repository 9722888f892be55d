/- The walk of the law RingNews. No condition. -/
import Derived.Test.YtlcdadnfcdjglaaSmr
import Derived.Test.YtlcdadnfcdjglaaWak
set_option linter.unusedVariables false
set_option linter.unusedSimpArgs false
namespace Go.Proofs.Ytlcdadnfcdjglaa
open Go.RowKit Go.Ice Go.Ring

theorem OwnSegs.below {w w' : World} {base : Nat} {v : Value} {l : List Seg} (h : OwnSegs w base v l) (hb : Below w.heap.size w w') : OwnSegs w' base v l := own_below h hb
theorem segsNil (w : World) : SegsAt w (.slice none 0 0) [] := .inl ⟨rfl, .inl rfl⟩

theorem check_new {n : Nat} {sec : Int} (h : (4 ≤ n ∧ n ≤ 16) ∧ (24 ≤ sec ∧ sec ≤ 64)) : checkB sec (List.replicate n zero) = true :=
  (Side.new (by unfold sizedB; simp; omega)).check

set_option maxHeartbeats 4000000 in
theorem ringNewsW.walk (n sec : Int) (w : World) (w0 : (Lit.int .i64 n).wf = true) (w1 : (Lit.int .i64 sec).wf = true) :
    Calls Try.prog 3 #[.int .i64 n, .int .i64 sec] w fun e w' => e = .returned (.bool true) ∧ Below w.heap.size w w' := by
  have HWK := Lib.hid (wakes w)
  obtain ⟨bb, hbb⟩ : ∃ bb, bb = sizedI n sec := ⟨_, rfl⟩
  have HBB := Lib.hid hbb
  clear w0 w1 hbb
  go_enter Try.func3, Try.ntmps3
  go_wp2_with fail
  refine HWK.out.mono ?_
  rintro e w1 ⟨rfl, hb⟩
  have HK := Lib.hid ((Kp.nil w).step hb)
  have HN := Lib.hid (new w1 n sec)
  clear hb HWK
  go_wp2_with fail
  refine HN.out.mono ?_
  rintro e w2 ⟨u, rfl, ho, hb⟩
  rw [← HBB.out] at ho ⊢
  have HO := Lib.hid ho
  obtain ⟨s0, hs0⟩ : ∃ s, s = (if bb = true then sec else 0) := ⟨_, rfl⟩
  obtain ⟨y0, hy0⟩ : ∃ s, s = (if bb = true then Value.int .i64 0 else Value.int .i64 2) := ⟨_, rfl⟩
  rw [← hs0, ← hy0]
  have HS0 := Lib.hid hs0
  have HY0 := Lib.hid hy0
  clear hs0 hy0
  have HK2 := Lib.hid (HK.out.step hb)
  obtain ⟨au, nu, cu, rfl⟩ := own_sl ho
  unfold ringV
  clear ho hb HN HK
  go_upto_region 4 with fail
  obtain ⟨D, hD⟩ : ∃ D, D = w2.heap.size := ⟨_, rfl⟩
  obtain ⟨Wa, hWa⟩ : ∃ Wa, Wa = w2.alloc (.cells #[.int .i64 s0, .slice au nu cu] 25) := ⟨_, rfl⟩
  have HKa : Hid (Kp w [(D, .cells #[.int .i64 s0, .slice au nu cu] 25)] Wa) := by show Kp _ _ _; rw [hWa, hD]; exact HK2.out.alloc _
  have HOa : Hid (OwnSegs Wa w1.heap.size (.slice au nu cu) (if bb = true then List.replicate n.toNat zero else [])) := by show World.ownsRow _ _ _ _ _ _ _; rw [hWa]; exact HO.out.alloc _
  rw [← hD, ← hWa]
  have HN := Lib.hid (newR Wa n sec)
  clear hD hWa HK2 HO
  go_wp2_with fail
  refine HN.out.mono ?_
  rintro e w3 ⟨u3, rfl, ho, hb⟩
  rw [← HBB.out] at ho ⊢
  rw [← HS0.out]
  obtain ⟨y1, hy1⟩ : ∃ s, s = (if bb = true then Value.bool true else Value.bool false) := ⟨_, rfl⟩
  rw [← hy1]
  have HY1 := Lib.hid hy1
  clear hy1
  have HO3 := Lib.hid ho
  have HKb := Lib.hid (HKa.out.step hb)
  have HOb : Hid (OwnSegs w3 w1.heap.size (.slice au nu cu) (if bb = true then List.replicate n.toNat zero else [])) := own_below HOa.out hb
  obtain ⟨a3, n3, c3, rfl⟩ := own_sl ho
  unfold ringV
  clear ho hb HN HKa HOa
  go_upto_region 5 with fail
  obtain ⟨E, hE⟩ : ∃ E, E = w3.heap.size := ⟨_, rfl⟩
  obtain ⟨Wb, hWb⟩ : ∃ Wb, Wb = w3.alloc (.cells #[.int .i64 s0, .slice a3 n3 c3] 25) := ⟨_, rfl⟩
  have HKc : Hid (Kp w [(E, .cells #[.int .i64 s0, .slice a3 n3 c3] 25), (D, .cells #[.int .i64 s0, .slice au nu cu] 25)] Wb) := by show Kp _ _ _; rw [hWb, hE]; exact HKb.out.alloc _
  have HOc : Hid (OwnSegs Wb w1.heap.size (.slice au nu cu) (if bb = true then List.replicate n.toNat zero else [])) := by show World.ownsRow _ _ _ _ _ _ _; rw [hWb]; exact HOb.out.alloc _
  have HO3c : Hid (OwnSegs Wb Wa.heap.size (.slice a3 n3 c3) (if bb = true then List.replicate n.toNat zero else [])) := by show World.ownsRow _ _ _ _ _ _ _; rw [hWb]; exact HO3.out.alloc _
  rw [← hE, ← hWb]
  clear hE hWb HKb HOb HO3
  have d0 : Wb.cell? ⟨D, 0, none⟩ = some (.int .i64 s0) := blk_cell HKc.out.b1 0
  have d1 : Wb.cell? ⟨D, 1, none⟩ = some (.slice au nu cu) := blk_cell HKc.out.b1 1
  have e0 : Wb.cell? ⟨E, 0, none⟩ = some (.int .i64 s0) := blk_cell HKc.out.b0 0
  have e1 : Wb.cell? ⟨E, 1, none⟩ = some (.slice a3 n3 c3) := blk_cell HKc.out.b0 1
  cases bb with
  | false =>
    simp only [Bool.false_eq_true, if_false] at HOc HO3c HS0 HY0 HY1
    obtain rfl := HS0.out
    obtain rfl := HY0.out
    obtain rfl := HY1.out
    have HSM := Lib.hid (sameR Wb 0 0 (.slice au nu cu) (.slice none 0 0) [] [] HOc.out.segs (segsNil _))
    rw [show sameB 0 0 [] [] = true from by decide] at HSM
    unfold ringV at HSM
    go_wp2_with fail
    refine HSM.out.mono ?_
    rintro e w4 ⟨rfl, hb⟩
    have HBB := Lib.hid (HKc.out.step hb).below
    clear hb
    go_wp2_with fail
    go_ret
    exact ⟨rfl, HBB.out⟩
  | true =>
    simp only [if_true] at HOc HO3c HS0 HY0 HY1
    obtain rfl := HY0.out
    obtain rfl := HY1.out
    have HS1 := Lib.hid HS0.out.symm
    obtain rfl := HS1.out
    have hsz : (4 ≤ n ∧ n ≤ 16) ∧ (24 ≤ sec ∧ sec ≤ 64) := by
      have := HBB.out.symm
      unfold sizedI at this
      rw [Bool.and_eq_true] at this
      exact ⟨of_decide_eq_true this.1, of_decide_eq_true this.2⟩
    have HSM := Lib.hid (sameR Wb sec sec (.slice au nu cu) (.slice a3 n3 c3) _ _ HOc.out.segs HO3c.out.segs)
    rw [show sameB sec sec (List.replicate n.toNat zero) (List.replicate n.toNat zero) = true from by simp [sameB]] at HSM
    have HCK := Lib.hid (show checkB sec (List.replicate n.toNat zero) = true from check_new (by omega))
    unfold ringV at HSM
    clear hsz
    go_wp2_with fail
    refine HSM.out.mono ?_
    rintro e w4 ⟨rfl, hb⟩
    have HKd := Lib.hid (HKc.out.step hb)
    have HC := Lib.hid (chek w4 sec (.slice au nu cu) _ (OwnSegs.below HOc.out hb).segs)
    rw [HCK.out] at HC
    unfold ringV chekE at HC
    clear d0 d1 e0 e1 hb
    have d0 : w4.cell? ⟨D, 0, none⟩ = some (.int .i64 sec) := blk_cell HKd.out.b1 0
    have d1 : w4.cell? ⟨D, 1, none⟩ = some (.slice au nu cu) := blk_cell HKd.out.b1 1
    simp only [if_true] at HC
    go_wp2_with fail
    refine HC.out.mono ?_
    rintro e w5 ⟨rfl, hb⟩
    have HBB := Lib.hid (HKd.out.step hb).below
    clear hb
    go_wp2_with fail
    go_ret
    exact ⟨rfl, HBB.out⟩
end Go.Proofs.Ytlcdadnfcdjglaa
