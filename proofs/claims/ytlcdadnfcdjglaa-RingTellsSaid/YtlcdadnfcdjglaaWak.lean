/- The layer does something. No condition. -/
import Derived.Test.YtlcdadnfcdjglaaNew
set_option linter.unusedVariables false
set_option linter.unusedSimpArgs false
namespace Go.Proofs.Ytlcdadnfcdjglaa
open Go.RowKit Go.Ice Go.Ring

def l0 : List Seg := List.replicate 4 zero
def l1 : List Seg := [⟨1, 3, 1⟩, zero, zero, zero]
theorem open0 : openF 24 l0 3 = (0, some (l1, 0)) := by decide +kernel
theorem left1 : leftV (checkB 24 l1) (leftP 24 l1) = .int .i64 23 := by
  have h1 : checkB 24 l1 = true := by decide +kernel
  have h2 : leftP 24 l1 = 23 := by decide +kernel
  rw [h1, h2]; rfl
theorem frees1 : freesV (checkB 24 l1) l1.length (order l1).length = .int .i64 3 := by
  have h1 : checkB 24 l1 = true := by decide +kernel
  have h2 : (order l1).length = 1 := by decide +kernel
  rw [h1, h2]; rfl

set_option maxHeartbeats 4000000 in
theorem wakes (w : World) : Calls Try.prog 9 #[] w fun e w' => e = .returned (.bool true) ∧ Below w.heap.size w w' := by
  have HN := Lib.hid (new w 4 24)
  obtain ⟨B, hB⟩ : ∃ B, B = w.heap.size := ⟨_, rfl⟩
  have HB := Lib.hid hB
  clear hB
  go_enter Try.func9, Try.ntmps9
  go_wp2_with fail
  refine HN.out.mono ?_
  rintro e w1 ⟨u, rfl, ho, hb⟩
  rw [show sizedI 4 24 = true from by decide] at ho ⊢
  simp only [if_true] at ho ⊢
  have HO : Hid (OwnSegs w1 w.heap.size u l0) := ho
  obtain ⟨au, nu, cu, rfl⟩ := own_sl ho
  obtain ⟨a', cu', hsl, _⟩ := own_form ho
  obtain rfl : nu = 4 := by injection hsl
  have HK := Lib.hid ((Kp.nil w).step hb)
  clear ho hb HN hsl
  unfold ringV
  go_upto_region 2 with fail
  obtain ⟨Wa, hWa⟩ : ∃ Wa, Wa = w1.alloc (.cells #[.int .i64 24, .slice au 4 cu] 25) := ⟨_, rfl⟩
  obtain ⟨D, hD⟩ : ∃ D, D = w1.heap.size := ⟨_, rfl⟩
  have HKa : Hid (Kp w [(D, .cells #[.int .i64 24, .slice au 4 cu] 25)] Wa) := by show Kp _ _ _; rw [hWa, hD]; exact HK.out.alloc _
  have HOa : Hid (OwnSegs Wa w.heap.size (.slice au 4 cu) l0) := by show World.ownsRow _ _ _ _ _ _ _; rw [hWa]; exact HO.out.alloc _
  rw [← hD, ← hWa]
  have HOP := Lib.hid (openg Wa 24 (.slice au 4 cu) l0 3 HOa.out.segs)
  rw [open0] at HOP
  have d0 : Wa.cell? ⟨D, 0, none⟩ = some (.int .i64 24) := blk_cell HKa.out.b0 0
  have d1 : Wa.cell? ⟨D, 1, none⟩ = some (.slice au 4 cu) := blk_cell HKa.out.b0 1
  unfold ringV at HOP
  clear hWa hD HK HO
  go_wp2_with fail
  refine HOP.out.mono ?_
  rintro e w2 ⟨u2, rfl, ho2, hb2⟩
  have HO2 : Hid (OwnSegs w2 Wa.heap.size u2 l1) := ho2
  obtain ⟨a2, n2, c2, rfl⟩ := own_sl ho2
  have HK2 := Lib.hid (HKa.out.step hb2)
  have HO1 : Hid (OwnSegs w2 w.heap.size (.slice au 4 cu) l0) := own_below HOa.out hb2
  clear ho2 hb2 HOP d0 d1 HKa HOa
  unfold secOf idxOf
  simp only [Option.map_some, Option.isSome_some, if_true]
  go_upto_region 5 with fail
  obtain ⟨Wb, hWb⟩ : ∃ Wb, Wb = w2.alloc (.cells #[.int .i64 24, .slice a2 n2 c2] 25) := ⟨_, rfl⟩
  obtain ⟨E, hE⟩ : ∃ E, E = w2.heap.size := ⟨_, rfl⟩
  have HKb : Hid (Kp w [(E, .cells #[.int .i64 24, .slice a2 n2 c2] 25), (D, .cells #[.int .i64 24, .slice au 4 cu] 25)] Wb) := by show Kp _ _ _; rw [hWb, hE]; exact HK2.out.alloc _
  have HO1b : Hid (OwnSegs Wb w.heap.size (.slice au 4 cu) l0) := by show World.ownsRow _ _ _ _ _ _ _; rw [hWb]; exact HO1.out.alloc _
  have HO2b : Hid (OwnSegs Wb Wa.heap.size (.slice a2 n2 c2) l1) := by show World.ownsRow _ _ _ _ _ _ _; rw [hWb]; exact HO2.out.alloc _
  rw [← hE, ← hWb]
  have HLF := Lib.hid (left Wb 24 (.slice a2 n2 c2) l1 HO2b.out.segs)
  rw [left1] at HLF
  have e0 : Wb.cell? ⟨E, 0, none⟩ = some (.int .i64 24) := blk_cell HKb.out.b0 0
  have e1 : Wb.cell? ⟨E, 1, none⟩ = some (.slice a2 n2 c2) := blk_cell HKb.out.b0 1
  unfold ringV at HLF
  clear hWb hE HK2 HO1 HO2
  go_wp2_with fail
  refine HLF.out.mono ?_
  rintro e w3 ⟨rfl, hb3⟩
  have HK3 := Lib.hid (HKb.out.step hb3)
  have HO13 : Hid (OwnSegs w3 w.heap.size (.slice au 4 cu) l0) := own_below HO1b.out hb3
  have HO23 : Hid (OwnSegs w3 Wa.heap.size (.slice a2 n2 c2) l1) := own_below HO2b.out hb3
  have HFR := Lib.hid (frees w3 24 (.slice a2 n2 c2) l1 HO23.out.segs)
  rw [frees1] at HFR
  clear e0 e1 hb3 HLF HKb HO1b HO2b
  have e0 : w3.cell? ⟨E, 0, none⟩ = some (.int .i64 24) := blk_cell HK3.out.b0 0
  have e1 : w3.cell? ⟨E, 1, none⟩ = some (.slice a2 n2 c2) := blk_cell HK3.out.b0 1
  unfold ringV at HFR
  go_wp2_with fail
  refine HFR.out.mono ?_
  rintro e w4 ⟨rfl, hb4⟩
  have HK4 := Lib.hid (HK3.out.step hb4)
  have hO14 : OwnSegs w4 w.heap.size (.slice au 4 cu) l0 := own_below HO13.out hb4
  obtain ⟨b, off, cap, hsl, h1, h2, h3, h4⟩ := hO14.segs.cell (by decide)
  obtain ⟨rfl, rfl⟩ : au = some ⟨b, off, none⟩ ∧ cu = cap := by
    have : (l0.length) = 4 := rfl
    injection hsl with x1 x2 x3
    exact ⟨x1, x3⟩
  have q0 := (h4 0 (by decide)).1
  rw [show (at' l0 0).st = 0 from rfl] at q0
  simp only [Nat.zero_mul, Nat.add_zero] at q0
  have g1 : w4.cell? ⟨D, 1, none⟩ = some (.slice (some ⟨b, off, none⟩) 4 cu) := blk_cell HK4.out.b1 1
  have HBE := Lib.hid HK4.out.below
  clear e0 e1 hb4 HFR HK3 HO13 HO23 hO14 h4 hsl HK4
  go_wp2_with fail
  go_ret
  exact ⟨rfl, HBE.out⟩
end Go.Proofs.Ytlcdadnfcdjglaa
