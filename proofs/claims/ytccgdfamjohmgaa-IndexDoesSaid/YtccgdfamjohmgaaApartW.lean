/- The walk of the law IndexApart. No condition. -/
import Derived.Test.YtccgdfamjohmgaaApartP
import Derived.Test.YtccgdfamjohmgaaWake
set_option linter.unusedVariables false
namespace Go.Proofs.Ytccgdfamjohmgaa
open Go.RowKit Go.Ice

theorem kind_of (o : OpV) (k : Int) (h : kindF o.kind = k) (w : World) : Calls Try.prog 11 #[.agg #[.int .i64 o.kind, .int .u32 o.f, .int .i64 o.a.seg, .int .u64 o.a.gen, .int .i64 o.a.sec]] w fun e w' => e = .returned (.int .i64 k) ∧ Below w.heap.size w w' := by
  rw [← h]; exact kind o w
theorem kindF_cases (k : Int) : kindF k = 0 ∨ kindF k = 1 ∨ kindF k = 2 ∨ kindF k = 3 := by
  unfold kindF
  simp only
  have : 0 ≤ (IntKind.u64.wrap k) % 6 ∧ (IntKind.u64.wrap k) % 6 < 6 := by omega
  split <;> omega

set_option maxRecDepth 100000 in
set_option maxHeartbeats 8000000 in
theorem indexApart (a : Option Addr) (n cap F : Nat) (ops : Nat → OpV) (w : World) (hv : RowAt w 5 (.slice a n cap) n fun i j => (ops i).cell j) (hops : ∀ i, i < n → (ops i).fits) (hF : F ≤ 4294967295) :
    Calls Try.prog 3 #[.slice a n cap, .int .u32 F] w fun e w' => e = .returned (.bool true) ∧ Below w.heap.size w w' := by
  have hfew := fun w' (hb : Below w.heap.size w w') => few a n cap w' _ (hv.below hb (Nat.le_refl _))
  have hm : fewN n ≤ n ∧ fewN n ≤ 200 := by unfold fewN; omega
  obtain ⟨m, hmm⟩ : ∃ m, m = fewN n := ⟨_, rfl⟩
  rw [← hmm] at hfew hm
  have hv2 := hv.take hm.1
  have HV := Lib.hid hv2
  have HFEW := Lib.hid hfew
  have HOPS : Hid (∀ i, i < m → (ops i).fits) := fun i hi => hops i (by omega)
  clear hmm hv hv2 hfew hops
  obtain ⟨hm1, hm2⟩ := hm
  go_enter Try.func3, Try.ntmps3
  go_wp2_with fail
  refine (wakes _).mono ?_
  rintro e w1 ⟨rfl, hb1⟩
  have HB1 := Lib.hid hb1
  clear hb1
  go_wp2_with fail
  refine (Own1.new w w1 1024 (by decide) (by decide) HB1.out).mono ?_
  rintro e w2 ⟨Lx, rfl, hX, hlo, hb2⟩
  have HX := Lib.hid hX
  clear hX hlo hb2
  go_wp2_with fail
  refine (Own1.new w w2 1024 (by decide) (by decide) HX.out.bel).mono ?_
  rintro e w3 ⟨Ly, rfl, hY, hlo, hb3⟩
  have HX3 := Lib.hid (HX.out.below hb3)
  have HY := Lib.hid hY
  have HD : Hid (∀ k, Lx.owns k → ¬ Ly.owns k) := fun k hx hy => by have := hlo k hy; have := HX.out.here.lt k hx; omega
  clear hY hlo hb3 HX
  go_wp2_with fail
  refine (HFEW.out _ HX3.out.bel).mono ?_
  rintro e w4 ⟨rfl, rfl⟩
  go_wp2_with fail
  go_loopg [10, 30] m (fun g qv iv wr => ∃ (i : Nat) (A B : List (Nat × Adr)), g = m - i ∧ i ≤ m ∧ iv = .int .i64 i ∧ Hid (Own1 w wr Lx 1024 A ∧ Own1 w wr Ly 1024 B ∧ Apart A B F i))
  case atStart => exact ⟨0, [], [], rfl, by omega, rfl, HX3.out, HY.out, rfl, by decide⟩
  case round =>
    clear HX3 HY
    obtain ⟨i, A, B, rfl, hi, rfl, HAB⟩ := hrel
    by_cases hlt : i < m
    · obtain ⟨b, off, cap', hsl, hb1, hb2, hb3, hc⟩ := HV.out.at (by omega)
      obtain ⟨rfl, rfl⟩ : a = some ⟨b, off, none⟩ ∧ cap = cap' := by cases hsl; exact ⟨rfl, rfl⟩
      have hcell : ∀ j, j < 5 → wr.cell? ⟨b, off + (i * 5 + j), none⟩ = some ((ops i).cell j) := fun j hj => by
        rw [HAB.out.1.bel.cell (p := ⟨b, off + (i * 5 + j), none⟩) hb3]; exact hc i hlt j hj
      have hfit := HOPS.out i hlt
      generalize ops i = o at hcell hfit
      have c0 := hcell 0 (by decide)
      have c1 := hcell 1 (by decide)
      have c2 := hcell 2 (by decide)
      have c3 := hcell 3 (by decide)
      have c4 := hcell 4 (by decide)
      simp only [OpV.cell, Nat.add_zero, ← Nat.add_assoc] at c0 c1 c2 c3 c4
      clear hcell hc hsl
      have HT : Hid (Two w (wr.alloc (.cells #[.int .i64 o.kind, .int .u32 o.f, .int .i64 o.a.seg, .int .u64 o.a.gen, .int .i64 o.a.sec] 34)) Lx Ly A B wr.heap.size o) :=
        ⟨HAB.out.1.alloc _, HAB.out.2.1.alloc _, HD.out, OpAt.new wr o 34, fun ho => by have := HAB.out.1.here.lt _ ho; omega, fun ho => by have := HAB.out.2.1.here.lt _ ho; omega⟩
      have hff := hfit.2.1
      generalize hW : wr.alloc (.cells #[.int .i64 o.kind, .int .u32 o.f, .int .i64 o.a.seg, .int .u64 o.a.gen, .int .i64 o.a.sec] 34) = W at HT
      have HT0 := HT
      have HW := Lib.hid hW
      clear HT hW
      by_cases heq : F = o.f
      · subst heq
        rcases kindF_cases o.kind with hk | hk | hk | hk
        · have HK := Lib.hid hk
          clear hk
          go_wp2_with fail
          rw [HW.out]
          refine (kind_of o 0 HK.out _).mono ?_
          rintro e w5 ⟨rfl, hb⟩
          have HT1 := Lib.hid (HT0.out.below hb)
          clear hb HT0
          clear c0 c1 c2 c3 c4
          have h5 := HT1.out.o.2
          have c0 := h5 0 (by decide)
          have c1 := h5 1 (by decide)
          have c2 := h5 2 (by decide)
          have c3 := h5 3 (by decide)
          have c4 := h5 4 (by decide)
          simp only [OpV.cell] at c0 c1 c2 c3 c4
          clear h5
          go_wp2_with fail
          refine (kind_of o 0 HK.out _).mono ?_
          rintro e w6 ⟨rfl, hb⟩
          have HT2 := Lib.hid (HT1.out.below hb)
          clear hb HT1
          clear c0 c1 c2 c3 c4
          have h5 := HT2.out.o.2
          have c0 := h5 0 (by decide)
          have c1 := h5 1 (by decide)
          have c2 := h5 2 (by decide)
          have c3 := h5 3 (by decide)
          have c4 := h5 4 (by decide)
          simp only [OpV.cell] at c0 c1 c2 c3 c4
          clear h5
          go_wp2_with fail
          refine (HT2.out.addx hff).mono ?_
          rintro e w7 ⟨z2, rfl, ht⟩
          have HT3 := Lib.hid ht
          clear ht HT2
          clear c0 c1 c2 c3 c4
          have h5 := HT3.out.o.2
          have c0 := h5 0 (by decide)
          have c1 := h5 1 (by decide)
          have c2 := h5 2 (by decide)
          have c3 := h5 3 (by decide)
          have c4 := h5 4 (by decide)
          simp only [OpV.cell] at c0 c1 c2 c3 c4
          clear h5
          go_wp2_with fail
          refine (kind_of o 0 HK.out _).mono ?_
          rintro e w8 ⟨rfl, hb⟩
          have HT4 := Lib.hid (HT3.out.below hb)
          clear hb HT3
          clear c0 c1 c2 c3 c4
          have h5 := HT4.out.o.2
          have c0 := h5 0 (by decide)
          have c1 := h5 1 (by decide)
          have c2 := h5 2 (by decide)
          have c3 := h5 3 (by decide)
          have c4 := h5 4 (by decide)
          simp only [OpV.cell] at c0 c1 c2 c3 c4
          clear h5
          go_wp2_with fail
          refine (HT4.out.addy hff).mono ?_
          rintro e w9 ⟨z4, rfl, ht⟩
          have HT5 := Lib.hid ht
          clear ht HT4
          clear c0 c1 c2 c3 c4
          have h5 := HT5.out.o.2
          have c0 := h5 0 (by decide)
          have c1 := h5 1 (by decide)
          have c2 := h5 2 (by decide)
          have c3 := h5 3 (by decide)
          have c4 := h5 4 (by decide)
          simp only [OpV.cell] at c0 c1 c2 c3 c4
          clear h5
          go_wp2_with fail
          go_roundg (m - (i + 1))
          case measure => omega
          case rel => exact ⟨i + 1, (addA A 1024 o.f o.a).2, (addA B 1024 o.f o.a).2, rfl, by omega, by go_num, HT5.out.x, HT5.out.y, HAB.out.2.2.add_same (by omega)⟩
        · have HK := Lib.hid hk
          clear hk
          go_wp2_with fail
          rw [HW.out]
          refine (kind_of o 1 HK.out _).mono ?_
          rintro e w5 ⟨rfl, hb⟩
          have HT1 := Lib.hid (HT0.out.below hb)
          clear hb HT0
          clear c0 c1 c2 c3 c4
          have h5 := HT1.out.o.2
          have c0 := h5 0 (by decide)
          have c1 := h5 1 (by decide)
          have c2 := h5 2 (by decide)
          have c3 := h5 3 (by decide)
          have c4 := h5 4 (by decide)
          simp only [OpV.cell] at c0 c1 c2 c3 c4
          clear h5
          go_wp2_with fail
          refine (kind_of o 1 HK.out _).mono ?_
          rintro e w6 ⟨rfl, hb⟩
          have HT2 := Lib.hid (HT1.out.below hb)
          clear hb HT1
          clear c0 c1 c2 c3 c4
          have h5 := HT2.out.o.2
          have c0 := h5 0 (by decide)
          have c1 := h5 1 (by decide)
          have c2 := h5 2 (by decide)
          have c3 := h5 3 (by decide)
          have c4 := h5 4 (by decide)
          simp only [OpV.cell] at c0 c1 c2 c3 c4
          clear h5
          go_wp2_with fail
          refine (kind_of o 1 HK.out _).mono ?_
          rintro e w7 ⟨rfl, hb⟩
          have HT3 := Lib.hid (HT2.out.below hb)
          clear hb HT2
          clear c0 c1 c2 c3 c4
          have h5 := HT3.out.o.2
          have c0 := h5 0 (by decide)
          have c1 := h5 1 (by decide)
          have c2 := h5 2 (by decide)
          have c3 := h5 3 (by decide)
          have c4 := h5 4 (by decide)
          simp only [OpV.cell] at c0 c1 c2 c3 c4
          clear h5
          go_wp2_with fail
          refine (HT3.out.remx hff).mono ?_
          rintro e w8 ⟨z3, rfl, ht⟩
          have HT4 := Lib.hid ht
          clear ht HT3
          clear c0 c1 c2 c3 c4
          have h5 := HT4.out.o.2
          have c0 := h5 0 (by decide)
          have c1 := h5 1 (by decide)
          have c2 := h5 2 (by decide)
          have c3 := h5 3 (by decide)
          have c4 := h5 4 (by decide)
          simp only [OpV.cell] at c0 c1 c2 c3 c4
          clear h5
          go_wp2_with fail
          refine (kind_of o 1 HK.out _).mono ?_
          rintro e w9 ⟨rfl, hb⟩
          have HT5 := Lib.hid (HT4.out.below hb)
          clear hb HT4
          clear c0 c1 c2 c3 c4
          have h5 := HT5.out.o.2
          have c0 := h5 0 (by decide)
          have c1 := h5 1 (by decide)
          have c2 := h5 2 (by decide)
          have c3 := h5 3 (by decide)
          have c4 := h5 4 (by decide)
          simp only [OpV.cell] at c0 c1 c2 c3 c4
          clear h5
          go_wp2_with fail
          refine (kind_of o 1 HK.out _).mono ?_
          rintro e w10 ⟨rfl, hb⟩
          have HT6 := Lib.hid (HT5.out.below hb)
          clear hb HT5
          clear c0 c1 c2 c3 c4
          have h5 := HT6.out.o.2
          have c0 := h5 0 (by decide)
          have c1 := h5 1 (by decide)
          have c2 := h5 2 (by decide)
          have c3 := h5 3 (by decide)
          have c4 := h5 4 (by decide)
          simp only [OpV.cell] at c0 c1 c2 c3 c4
          clear h5
          go_wp2_with fail
          refine (HT6.out.remy hff).mono ?_
          rintro e w11 ⟨z6, rfl, ht⟩
          have HT7 := Lib.hid ht
          clear ht HT6
          clear c0 c1 c2 c3 c4
          have h5 := HT7.out.o.2
          have c0 := h5 0 (by decide)
          have c1 := h5 1 (by decide)
          have c2 := h5 2 (by decide)
          have c3 := h5 3 (by decide)
          have c4 := h5 4 (by decide)
          simp only [OpV.cell] at c0 c1 c2 c3 c4
          clear h5
          go_wp2_with fail
          go_roundg (m - (i + 1))
          case measure => omega
          case rel => exact ⟨i + 1, (remA A o.f o.a).2, (remA B o.f o.a).2, rfl, by omega, by go_num, HT7.out.x, HT7.out.y, HAB.out.2.2.rem_same⟩
        · have HK := Lib.hid hk
          clear hk
          go_wp2_with fail
          rw [HW.out]
          refine (kind_of o 2 HK.out _).mono ?_
          rintro e w5 ⟨rfl, hb⟩
          have HT1 := Lib.hid (HT0.out.below hb)
          clear hb HT0
          clear c0 c1 c2 c3 c4
          have h5 := HT1.out.o.2
          have c0 := h5 0 (by decide)
          have c1 := h5 1 (by decide)
          have c2 := h5 2 (by decide)
          have c3 := h5 3 (by decide)
          have c4 := h5 4 (by decide)
          simp only [OpV.cell] at c0 c1 c2 c3 c4
          clear h5
          go_wp2_with fail
          refine (HT1.out.dropx).mono ?_
          rintro e w6 ⟨z1, rfl, ht⟩
          have HT2 := Lib.hid ht
          clear ht HT1
          clear c0 c1 c2 c3 c4
          have h5 := HT2.out.o.2
          have c0 := h5 0 (by decide)
          have c1 := h5 1 (by decide)
          have c2 := h5 2 (by decide)
          have c3 := h5 3 (by decide)
          have c4 := h5 4 (by decide)
          simp only [OpV.cell] at c0 c1 c2 c3 c4
          clear h5
          go_wp2_with fail
          refine (HT2.out.dropy).mono ?_
          rintro e w7 ⟨z2, rfl, ht⟩
          have HT3 := Lib.hid ht
          clear ht HT2
          clear c0 c1 c2 c3 c4
          have h5 := HT3.out.o.2
          have c0 := h5 0 (by decide)
          have c1 := h5 1 (by decide)
          have c2 := h5 2 (by decide)
          have c3 := h5 3 (by decide)
          have c4 := h5 4 (by decide)
          simp only [OpV.cell] at c0 c1 c2 c3 c4
          clear h5
          go_wp2_with fail
          go_roundg (m - (i + 1))
          case measure => omega
          case rel => exact ⟨i + 1, A.filter (keepA o.a.gen), B.filter (keepA o.a.gen), rfl, by omega, by go_num, HT3.out.x, HT3.out.y, HAB.out.2.2.drop _⟩
        · have HK := Lib.hid hk
          clear hk
          go_wp2_with fail
          rw [HW.out]
          refine (kind_of o 3 HK.out _).mono ?_
          rintro e w5 ⟨rfl, hb⟩
          have HT1 := Lib.hid (HT0.out.below hb)
          clear hb HT0
          clear c0 c1 c2 c3 c4
          have h5 := HT1.out.o.2
          have c0 := h5 0 (by decide)
          have c1 := h5 1 (by decide)
          have c2 := h5 2 (by decide)
          have c3 := h5 3 (by decide)
          have c4 := h5 4 (by decide)
          simp only [OpV.cell] at c0 c1 c2 c3 c4
          clear h5
          go_wp2_with fail
          refine (kind_of o 3 HK.out _).mono ?_
          rintro e w6 ⟨rfl, hb⟩
          have HT2 := Lib.hid (HT1.out.below hb)
          clear hb HT1
          clear c0 c1 c2 c3 c4
          have h5 := HT2.out.o.2
          have c0 := h5 0 (by decide)
          have c1 := h5 1 (by decide)
          have c2 := h5 2 (by decide)
          have c3 := h5 3 (by decide)
          have c4 := h5 4 (by decide)
          simp only [OpV.cell] at c0 c1 c2 c3 c4
          clear h5
          go_wp2_with fail
          refine (kind_of o 3 HK.out _).mono ?_
          rintro e w7 ⟨rfl, hb⟩
          have HT3 := Lib.hid (HT2.out.below hb)
          clear hb HT2
          clear c0 c1 c2 c3 c4
          have h5 := HT3.out.o.2
          have c0 := h5 0 (by decide)
          have c1 := h5 1 (by decide)
          have c2 := h5 2 (by decide)
          have c3 := h5 3 (by decide)
          have c4 := h5 4 (by decide)
          simp only [OpV.cell] at c0 c1 c2 c3 c4
          clear h5
          go_wp2_with fail
          refine (kind_of o 3 HK.out _).mono ?_
          rintro e w8 ⟨rfl, hb⟩
          have HT4 := Lib.hid (HT3.out.below hb)
          clear hb HT3
          clear c0 c1 c2 c3 c4
          have h5 := HT4.out.o.2
          have c0 := h5 0 (by decide)
          have c1 := h5 1 (by decide)
          have c2 := h5 2 (by decide)
          have c3 := h5 3 (by decide)
          have c4 := h5 4 (by decide)
          simp only [OpV.cell] at c0 c1 c2 c3 c4
          clear h5
          go_wp2_with fail
          refine (kind_of o 3 HK.out _).mono ?_
          rintro e w9 ⟨rfl, hb⟩
          have HT5 := Lib.hid (HT4.out.below hb)
          clear hb HT4
          clear c0 c1 c2 c3 c4
          have h5 := HT5.out.o.2
          have c0 := h5 0 (by decide)
          have c1 := h5 1 (by decide)
          have c2 := h5 2 (by decide)
          have c3 := h5 3 (by decide)
          have c4 := h5 4 (by decide)
          simp only [OpV.cell] at c0 c1 c2 c3 c4
          clear h5
          go_wp2_with fail
          go_roundg (m - (i + 1))
          case measure => omega
          case rel => exact ⟨i + 1, A, B, rfl, by omega, by go_num, HT5.out.x, HT5.out.y, HAB.out.2.2.more⟩
      · have hne : ((o.f : Int) != (F : Int)) = true := by rw [bne_iff_ne]; omega
        have HNE : Hid (o.f ≠ F) := fun h => heq h.symm
        clear heq
        rcases kindF_cases o.kind with hk | hk | hk | hk
        · have HK := Lib.hid hk
          clear hk
          go_wp2_with fail
          rw [HW.out]
          refine (kind_of o 0 HK.out _).mono ?_
          rintro e w5 ⟨rfl, hb⟩
          have HT1 := Lib.hid (HT0.out.below hb)
          clear hb HT0
          clear c0 c1 c2 c3 c4
          have h5 := HT1.out.o.2
          have c0 := h5 0 (by decide)
          have c1 := h5 1 (by decide)
          have c2 := h5 2 (by decide)
          have c3 := h5 3 (by decide)
          have c4 := h5 4 (by decide)
          simp only [OpV.cell] at c0 c1 c2 c3 c4
          clear h5
          go_wp2_with fail
          refine (kind_of o 0 HK.out _).mono ?_
          rintro e w6 ⟨rfl, hb⟩
          have HT2 := Lib.hid (HT1.out.below hb)
          clear hb HT1
          clear c0 c1 c2 c3 c4
          have h5 := HT2.out.o.2
          have c0 := h5 0 (by decide)
          have c1 := h5 1 (by decide)
          have c2 := h5 2 (by decide)
          have c3 := h5 3 (by decide)
          have c4 := h5 4 (by decide)
          simp only [OpV.cell] at c0 c1 c2 c3 c4
          clear h5
          go_wp2_with fail
          refine (HT2.out.addx hff).mono ?_
          rintro e w7 ⟨z2, rfl, ht⟩
          have HT3 := Lib.hid ht
          clear ht HT2
          clear c0 c1 c2 c3 c4
          have h5 := HT3.out.o.2
          have c0 := h5 0 (by decide)
          have c1 := h5 1 (by decide)
          have c2 := h5 2 (by decide)
          have c3 := h5 3 (by decide)
          have c4 := h5 4 (by decide)
          simp only [OpV.cell] at c0 c1 c2 c3 c4
          clear h5
          go_wp2_with fail
          go_roundg (m - (i + 1))
          case measure => omega
          case rel => exact ⟨i + 1, (addA A 1024 o.f o.a).2, B, rfl, by omega, by go_num, HT3.out.x, HT3.out.y, HAB.out.2.2.add_other HNE.out⟩
        · have HK := Lib.hid hk
          clear hk
          go_wp2_with fail
          rw [HW.out]
          refine (kind_of o 1 HK.out _).mono ?_
          rintro e w5 ⟨rfl, hb⟩
          have HT1 := Lib.hid (HT0.out.below hb)
          clear hb HT0
          clear c0 c1 c2 c3 c4
          have h5 := HT1.out.o.2
          have c0 := h5 0 (by decide)
          have c1 := h5 1 (by decide)
          have c2 := h5 2 (by decide)
          have c3 := h5 3 (by decide)
          have c4 := h5 4 (by decide)
          simp only [OpV.cell] at c0 c1 c2 c3 c4
          clear h5
          go_wp2_with fail
          refine (kind_of o 1 HK.out _).mono ?_
          rintro e w6 ⟨rfl, hb⟩
          have HT2 := Lib.hid (HT1.out.below hb)
          clear hb HT1
          clear c0 c1 c2 c3 c4
          have h5 := HT2.out.o.2
          have c0 := h5 0 (by decide)
          have c1 := h5 1 (by decide)
          have c2 := h5 2 (by decide)
          have c3 := h5 3 (by decide)
          have c4 := h5 4 (by decide)
          simp only [OpV.cell] at c0 c1 c2 c3 c4
          clear h5
          go_wp2_with fail
          refine (kind_of o 1 HK.out _).mono ?_
          rintro e w7 ⟨rfl, hb⟩
          have HT3 := Lib.hid (HT2.out.below hb)
          clear hb HT2
          clear c0 c1 c2 c3 c4
          have h5 := HT3.out.o.2
          have c0 := h5 0 (by decide)
          have c1 := h5 1 (by decide)
          have c2 := h5 2 (by decide)
          have c3 := h5 3 (by decide)
          have c4 := h5 4 (by decide)
          simp only [OpV.cell] at c0 c1 c2 c3 c4
          clear h5
          go_wp2_with fail
          refine (HT3.out.remx hff).mono ?_
          rintro e w8 ⟨z3, rfl, ht⟩
          have HT4 := Lib.hid ht
          clear ht HT3
          clear c0 c1 c2 c3 c4
          have h5 := HT4.out.o.2
          have c0 := h5 0 (by decide)
          have c1 := h5 1 (by decide)
          have c2 := h5 2 (by decide)
          have c3 := h5 3 (by decide)
          have c4 := h5 4 (by decide)
          simp only [OpV.cell] at c0 c1 c2 c3 c4
          clear h5
          go_wp2_with fail
          go_roundg (m - (i + 1))
          case measure => omega
          case rel => exact ⟨i + 1, (remA A o.f o.a).2, B, rfl, by omega, by go_num, HT4.out.x, HT4.out.y, HAB.out.2.2.rem_other HNE.out⟩
        · have HK := Lib.hid hk
          clear hk
          go_wp2_with fail
          rw [HW.out]
          refine (kind_of o 2 HK.out _).mono ?_
          rintro e w5 ⟨rfl, hb⟩
          have HT1 := Lib.hid (HT0.out.below hb)
          clear hb HT0
          clear c0 c1 c2 c3 c4
          have h5 := HT1.out.o.2
          have c0 := h5 0 (by decide)
          have c1 := h5 1 (by decide)
          have c2 := h5 2 (by decide)
          have c3 := h5 3 (by decide)
          have c4 := h5 4 (by decide)
          simp only [OpV.cell] at c0 c1 c2 c3 c4
          clear h5
          go_wp2_with fail
          go_roundg (m - (i + 1))
          case measure => omega
          case rel => exact ⟨i + 1, A, B, rfl, by omega, by go_num, HT1.out.x, HT1.out.y, HAB.out.2.2.more⟩
        · have HK := Lib.hid hk
          clear hk
          go_wp2_with fail
          rw [HW.out]
          refine (kind_of o 3 HK.out _).mono ?_
          rintro e w5 ⟨rfl, hb⟩
          have HT1 := Lib.hid (HT0.out.below hb)
          clear hb HT0
          clear c0 c1 c2 c3 c4
          have h5 := HT1.out.o.2
          have c0 := h5 0 (by decide)
          have c1 := h5 1 (by decide)
          have c2 := h5 2 (by decide)
          have c3 := h5 3 (by decide)
          have c4 := h5 4 (by decide)
          simp only [OpV.cell] at c0 c1 c2 c3 c4
          clear h5
          go_wp2_with fail
          refine (kind_of o 3 HK.out _).mono ?_
          rintro e w6 ⟨rfl, hb⟩
          have HT2 := Lib.hid (HT1.out.below hb)
          clear hb HT1
          clear c0 c1 c2 c3 c4
          have h5 := HT2.out.o.2
          have c0 := h5 0 (by decide)
          have c1 := h5 1 (by decide)
          have c2 := h5 2 (by decide)
          have c3 := h5 3 (by decide)
          have c4 := h5 4 (by decide)
          simp only [OpV.cell] at c0 c1 c2 c3 c4
          clear h5
          go_wp2_with fail
          refine (kind_of o 3 HK.out _).mono ?_
          rintro e w7 ⟨rfl, hb⟩
          have HT3 := Lib.hid (HT2.out.below hb)
          clear hb HT2
          clear c0 c1 c2 c3 c4
          have h5 := HT3.out.o.2
          have c0 := h5 0 (by decide)
          have c1 := h5 1 (by decide)
          have c2 := h5 2 (by decide)
          have c3 := h5 3 (by decide)
          have c4 := h5 4 (by decide)
          simp only [OpV.cell] at c0 c1 c2 c3 c4
          clear h5
          go_wp2_with fail
          go_roundg (m - (i + 1))
          case measure => omega
          case rel => exact ⟨i + 1, A, B, rfl, by omega, by go_num, HT3.out.x, HT3.out.y, HAB.out.2.2.more⟩
    · have hfd := HAB.out.2.2.find
      have hAl : A.length ≤ 1024 := HAB.out.1.here.le.1
      have HVX : Hid (∀ W, Own1 w W Lx 1024 A → Own1 w W Ly 1024 B → Calls Try.prog 16 #[.pointer (some ⟨Lx.bx, 0, none⟩), .int .u32 F] W fun e w' => ∃ v, e = .returned v ∧ RowAt w' 3 v (findA A F).length (fun i j => ((findA A F).getD i default).cell j) ∧ Own1 w w' Lx 1024 A ∧ Own1 w w' Ly 1024 B ∧ Below W.heap.size W w') :=
        fun W hx hy => (hx.find F hF).mono fun e w' ⟨v, h1, h2, h3, h4⟩ => ⟨v, h1, (own_isSlK h2).rowAt (fun i hi j hj => adrCells_get _ i hi j hj), h3, hy.below h4, h4⟩
      have HVY : Hid (∀ W, Own1 w W Lx 1024 A → Own1 w W Ly 1024 B → Calls Try.prog 16 #[.pointer (some ⟨Ly.bx, 0, none⟩), .int .u32 F] W fun e w' => ∃ v, e = .returned v ∧ RowAt w' 3 v (findA A F).length (fun i j => ((findA A F).getD i default).cell j) ∧ Own1 w w' Lx 1024 A ∧ Own1 w w' Ly 1024 B ∧ Below W.heap.size W w') :=
        fun W hx hy => (hy.find F hF).mono fun e w' ⟨v, h1, h2, h3, h4⟩ => ⟨v, h1, by rw [← hfd.1]; exact (own_isSlK h2).rowAt (fun i hi j hj => adrCells_get _ i hi j hj), hx.below h4, h3, h4⟩
      have hlB : (findA A F).length = B.length := by rw [← hfd.1]; exact hfd.2
      have HLY : Hid (∀ W, Own1 w W Ly 1024 B → Calls Try.prog 17 #[.pointer (some ⟨Ly.bx, 0, none⟩)] W fun e w' => e = .returned (.int .i64 (findA A F).length) ∧ W = w') := fun W hy => by rw [hlB]; exact hy.len
      have HLX : Hid (∀ W, Own1 w W Lx 1024 A → Calls Try.prog 17 #[.pointer (some ⟨Lx.bx, 0, none⟩)] W fun e w' => e = .returned (.int .i64 A.length) ∧ W = w') := fun W hy => hy.len
      have HRX : Hid (∀ W, Own1 w W Lx 1024 A → Calls Try.prog 18 #[.pointer (some ⟨Lx.bx, 0, none⟩)] W fun e w' => e = .returned (.int .i64 ((1024 - A.length : Nat) : Int)) ∧ ∃ m, w' = W.drewN m) := fun W hy => hy.left
      have HSM : Hid (∀ W v1 v2, RowAt W 3 v1 (findA A F).length (fun i j => ((findA A F).getD i default).cell j) → RowAt W 3 v2 (findA A F).length (fun i j => ((findA A F).getD i default).cell j) → Calls Try.prog 15 #[v1, v2] W fun e w' => e = .returned (.bool true) ∧ ∃ n, w' = W.drewN n) := fun W v1 v2 h1 h2 => same W v1 v2 _ h1 h2
      clear hfd hlB
      generalize findA A F = l at HVX HVY HLY HSM
      obtain ⟨na, hna⟩ : ∃ na, na = A.length := ⟨_, rfl⟩
      rw [← hna] at HLX HRX hAl
      obtain ⟨nb, hnb⟩ : ∃ nb, nb = 1024 - na := ⟨_, rfl⟩
      rw [← hnb] at HRX
      have hsum : ((na : Int) + (nb : Int) == 1024) = true := beq_iff_eq.2 (by omega)
      have hnb2 : nb ≤ 1024 := by omega
      have hll : ((l.length : Int) == (l.length : Int)) = true := beq_iff_eq.2 rfl
      clear hna hnb
      go_wp2_with fail
      refine (HVX.out _ HAB.out.1 HAB.out.2.1).mono ?_
      rintro e w5 ⟨v1, rfl, hv1, hx5, hy5, hb5⟩
      have HX5 := Lib.hid hx5
      have HY5 := Lib.hid hy5
      have HV1 := Lib.hid hv1
      clear hx5 hy5 hv1 hb5
      go_wp2_with fail
      refine (HVY.out _ HX5.out HY5.out).mono ?_
      rintro e w6 ⟨v2, rfl, hv2, hx6, hy6, hb6⟩
      have HX6 := Lib.hid hx6
      have HY6 := Lib.hid hy6
      have HV2 := Lib.hid hv2
      have HV1' := Lib.hid (HV1.out.below hb6 (Nat.le_refl _))
      clear hx6 hy6 hv2 hb6 HV1
      go_wp2_with fail
      refine (HSM.out _ _ _ HV1'.out HV2.out).mono ?_
      rintro e w7 ⟨rfl, k1, rfl⟩
      go_wp2_with fail
      refine (HLY.out _ (HY6.out.drewN _)).mono ?_
      rintro e w7 ⟨rfl, rfl⟩
      go_wp2_with fail
      refine (HVY.out _ (HX6.out.drewN _) (HY6.out.drewN _)).mono ?_
      rintro e w8 ⟨v3, rfl, hv3, hx8, hy8, hb8⟩
      have HX8 := Lib.hid hx8
      obtain ⟨a3, cap3, rfl, hl3⟩ := hv3.form
      clear hx8 hy8 hv3 hb8
      go_wp2_with fail
      refine (HLX.out _ HX8.out).mono ?_
      rintro e w9 ⟨rfl, rfl⟩
      go_wp2_with fail
      refine (HRX.out _ HX8.out).mono ?_
      rintro e w9 ⟨rfl, k2, rfl⟩
      go_wp2_with fail
      go_ret
      exact ⟨by simp, (HX8.out.drewN _).bel⟩

theorem indexApartW.walk (v0 : Value) (a1 : Int) (w : World) {H : Type} {enc : TypeId × Value → H} {base b0 : Nat} {spare : Nat → Bool} {held : Bool} {dd : DataW H} {ps : List MemPlace} {r : Reach} (w0 : Value.okWide Try.prog w r b0 22 v0) (h0 : DataW.Trod enc Try.prog w base spare held 22 v0 dd ps) (w1 : (Lit.int .u32 a1).wf = true) :
    Calls Try.prog 3 #[v0, .int .u32 a1] w fun e w' => e = .returned (.bool true) ∧ Below w.heap.size w w' := by
  obtain ⟨a, n, cap, ops, rfl, hr, hf⟩ := open_ops w0 h0
  obtain ⟨b1, b2⟩ := bounds_u32 w1
  obtain ⟨F, rfl⟩ := Int.eq_ofNat_of_zero_le b1
  exact indexApart a n cap F ops w hr hf (by omega)
end Go.Proofs.Ytccgdfamjohmgaa
