/- ring.Same; a ring as an argument. Conditions: the segments lie in memory. -/
import Derived.Test.YtlcdadnfcdjglaaSam
import Derived.Test.YtlcdadnfcdjglaaKp
import Derived.Test.YtlcdadnfcdjglaaOpen
set_option linter.unusedVariables false
set_option linter.unusedSimpArgs false
namespace Go.Proofs.Ytlcdadnfcdjglaa
open Go.RowKit Go.Ice Go.Ring Go.ChangeShapes Go.WideShapes

set_option maxHeartbeats 4000000 in
theorem sameG (w : World) (sa sb : Int) (va vb : Value) (la lb : List Seg) (ha : SegsAt w va la) (hb : SegsAt w vb lb) :
    Calls Try.prog 15 #[ringV sa va, ringV sb vb] w fun e w' => e = .returned (.bool (sameB sa sb la lb)) ∧ Below w.heap.size w w' := by
  obtain ⟨B, C, W0, HB, HC, HW, HK, HZ⟩ := boxed2 w #[.int .i64 sa, va] 25 #[.int .i64 sb, vb] 25
  have HEQ := Lib.hid (equal W0 va vb la lb (RowAt.below ha HK.out.below (Nat.le_refl _)) (RowAt.below hb HK.out.below (Nat.le_refl _)))
  have b0 : W0.cell? ⟨B, 0, none⟩ = some (.int .i64 sa) := blk_cell HK.out.b0 0
  have b1 : W0.cell? ⟨B, 1, none⟩ = some va := blk_cell HK.out.b0 1
  have c0 : W0.cell? ⟨C, 0, none⟩ = some (.int .i64 sb) := blk_cell HK.out.b1 0
  have c1 : W0.cell? ⟨C, 1, none⟩ = some vb := blk_cell HK.out.b1 1
  clear ha hb
  unfold ringV
  by_cases hs : sa = sb
  · subst hs
    have hseq : (sa == sa) = true := by simp
    go_enter Try.func15, Try.ntmps15
    go_upto_region 1 with fail
    rw [HC.out, HB.out, HW.out]
    go_wp2_with fail
    refine HEQ.out.mono ?_
    rintro e w1 ⟨rfl, hbl⟩
    have HK1 := Lib.hid (HK.out.step hbl)
    clear hbl
    go_wp2_with fail
    go_ret
    exact ⟨by simp [sameB, Act.put], HK1.out.below⟩
  · have HNE := Lib.hid (show sameB sa sb la lb = false from decide_eq_false fun h => hs h.1)
    have hne2 : (sa == sb) = false := by simpa using hs
    go_enter Try.func15, Try.ntmps15
    go_upto_region 1 with fail
    rw [HC.out, HB.out, HW.out]
    go_wp2_with fail
    go_ret
    exact ⟨by rw [HNE.out]; rfl, HK.out.below⟩

/-- A ring that came in. -/
theorem open_ring {H : Type} {enc : TypeId × Value → H} {w : World} {base b0 : Nat} {spare : Nat → Bool} {held : Bool} {v : Value} {dd : DataW H} {ps : List MemPlace} {r : Reach}
    (hv : Value.okWide Try.prog w r b0 25 v) (h : DataW.Trod enc Try.prog w base spare held 25 v dd ps) : ∃ sec u l, v = ringV sec u ∧ SegsAt w u l := by
  obtain ⟨cs, rfl, hl, hc⟩ := open_flat (fs := _) (show Try.prog.underlying 25 = some (.struct _) from Try.underlying25) 5 [3, 23] (by kernel_rfl) (by kernel_rfl) hv h
  obtain ⟨u0, h0, l0⟩ := hc 0 3 rfl
  obtain ⟨u1, h1, l1⟩ := hc 1 23 rfl
  obtain ⟨sec, rfl, _⟩ := l0.int Try.underlying3
  have hcs : cs = [.int .i64 sec, u1] := by
    match cs, hl with
    | [a, b], _ => simp at h0 h1; rw [h0, h1]
  subst hcs
  have key := l1.structs Try.underlying23 5 [3, 44, 3] (by kernel_rfl) (by kernel_rfl) (by decide)
  rcases key with rfl | ⟨x, len, cap, rfl, k1, k2, k3⟩
  · exact ⟨sec, _, [], rfl, .inl ⟨rfl, .inl rfl⟩⟩
  · rcases Nat.eq_zero_or_pos len with rfl | hpos
    · exact ⟨sec, _, [], rfl, .inl ⟨rfl, .inr ⟨_, _, rfl⟩⟩⟩
    · obtain ⟨b, off, rfl, hb, hcell⟩ := k3 hpos
      have hseg : ∀ i, ∃ s : Seg, i < len → ∀ j, j < 3 → w.cell? ⟨b, off + (i * 3 + j), none⟩ = some (segCell s j) := fun i => by
        by_cases hi : i < len
        · obtain ⟨v0, c0, m0⟩ := hcell i hi 0 3 rfl
          obtain ⟨v1, c1, m1⟩ := hcell i hi 1 44 rfl
          obtain ⟨v2, c2, m2⟩ := hcell i hi 2 3 rfl
          obtain ⟨n0, rfl, _⟩ := m0.int Try.underlying3
          obtain ⟨n1, rfl, hw⟩ := m1.int Try.underlying44
          obtain ⟨n2, rfl, _⟩ := m2.int Try.underlying3
          have hw0 : 0 ≤ n1 := by
            exact (bounds_u64 hw).1
          refine ⟨⟨n0, n1.toNat, n2⟩, fun _ j hj => ?_⟩
          rcases (show j = 0 ∨ j = 1 ∨ j = 2 by omega) with rfl | rfl | rfl
          · exact c0
          · rw [show (segCell ⟨n0, n1.toNat, n2⟩ 1) = .int .u64 n1 from by show Value.int .u64 ((n1.toNat : Nat) : Int) = _; rw [Int.toNat_of_nonneg hw0]]; exact c1
          · exact c2
        · exact ⟨default, fun h => absurd h hi⟩
      obtain ⟨f, hf⟩ : ∃ f : Nat → Seg, ∀ i, i < len → ∀ j, j < 3 → w.cell? ⟨b, off + (i * 3 + j), none⟩ = some (segCell (f i) j) := ⟨fun i => (hseg i).choose, fun i => (hseg i).choose_spec⟩
      refine ⟨sec, _, (List.range len).map f, rfl, .inr ⟨by simpa using hpos, b, off, cap, by simp, by simpa using k1, k2, hb, fun i hi j hj => ?_⟩⟩
      have hi' : i < len := by simpa using hi
      rw [hf i hi' j hj]
      show some (segCell (f i) j) = some (segCell (((List.range len).map f).getD i default) j)
      rw [List.getD_eq_getElem?_getD, List.getElem?_map, List.getElem?_range hi']
      rfl
end Go.Proofs.Ytlcdadnfcdjglaa
