/- The law's own look whether the layer does anything. No condition. -/
import Derived.Test.YtccgdfamjohmgaaDrop
set_option linter.unusedVariables false
namespace Go.Proofs.Ytccgdfamjohmgaa
open Go.RowKit Go.Ice

theorem adr_new (w : World) (a : Adr) (e : TypeId) (r : Nat) : (w.alloc (.cells #[.int .i64 a.seg, .int .u64 a.gen, .int .i64 a.sec] e)).cell? ⟨w.heap.size, r, none⟩ = #[Value.int .i64 a.seg, .int .u64 a.gen, .int .i64 a.sec][r]? :=
  World.cell?_alloc_mark w _ e (0, 0) r

set_option maxHeartbeats 4000000 in
theorem wakes (w : World) : Calls Try.prog 8 #[] w fun e w' => e = .returned (.bool true) ∧ Below w.heap.size w w' := by
  have a0 : Adr := ⟨1, 2, 3⟩
  go_enter Try.func8, Try.ntmps8
  go_wp2_with fail
  refine (new_at _ 2 (by decide) (by decide)).mono ?_
  rintro e w1 ⟨L, rfl, hI, hlo, hb⟩
  have HI := Lib.hid hI
  have HLO := Lib.hid hlo
  have HB := Lib.hid hb
  clear hI hlo hb
  go_wp2_with fail
  have hadd := add_at (w1.alloc (.cells #[.int .i64 1, .int .u64 2, .int .i64 3] 32)) L 2 [] 7 ⟨1, 2, 3⟩ (by decide) (HI.out.below ((Below.refl _ w1).alloc (Nat.le_refl _) _))
  rw [show addA [] 2 7 ⟨1, 2, 3⟩ = (0, [(7, ⟨1, 2, 3⟩)]) from rfl] at hadd
  refine hadd.mono ?_
  rintro e w2 ⟨rfl, hI2, hf2⟩
  have hB2 : Below w.heap.size w w2 := ((HB.out.alloc HB.out.size _).trans (hf2.below (fun k hk ho => by have := HLO.out k ho; omega) (by have := HB.out.size; simp; omega)))
  have hsz1 := HB.out.size
  have hno : ¬ L.owns w1.heap.size := fun ho => by have := HI.out.lt _ ho; omega
  have b0 : w2.cell? ⟨w1.heap.size, 0, none⟩ = some (.int .i64 1) := by rw [hf2.cell (p := ⟨w1.heap.size, 0, none⟩) (by simp) hno]; exact World.cell?_alloc_mark w1 _ 32 (0, 0) 0
  have b1 : w2.cell? ⟨w1.heap.size, 1, none⟩ = some (.int .u64 2) := by rw [hf2.cell (p := ⟨w1.heap.size, 1, none⟩) (by simp) hno]; exact World.cell?_alloc_mark w1 _ 32 (0, 0) 1
  have b2 : w2.cell? ⟨w1.heap.size, 2, none⟩ = some (.int .i64 3) := by rw [hf2.cell (p := ⟨w1.heap.size, 2, none⟩) (by simp) hno]; exact World.cell?_alloc_mark w1 _ 32 (0, 0) 2
  have hb1 : w1.heap.size < w2.heap.size := by have := hf2.size; simp at this; omega
  have HI2 := Lib.hid hI2
  have HB2 := Lib.hid hB2
  have HB0 := Lib.hid b0
  have HB1 := Lib.hid b1
  have HB22 := Lib.hid b2
  clear hI2 hB2 b0 b1 b2 hf2
  go_wp2_with fail
  have hfd := find_at w2 L 2 _ 7 (by decide) HI2.out
  rw [show findA [(7, ⟨1, 2, 3⟩)] 7 = [⟨1, 2, 3⟩] from rfl] at hfd
  refine hfd.mono ?_
  rintro e w3 ⟨v, rfl, ho3, hb3⟩
  obtain ⟨g, cap, hv, hg⟩ : ∃ g cap, v = .slice (some ⟨g, 0, none⟩) 1 cap ∧ v.ownBlock = some g := by
    rcases ho3.2 with ⟨_, h⟩ | ⟨g, cap, cur, h1, _⟩
    · exact absurd h (by decide)
    · exact ⟨g, cap, h1, by rw [h1]; rfl⟩
  have c0 : w3.cell? ⟨g, 0, none⟩ = some (.int .i64 1) := by have := ho3.cells hg 0 (.int .i64 1) rfl; rw [Addr.add_lit] at this; exact this
  have c1 : w3.cell? ⟨g, 1, none⟩ = some (.int .u64 2) := by have := ho3.cells hg 1 (.int .u64 2) rfl; rw [Addr.add_lit] at this; exact this
  have c2 : w3.cell? ⟨g, 2, none⟩ = some (.int .i64 3) := by have := ho3.cells hg 2 (.int .i64 3) rfl; rw [Addr.add_lit] at this; exact this
  have d0 : w3.cell? ⟨w1.heap.size, 0, none⟩ = some (.int .i64 1) := by rw [hb3.cell (p := ⟨w1.heap.size, 0, none⟩) hb1]; exact HB0.out
  have d1 : w3.cell? ⟨w1.heap.size, 1, none⟩ = some (.int .u64 2) := by rw [hb3.cell (p := ⟨w1.heap.size, 1, none⟩) hb1]; exact HB1.out
  have d2 : w3.cell? ⟨w1.heap.size, 2, none⟩ = some (.int .i64 3) := by rw [hb3.cell (p := ⟨w1.heap.size, 2, none⟩) hb1]; exact HB22.out
  have hI3 := HI2.out.below hb3
  have HI3 := Lib.hid hI3
  have HB3 : Hid (Below w.heap.size w w3) := HB2.out.trans (hb3.mono HB2.out.size)
  have HDR : Hid (∀ m, IdxAt (w3.drewN m) L 2 [(7, ⟨1, 2, 3⟩)]) := fun m => hI3.below (drewN_below w3 m)
  have HL : Hid (∀ m, Calls Try.prog 17 #[.pointer (some ⟨L.bx, 0, none⟩)] (w3.drewN m) fun e w' => e = .returned (.int .i64 1) ∧ w3.drewN m = w') := fun m => len_at _ L 2 _ (HDR.out m)
  have HLF : Hid (∀ m, Calls Try.prog 18 #[.pointer (some ⟨L.bx, 0, none⟩)] (w3.drewN m) fun e w' => e = .returned (.int .i64 1) ∧ ∃ k, w' = (w3.drewN m).drewN k) := fun m => left_at _ L 2 _ (HDR.out m)
  have HAD : Hid (∀ m, Calls Try.prog 13 #[.pointer (some ⟨L.bx, 0, none⟩), .int .u32 7, .agg #[.int .i64 1, .int .u64 2, .int .i64 3]] (w3.drewN m) fun e w' => e = .returned (.int .i64 5) ∧ IdxAt w' L 2 [(7, ⟨1, 2, 3⟩)] ∧ Frm L.owns (w3.drewN m) w') := fun m => by
    have := add_at (w3.drewN m) L 2 _ 7 ⟨1, 2, 3⟩ (by decide) (HDR.out m)
    rw [show addA [(7, ⟨1, 2, 3⟩)] 2 7 ⟨1, 2, 3⟩ = (5, [(7, ⟨1, 2, 3⟩)]) from by simp [addA]] at this
    exact this
  rw [hv]
  clear hfd hI3 ho3 hb3 hv hg
  go_upto_region 6 with fail
  go_region_with (first
    | (go_at_call 17; refine (HL.out 1).mono ?_; rintro e wx ⟨rfl, rfl⟩)
    | (go_at_call 18; refine (HLF.out 1).mono ?_; rintro e wx ⟨rfl, k, rfl⟩)
    | (go_at_call 13; refine (HAD.out (1 + k)).mono ?_; rintro e wy ⟨rfl, hiy, hfy⟩; have HFY := Lib.hid hfy; clear hfy hiy))
  all_goals
    go_wp2_with fail
    go_ret
    refine ⟨by simp [Act.put], ?_⟩
    have hB4 : Below w.heap.size w (w3.drewN (1 + k)) := HB3.out.trans ((drewN_below w3 _).mono HB3.out.size)
    exact hB4.trans (HFY.out.below (fun k hk ho => by have := HLO.out k ho; omega) hB4.size)
end Go.Proofs.Ytccgdfamjohmgaa
