/- A ring that can be played in time. Conditions: the segments lie in memory. -/
import Derived.Test.YtlcdadnfcdjglaaOpn
import Derived.Test.YtlcdadnfcdjglaaReg
set_option linter.unusedVariables false
set_option linter.unusedSimpArgs false
namespace Go.Proofs.Ytlcdadnfcdjglaa
open Go.RowKit Go.Ice Go.Ring

/-- The cells of the segment that stands behind. -/
def tail77 : List Value := [.int .i64 77, .int .u64 0, .int .i64 0]

/-- What holds between the operations of the region: which of them are done. -/
structure ShoI (w : World) (B C : Nat) (sec : Int) (v0 : Value) (n : Nat) (xs : List Value) (g1 g2 : Nat) (done : Nat → Bool) (W : World) : Prop where
  kp : Kp w [(B, .cells #[.int .i64 sec, if done 14 then .slice (some ⟨g1, 0, none⟩) n (n + 2) else v0] 25), (C, .cells #[.int .i64 0, .slice none 0 0] 25)] W
  hB : B = w.heap.size
  hC : C = B + 1
  own0 : done 2 = true → done 7 = false → W.ownsRow (B + 2) 46 3 (.slice (some ⟨g1, 0, none⟩) 0 (n + 2)) 0 []
  own1 : done 7 = true → done 10 = false → W.ownsRow (B + 2) 46 3 (.slice (some ⟨g1, 0, none⟩) n (n + 2)) n xs
  own2 : done 10 = true → W.ownsRow (B + 2) 46 3 (.slice (some ⟨g1, 0, none⟩) (n + 1) (n + 2)) (n + 1) (xs ++ tail77)
  new : done 9 = true → W.heap[g2]? = some (.cells tail77.toArray 46 (0, 0)) ∧ B + 2 ≤ g2
  ne : done 2 = true → done 9 = true → g1 ≠ g2
  h27 : done 7 = true → done 2 = true
  h710 : done 10 = true → done 7 = true
  h1014 : done 14 = true → done 10 = true

section
variable {w W : World} {B C n g1 g2 : Nat} {sec : Int} {v0 x6 : Value} {xs : List Value} {done : Nat → Bool}
theorem ShoI.lo (h : ShoI w B C sec v0 n xs g1 g2 done W) : B + 2 ≤ W.heap.size := by
  have := blk_lt h.kp.b1
  have := h.hC
  omega
theorem ShoI.quiet (h : ShoI w B C sec v0 n xs g1 g2 done W) (i : Nat) (hi : i ≠ 2 ∧ i ≠ 7 ∧ i ≠ 9 ∧ i ≠ 10 ∧ i ≠ 14) : ShoI w B C sec v0 n xs g1 g2 (fun k => decide (k = i) || done k) W := by
  obtain ⟨a, b, c, d, e⟩ := hi
  obtain ⟨h1, h2, h3, h4, h5, h6, h7, h8, h9, h10, h11⟩ := h
  refine ⟨?_, h2, h3, ?_, ?_, ?_, ?_, ?_, ?_, ?_, ?_⟩ <;> simp only [decide_eq_false (Ne.symm a), decide_eq_false (Ne.symm b), decide_eq_false (Ne.symm c), decide_eq_false (Ne.symm d), decide_eq_false (Ne.symm e), Bool.false_or]
  · exact h1
  · exact h4
  · exact h5
  · exact h6
  · exact h7
  · exact h8
  · exact h9
  · exact h10
  · exact h11
theorem ShoI.load (h : ShoI w B C sec v0 n xs g1 g2 done W) (q : done 14 = false) : W.cell? ⟨B, 1, none⟩ = some v0 := by
  have := h.kp.b0
  rw [q] at this
  exact blk_cell this 1
theorem ShoI.cell1 (h : ShoI w B C sec v0 n xs g1 g2 done W) : (∃ y, W.cell? ⟨B, 1, none⟩ = some y) ∧ W.frozen? ⟨B, 1, none⟩ = false :=
  ⟨⟨_, blk_cell h.kp.b0 1⟩, blk_frozen h.kp.b0 1⟩
theorem ShoI.make (h : ShoI w B C sec v0 n xs g1 g2 done W) (hd : done 2 = false) (q7 : done 7 = false) (q10 : done 10 = false) {done' : Nat → Bool} {w' : World} (hown : w'.ownsRow (B + 2) 46 3 (.slice (some ⟨W.heap.size, 0, none⟩) 0 (n + 2)) 0 []) (hgr : W.grownBy w' none)
    (hdn : done' = fun k => decide (k = 2) || done k) : ShoI w B C sec v0 n xs W.heap.size g2 done' w' := by
  have hlo := h.lo
  obtain ⟨h1, h2, h3, h4, h5, h6, h7, h8, h9, h10, h11⟩ := h
  have q14 : done 14 = false := by
    cases e : done 14 with
    | false => rfl
    | true => have := h11 e; rw [q10] at this; cases this
  have hb : Below W.heap.size W w' := (Below.refl _ W).grown hgr (Nat.le_refl _) (fun k hk => by cases hk)
  subst hdn
  refine ⟨?_, h2, h3, ?_, ?_, ?_, ?_, ?_, ?_, ?_, ?_⟩
  · have := h1.step hb
    simpa [q14] using this
  · intro _ _; exact hown
  · intro e; simp [q7] at e
  · intro e; simp [q10] at e
  · intro e
    have e' : done 9 = true := by simpa using e
    exact ⟨(hb.block _ (blk_lt (h7 e').1)).trans (h7 e').1, (h7 e').2⟩
  · intro _ e
    have e' : done 9 = true := by simpa using e
    have := blk_lt (h7 e').1
    omega
  · intro e; simp [q7] at e
  · intro e; simp [q10] at e
  · intro e; simp [q14] at e
theorem ShoI.app1 (h : ShoI w B C sec v0 n xs g1 g2 done W) (p2 : done 2 = true) (hd : done 7 = false) (q10 : done 10 = false) (hx : IsSlK w 3 n x6 xs ∧ ∀ u ∈ xs, u.oneCell' = true) :
    ∃ w', (Builtin.append_ #[23, 23] 23 #[.slice (some ⟨g1, 0, none⟩) 0 (n + 2), x6]).run Try.prog W = .ok (.slice (some ⟨g1, 0, none⟩) n (n + 2)) w' ∧ ShoI w B C sec v0 n xs g1 g2 (fun k => decide (k = 7) || done k) w' := by
  have hlo := h.lo
  obtain ⟨h1, h2, h3, h4, h5, h6, h7, h8, h9, h10, h11⟩ := h
  have q14 : done 14 = false := by
    cases e : done 14 with
    | false => rfl
    | true => have := h11 e; rw [q10] at this; cases this
  obtain ⟨w', hr, ho, hg⟩ := app_fits (P := Try.prog) (ty := 23) Try.underlying23 (by obtain ⟨i, a, b, c, d⟩ := elemSeg.hi; exact ⟨i, a, c⟩) (h4 p2 hd) (hx.1.below h1.below (Nat.le_refl _)) hx.2 (by omega)
  rw [Nat.zero_add] at hr ho
  have hlt := (h4 p2 hd).lt g1 rfl
  have hf : Frm (fun k => k = g1) W w' := ⟨hg.os, hg.tape, hg.output, hg.size, fun k hk hne => hg.block k hk (fun e => hne (by injection e))⟩
  refine ⟨w', hr, ?_, h2, h3, ?_, ?_, ?_, ?_, ?_, ?_, ?_, ?_⟩
  · have := h1.frm hf (fun k hk e => by omega) (fun p hp => by
      simp only [List.mem_cons, List.mem_nil_iff, or_false] at hp
      rcases hp with rfl | rfl
      · show ¬ B = g1; omega
      · show ¬ C = g1; omega)
    simpa [q14] using this
  · intro _ e; simp at e
  · intro _ _; simpa using ho
  · intro e; simp [q10] at e
  · intro e
    have e' : done 9 = true := by simpa using e
    exact ⟨(hf.block _ (blk_lt (h7 e').1) (fun e2 => h8 p2 e' e2.symm)).trans (h7 e').1, (h7 e').2⟩
  · intro _ e
    exact h8 p2 (by simpa using e)
  · intro _; simpa using p2
  · intro e; simp [q10] at e
  · intro e; simp [q14] at e
theorem ShoI.build (h : ShoI w B C sec v0 n xs g1 g2 done W) (hd : done 9 = false) (q10 : done 10 = false) :
    ShoI w B C sec v0 n xs g1 W.heap.size (fun k => decide (k = 9) || done k) (W.alloc (.cells #[.int .i64 77, .int .u64 0, .int .i64 0] 46)) := by
  have hlo := h.lo
  obtain ⟨h1, h2, h3, h4, h5, h6, h7, h8, h9, h10, h11⟩ := h
  have q14 : done 14 = false := by
    cases e : done 14 with
    | false => rfl
    | true => have := h11 e; rw [q10] at this; cases this
  have hb : Below W.heap.size W (W.alloc (.cells #[.int .i64 77, .int .u64 0, .int .i64 0] 46)) := (Below.refl _ W).alloc (Nat.le_refl _) _
  refine ⟨?_, h2, h3, ?_, ?_, ?_, ?_, ?_, ?_, ?_, ?_⟩
  · have := h1.step hb
    simpa [q14] using this
  · intro e1 e2; exact (h4 (by simpa using e1) (by simpa using e2)).alloc _
  · intro e1 e2; exact (h5 (by simpa using e1) (by simpa using e2)).alloc _
  · intro e; simp [q10] at e
  · intro _; exact ⟨heap_alloc_new W _, hlo⟩
  · intro e _
    have e2 : done 2 = true := by simpa using e
    cases e7 : done 7 with
    | false => have := (h4 e2 e7).lt g1 rfl; omega
    | true => have := (h5 e7 q10).lt g1 rfl; omega
  · intro e; have := h9 (by simpa using e); simpa using this
  · intro e; simp [q10] at e
  · intro e; simp [q14] at e
theorem ShoI.app2 (h : ShoI w B C sec v0 n xs g1 g2 done W) (p7 : done 7 = true) (p9 : done 9 = true) (hd : done 10 = false) :
    ∃ w', (Builtin.append_ #[23, 23] 23 #[.slice (some ⟨g1, 0, none⟩) n (n + 2), .slice (some ⟨g2, 0, none⟩) 1 1]).run Try.prog W = .ok (.slice (some ⟨g1, 0, none⟩) (n + 1) (n + 2)) w' ∧ ShoI w B C sec v0 n xs g1 g2 (fun k => decide (k = 10) || done k) w' := by
  have hlo := h.lo
  obtain ⟨h1, h2, h3, h4, h5, h6, h7, h8, h9, h10, h11⟩ := h
  have q14 : done 14 = false := by
    cases e : done 14 with
    | false => rfl
    | true => have := h11 e; rw [hd] at this; cases this
  have hsl : IsSlK W 3 1 (.slice (some ⟨g2, 0, none⟩) 1 1) tail77 := ⟨rfl, .inr ⟨by decide, g2, 0, 1, rfl, by decide, by decide, blk_lt (h7 p9).1, fun j hj => by rw [Nat.zero_add, blk_cell (h7 p9).1 j]; simp⟩⟩
  obtain ⟨w', hr, ho, hg⟩ := app_fits (P := Try.prog) (ty := 23) Try.underlying23 (by obtain ⟨i, a, b, c, d⟩ := elemSeg.hi; exact ⟨i, a, c⟩) (h5 p7 hd) hsl (fun u hu => by
    simp only [tail77, List.mem_cons, List.mem_nil_iff, or_false] at hu
    rcases hu with rfl | rfl | rfl <;> rfl) (by omega)
  have hlt := (h5 p7 hd).lt g1 rfl
  have hf : Frm (fun k => k = g1) W w' := ⟨hg.os, hg.tape, hg.output, hg.size, fun k hk hne => hg.block k hk (fun e => hne (by injection e))⟩
  refine ⟨w', hr, ?_, h2, h3, ?_, ?_, ?_, ?_, ?_, ?_, ?_, ?_⟩
  · have := h1.frm hf (fun k hk e => by omega) (fun p hp => by
      simp only [List.mem_cons, List.mem_nil_iff, or_false] at hp
      rcases hp with rfl | rfl
      · show ¬ B = g1; omega
      · show ¬ C = g1; omega)
    simpa [q14] using this
  · intro _ e; simp [p7] at e
  · intro _ e; simp at e
  · intro _; exact ho
  · intro e
    have e' : done 9 = true := by simpa using e
    exact ⟨(hf.block _ (blk_lt (h7 e').1) (fun e2 => h8 (h9 p7) e' e2.symm)).trans (h7 e').1, (h7 e').2⟩
  · intro e1 e
    exact h8 (by simpa using e1) (by simpa using e)
  · intro e; have := h9 (by simpa using e); simpa using this
  · intro _; simpa using p7
  · intro e; simp [q14] at e
theorem ShoI.store (h : ShoI w B C sec v0 n xs g1 g2 done W) (p10 : done 10 = true) :
    ShoI w B C sec v0 n xs g1 g2 (fun k => decide (k = 14) || done k) (W.setCell ⟨B, 1, none⟩ (.slice (some ⟨g1, 0, none⟩) n (n + 2))) := by
  have hlo := h.lo
  obtain ⟨h1, h2, h3, h4, h5, h6, h7, h8, h9, h10, h11⟩ := h
  refine ⟨?_, h2, h3, ?_, ?_, ?_, ?_, ?_, ?_, ?_, ?_⟩
  · have := h1.set0 (k := 1) (by omega) (fun p hp => by
      simp only [List.mem_cons, List.mem_nil_iff, or_false] at hp
      subst hp; show C ≠ B; omega) (.slice (some ⟨g1, 0, none⟩) n (n + 2))
    simpa using this
  · intro e1 e2; exact own_set (h4 (by simpa using e1) (by simpa using e2)) (by show B < _; omega) _
  · intro e1 e2; exact own_set (h5 (by simpa using e1) (by simpa using e2)) (by show B < _; omega) _
  · intro e; exact own_set (h6 (by simpa using e)) (by show B < _; omega) _
  · intro e
    have e' : done 9 = true := by simpa using e
    exact ⟨blk_set (h7 e').1 (by have := (h7 e').2; show g2 ≠ B; omega) _, (h7 e').2⟩
  · intro e1 e
    exact h8 (by simpa using e1) (by simpa using e)
  · intro e; have := h9 (by simpa using e); simpa using this
  · intro e; have := h10 (by simpa using e); simpa using this
  · intro _; simpa using p10
theorem ShoI.fin (h : ShoI w B C sec v0 n xs g1 g2 done W) (h14 : done 14 = true) (h10 : done 10 = true) : Kp w [(B, .cells #[.int .i64 sec, .slice (some ⟨g1, 0, none⟩) n (n + 2)] 25), (C, .cells #[.int .i64 0, .slice none 0 0] 25)] W ∧ W.ownsRow (B + 2) 46 3 (.slice (some ⟨g1, 0, none⟩) (n + 1) (n + 2)) (n + 1) (xs ++ tail77) := by
  have := h.kp
  rw [h14] at this
  exact ⟨this, h.own2 h10⟩
end

set_option maxHeartbeats 8000000 in
theorem short0 (w : World) (sec : Int) (L cap : Nat) (a : Option Addr) (n : Nat) (x6 : Value) (xs : List Value) (hL : L ≤ maxLen) (hn : n = min L 40)
    (hsl : ∀ W : World, (Instr.sliceAt 23 (.slice a L cap) none (some (.int .i64 n)) none).run Try.prog W = .ok x6 W) (hx : IsSlK w 3 n x6 xs ∧ ∀ u ∈ xs, u.oneCell' = true) :
    Calls Try.prog 14 #[ringV sec (.slice a L cap)] w fun e w' => ∃ g, e = .returned (ringV sec (.slice (some ⟨g, 0, none⟩) n (n + 2))) ∧ w'.ownsRow w.heap.size 46 3 (.slice (some ⟨g, 0, none⟩) (n + 1) (n + 2)) (n + 1) (xs ++ tail77) ∧ Below w.heap.size w w' := by
  obtain ⟨i0, hi0, hz0, hz1, hz2⟩ := elemSeg.hi
  obtain ⟨B, C, W0, HB, HC, HW, HK, HZ⟩ := boxed2 w #[.int .i64 sec, (.slice a L cap)] 25 #[.int .i64 0, .slice none 0 0] 25
  have b0 : W0.cell? ⟨B, 0, none⟩ = some (.int .i64 sec) := blk_cell HK.out.b0 0
  have b1 : W0.cell? ⟨B, 1, none⟩ = some (.slice a L cap) := blk_cell HK.out.b0 1
  unfold maxLen at hL
  have hif : (if (40 : Int) < (L : Int) then (40 : Int) else (L : Int)) = (n : Int) := by split <;> omega
  have h40 : n ≤ 40 := by omega
  have HIF := Lib.hid hif
  have HSRC := Lib.hid hx
  have HSL := Lib.hid hsl
  have HBC : Hid (B = w.heap.size ∧ C = B + 1) := ⟨HB.out.symm, by have := HB.out; have := HC.out; omega⟩
  have HWR : Hid (IntKind.i64.wrap ((n : Int) + 2) = (n : Int) + 2) := by show _ = _; rw [IntKind.wrap_i64]; omega
  clear hn hif hx hsl
  unfold ringV
  go_enter Try.func14, Try.ntmps14
  go_upto_region 1 with fail
  rw [HC.out, HB.out, HW.out]
  go_upto_region 2 with fail
  rw [HIF.out]
  obtain ⟨v0, hv0⟩ : ∃ v0, v0 = Value.slice a L cap := ⟨_, rfl⟩
  rw [← hv0] at HK HSL ⊢
  have HST : Hid (ShoI w B C sec v0 n xs 0 0 (fun _ => false) W0.drew) := ⟨HK.out.drew, HBC.out.1, HBC.out.2, fun h => (by cases h), fun h => (by cases h), fun h => (by cases h), fun h => (by cases h), fun h => (by cases h), fun h => (by cases h), fun h => (by cases h), fun h => (by cases h)⟩
  have HV0 := Lib.hid hv0
  generalize Value.pointer (some ⟨B, 1, none⟩) = v4
  generalize Value.int .i64 (L : Int) = v6
  clear b0 b1 hv0
  -- REGION
  refine wp_region_inv2 (by kernel_rfl) (hord_of2 (by kernel_rfl)) (fun done ac W => ∃ (g1 g2 : Nat), ac = { tmps := #[.agg #[.int .i64 sec, v0], (.pointer (some ⟨B, 0, none⟩)), (.pointer (some ⟨C, 0, none⟩)), (.int .i64 n), v4, v0, v6, (.int .i64 n), if done 0 then (.int .i64 n) else undef, if done 1 then (.int .i64 ((n : Int) + 2)) else undef, if done 2 then (.slice (some ⟨g1, 0, none⟩) 0 (n + 2)) else undef, if done 3 then (.pointer (some ⟨B, 1, none⟩)) else undef, if done 4 then v0 else undef, if done 5 then (.int .i64 n) else undef, if done 6 then x6 else undef, if done 7 then (.slice (some ⟨g1, 0, none⟩) n (n + 2)) else undef, if done 8 then (.agg #[.int .i64 77, .int .u64 0, .int .i64 0]) else undef, if done 9 then (.slice (some ⟨g2, 0, none⟩) 1 1) else undef, if done 10 then (.slice (some ⟨g1, 0, none⟩) (n + 1) (n + 2)) else undef, if done 11 then (.int .i64 n) else undef, if done 12 then (.slice (some ⟨g1, 0, none⟩) n (n + 2)) else undef, if done 13 then (.pointer (some ⟨B, 1, none⟩)) else undef, undef], defers := [] } ∧ ShoI w B C sec v0 n xs g1 g2 done W) ?_ ?_ ?_
  · exact ⟨0, 0, by simp, HST.out⟩
  · intro done ac W j oq ho hd hdep hcl ⟨g1, g2, hlit, hI⟩
    have hj : j < 15 := (Array.getElem?_eq_some_iff.1 ho).1
    subst hlit
    obtain rfl | rfl | rfl | rfl | rfl | rfl | rfl | rfl | rfl | rfl | rfl | rfl | rfl | rfl | rfl : j = 0 ∨ j = 1 ∨ j = 2 ∨ j = 3 ∨ j = 4 ∨ j = 5 ∨ j = 6 ∨ j = 7 ∨ j = 8 ∨ j = 9 ∨ j = 10 ∨ j = 11 ∨ j = 12 ∨ j = 13 ∨ j = 14 := by omega
    · refine wpOp_val ho (by cases ho; rfl) (w' := W) (v := (.int .i64 n)) (by cases ho; simp [execOp, go_sem]) ?_
      cases ho
      exact ⟨g1, g2, by simp [Act.put], hI.quiet 0 (by decide)⟩
    · have p0 : done 0 = true := by cases ho; exact hdep ⟨0, .data⟩ (by simp) rfl
      refine wpOp_val ho (by cases ho; rfl) (w' := W) (v := (.int .i64 ((n : Int) + 2))) (by cases ho; simp [execOp, go_sem, p0, HWR.out]) ?_
      cases ho
      exact ⟨g1, g2, by simp [Act.put], hI.quiet 1 (by decide)⟩
    · have p1 : done 1 = true := by cases ho; exact hdep ⟨1, .data⟩ (by simp) rfl
      obtain ⟨w', hrun, hown, hgr⟩ := run_make_own (P := Try.prog) W (B + 2) 23 46 i0 (.agg #[.int .i64 0, .int .u64 0, .int .i64 0]) 3 Try.underlying23 hi0 hz0 hz1 .i64 .i64 (n + 2) (by rw [hz2]; omega) (by unfold maxLen; omega) hI.lo
      simp only [Int.natCast_add, Int.cast_ofNat_Int] at hrun
      refine wpOp_val ho (by cases ho; rfl) (w' := w') (v := .slice (some ⟨W.heap.size, 0, none⟩) 0 (n + 2)) (by cases ho; simp [execOp, go_sem, p1, HWR.out, hrun]) ?_
      cases ho
      have q7 : done 7 = false := by
        cases h : done 7 with
        | false => rfl
        | true =>
          have h0 := hcl 7 _ rfl h ⟨2, .data⟩ (by simp) rfl
          rw [hd] at h0; cases h0
      have q10 : done 10 = false := by
        cases h : done 10 with
        | false => rfl
        | true =>
          have h0 := hcl 10 _ rfl h ⟨7, .data⟩ (by simp) rfl
          have h1 := hcl 7 _ rfl h0 ⟨2, .data⟩ (by simp) rfl
          rw [hd] at h1; cases h1
      have q12 : done 12 = false := by
        cases h : done 12 with
        | false => rfl
        | true =>
          have h0 := hcl 12 _ rfl h ⟨10, .data⟩ (by simp) rfl
          have h1 := hcl 10 _ rfl h0 ⟨7, .data⟩ (by simp) rfl
          have h2 := hcl 7 _ rfl h1 ⟨2, .data⟩ (by simp) rfl
          rw [hd] at h2; cases h2
      exact ⟨W.heap.size, g2, by simp [Act.put, q7, q10, q12], hI.make hd q7 q10 (done' := fun k => decide (k = 2) || done k) hown hgr rfl⟩
    · refine wpOp_val ho (by cases ho; rfl) (w' := W) (v := (.pointer (some ⟨B, 1, none⟩))) (by cases ho; simp [execOp, go_sem]) ?_
      cases ho
      exact ⟨g1, g2, by simp [Act.put], hI.quiet 3 (by decide)⟩
    · have p3 : done 3 = true := by cases ho; exact hdep ⟨3, .data⟩ (by simp) rfl
      have q14 : done 14 = false := by
        cases h : done 14 with
        | false => rfl
        | true =>
          have h0 := hcl 14 _ rfl h ⟨4, .phase⟩ (by simp) rfl
          rw [hd] at h0; cases h0
      have hc : W.cell? ⟨B, 1, none⟩ = some v0 := hI.load q14
      refine wpOp_val ho (by cases ho; rfl) (w' := W) (v := v0) (by cases ho; simp [execOp, go_sem, p3, hc]) ?_
      cases ho
      exact ⟨g1, g2, by simp [Act.put], hI.quiet 4 (by decide)⟩
    · refine wpOp_val ho (by cases ho; rfl) (w' := W) (v := (.int .i64 n)) (by cases ho; simp [execOp, go_sem]) ?_
      cases ho
      exact ⟨g1, g2, by simp [Act.put], hI.quiet 5 (by decide)⟩
    · have p4 : done 4 = true := by cases ho; exact hdep ⟨4, .data⟩ (by simp) rfl
      have p5 : done 5 = true := by cases ho; exact hdep ⟨5, .data⟩ (by simp) rfl
      refine wpOp_val ho (by cases ho; rfl) (w' := W) (v := x6) (by cases ho; simp [execOp, go_sem, p4, p5, HSL.out]) ?_
      cases ho
      exact ⟨g1, g2, by simp [Act.put], hI.quiet 6 (by decide)⟩
    · have p2 : done 2 = true := by cases ho; exact hdep ⟨2, .data⟩ (by simp) rfl
      have p6 : done 6 = true := by cases ho; exact hdep ⟨6, .data⟩ (by simp) rfl
      have q10 : done 10 = false := by
        cases h : done 10 with
        | false => rfl
        | true =>
          have h0 := hcl 10 _ rfl h ⟨7, .data⟩ (by simp) rfl
          rw [hd] at h0; cases h0
      obtain ⟨w', hrun, hnew⟩ := hI.app1 p2 hd q10 HSRC.out
      refine wpOp_append ho (by cases ho; rfl) (.tmp 10) (.tmp 14) 23 (by cases ho; rfl) (v := .slice (some ⟨g1, 0, none⟩) 0 (n + 2)) (vx := x6) (by simp [go_sem, p2]) (by simp [go_sem, p6]) (by cases ho; exact hrun) ?_
      cases ho
      exact ⟨g1, g2, by simp [Act.put], hnew⟩
    · refine wpOp_val ho (by cases ho; rfl) (w' := W) (v := (.agg #[.int .i64 77, .int .u64 0, .int .i64 0])) (by cases ho; simp [execOp, go_sem]) ?_
      cases ho
      exact ⟨g1, g2, by simp [Act.put], hI.quiet 8 (by decide)⟩
    · have p8 : done 8 = true := by cases ho; exact hdep ⟨8, .data⟩ (by simp) rfl
      have q10 : done 10 = false := by
        cases h : done 10 with
        | false => rfl
        | true =>
          have h0 := hcl 10 _ rfl h ⟨9, .data⟩ (by simp) rfl
          rw [hd] at h0; cases h0
      refine wpOp_val ho (by cases ho; rfl) (w' := W.alloc (.cells #[.int .i64 77, .int .u64 0, .int .i64 0] 46)) (v := .slice (some ⟨W.heap.size, 0, none⟩) 1 1) (by cases ho; simp [execOp, go_sem, p8]) ?_
      cases ho
      exact ⟨g1, W.heap.size, by simp [Act.put, q10], hI.build hd q10⟩
    · have p7 : done 7 = true := by cases ho; exact hdep ⟨7, .data⟩ (by simp) rfl
      have p9 : done 9 = true := by cases ho; exact hdep ⟨9, .data⟩ (by simp) rfl
      obtain ⟨w', hrun, hnew⟩ := hI.app2 p7 p9 hd
      refine wpOp_append ho (by cases ho; rfl) (.tmp 15) (.tmp 17) 23 (by cases ho; rfl) (v := .slice (some ⟨g1, 0, none⟩) n (n + 2)) (vx := .slice (some ⟨g2, 0, none⟩) 1 1) (by simp [go_sem, p7]) (by simp [go_sem, p9]) (by cases ho; exact hrun) ?_
      cases ho
      exact ⟨g1, g2, by simp [Act.put], hnew⟩
    · refine wpOp_val ho (by cases ho; rfl) (w' := W) (v := (.int .i64 n)) (by cases ho; simp [execOp, go_sem]) ?_
      cases ho
      exact ⟨g1, g2, by simp [Act.put], hI.quiet 11 (by decide)⟩
    · have p10 : done 10 = true := by cases ho; exact hdep ⟨10, .data⟩ (by simp) rfl
      have p11 : done 11 = true := by cases ho; exact hdep ⟨11, .data⟩ (by simp) rfl
      refine wpOp_val ho (by cases ho; rfl) (w' := W) (v := (.slice (some ⟨g1, 0, none⟩) n (n + 2))) (by cases ho; simp [execOp, go_sem, p10, p11]; omega) ?_
      cases ho
      exact ⟨g1, g2, by simp [Act.put], hI.quiet 12 (by decide)⟩
    · refine wpOp_val ho (by cases ho; rfl) (w' := W) (v := (.pointer (some ⟨B, 1, none⟩))) (by cases ho; simp [execOp, go_sem]) ?_
      cases ho
      exact ⟨g1, g2, by simp [Act.put], hI.quiet 13 (by decide)⟩
    · have p12 : done 12 = true := by cases ho; exact hdep ⟨12, .data⟩ (by simp) rfl
      have p13 : done 13 = true := by cases ho; exact hdep ⟨13, .data⟩ (by simp) rfl
      have p10 : done 10 = true := by cases ho; exact hdep ⟨10, .chain⟩ (by simp) rfl
      obtain ⟨⟨y, hc⟩, hf⟩ := hI.cell1
      refine wpOp_skip ho (by cases ho; rfl) (w' := W.setCell ⟨B, 1, none⟩ (.slice (some ⟨g1, 0, none⟩) n (n + 2))) (by cases ho; simp [execOp, go_sem, p12, p13, stored, hc, hf]) ?_
      cases ho
      exact ⟨g1, g2, by simp [Act.put], hI.store p10⟩
  · rintro done ac W hall ⟨g1, g2, rfl, hI⟩
    have hl := hall
    clear hall
    have e0 := hl 0 (by decide)
    have e1 := hl 1 (by decide)
    have e2 := hl 2 (by decide)
    have e3 := hl 3 (by decide)
    have e4 := hl 4 (by decide)
    have e5 := hl 5 (by decide)
    have e6 := hl 6 (by decide)
    have e7 := hl 7 (by decide)
    have e8 := hl 8 (by decide)
    have e9 := hl 9 (by decide)
    have e10 := hl 10 (by decide)
    have e11 := hl 11 (by decide)
    have e12 := hl 12 (by decide)
    have e13 := hl 13 (by decide)
    have e14 := hl 14 (by decide)
    have HI := Lib.hid (hI.fin (hl 14 (by decide)) (hl 10 (by decide)))
    simp only [e0, e1, e2, e3, e4, e5, e6, e7, e8, e9, e10, e11, e12, e13, if_true]
    clear e0 e1 e2 e3 e4 e5 e6 e7 e8 e9 e10 e11 e12 e13 e14 hl hI
    generalize hgg : g1 = g at *
    have c0 : W.cell? ⟨B, 0, none⟩ = some (.int .i64 sec) := blk_cell HI.out.1.b0 0
    have c1 : W.cell? ⟨B, 1, none⟩ = some (.slice (some ⟨g, 0, none⟩) n (n + 2)) := blk_cell HI.out.1.b0 1
    have e0 : W.cell? ⟨C, 0, none⟩ = some (.int .i64 0) := blk_cell HI.out.1.b1 0
    have e1 : W.cell? ⟨C, 1, none⟩ = some (.slice none 0 0) := blk_cell HI.out.1.b1 1
    have fe0 := fun r => blk_frozen HI.out.1.b1 r
    go_wp2_with fail
    obtain ⟨r0, r1⟩ := res_pair HI.out.1.b1 (.int .i64 sec) (.slice (some ⟨g, 0, none⟩) n (n + 2))
    have hbc := HBC.out
    refine bodyPost_ret (v := .agg #[.int .i64 sec, .slice (some ⟨g, 0, none⟩) n (n + 2)]) (by simp [results, Try.f14, go_sem, r0, r1]) rfl ⟨g, rfl, own_base (own_set (own_set HI.out.2 (by show C < _; omega) _) (by show C < _; omega) _) (by omega), below_two HI.out.1.below (by omega) _ _⟩
  -- END

/-- A ring that has been cut, with one segment more behind it. -/
def Sht (w : World) (base : Nat) (g : Nat) (l : List Seg) : Prop := w.ownsRow base 46 3 (.slice (some ⟨g, 0, none⟩) (l.length + 1) (l.length + 2)) (l.length + 1) (flat l.length 3 (segX l) ++ tail77)
def shtV (g : Nat) (l : List Seg) : Value := .slice (some ⟨g, 0, none⟩) l.length (l.length + 2)

theorem at_take {l : List Seg} {n i : Nat} (hi : i < n) : at' (l.take n) i = at' l i := by
  unfold at'
  rw [List.getD_eq_getElem?_getD, List.getD_eq_getElem?_getD, List.getElem?_take_of_lt hi]

theorem short (w : World) (sec : Int) (v : Value) (l : List Seg) (h : SegsAt w v l) :
    Calls Try.prog 14 #[ringV sec v] w fun e w' => ∃ g, e = .returned (ringV sec (shtV g (l.take 40))) ∧ Sht w' w.heap.size g (l.take 40) ∧ Below w.heap.size w w' := by
  obtain ⟨a, cap, rfl, hm⟩ := h.form
  have hcap : l.length ≤ cap := by
    rcases h with ⟨h, _⟩ | ⟨_, _, _, _, h1, h2, _⟩
    · omega
    · cases h1; exact h2
  have hln : (l.take 40).length = min l.length 40 := by rw [List.length_take, Nat.min_comm]
  have hx : IsSlK w 3 (l.take 40).length (.slice a (l.take 40).length cap) (flat (l.take 40).length 3 (segX (l.take 40))) := by
    have := (RowAt.take h (m := (l.take 40).length) (by rw [hln]; omega)).slK (by decide)
    rwa [show flat (l.take 40).length 3 (segX (l.take 40)) = flat (l.take 40).length 3 (fun i j => segCell (at' l i) j) from flat_congr fun i hi j hj => by
      unfold segX; rw [at_take (by rw [hln] at hi; omega)]]
  exact short0 w sec l.length cap a _ _ _ hm hln (fun W => run_slice_to Try.underlying23 (by obtain ⟨i, a, b, c, d⟩ := elemSeg.hi; exact ⟨_, run_sizeOf _ a⟩) a l.length cap _ (by rw [hln]; omega)) ⟨hx, fun u hu => by
    obtain ⟨i, j, _, _, rfl⟩ := flat_mem hu
    exact segCell_one _ _⟩

theorem Sht.segs {w : World} {base g : Nat} {l : List Seg} (h : Sht w base g l) : SegsAt w (shtV g l) l := by
  have h1 := own_isSlK h
  have h2 : RowAt w 3 (.slice (some ⟨g, 0, none⟩) (l.length + 1) (l.length + 2)) (l.length + 1) (fun i j => if i < l.length then segX l i j else (tail77.getD j undef)) := by
    refine h1.rowAt fun i hi j hj => ?_
    by_cases e : i < l.length
    · rw [if_pos e, List.getElem?_append_left (by rw [flat_len]; exact mul_lt e hj), flat_at _ e hj]
    · obtain rfl : i = l.length := by omega
      rw [if_neg e, List.getElem?_append_right (by rw [flat_len]; omega), flat_len, show l.length * 3 + j - l.length * 3 = j from by omega, List.getD_eq_getElem?_getD]
      rcases (show j = 0 ∨ j = 1 ∨ j = 2 by omega) with rfl | rfl | rfl <;> rfl
  exact (RowAt.take h2 (m := l.length) (by omega)).congr fun i hi j hj => by rw [if_pos hi]; rfl
theorem Sht.tail {w : World} {base g : Nat} {l : List Seg} (h : Sht w base g l) : w.cell? ⟨g, l.length * 3, none⟩ = some (.int .i64 77) := by
  have := h.cellAt (l.length * 3) (by omega)
  rw [this, List.getElem?_append_right (by rw [flat_len]; omega), flat_len, Nat.sub_self]
  rfl
theorem Sht.below {w w' : World} {base g : Nat} {l : List Seg} (h : Sht w base g l) (hb : Below w.heap.size w w') : Sht w' base g l :=
  own_below h hb
end Go.Proofs.Ytlcdadnfcdjglaa
