/- The disk: Write. Conditions: the disk is there. Structs by ranges inside a fence (iterators, the rounds of a range over a function). No condition. slices.Backward at pending writes, run by a range statement. Condition: the row lies below a bound that the rounds keep. The disk: Read. Conditions: the disk is there. -/
import Derived.Test.YtjmocjcjiiopnaaGreatLogScans11
import Derived.Test.YtjmocjcjiiopnaaGreatLogScans08
import Derived.Test.YtjmocjcjiiopnaaGreatLogScans06
import Derived.RangeFuncNested
import Derived.RangeFuncBound
import Derived.RangeFuncCalls
import Derived.RangeFuncLeaves
import Derived.Shelf.Abstract
import Derived.Shelf.RegionOpen
import Derived.OwnWalkIn
import Derived.TacticsInMore
import Derived.LoopNIn
import Derived.LoopIn
import Derived.Test.YtjmocjcjiiopnaaGreatLogScans04

section
set_option linter.unusedVariables false
set_option linter.unusedSimpArgs false
namespace Go.Proofs.YtjmocjcjiiopnaaGreat
open Go.RowKit Go.Ice Go.Oct Go.Dsk
theorem elemWrote : Elem Tryz.prog 104 108 65 72 (.agg (.int .i64 0 :: List.replicate 64 (.int .u8 0)).toArray) :=
  ⟨Tryz.underlying104, by
    obtain ⟨i0, hi, hz0, hz1, hz2⟩ := info_parts (show (Tryz.prog.info? 108).map (fun i => (i.zero, i.size, i.bytes)) = some (some (.agg (.int .i64 0 :: List.replicate 64 (.int .u8 0)).toArray), 65, 72) by kernel_rfl)
    exact ⟨i0, hi, hz0, hz1, hz2⟩, rfl, by decide⟩
theorem built_wrote (x y : Value) : Tryz.prog.built 108 [(0, x), (1, y)] = Instr.fill (([(0, 1), (1, 64)] : List (Nat × Nat)).toArray[·]?) (Value.int .i64 0 :: List.replicate 64 (Value.int .u8 0)).toArray [(0, x), (1, y)] := by kernel_rfl
theorem build_wrote (w : World) (i : Nat) (b : List UInt8) (hb : b.length = 64) : (Instr.build 108 #[(0, .int .i64 i), (1, .agg (b.map u8v).toArray)]).run Tryz.prog w = .ok (.agg (wrC (i, b)).toArray) w := by
  refine run_build w _ _ _ ?_
  show Tryz.prog.built 108 [(0, .int .i64 i), (1, .agg (b.map u8v).toArray)] = _
  rw [built_wrote]
  exact fill_pair rfl (by rw [List.length_map, hb]; rfl) rfl (by simp [hb])
set_option maxHeartbeats 8000000 in
set_option maxRecDepth 20000 in
theorem write1 (p bp bi bb : Nat) (D : Dk) (i : Nat) (b : List UInt8) (hi : i < D.safe.length) (hb : b.length = 64) (hpl : D.pend.length < 1000000) : Meets Tryz.prog 40 #[.pointer (some ⟨bp, 0, none⟩), .pointer (some ⟨bi, 0, none⟩), .pointer (some ⟨bb, 0, none⟩)]
    [dskA p D, blkA bp [.pointer (some ⟨p, 0, none⟩)] 29, blkA bi [.int .i64 i] 3, blkA bb (b.map u8v) 38] [] fun v L => v = .tuple #[] ∧ ∃ l, L = dskA p { D with pend := D.pend ++ [(i, b)] } :: l := by
  intro w B H
  obtain ⟨s, q, o, ok, H⟩ := dskA.open H
  obtain ⟨qa, qc, rfl, hqm⟩ := own_form (H.own 2)
  have hb64 : (b.map u8v).length = 64 := by rw [List.length_map]; exact hb
  have hwr65 : (wrC (i, b)).length = 65 := by simp [wrC, hb]
  go_enter Tryz.func40, Tryz.ntmps40
  refine wp_region_gh (Θ := Nat × Option Addr × Nat) (fun (ab, a2, c2) => [(0, 3, (.pointer (some ⟨p, 0, none⟩))), (1, 4, (.pointer (some ⟨p, 0, none⟩))), (2, 5, (.pointer (some ⟨p, 0, none⟩))), (3, 6, (.pointer (some ⟨p, 1, none⟩))), (4, 7, (.slice qa D.pend.length qc)), (5, 8, (.int .i64 i)), (6, 9, (.agg (b.map u8v).toArray)), (7, 10, (.agg (wrC (i, b)).toArray)), (8, 11, (.slice (some ⟨ab, 0, none⟩) 1 1)), (9, 12, (.slice a2 (D.pend.length + 1) c2)), (10, 13, (.pointer (some ⟨p, 0, none⟩))), (11, 14, (.pointer (some ⟨p, 1, none⟩)))]) (fun (ab, a2, c2) done WW => St w B (bif done 12 then [blkA p (dskC s (.slice a2 (D.pend.length + 1) c2) D o) 106, ownA 38 64 s D.safe.length (flatB D.safe), ownA 108 65 (.slice a2 (D.pend.length + 1) c2) (D.pend.length + 1) (flatW D.pend ++ wrC (i, b)), blkA bp [.pointer (some ⟨p, 0, none⟩)] 29, blkA bi [.int .i64 i] 3, blkA bb (b.map u8v) 38] else (bif done 9 then (blkA ab (wrC (i, b)) 108 :: [blkA p (dskC s (.slice qa D.pend.length qc) D o) 106, ownA 38 64 s D.safe.length (flatB D.safe), ownA 108 65 (.slice a2 (D.pend.length + 1) c2) (D.pend.length + 1) (flatW D.pend ++ wrC (i, b)), blkA bp [.pointer (some ⟨p, 0, none⟩)] 29, blkA bi [.int .i64 i] 3, blkA bb (b.map u8v) 38]) else (bif done 8 then (blkA ab (wrC (i, b)) 108 :: [blkA p (dskC s (.slice qa D.pend.length qc) D o) 106, ownA 38 64 s D.safe.length (flatB D.safe), ownA 108 65 (.slice qa D.pend.length qc) D.pend.length (flatW D.pend), blkA bp [.pointer (some ⟨p, 0, none⟩)] 29, blkA bi [.int .i64 i] 3, blkA bb (b.map u8v) 38]) else ([blkA p (dskC s (.slice qa D.pend.length qc) D o) 106, ownA 38 64 s D.safe.length (flatB D.safe), ownA 108 65 (.slice qa D.pend.length qc) D.pend.length (flatW D.pend), blkA bp [.pointer (some ⟨p, 0, none⟩)] 29, blkA bi [.int .i64 i] 3, blkA bb (b.map u8v) 38])))) [] WW) (by kernel_rfl) (hord_of2 (by kernel_rfl)) (fun _ => by kernel_rfl) (fun _ => by kernel_rfl) (fun _ => by kernel_rfl) ⟨(0, none, 0), H.drew⟩ ?_ ?_
  · intro (ab, a2, c2) done zb WW j oq ho hd hdep hcl HA HJ
    have hj : j < 13 := (Array.getElem?_eq_some_iff.1 ho).1
    obtain rfl | rfl | rfl | rfl | rfl | rfl | rfl | rfl | rfl | rfl | rfl | rfl | rfl : j = 0 ∨ j = 1 ∨ j = 2 ∨ j = 3 ∨ j = 4 ∨ j = 5 ∨ j = 6 ∨ j = 7 ∨ j = 8 ∨ j = 9 ∨ j = 10 ∨ j = 11 ∨ j = 12 := by omega
    · have n10 : done 10 = false := by cases hx : done 10 with | false => rfl | true => have := hcl 10 _ rfl hx ⟨0, .data⟩ (by simp) rfl; rw [hd] at this; cases this
      have n11 : done 11 = false := by cases hx : done 11 with | false => rfl | true => have := hcl 11 _ rfl hx ⟨10, .data⟩ (by simp) rfl; rw [n10] at this; cases this
      have n12 : done 12 = false := by cases hx : done 12 with | false => rfl | true => have := hcl 12 _ rfl hx ⟨11, .data⟩ (by simp) rfl; rw [n11] at this; cases this
      have hcl_ : ∀ k, WW.cell? ⟨bp, k, none⟩ = ([.pointer (some ⟨p, 0, none⟩)])[k]? := by
        have HQ := HJ
        cases g8 : done 8 <;> cases g9 : done 9 <;> simp only [n12, g8, g9, hd, cond_true, cond_false] at HQ <;> first | exact (St.cells HQ 0).1 | exact (St.cells HQ 1).1 | exact (St.cells HQ 2).1 | exact (St.cells HQ 3).1 | exact (St.cells HQ 4).1 | exact (St.cells HQ 5).1 | exact (St.cells HQ 6).1 | exact (St.cells HQ 7).1
      exact valG (θ := (ab, a2, c2)) (.pointer (some ⟨p, 0, none⟩)) ho (by cases ho; rfl) (by cases ho; simp [execOp, go_sem, HA.tm, lookT, hcl_]) (by cases ho; exact fun d hd => by cases hd; simp) HJ
    · have n2 : done 2 = false := by cases hx : done 2 with | false => rfl | true => have := hcl 2 _ rfl hx ⟨1, .data⟩ (by simp) rfl; rw [hd] at this; cases this
      have n3 : done 3 = false := by cases hx : done 3 with | false => rfl | true => have := hcl 3 _ rfl hx ⟨2, .data⟩ (by simp) rfl; rw [n2] at this; cases this
      have n4 : done 4 = false := by cases hx : done 4 with | false => rfl | true => have := hcl 4 _ rfl hx ⟨3, .data⟩ (by simp) rfl; rw [n3] at this; cases this
      have n9 : done 9 = false := by cases hx : done 9 with | false => rfl | true => have := hcl 9 _ rfl hx ⟨4, .data⟩ (by simp) rfl; rw [n4] at this; cases this
      have n10 : done 10 = false := by cases hx : done 10 with | false => rfl | true => have := hcl 10 _ rfl hx ⟨1, .phase⟩ (by simp) rfl; rw [hd] at this; cases this
      have n11 : done 11 = false := by cases hx : done 11 with | false => rfl | true => have := hcl 11 _ rfl hx ⟨10, .data⟩ (by simp) rfl; rw [n10] at this; cases this
      have n12 : done 12 = false := by cases hx : done 12 with | false => rfl | true => have := hcl 12 _ rfl hx ⟨11, .data⟩ (by simp) rfl; rw [n11] at this; cases this
      have hcl_ : ∀ k, WW.cell? ⟨bp, k, none⟩ = ([.pointer (some ⟨p, 0, none⟩)])[k]? := by
        have HQ := HJ
        cases g8 : done 8 <;> simp only [n9, n12, g8, hd, cond_true, cond_false] at HQ <;> first | exact (St.cells HQ 0).1 | exact (St.cells HQ 1).1 | exact (St.cells HQ 2).1 | exact (St.cells HQ 3).1 | exact (St.cells HQ 4).1 | exact (St.cells HQ 5).1 | exact (St.cells HQ 6).1 | exact (St.cells HQ 7).1
      exact valG (θ := (ab, a2, c2)) (.pointer (some ⟨p, 0, none⟩)) ho (by cases ho; rfl) (by cases ho; simp [execOp, go_sem, HA.tm, lookT, hcl_]) (by cases ho; exact fun d hd => by cases hd; simp) HJ
    · have p1 : done 1 = true := by cases ho; exact hdep ⟨1, .data⟩ (by simp) rfl
      exact valG (θ := (ab, a2, c2)) (.pointer (some ⟨p, 0, none⟩)) ho (by cases ho; rfl) (by cases ho; simp [execOp, go_sem, HA.tm, lookT, p1]) (by cases ho; exact fun d hd => by cases hd; simp) HJ
    · have p2 : done 2 = true := by cases ho; exact hdep ⟨2, .data⟩ (by simp) rfl
      exact valG (θ := (ab, a2, c2)) (.pointer (some ⟨p, 1, none⟩)) ho (by cases ho; rfl) (by cases ho; simp [execOp, go_sem, HA.tm, lookT, p2]) (by cases ho; exact fun d hd => by cases hd; simp) HJ
    · have p3 : done 3 = true := by cases ho; exact hdep ⟨3, .data⟩ (by simp) rfl
      have n9 : done 9 = false := by cases hx : done 9 with | false => rfl | true => have := hcl 9 _ rfl hx ⟨4, .data⟩ (by simp) rfl; rw [hd] at this; cases this
      have n10 : done 10 = false := by cases hx : done 10 with | false => rfl | true => have := hcl 10 _ rfl hx ⟨4, .phase⟩ (by simp) rfl; rw [hd] at this; cases this
      have n11 : done 11 = false := by cases hx : done 11 with | false => rfl | true => have := hcl 11 _ rfl hx ⟨10, .data⟩ (by simp) rfl; rw [n10] at this; cases this
      have n12 : done 12 = false := by cases hx : done 12 with | false => rfl | true => have := hcl 12 _ rfl hx ⟨11, .data⟩ (by simp) rfl; rw [n11] at this; cases this
      have hcl_ : ∀ k, WW.cell? ⟨p, k, none⟩ = (dskC s (.slice qa D.pend.length qc) D o)[k]? := by
        have HQ := HJ
        cases g8 : done 8 <;> simp only [n9, n12, g8, hd, cond_true, cond_false] at HQ <;> first | exact (St.cells HQ 0).1 | exact (St.cells HQ 1).1 | exact (St.cells HQ 2).1 | exact (St.cells HQ 3).1 | exact (St.cells HQ 4).1 | exact (St.cells HQ 5).1 | exact (St.cells HQ 6).1 | exact (St.cells HQ 7).1
      unfold dskC at hcl_
      exact valG (θ := (ab, a2, c2)) (.slice qa D.pend.length qc) ho (by cases ho; rfl) (by cases ho; simp [execOp, go_sem, HA.tm, lookT, p3, hcl_]) (by cases ho; exact fun d hd => by cases hd; simp) HJ
    · have n7 : done 7 = false := by cases hx : done 7 with | false => rfl | true => have := hcl 7 _ rfl hx ⟨5, .data⟩ (by simp) rfl; rw [hd] at this; cases this
      have n8 : done 8 = false := by cases hx : done 8 with | false => rfl | true => have := hcl 8 _ rfl hx ⟨7, .data⟩ (by simp) rfl; rw [n7] at this; cases this
      have n9 : done 9 = false := by cases hx : done 9 with | false => rfl | true => have := hcl 9 _ rfl hx ⟨8, .data⟩ (by simp) rfl; rw [n8] at this; cases this
      have n10 : done 10 = false := by cases hx : done 10 with | false => rfl | true => have := hcl 10 _ rfl hx ⟨5, .phase⟩ (by simp) rfl; rw [hd] at this; cases this
      have n11 : done 11 = false := by cases hx : done 11 with | false => rfl | true => have := hcl 11 _ rfl hx ⟨10, .data⟩ (by simp) rfl; rw [n10] at this; cases this
      have n12 : done 12 = false := by cases hx : done 12 with | false => rfl | true => have := hcl 12 _ rfl hx ⟨11, .data⟩ (by simp) rfl; rw [n11] at this; cases this
      have hcl_ : ∀ k, WW.cell? ⟨bi, k, none⟩ = ([.int .i64 i])[k]? := by
        have HQ := HJ
        simp only [n8, n9, n12, hd, cond_true, cond_false] at HQ <;> first | exact (St.cells HQ 0).1 | exact (St.cells HQ 1).1 | exact (St.cells HQ 2).1 | exact (St.cells HQ 3).1 | exact (St.cells HQ 4).1 | exact (St.cells HQ 5).1 | exact (St.cells HQ 6).1 | exact (St.cells HQ 7).1
      exact valG (θ := (ab, a2, c2)) (.int .i64 i) ho (by cases ho; rfl) (by cases ho; simp [execOp, go_sem, HA.tm, lookT, hcl_]) (by cases ho; exact fun d hd => by cases hd; simp) HJ
    · have n7 : done 7 = false := by cases hx : done 7 with | false => rfl | true => have := hcl 7 _ rfl hx ⟨6, .data⟩ (by simp) rfl; rw [hd] at this; cases this
      have n8 : done 8 = false := by cases hx : done 8 with | false => rfl | true => have := hcl 8 _ rfl hx ⟨7, .data⟩ (by simp) rfl; rw [n7] at this; cases this
      have n9 : done 9 = false := by cases hx : done 9 with | false => rfl | true => have := hcl 9 _ rfl hx ⟨8, .data⟩ (by simp) rfl; rw [n8] at this; cases this
      have n10 : done 10 = false := by cases hx : done 10 with | false => rfl | true => have := hcl 10 _ rfl hx ⟨6, .phase⟩ (by simp) rfl; rw [hd] at this; cases this
      have n11 : done 11 = false := by cases hx : done 11 with | false => rfl | true => have := hcl 11 _ rfl hx ⟨10, .data⟩ (by simp) rfl; rw [n10] at this; cases this
      have n12 : done 12 = false := by cases hx : done 12 with | false => rfl | true => have := hcl 12 _ rfl hx ⟨11, .data⟩ (by simp) rfl; rw [n11] at this; cases this
      have HRg : WW.rangeAt bb (0) (b.map u8v) := by
        have HQ := HJ
        simp only [n8, n9, n12, hd, cond_true, cond_false] at HQ <;> exact St.range HQ 5
      exact loadG (θ := (ab, a2, c2)) (v := (.agg (b.map u8v).toArray)) _ ((.tmp 2)) ho (by cases ho; rfl) (by cases ho; rfl) (by simp [HA.ev, HA.tm, lookT, Act.eval]) (bigBlock.load (hb64) HRg) (by cases ho; exact fun d hd => by cases hd; simp) HJ
    · have p5 : done 5 = true := by cases ho; exact hdep ⟨5, .data⟩ (by simp) rfl
      have p6 : done 6 = true := by cases ho; exact hdep ⟨6, .data⟩ (by simp) rfl
      exact buildG (θ := (ab, a2, c2)) (vals := #[(0, .int .i64 i), (1, .agg (b.map u8v).toArray)]) (v := (.agg (wrC (i, b)).toArray)) _ _ ho (by cases ho; rfl) (by cases ho; rfl) (by simp [HA.ev, HA.tm, lookT, Act.eval, p5, p6]) (build_wrote WW i b hb) (by cases ho; exact fun d hd => by cases hd; simp) HJ
    · have p7 : done 7 = true := by cases ho; exact hdep ⟨7, .data⟩ (by simp) rfl
      have n9 : done 9 = false := by cases hx : done 9 with | false => rfl | true => have := hcl 9 _ rfl hx ⟨8, .data⟩ (by simp) rfl; rw [hd] at this; cases this
      have n10 : done 10 = false := by cases hx : done 10 with | false => rfl | true => have := hcl 10 _ rfl hx ⟨8, .phase⟩ (by simp) rfl; rw [hd] at this; cases this
      have n11 : done 11 = false := by cases hx : done 11 with | false => rfl | true => have := hcl 11 _ rfl hx ⟨10, .data⟩ (by simp) rfl; rw [n10] at this; cases this
      have n12 : done 12 = false := by cases hx : done 12 with | false => rfl | true => have := hcl 12 _ rfl hx ⟨11, .data⟩ (by simp) rfl; rw [n11] at this; cases this
      have HS : St w B [blkA p (dskC s (.slice qa D.pend.length qc) D o) 106, ownA 38 64 s D.safe.length (flatB D.safe), ownA 108 65 (.slice qa D.pend.length qc) D.pend.length (flatW D.pend), blkA bp [.pointer (some ⟨p, 0, none⟩)] 29, blkA bi [.int .i64 i] 3, blkA bb (b.map u8v) 38] [] WW := St.cast (by simp only [n9, n12, hd, cond_true, cond_false]) HJ
      exact buildSliceG (θ := (ab, a2, c2)) (WW.heap.size, a2, c2) (vals := #[(0, .agg (wrC (i, b)).toArray)]) _ _ _ ho (by cases ho; rfl) (by cases ho; rfl) (by simp [HA.ev, HA.tm, lookT, Act.eval, p7]) (elemWrote.lit1 (wrC (i, b)) hwr65 (by omega) WW) (by cases ho; exact fun d hd => by cases hd; simp) (.inr (.cons (.inl rfl) (.cons (.inl rfl) (.cons (.inl rfl) (.cons (.inl rfl) (.cons (.inl rfl) (.cons (.inl rfl) (.cons (.inl rfl) (.cons (.inl rfl) (.cons (.inr ⟨rfl, hd⟩) (.cons (.inr ⟨rfl, n9⟩) (.cons (.inl rfl) (.cons (.inl rfl) (.nil)))))))))))))) (St.cast (by simp [n9, n12, n9, n12] <;> rfl) (HS.alloc _ _))
    · have p4 : done 4 = true := by cases ho; exact hdep ⟨4, .data⟩ (by simp) rfl
      have p8 : done 8 = true := by cases ho; exact hdep ⟨8, .data⟩ (by simp) rfl
      have n10 : done 10 = false := by cases hx : done 10 with | false => rfl | true => have := hcl 10 _ rfl hx ⟨9, .phase⟩ (by simp) rfl; rw [hd] at this; cases this
      have n11 : done 11 = false := by cases hx : done 11 with | false => rfl | true => have := hcl 11 _ rfl hx ⟨10, .data⟩ (by simp) rfl; rw [n10] at this; cases this
      have n12 : done 12 = false := by cases hx : done 12 with | false => rfl | true => have := hcl 12 _ rfl hx ⟨11, .data⟩ (by simp) rfl; rw [n11] at this; cases this
      have HS : St w B (blkA ab (wrC (i, b)) 108 :: [blkA p (dskC s (.slice qa D.pend.length qc) D o) 106, ownA 38 64 s D.safe.length (flatB D.safe), ownA 108 65 (.slice qa D.pend.length qc) D.pend.length (flatW D.pend), blkA bp [.pointer (some ⟨p, 0, none⟩)] 29, blkA bi [.int .i64 i] 3, blkA bb (b.map u8v) 38]) [] WW := St.cast (by simp only [p8, n12, hd, cond_true, cond_false]) HJ
      obtain ⟨v', w', hr, HS'⟩ := St.app elemWrote HS 3 rfl (isSlK_of_blk HS 0 rfl 1 (by omega) (by rw [hwr65]) (by decide)) (wrC_one _) (by omega) (by unfold maxLen; omega)
      obtain ⟨a', c', rfl, _⟩ := own_form (St.own HS' 3)
      exact appG (θ := (ab, a2, c2)) (v := (.slice qa D.pend.length qc)) (vx := (.slice (some ⟨ab, 0, none⟩) 1 1)) (ab, a', c') (.tmp 7) (.tmp 11) _ ho (by cases ho; rfl) (by cases ho; rfl) (by simp [HA.ev, HA.tm, lookT, Act.eval, p4, p8]) (by simp [HA.ev, HA.tm, lookT, Act.eval, p4, p8]) hr (by cases ho; exact fun d hd => by cases hd; simp) (.inr (.cons (.inl rfl) (.cons (.inl rfl) (.cons (.inl rfl) (.cons (.inl rfl) (.cons (.inl rfl) (.cons (.inl rfl) (.cons (.inl rfl) (.cons (.inl rfl) (.cons (.inl rfl) (.cons (.inr ⟨rfl, hd⟩) (.cons (.inl rfl) (.cons (.inl rfl) (.nil)))))))))))))) (St.cast (by simp [p8, n12, n12] <;> rfl) HS')
    · have p0 : done 0 = true := by cases ho; exact hdep ⟨0, .data⟩ (by simp) rfl
      exact valG (θ := (ab, a2, c2)) (.pointer (some ⟨p, 0, none⟩)) ho (by cases ho; rfl) (by cases ho; simp [execOp, go_sem, HA.tm, lookT, p0]) (by cases ho; exact fun d hd => by cases hd; simp) HJ
    · have p10 : done 10 = true := by cases ho; exact hdep ⟨10, .data⟩ (by simp) rfl
      exact valG (θ := (ab, a2, c2)) (.pointer (some ⟨p, 1, none⟩)) ho (by cases ho; rfl) (by cases ho; simp [execOp, go_sem, HA.tm, lookT, p10]) (by cases ho; exact fun d hd => by cases hd; simp) HJ
    · have p11 : done 11 = true := by cases ho; exact hdep ⟨11, .data⟩ (by simp) rfl
      have p10 : done 10 = true := hcl 11 _ rfl p11 ⟨10, .data⟩ (by simp) rfl
      have p9 : done 9 = true := hcl 10 _ rfl p10 ⟨9, .phase⟩ (by simp) rfl
      have p8 : done 8 = true := hcl 10 _ rfl p10 ⟨8, .phase⟩ (by simp) rfl
      have HS : St w B (blkA ab (wrC (i, b)) 108 :: [blkA p (dskC s (.slice qa D.pend.length qc) D o) 106, ownA 38 64 s D.safe.length (flatB D.safe), ownA 108 65 (.slice a2 (D.pend.length + 1) c2) (D.pend.length + 1) (flatW D.pend ++ wrC (i, b)), blkA bp [.pointer (some ⟨p, 0, none⟩)] 29, blkA bi [.int .i64 i] 3, blkA bb (b.map u8v) 38]) [] WW := St.cast (by simp only [p8, p9, hd, cond_true, cond_false]) HJ
      have hcl_ : ∀ k, WW.cell? ⟨p, k, none⟩ = (dskC s (.slice qa D.pend.length qc) D o)[k]? := by
        have HQ := HJ
        simp only [p8, p9, hd, cond_true, cond_false] at HQ <;> first | exact (St.cells HQ 0).1 | exact (St.cells HQ 1).1 | exact (St.cells HQ 2).1 | exact (St.cells HQ 3).1 | exact (St.cells HQ 4).1 | exact (St.cells HQ 5).1 | exact (St.cells HQ 6).1 | exact (St.cells HQ 7).1
      unfold dskC at hcl_
      have hfl_ : ∀ k, WW.frozen? ⟨p, k, none⟩ = false := by
        have HQ := HJ
        simp only [p8, p9, hd, cond_true, cond_false] at HQ <;> first | exact (St.cells HQ 0).2 | exact (St.cells HQ 1).2 | exact (St.cells HQ 2).2 | exact (St.cells HQ 3).2 | exact (St.cells HQ 4).2 | exact (St.cells HQ 5).2 | exact (St.cells HQ 6).2 | exact (St.cells HQ 7).2
      exact skipG (θ := (ab, a2, c2)) ho (by cases ho; rfl) (by cases ho; rfl) (by cases ho; first | (simp [execOp, go_sem, HA.tm, lookT, hcl_, hfl_, p8, p9, p10, p11]; done) | (simp [execOp, go_sem, HA.tm, lookT, hcl_, hfl_, p8, p9, p10, p11]; rfl)) (St.cast (by simp [p8, p9] <;> rfl) (HS.set_ 1 1 (.slice a2 (D.pend.length + 1) c2) rfl).tail)
  · intro (ab, a2, c2) done WW hall HJ
    have z8 := hall 8 (by decide)
    have z9 := hall 9 (by decide)
    have z12 := hall 12 (by decide)
    have HE : St w B [blkA p (dskC s (.slice a2 (D.pend.length + 1) c2) D o) 106, ownA 38 64 s D.safe.length (flatB D.safe), ownA 108 65 (.slice a2 (D.pend.length + 1) c2) (D.pend.length + 1) (flatW D.pend ++ wrC (i, b)), blkA bp [.pointer (some ⟨p, 0, none⟩)] 29, blkA bi [.int .i64 i] 3, blkA bb (b.map u8v) 38] [] WW := St.cast (by simp [z8, z9, z12]) HJ
    clear HJ hall z8 z9 z12
    simp only [putAll, Act.put, List.setIfInBounds_toArray, List.set_cons_succ, List.set_cons_zero]
    go_wp2_with fail
    go_end0
    have e1 : (D.pend ++ [(i, b)]).length = D.pend.length + 1 := by simp
    have e2 : flatW (D.pend ++ [(i, b)]) = flatW D.pend ++ wrC (i, b) := by simp [flatW_eq]
    rw [← e1, ← e2] at HE
    refine Back.mk ⟨rfl, _, rfl⟩ (dskA.close (D := { D with pend := D.pend ++ [(i, b)] }) ⟨ok.s64, fun x hx => ?_, ok.len, by simp; omega, ok.left0, ok.fails0⟩ HE)
    rcases List.mem_append.1 hx with hx | hx
    · exact ok.p64 x hx
    · rw [List.mem_singleton.1 hx]; exact ⟨hb, hi⟩
set_option maxHeartbeats 8000000 in
set_option maxRecDepth 20000 in
theorem write (p : Nat) (D : Dk) (i : Int) (b : List UInt8) (hb : b.length = 64) (hpl : D.pend.length < 1000000) : Meets Tryz.prog 11 #[.pointer (some ⟨p, 0, none⟩), .int .i64 i, blkV b] [dskA p D] [] fun v L => v = .int .i64 (D.write i b).2 ∧ L = [dskA p (D.write i b).1] := by
  intro w B H
  rcases D.op_cases i fun D => { D with pend := D.pend ++ [(i.toNat, b)] } with ⟨h0, e0⟩ | ⟨h0, h1, e0⟩ | ⟨D2, h0, h1, e0⟩ <;> unfold Dk.write <;> rw [e0] <;> unfold blkV
  all_goals
    have hb3 := ((H.alloc [.pointer (some ⟨p, 0, none⟩)] 29).alloc [.int .i64 i] 3).alloc (b.map u8v) 38
    simp only [World.size_alloc] at hb3
    go_enter Tryz.func11, Tryz.ntmps11
    go_wp2_with fail
    refine ((ready p D i).call (M := [blkA _ _ _, blkA _ _ _, blkA _ _ _]) hb3.rot4 (by simp)).mono ?_
    rintro e w1 ⟨v, L, rfl, ⟨rfl, rfl⟩, H1⟩
    obtain ⟨hc, hf⟩ := St.cells H1 3
  · go_wp2_with fail
    go_ret
    exact Back.mk ⟨rfl, rfl⟩ (St.pick H1 [0])
  · rw [h0]
    go_wp2_with fail
    refine ((do_none p _ _ h1).call (M := [blkA _ _ _, blkA _ _ _, blkA _ _ _]) H1 (by simp)).mono ?_
    rintro e w2 ⟨v, L, rfl, ⟨rfl, rfl⟩, H2⟩
    go_wp2_with fail
    go_ret
    exact Back.mk ⟨rfl, rfl⟩ (St.pick H2 [0])
  · obtain ⟨g1, g2, g3, g4⟩ := Dk.ready_zero h0
    obtain ⟨k1, k2, _⟩ := Dk.go_same h1
    obtain ⟨n, rfl⟩ : ∃ n : Nat, i = n := ⟨i.toNat, by omega⟩
    rw [h0]
    go_wp2_with fail
    refine ((do_some p _ _ _ _ h1 (fun w => by kernel_rfl) [blkA _ _ _, blkA _ _ _, blkA _ _ _] [] _ (write1 p _ _ _ D2 n b (by rw [k1, g3]; omega) hb (by rw [k2, g4]; exact hpl))).all (St.pick H1 [0, 3, 2, 1])).mono ?_
    rintro e w2 ⟨v, L, rfl, ⟨rfl, u, rfl, l, rfl⟩, H2⟩
    go_wp2_with fail
    go_ret
    exact Back.mk ⟨rfl, rfl⟩ (St.left (M := [_]) H2)
end Go.Proofs.YtjmocjcjiiopnaaGreat
end

section
set_option linter.unusedVariables false
namespace Go.Ice
open Go.RowKit
theorem semAt_nd (r : Option Nat) (ρ : Operand → Value) (o : Oper) (h : ∀ c, o.op ≠ .defer c) : Oper.semAt r ρ o = execOp ρ o := by
  cases r with
  | none => rfl
  | some l => exact Oper.semAt_some l ρ o h
section
variable {F : Fence} {n : Nat} {P : Program} {ops : Array Oper} {rest : List Oper} {op : Oper} {a : Act} {w : World} {Q : Exit → Act → World → Prop} {m : Nat} {cs : List Value}
theorem wpli_load (hgd : op.guard = none) (ty : TypeId) (x : Operand) (ho : op.op = .load ty x) (b o : Nat) (hx : a.eval x = .pointer (some ⟨b, o, none⟩)) (hl : cs.length = m) (hr : w.rangeAt b o cs) (T : Big P ty m)
    (h : wpListIn F n P ops Q rest (a.put op.dst (.agg cs.toArray)) w) : wpListIn F n P ops Q (op :: rest) a w :=
  wpListIn_plain hgd fun _ hK => by
    refine ⟨fun f hf => by simp [Oper.about, ho] at hf, ?_⟩
    rw [semAt_nd _ _ _ (by rw [ho]; intro c hc; cases hc)]
    unfold execOp
    simp only [ho, hx, Sem.run_bind, Sem.run_pure, Result.andThen_ok, T.load hl hr, Oper.uponIn_value]
    exact hK _ _ h
theorem wpli_store (hgd : op.guard = none) (ty : TypeId) (x y : Operand) (ho : op.op = .store ty x y) (b o : Nat) (hx : a.eval x = .pointer (some ⟨b, o, none⟩)) (hy : a.eval y = .agg cs.toArray) (hl : cs.length = m) (ht : w.there b o m) (T : Big P ty m) (h1 : ∀ u ∈ cs, u.oneCell' = true)
    (h : wpListIn F n P ops Q rest (a.put op.dst undef) (w.setCells b o cs)) : wpListIn F n P ops Q (op :: rest) a w :=
  wpListIn_plain hgd fun _ hK => by
    refine ⟨fun f hf => by simp [Oper.about, ho] at hf, ?_⟩
    rw [semAt_nd _ _ _ (by rw [ho]; intro c hc; cases hc)]
    unfold execOp
    simp only [ho, hx, hy, Sem.run_bind, Sem.run_pure, Result.andThen_ok, T.store hl ht h1, Oper.uponIn_skip]
    exact hK _ _ h
end
theorem rangeAt_below {w w' : World} {n b o : Nat} {l : List Value} (h : w.rangeAt b o l) (hb : Below n w w') (hlt : b < n) : w'.rangeAt b o l := fun j v hv => (hb.cell (p := ⟨b, o + j, none⟩) hlt).trans (h j v hv)
section
variable {w0 : World} {B : Nat → Prop} {M S : List Asn} {w w' : World}
/-- Three blocks hold something else. -/
theorem St.re3 {b1 b2 b3 : Nat} {c1 c2 c3 d1 d2 d3 : List Value} {t1 t2 t3 : TypeId} (h : St w0 B (blkA b1 c1 t1 :: blkA b2 c2 t2 :: blkA b3 c3 t3 :: M) S w) (hf : Frm (fun b => b = b1 ∨ b = b2 ∨ b = b3) w w')
    (h1 : w'.heap[b1]? = some (.cells d1.toArray t1 (0, 0))) (h2 : w'.heap[b2]? = some (.cells d2.toArray t2 (0, 0))) (h3 : w'.heap[b3]? = some (.cells d3.toArray t3 (0, 0))) : St w0 B (blkA b1 d1 t1 :: blkA b2 d2 t2 :: blkA b3 d3 t3 :: M) S w' := by
  refine St.step (L := [blkA b1 c1 t1, blkA b2 c2 t2, blkA b3 c3 t3]) (L' := [blkA b1 d1 t1, blkA b2 d2 t2, blkA b3 d3 t3]) (M := M) h fun F hF => ?_
  obtain ⟨F1, G1, k1, ⟨F2, G2, k2, ⟨F3, G3, k3, g3, e3, d3'⟩, e2, d2'⟩, e1, d1'⟩ := hF
  refine ⟨F, ⟨F1, G1, ⟨k1.1, h1⟩, ⟨F2, G2, ⟨k2.1, h2⟩, ⟨F3, G3, ⟨k3.1, h3⟩, g3, e3, d3'⟩, e2, d2'⟩, e1, d1'⟩, hf.mono fun b _ hb => ?_, fun b hb => .inl hb⟩
  rcases hb with rfl | rfl | rfl
  · exact (e1 _).2 (.inl ((k1.1 _).2 rfl))
  · exact (e1 _).2 (.inr ((e2 _).2 (.inl ((k2.1 _).2 rfl))))
  · exact (e1 _).2 (.inr ((e2 _).2 (.inr ((e3 _).2 (.inl ((k3.1 _).2 rfl))))))
/-- A block that lies behind what was. -/
theorem St.newObj (h : St w0 B M S w) (hb : Below w.heap.size w w') {D : Nat} {o : Obj} (hD : w.heap.size ≤ D) (ho : w'.heap[D]? = some o) : St w0 B (objA D o :: M) S w' :=
  h.new hb (F' := fun b => b = D) ⟨fun _ => Iff.rfl, ho⟩ (fun b e => by rw [e]; exact hD)
theorem St.putObj {D : Nat} {o o' : Obj} (h : St w0 B (objA D o :: M) S w) : St w0 B (objA D o' :: M) S (w.putObj D o') :=
  h.stepAt 0 (A := objA D o) (A' := objA D o') rfl fun F hF => ⟨F, ⟨hF.1, by
    have := blk_lt hF.2
    simp [World.putObj, this]⟩, ⟨rfl, rfl, rfl, by simp [World.putObj], fun k _ hk => World.putObj_heap_other fun e => hk ((hF.1 k).2 e)⟩, fun b hb => .inl hb⟩
theorem St.obj {D : Nat} {o : Obj} (h : St w0 B M S w) (i : Nat) (hi : M[i]? = some (objA D o) := by rfl) : w.heap[D]? = some o := by
  obtain ⟨F, hF⟩ := h.get i hi
  exact hF.2
end
theorem results2 {P : Program} {fn : Func} {tmps : Array Value} {w : World} {s1 s2 rb eb n : Nat} {ty ty2 : TypeId} {cs : List Value} {v : Value} (hr : fn.results = #[.cell s1 ty, .cell s2 ty2]) (h1 : tmps.getD s1 undef = .pointer (some ⟨rb, 0, none⟩)) (h2 : tmps.getD s2 undef = .pointer (some ⟨eb, 0, none⟩))
    (hl : cs.length = n) (T : Big P ty n) (hrg : w.rangeAt rb 0 cs) (hv : (loadVar ty2 ⟨eb, 0, none⟩).run P w = .ok v w) : (results fn tmps).run P w = .ok (.tuple #[.agg cs.toArray, v]) w := by
  have h1' : tmps[s1]?.getD undef = .pointer (some ⟨rb, 0, none⟩) := by simpa using h1
  have h2' : tmps[s2]?.getD undef = .pointer (some ⟨eb, 0, none⟩) := by simpa using h2
  simp [results, hr, h1', h2', asAddr, T.loadVar hl hrg, hv]
theorem wpli_world {F : Fence} {n : Nat} {P : Program} {ops : Array Oper} {l : List Oper} {Q : Exit → Act → World → Prop} {a : Act} {w : World} (R : World → Prop) (h : R w) (k : ∀ w', R w' → wpListIn F n P ops Q l a w') : wpListIn F n P ops Q l a w := k w h
theorem grown_frm {W W' : World} {row : Option Nat} (hg : W.grownBy W' row) : Frm (fun b => row = some b) W W' := ⟨hg.os, hg.tape, hg.output, hg.size, fun k hk h => hg.block k hk fun e => h e.symm⟩
theorem keepsFrom_frm {W W' : World} {S : Nat → Prop} {n : Nat} (h : Frm S W W') (hS : ∀ b, S b → b < n) : KeepsFrom n W W' := ⟨h.size, fun k o hk ho _ => (h.block k (blk_lt ho) fun e => by have := hS k e; omega).trans ho⟩
theorem putObj_frm (W : World) (D : Nat) (o : Obj) : Frm (fun b => b = D) W (W.putObj D o) := ⟨rfl, rfl, rfl, by simp [World.putObj], fun k _ hk => World.putObj_heap_other hk⟩
end Go.Ice
end

section
set_option linter.unusedVariables false
set_option linter.unusedSimpArgs false
namespace Go.Dsk
/-- The writes, the last one first, each with its place. -/
def bwd (l : List (Nat × List UInt8)) : List (Nat × (Nat × List UInt8)) := (List.range l.length).map fun k => (l.length - 1 - k, l.getD (l.length - 1 - k) (0, []))
theorem bwd_len (l : List (Nat × List UInt8)) : (bwd l).length = l.length := by simp [bwd]
theorem bwd_get {l : List (Nat × List UInt8)} {k : Nat} (h : k < l.length) : (bwd l).getD k (0, 0, []) = (l.length - 1 - k, l.getD (l.length - 1 - k) (0, [])) := by
  unfold bwd
  simp [List.getD_eq_getElem?_getD, h]
/-- 64 bytes, whatever was. -/
def fix64 (l : List UInt8) : List UInt8 := (l ++ List.replicate 64 0).take 64
theorem fix64_len (l : List UInt8) : (fix64 l).length = 64 := by simp [fix64]
theorem fix64_eq {l : List UInt8} (h : l.length = 64) : fix64 l = l := by unfold fix64; rw [List.take_append_of_le_length (by omega), List.take_of_length_le (by omega)]
end Go.Dsk
namespace Go.Proofs.YtjmocjcjiiopnaaGreat
open Go.RowKit Go.Ice Go.Oct Go.Dsk Go.Shelf
attribute [local go_sem] Oper.semAt_some
structure BwAt (n₀ : Nat) (w : World) (bq : Nat) (l : List (Nat × List UInt8)) : Prop where
  lt : bq < n₀
  p64 : ∀ x ∈ l, x.2.length = 64
  len : l.length ≤ 1000000
  ex : (l = [] ∧ ∃ a c, w.cell? ⟨bq, 0, none⟩ = some (.slice a 0 c)) ∨ (0 < l.length ∧ ∃ g c, w.cell? ⟨bq, 0, none⟩ = some (.slice (some ⟨g, 0, none⟩) l.length c) ∧ g < n₀ ∧ w.rangeAt g 0 (flatW l))
theorem BwAt.below {n₀ bq : Nat} {w w' : World} {l : List (Nat × List UInt8)} (h : BwAt n₀ w bq l) (hb : Below n₀ w w') : BwAt n₀ w' bq l := by
  obtain ⟨h1, h2, h2', h3⟩ := h
  refine ⟨h1, h2, h2', ?_⟩
  rcases h3 with ⟨e, a, c, h⟩ | ⟨h0, g, c, h, hg, hr⟩
  · exact .inl ⟨e, a, c, (hb.cell (p := ⟨bq, 0, none⟩) h1).trans h⟩
  · exact .inr ⟨h0, g, c, (hb.cell (p := ⟨bq, 0, none⟩) h1).trans h, hg, rangeAt_below hr hb hg⟩
def wrF (x : Nat × List UInt8) : List Value := wrC (x.1, fix64 x.2)
theorem wrF_len (x : Nat × List UInt8) : (wrF x).length = 65 := by simp [wrF, wrC, fix64_len]
def encW (x : Nat × (Nat × List UInt8)) : Array Value := #[.int .i64 x.1, .agg (wrF x.2).toArray]
set_option maxRecDepth 100000 in
set_option maxHeartbeats 8000000 in
theorem bwd_in (F : Fence) (n : Nat) (h7 : F.fn 119) (hro : F.round = none) (hn : 1 ≤ n) (l bq n₀ : Nat) (L : List (Nat × List UInt8)) (J Jx : List (Nat × (Nat × List UInt8)) → World → Prop)
    (hY : ∀ pre x W, J pre W → pre.length < L.length → YieldAt F (n - 1) Tryz.prog l (encW x) W fun e W' =>
      (e = .returned (.bool true) ∧ J (pre ++ [x]) W' ∧ Below n₀ W W') ∨ (e = .returned (.bool false) ∧ Jx (pre ++ [x]) W'))
    (W : World) (hS : BwAt n₀ W bq L) (h0 : J [] W) :
    CallsIn F n Tryz.prog 119 #[.func (.yield l) #[] #[], .pointer (some ⟨bq, 0, none⟩)] W fun e W' => (∃ v, e = .returned v) ∧
      ((∃ ys, ys = bwd L ∧ J ys W') ∨ (∃ pre, pre <+: bwd L ∧ Jx pre W')) := by
  have hS0 := hS
  obtain ⟨l1, p64, hlen, hcase⟩ := hS
  rcases hcase with ⟨rfl, a, cap, c1⟩ | ⟨k0, g, c, c1, l3, hr⟩
  · refine callsIn_of_wp Tryz.func119 rfl h7 ?_ hro
    simp only [Tryz.ntmps119, List.size_toArray, List.length_cons, List.length_nil, Nat.reduceAdd, Nat.reduceSub, Array.replicate_succ, Array.replicate_zero, List.push_toArray, List.append_toArray, List.nil_append, List.cons_append]
    gi_wp2
    gi_loopw [3] (fun i wr => i = .int .i64 (-1) ∧ J [] wr) (fun _ _ => 0)
    case atStart => exact ⟨rfl, h0⟩
    case round =>
      obtain ⟨rfl, hJs⟩ := hrel
      gi_wp2
      go_end0
      exact ⟨⟨_, rfl⟩, .inl ⟨_, rfl, hJs⟩⟩
  · refine callsIn_of_wp Tryz.func119 rfl h7 ?_ hro
    simp only [Tryz.ntmps119, List.size_toArray, List.length_cons, List.length_nil, Nat.reduceAdd, Nat.reduceSub, Array.replicate_succ, Array.replicate_zero, List.push_toArray, List.append_toArray, List.nil_append, List.cons_append]
    gi_wp2
    gi_loopw [3] (fun i wr => ∃ k : Nat, k ≤ L.length ∧ i = .int .i64 ((L.length : Int) - 1 - k) ∧ J ((bwd L).take k) wr ∧ Below n₀ W wr) (fun i _ => ((intOf i) + 1).toNat)
    case atStart => exact ⟨0, Nat.zero_le _, by first | rfl | (congr 1; omega), h0, Below.refl _ _⟩
    case round =>
      obtain ⟨k, hk, rfl, hJs, hnx⟩ := hrel
      by_cases hlt : k < L.length
      · have hxg := bwd_get hlt
        obtain ⟨x, hx⟩ : ∃ x, L[L.length - 1 - k]? = some x := ⟨_, List.getElem?_eq_getElem (by omega)⟩
        have hxd : L.getD (L.length - 1 - k) (0, []) = x := by simp [List.getD_eq_getElem?_getD, hx]
        rw [hxd] at hxg
        obtain ⟨fn, tmps, assign, body, hy, hR⟩ := hY _ ((bwd L).getD k (0, 0, [])) wr hJs (by rw [List.length_take, bwd_len]; omega)
        rw [hxg] at hy hR
        have HR : wr.rangeAt g ((L.length - 1 - k) * 65) (wrC x) := rangeAt_flat (rangeAt_below hr hnx l3) (fun y hy => by simp [wrC, p64 y hy]) hx
        have c2 : wr.cell? ⟨bq, 0, none⟩ = some (.slice (some ⟨g, 0, none⟩) L.length c) := (hnx.cell (p := ⟨bq, 0, none⟩) l1).trans c1
        have hx64 : (wrC x).length = 65 := by simp [wrC, p64 x (List.mem_of_getElem? hx)]
        have hwf : wrF x = wrC x := by unfold wrF; rw [fix64_eq (p64 x (List.mem_of_getElem? hx))]
        unfold encW at hy
        dsimp only at hy
        rw [hwf] at hy
        have HTS : Hid ((bwd L).take (k + 1) = (bwd L).take k ++ [(L.length - 1 - k, x)]) := by
          have : k < (bwd L).length := by rw [bwd_len]; exact hlt
          rw [Hid, List.take_succ_eq_append_getElem this]
          congr 2
          rw [← hxg, List.getD_eq_getElem?_getD, List.getElem?_eq_getElem this]; rfl
        obtain ⟨m, hm⟩ : ∃ m : Nat, m = L.length - 1 - k := ⟨_, rfl⟩
        rw [← hm] at hy hR HR HTS
        have hmi : (L.length : Int) - 1 - k = (m : Int) := by omega
        rw [hmi]
        have hm0 : (0 : Int) ≤ (m : Int) := by omega
        have hm1 : (m : Int) < (L.length : Int) := by omega
        have hm2 : (m : Int) ≤ 1000000 := by omega
        have HM := Lib.hid hm
        clear hr hxg hxd hm hmi hJs
        gi_wp2_with (refine wpli_load rfl _ _ rfl g (m * 65) (by rfl) hx64 HR bigWrote ?_)
        refine hR.mono ?_
        rintro e W3 (⟨rfl, hJ3, hk3⟩ | ⟨rfl, hJx3⟩)
        · clear c2 c1
          gi_wp2
          go_roundw
          case rel => exact ⟨k + 1, by omega, by have := HM.out; congr 1; omega, by rw [HTS.out]; exact hJ3, hnx.trans hk3⟩
          case measure => simp [intOf] <;> omega
        · gi_wp2
          refine bodyPost_ret (results_none rfl _ _ _) rfl ?_
          exact ⟨⟨_, rfl⟩, .inr ⟨(bwd L).take (k + 1), List.take_prefix _ _, by rw [HTS.out]; exact hJx3⟩⟩
      · obtain rfl : k = L.length := by omega
        have e1 : (L.length : Int) - 1 - L.length = -1 := by omega
        rw [e1]
        gi_wp2
        go_end0
        exact ⟨⟨_, rfl⟩, .inl ⟨_, by rw [← bwd_len, List.take_length], hJs⟩⟩
theorem bwd_stops (F : Fence) (n : Nat) (h7 : F.fn 119) (hro : F.round = none) (hn : 1 ≤ n) (bq n₀ : Nat) (L : List (Nat × List UInt8)) (w : World) (hn₀ : n₀ ≤ w.heap.size) (hS : BwAt n₀ w bq L) :
    SeqStopsK F n Tryz.prog 119 #[.pointer (some ⟨bq, 0, none⟩)] encW (Below n₀) (fun ys => ys = bwd L) (fun pre => pre <+: bwd L) L.length w := fun l J Jx W hW _ _ hY h0 =>
  bwd_in F n h7 hro hn l bq n₀ L J Jx hY W (hS.below (hW.mono hn₀)) h0
end Go.Proofs.YtjmocjcjiiopnaaGreat
end

section
set_option linter.unusedVariables false
set_option linter.unusedSimpArgs false
namespace Go.Dsk
/-- What a sector holds: the last pending write of it, or what is safe. -/
def Dk.at (D : Dk) (i : Nat) : List UInt8 := match (bwd D.pend).find? (fun y => y.2.1 == i) with
  | some y => y.2.2
  | none => D.safe.getD i []
def Dk.read (D : Dk) (i : Int) : Dk × List UInt8 × Nat := ((D.ready i).1, (if (D.ready i).2 = 0 then D.at i.toNat else List.replicate 64 0), (D.ready i).2)
theorem Dk.at_hit {D : Dk} {i : Nat} {pre : List (Nat × (Nat × List UInt8))} {x : Nat × (Nat × List UInt8)} (hp : pre ++ [x] <+: bwd D.pend) (h : ∀ y ∈ pre, y.2.1 ≠ i) (hx : x.2.1 = i) : D.at i = x.2.2 := by
  obtain ⟨s, hs⟩ := hp
  have : (bwd D.pend).find? (fun y => y.2.1 == i) = some x := by
    rw [← hs, List.append_assoc, List.find?_append]
    have : pre.find? (fun y => y.2.1 == i) = none := by
      rw [List.find?_eq_none]; intro y hy; simpa using h y hy
    rw [this]
    simp [hx]
  unfold Dk.at
  rw [this]
theorem Dk.at_miss {D : Dk} {i : Nat} (h : ∀ y ∈ bwd D.pend, y.2.1 ≠ i) : D.at i = D.safe.getD i [] := by
  have : (bwd D.pend).find? (fun y => y.2.1 == i) = none := by
    rw [List.find?_eq_none]; intro y hy; simpa using h y hy
  unfold Dk.at
  rw [this]
theorem bwd_mem {l : List (Nat × List UInt8)} {y : Nat × (Nat × List UInt8)} (h : y ∈ bwd l) : y.2 ∈ l := by
  unfold bwd at h
  obtain ⟨k, hk, rfl⟩ := List.mem_map.1 h
  have hk' := List.mem_range.1 hk
  simp only [List.getD_eq_getElem?_getD]
  rw [List.getElem?_eq_getElem (by omega)]
  exact List.getElem_mem _
end Go.Dsk
namespace Go.Proofs.YtjmocjcjiiopnaaGreat
open Go.RowKit Go.Ice Go.Oct Go.Dsk Go.Shelf
attribute [local go_sem] Oper.semAt_some
def zL64 : List Value := [.int .u8 0, .int .u8 0, .int .u8 0, .int .u8 0, .int .u8 0, .int .u8 0, .int .u8 0, .int .u8 0, .int .u8 0, .int .u8 0, .int .u8 0, .int .u8 0, .int .u8 0, .int .u8 0, .int .u8 0, .int .u8 0, .int .u8 0, .int .u8 0, .int .u8 0, .int .u8 0, .int .u8 0, .int .u8 0, .int .u8 0, .int .u8 0, .int .u8 0, .int .u8 0, .int .u8 0, .int .u8 0, .int .u8 0, .int .u8 0, .int .u8 0, .int .u8 0, .int .u8 0, .int .u8 0, .int .u8 0, .int .u8 0, .int .u8 0, .int .u8 0, .int .u8 0, .int .u8 0, .int .u8 0, .int .u8 0, .int .u8 0, .int .u8 0, .int .u8 0, .int .u8 0, .int .u8 0, .int .u8 0, .int .u8 0, .int .u8 0, .int .u8 0, .int .u8 0, .int .u8 0, .int .u8 0, .int .u8 0, .int .u8 0, .int .u8 0, .int .u8 0, .int .u8 0, .int .u8 0, .int .u8 0, .int .u8 0, .int .u8 0, .int .u8 0]
theorem zL_one : ∀ u ∈ zL64, u.oneCell' = true := u8v_one (List.replicate 64 0)
theorem zeroBlock : zL64 = (List.replicate 64 (0 : UInt8)).map u8v := rfl
theorem build_zeroB (w : World) : (Instr.build 38 #[]).run Tryz.prog w = .ok (.agg zL64.toArray) w := run_build w _ _ _ (by kernel_rfl)
/-- What Read leaves: its boxes, its results. -/
def rdA (e5 t4 t3 t2 : Nat) (r : List Value) (ev : Value) (i : Int) (p : Nat) : List Asn := [blkA e5 [ev] 32, blkA t4 r 38, blkA t3 [.int .i64 i] 3, blkA t2 [.pointer (some ⟨p, 0, none⟩)] 29]
set_option maxRecDepth 100000 in
set_option maxHeartbeats 16000000 in
theorem dread_err (p : Nat) (D : Dk) (i : Int) (h0 : (D.ready i).2 ≠ 0) : Meets Tryz.prog 42 #[.pointer (some ⟨p, 0, none⟩), .int .i64 i] [dskA p D] [] fun v L => v = .tuple #[blkV (List.replicate 64 0), .int .i64 (D.ready i).2] ∧ L = [dskA p (D.ready i).1] := by
  intro w B H
  have hbx := (((H.alloc [.pointer (some ⟨p, 0, none⟩)] 29).alloc [.int .i64 i] 3).alloc zL64 38).alloc [.int .i64 0] 32
  simp only [World.size_alloc] at hbx
  refine (callsIn_wide (n := 5)).1 ?_
  refine callsIn_of_wp_marks Tryz.func42 rfl trivial ?_ rfl
  simp only [Tryz.ntmps42, List.size_toArray, List.length_cons, List.length_nil, Nat.reduceAdd, Nat.reduceSub, Array.replicate_succ, Array.replicate_zero, List.push_toArray, List.append_toArray, List.nil_append, List.cons_append]
  refine wpIn_wide.2 ?_
  go_wp2_with fail
  refine ((ready p D i).call (M := [blkA _ _ _, blkA _ _ _, blkA _ _ _, blkA _ _ _]) (St.pick hbx [4, 0, 1, 2, 3]) (by simp)).mono ?_
  rintro e w1 ⟨v, L, rfl, ⟨rfl, rfl⟩, H1⟩
  have h0' : (((D.ready i).2 : Int) == 0) = false := by simp; omega
  clear h0
  generalize her : (D.ready i).2 = er at *
  have HER := Lib.hid her
  clear her
  have HT : w1.there (w.heap.size + 1 + 1) 0 64 := St.there H1 2 64
  obtain ⟨hce, hfe⟩ := St.cells H1 1
  go_upto_region 3 with fail
  go_step
  refine wpl_build rfl _ _ rfl (vals := #[]) (by simp) (build_zeroB w1) ?_
  simp only [Act.put, List.setIfInBounds_toArray, List.set_cons_succ, List.set_cons_zero]
  generalize hz : zL64 = zl at *
  have hz64 : zl.length = 64 := by rw [← hz]; rfl
  have hz1 : ∀ u ∈ zl, u.oneCell' = true := by rw [← hz]; exact zL_one
  have H3 := St.setAllAt H1 2 (vs := zl)
  clear hce hfe
  go_wp2_with ((refine wpl_store rfl _ _ _ rfl (w.heap.size + 1 + 1) 0 (by rfl) zl (by rfl) 64 hz64 HT bigBlock hz1 ?_); (refine wpl_world _ H3 ?_); intro w2 H2; (obtain ⟨hce, hfe⟩ := St.cells H2 1))
  have H4 := H2.set1 0 (.int .i64 er)
  obtain ⟨hc4, hf4⟩ := St.cells H4 1
  refine ⟨_, results2 (n := 64) rfl rfl rfl hz64 bigBlock (St.range H4 2) (v := .int .i64 er) (by simp [loadVar, go_sem, hc4]), ?_⟩
  rw [← hz]
  exact Back.mk ⟨by rw [HER.out]; rfl, rfl⟩ (St.pick H4 [0])
end Go.Proofs.YtjmocjcjiiopnaaGreat
end
