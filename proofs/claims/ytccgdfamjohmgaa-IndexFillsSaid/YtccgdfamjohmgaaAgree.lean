/- The laws' helper agree: an index and the document's index that hold the same entries agree. Condition: both hold the same entries. -/
import Derived.Test.YtccgdfamjohmgaaSeq
import Derived.Test.YtccgdfamjohmgaaRefA
import Derived.Test.YtccgdfamjohmgaaOrdIn
set_option linter.unusedVariables false
namespace Go.Proofs.Ytccgdfamjohmgaa
open Go.RowKit Go.Ice Go.Shelf

attribute [local go_sem] Oper.semAt_some
set_option maxRecDepth 100000 in
set_option maxHeartbeats 16000000 in
theorem agree (w0 w : World) (L : Lay) (N : Nat) (A : List (Nat × Adr)) (v : Value) (h : Own1 w0 w L N A) (hv : EntAt w v A) :
    Calls Try.prog 20 #[.pointer (some ⟨L.bx, 0, none⟩), .agg #[.int .i64 N, v]] w fun e w' => e = .returned (.bool true) ∧ Below w.heap.size w w' := by
  obtain ⟨hAN, hN1, hN2⟩ := h.here.le
  obtain ⟨a, cap, rfl, hm⟩ := RowAt.form hv
  obtain ⟨W1, hW1⟩ : ∃ W1, W1 = (w.alloc (.cells #[.int .i64 N, .slice a A.length cap] 46)).alloc (.cells #[.bool false] 4) := ⟨_, rfl⟩
  have hb1 : Below w.heap.size w W1 := by rw [hW1]; exact ((Below.refl _ w).alloc (Nat.le_refl _) _).alloc (by simp) _
  have hx1 : W1.heap[w.heap.size]? = some (.cells #[.int .i64 N, .slice a A.length cap] 46 (0, 0)) := by rw [hW1, Below.heap_alloc _ _ _ (by simp)]; exact heap_alloc_new w _
  have hx2 : W1.heap[w.heap.size + 1]? = some (.cells #[.bool false] 4 (0, 0)) := by
    have := heap_alloc_new (w.alloc (.cells #[.int .i64 N, .slice a A.length cap] 46)) (.cells #[.bool false] 4)
    rw [World.size_alloc] at this
    rw [hW1]; exact this
  have HI1 := Lib.hid (h.here.below hb1)
  have HV := Lib.hid hv
  have HW := Lib.hid hW1.symm
  have HB1 := Lib.hid hb1
  have HX1 := Lib.hid hx1
  have HX2 := Lib.hid hx2
  clear hW1 h hv hb1 hx1 hx2
  have HLN : Hid (∀ m, Calls Try.prog 17 #[.pointer (some ⟨L.bx, 0, none⟩)] (W1.drewN m) fun e w' => e = .returned (.int .i64 A.length) ∧ w' = W1.drewN m) := fun m => (len_at _ L N A (HI1.out.below (drewN_below W1 m))).mono fun e w' ⟨h1, h2⟩ => ⟨h1, h2.symm⟩
  have HLF : Hid (∀ m, Calls Try.prog 18 #[.pointer (some ⟨L.bx, 0, none⟩)] (W1.drewN m) fun e w' => e = .returned (.int .i64 ((N - A.length : Nat) : Int)) ∧ ∃ k, w' = (W1.drewN m).drewN k) := fun m => left_at _ L N A (HI1.out.below (drewN_below W1 m))
  obtain ⟨n, hn⟩ : ∃ n, n = A.length := ⟨_, rfl⟩
  rw [← hn] at hm HW HX1 HLN HLF hAN
  have HN := Lib.hid hn
  clear hn
  obtain ⟨nb, hnb⟩ : ∃ nb, nb = N - n := ⟨_, rfl⟩
  rw [← hnb] at HLF
  have t1 : ((n : Int) != (n : Int)) = false := by simp
  have t2 : ((nb : Int) != (N : Int) - (n : Int)) = false := by
    rw [bne_eq_false_iff_eq]; omega
  have hnb2 : nb ≤ 1024 := by omega
  clear hnb
  unfold maxLen at hm
  have q1 : W1.cell? ⟨w.heap.size, 1, none⟩ = some (.slice a n cap) := blk_cell HX1.out 1
  have q0 : W1.cell? ⟨w.heap.size, 0, none⟩ = some (.int .i64 N) := blk_cell HX1.out 0
  refine (callsIn_wide (n := 5)).1 ?_
  refine callsIn_of_wp_marks Try.func20 rfl trivial ?_ rfl
  simp only [Try.ntmps20, List.size_toArray, List.length_cons, List.length_nil, Nat.reduceAdd, Nat.reduceSub, Array.replicate_succ, Array.replicate_zero, List.push_toArray, List.append_toArray, List.nil_append, List.cons_append]
  rw [← HN.out]
  refine wpIn_wide.2 ?_
  go_wp2_with fail
  rw [HW.out]
  go_quiet ((first | (go_at_call 17; exact Calls.quiet_of_same (HLN.out _)) | (go_at_call 18; exact Calls.quiet_of (HLF.out _))))
  go_wp2_with fail
  refine (all_at _ L N A (HI1.out.below (drewN_below W1 nq))).mono ?_
  rintro e W2 ⟨vF, vA, rfl, s1, s2, s3, s4, hb2⟩
  have hs := seqAt_of (by rw [← HN.out]; omega) s1 s2 s3 s4
  have HB2 : Hid (Below W1.heap.size W1 W2) := (drewN_below W1 nq).trans hb2
  have HS2 := Lib.hid hs
  clear s1 s2 s3 s4 hb2 hs q0 q1 t1 t2
  have hnil : ∀ (x : Array Value) (W : World), (binOp .eql 54 (.func (.func 29) #[] x) .nilFunc).run Try.prog W = .ok (.bool false) W := fun x W => by kernel_rfl
  go_wp2_with fail
  have HX12 : Hid (W2.heap[w.heap.size]? = some (.cells #[.int .i64 N, .slice a n cap] 46 (0, 0))) := blk_below HX1.out HB2.out (Array.getElem?_eq_some_iff.1 HX1.out).1
  have HX22 : Hid (W2.heap[w.heap.size + 1]? = some (.cells #[.bool false] 4 (0, 0))) := blk_below HX2.out HB2.out (Array.getElem?_eq_some_iff.1 HX2.out).1
  have hl12 : w.heap.size + 1 < W1.heap.size := (Array.getElem?_eq_some_iff.1 HX2.out).1
  have hl22 : W1.heap.size ≤ W2.heap.size := HB2.out.size
  clear hnil
  refine wp_loop_rounds 3 ?_
  rw [rounds_succ]
  go_wp2_with fail
  obtain ⟨V0, hV0⟩ : ∃ V0, V0 = (W2.alloc (.cells #[.int .i64 0] 3)).alloc (.cells #[.int .i64 0] 3) := ⟨_, rfl⟩
  rw [← hV0]
  have hvs : V0.heap.size = W2.heap.size + 2 := by rw [hV0]; simp
  have HVB0 : Hid (Below W2.heap.size W2 V0) := by
    show Below _ _ _
    rw [hV0]; exact ((Below.refl _ W2).alloc (Nat.le_refl _) _).alloc (by simp) _
  have HB60 : Hid (Boxed V0 W2.heap.size 3 (.int .i64 0)) := by
    show Boxed _ _ _ _
    rw [hV0]; exact (Boxed.new W2 3 _).alloc _
  have HB70 : Hid (Boxed V0 (W2.heap.size + 1) 3 (.int .i64 0)) := by
    show Boxed _ _ _ _
    have := Boxed.new (W2.alloc (.cells #[.int .i64 0] 3)) 3 (.int .i64 0)
    rw [World.size_alloc] at this
    rw [hV0]; exact this
  have HWB0 : Hid (Below w.heap.size w V0) := HB1.out.trans ((HB2.out.trans (HVB0.out.mono HB2.out.size)).mono HB1.out.size)
  have HVS := Lib.hid hvs
  clear hV0 hvs
  have hvs : V0.heap.size ≥ W2.heap.size + 2 := by rw [HVS.out]; omega
  -- ROUND0
  refine (wpIn_wide (n := 5)).1 ?_
  refine wpIn_rangeFunc_ownH rfl (by omega) (gf := 29) (lb := #[.pointer (some ⟨W1.heap.size, 0, none⟩), .pointer (some ⟨W1.heap.size + 1, 0, none⟩)]) rfl trivial (enters_of Try.func29 (by kernel_rfl) rfl)
    (all_stops Fence.wide _ trivial rfl (by omega) W1.heap.size (W1.heap.size + 1) W2.heap.size A V0 (by omega) (HS2.out.below HVB0.out)) belowK_t (belowK_b (by omega)) (Below.refl _ _) (fun _ => rfl)
    (fun pre W => (Below (W2.heap.size + 1) V0 W ∧ Boxed W (W2.heap.size + 1) 3 (.int .i64 pre.length)) ∧ pre <+: A)
    (fun c pre W => (c = .ret ∧ ¬ pre <+: A))
    (OwnFrom.and (OwnFrom.and (ownFrom_below (by omega) (by omega)) (Own.from (boxed_own _ _ (fun (pre : List (Nat × Adr)) => .int .i64 (pre.length : Int))) _)) (ownFrom_pure _ (fun (pre : List (Nat × Adr)) => pre <+: A)))
    (fun c => ownFrom_pure _ (fun (pre : List (Nat × Adr)) => c = .ret ∧ ¬ pre <+: A))
    ⟨⟨Below.refl _ _, HB70.out⟩, List.nil_prefix⟩
    (fun x a' W => ∃ Bx, (W2.heap.size + 1) < Bx ∧ W.heap[Bx]? = some (.cells #[.int .i64 x.2.seg, .int .u64 x.2.gen, .int .i64 x.2.sec] 32 (0, 0)) ∧ a' = { tmps := #[.pointer (some ⟨L.bx, 0, none⟩), .agg #[.int .i64 N, .slice a n cap], undef, .pointer (some ⟨w.heap.size, 0, none⟩), .pointer (some ⟨w.heap.size + 1, 0, none⟩), .func (.func 29) #[] #[.pointer (some ⟨W1.heap.size, 0, none⟩), .pointer (some ⟨W1.heap.size + 1, 0, none⟩)], .pointer (some ⟨W2.heap.size, 0, none⟩), .pointer (some ⟨(W2.heap.size + 1), 0, none⟩), .int .u32 x.1, .pointer (some ⟨Bx, 0, none⟩), .pointer (some ⟨L.bx, 0, none⟩), .int .i64 n, .pointer (some ⟨w.heap.size, 1, none⟩), .slice a n cap, .int .i64 n, .bool false, .bool false, .pointer (some ⟨L.bx, 0, none⟩), .int .i64 nb, .pointer (some ⟨w.heap.size, 0, none⟩), .int .i64 N, .pointer (some ⟨w.heap.size, 1, none⟩), .slice a n cap, .int .i64 n, .int .i64 ((N : Int) - (n : Int)), .bool false, .bool false, .pointer (some ⟨L.bx, 0, none⟩), .func (.func 29) #[] #[.pointer (some ⟨W1.heap.size, 0, none⟩), .pointer (some ⟨W1.heap.size + 1, 0, none⟩)], .func (.func 29) #[] #[.pointer (some ⟨W1.heap.size, 0, none⟩), .pointer (some ⟨W1.heap.size + 1, 0, none⟩)], .bool false, .int .i64 0, .bool true, undef, undef, .func (.func 29) #[] #[.pointer (some ⟨W1.heap.size, 0, none⟩), .pointer (some ⟨W1.heap.size + 1, 0, none⟩)], .int .u32 x.1, .agg #[.int .i64 x.2.seg, .int .u64 x.2.gen, .int .i64 x.2.sec], undef, undef, undef, undef, undef, undef, undef, undef, undef, undef, undef, undef, undef, undef, undef, undef, undef, undef, undef, undef, undef, undef, undef, undef, undef, undef, undef, undef, undef, undef, undef, undef, undef, undef], defers := [] })
    (fun x a' _ X Y row hs hg hr => by
      obtain ⟨Bx, h1, h2, h3⟩ := hs
      refine ⟨Bx, h1, (hg.block Bx (Array.getElem?_eq_some_iff.1 h2).1 (fun e => ?_)).trans h2, h3⟩
      obtain ⟨_, o, ho, hc⟩ := hr Bx e.symm
      rw [h2] at ho; injection ho with ho; rw [← ho] at hc; cases hc)
    ?assign0 ?body0 ?done0 ?stop0
  case assign0 =>
    rintro l pre x W K ⟨⟨hI1, hI2⟩, hI3⟩ hK
    unfold encE
    gi_wp2
    have hs := hI1.size
    exact hK _ _ ((KeepsOthers.alloc _ _).from _) ((Below.refl _ W).alloc (by omega) _) ⟨⟨hI1.alloc (by omega) _, hI2.alloc _⟩, hI3⟩ ⟨W.heap.size, hI2.lt, heap_alloc_new W _, rfl⟩
  case body0 =>
    rintro l pre x a' W hl _ ⟨⟨hI1, hI2⟩, hI3⟩ ⟨Bx, hBx, hbx, rfl⟩ hlt
    have hsW := hI1.size
    have hF := fun (b : Nat) (o : Obj) (h : W2.heap[b]? = some o) (hb : b < W2.heap.size) => blk_below (blk_below h HVB0.out hb) hI1 (show b < (W2.heap.size + 1) by omega)
    have k1 := hF _ _ HX12.out (by omega)
    have k2 := hF _ _ HX22.out (by omega)
    have e1 : W.cell? ⟨w.heap.size, 1, none⟩ = some (.slice a n cap) := blk_cell k1 1
    have e2 : W.cell? ⟨w.heap.size + 1, 0, none⟩ = some (.bool false) := blk_cell k2 0
    have e3 : W.frozen? ⟨w.heap.size + 1, 0, none⟩ = false := blk_frozen k2 0
    have e4 : W.cell? ⟨W2.heap.size, 0, none⟩ = some (.int .i64 0) := blk_cell (blk_below HB60.out hI1 (by omega)) 0
    have e5 : W.cell? ⟨(W2.heap.size + 1), 0, none⟩ = some (.int .i64 pre.length) := blk_cell hI2 0
    have e6 : W.frozen? ⟨(W2.heap.size + 1), 0, none⟩ = false := blk_frozen hI2 0
    have e7 : W.cell? ⟨Bx, 0, none⟩ = some (.int .i64 x.2.seg) := blk_cell hbx 0
    have e8 : W.cell? ⟨Bx, 1, none⟩ = some (.int .u64 x.2.gen) := blk_cell hbx 1
    have e9 : W.cell? ⟨Bx, 2, none⟩ = some (.int .i64 x.2.sec) := blk_cell hbx 2
    obtain ⟨b, off, cap', hsl, g1, g2, g3, hc⟩ := HV.out.at (by omega)
    obtain ⟨rfl, rfl⟩ : a = some ⟨b, off, none⟩ ∧ cap = cap' := by cases hsl; exact ⟨rfl, rfl⟩
    obtain ⟨c0, c1, c2, c3⟩ := hc pre.length hlt W (HWB0.out.trans (hI1.mono (by omega)))
    have hpre : pre.length < n := by rw [HN.out]; exact hlt
    have hnx : ∀ (h : x = A.getD pre.length default), pre ++ [x] <+: A := fun h => by
      obtain ⟨s, hs⟩ := hI3
      have h2 := take_snoc_getD A pre.length hlt
      rw [show A.take pre.length = pre from by rw [← hs]; simp, ← h] at h2
      rw [← h2]; exact List.take_prefix _ _
    have hnx2 : ∀ (h : x ≠ A.getD pre.length default), ¬ pre ++ [x] <+: A := fun h hp => by
      apply h
      obtain ⟨s, hs⟩ := hp
      rw [← hs]; simp [List.getD_eq_getElem?_getD]
    have HNX := Lib.hid hnx
    have HNX2 := Lib.hid hnx2
    have HI1 := Lib.hid hI1
    have HI2 := Lib.hid hI2
    have HI3 := Lib.hid hI3
    clear hc hsl hnx hnx2 hF k1 k2 hI1 hI2 hI3 hbx
    obtain ⟨z, hz⟩ : ∃ z, z = A.getD pre.length default := ⟨_, rfl⟩
    rw [← hz] at c0 c1 c2 c3 HNX HNX2
    clear hz
    obtain ⟨k, hk⟩ : ∃ k, k = pre.length := ⟨_, rfl⟩
    rw [← hk] at e5 c0 c1 c2 c3 hpre
    have HKL := Lib.hid hk
    clear hk
    have hgeq : ¬ (n : Int) ≤ (k : Int) := by omega
    have hgd : decide ((n : Int) ≤ (k : Int)) = false := by simp; omega
    rcases entTest x z with ⟨he, t1, h⟩ | ⟨he, h⟩
    · rcases h with ⟨_, t2, t3, t4⟩ | ⟨h, _⟩
      · have HXZ := Lib.hid (of_decide_eq_true he)
        clear he
        gi_wp2_with fail
        refine wpIn_region_inv (by kernel_rfl) (hord_of2 (by kernel_rfl)) (fun done ac WW => ac = { tmps := #[.pointer (some ⟨L.bx, 0, none⟩), .agg #[.int .i64 N, .slice (some ⟨b, off, none⟩) n cap], undef, .pointer (some ⟨w.heap.size, 0, none⟩), .pointer (some ⟨w.heap.size + 1, 0, none⟩), .func (.func 29) #[] #[.pointer (some ⟨W1.heap.size, 0, none⟩), .pointer (some ⟨W1.heap.size + 1, 0, none⟩)], .pointer (some ⟨W2.heap.size, 0, none⟩), .pointer (some ⟨(W2.heap.size + 1), 0, none⟩), .int .u32 x.1, .pointer (some ⟨Bx, 0, none⟩), .pointer (some ⟨L.bx, 0, none⟩), .int .i64 n, .pointer (some ⟨w.heap.size, 1, none⟩), .slice (some ⟨b, off, none⟩) n cap, .int .i64 n, .bool false, .bool false, .pointer (some ⟨L.bx, 0, none⟩), .int .i64 nb, .pointer (some ⟨w.heap.size, 0, none⟩), .int .i64 N, .pointer (some ⟨w.heap.size, 1, none⟩), .slice (some ⟨b, off, none⟩) n cap, .int .i64 n, .int .i64 ((N : Int) - (n : Int)), .bool false, .bool false, .pointer (some ⟨L.bx, 0, none⟩), .func (.func 29) #[] #[.pointer (some ⟨W1.heap.size, 0, none⟩), .pointer (some ⟨W1.heap.size + 1, 0, none⟩)], .func (.func 29) #[] #[.pointer (some ⟨W1.heap.size, 0, none⟩), .pointer (some ⟨W1.heap.size + 1, 0, none⟩)], .bool false, .int .i64 0, .bool true, undef, undef, .func (.func 29) #[] #[.pointer (some ⟨W1.heap.size, 0, none⟩), .pointer (some ⟨W1.heap.size + 1, 0, none⟩)], .int .u32 x.1, .agg #[.int .i64 x.2.seg, .int .u64 x.2.gen, .int .i64 x.2.sec], if done 0 then (.int .i64 k) else undef, if done 1 then (.pointer (some ⟨w.heap.size, 1, none⟩)) else undef, if done 2 then (.slice (some ⟨b, off, none⟩) n cap) else undef, if done 3 then (.int .i64 n) else undef, if done 4 then (.bool false) else undef, if done 5 then (.bool false) else undef, if done 6 then (.int .u32 x.1) else undef, if done 7 then (.agg #[.int .i64 x.2.seg, .int .u64 x.2.gen, .int .i64 x.2.sec]) else undef, if done 8 then (.agg #[.int .u32 x.1, .int .i64 x.2.seg, .int .u64 x.2.gen, .int .i64 x.2.sec]) else undef, if done 9 then (.pointer (some ⟨w.heap.size, 1, none⟩)) else undef, if done 10 then (.slice (some ⟨b, off, none⟩) n cap) else undef, if done 11 then (.int .i64 k) else undef, if done 12 then (.pointer (some ⟨b, off + k * 4, none⟩)) else undef, if done 13 then (.agg #[.int .u32 z.1, .int .i64 z.2.seg, .int .u64 z.2.gen, .int .i64 z.2.sec]) else undef, if done 14 then (.bool false) else undef, if done 15 then (.bool false) else undef, undef, undef, undef, undef, undef, undef, undef, undef, undef, undef, undef, undef, undef, undef, undef, undef, undef, undef], defers := [] } ∧ WW = W.drew) ?_ ?_ ?_
        · exact ⟨by simp, rfl⟩
        · intro done ac WW j oq ho hd hdep hcl ⟨hlit, hww⟩
          have hj : j < 16 := (Array.getElem?_eq_some_iff.1 ho).1
          subst hlit hww
          obtain rfl | rfl | rfl | rfl | rfl | rfl | rfl | rfl | rfl | rfl | rfl | rfl | rfl | rfl | rfl | rfl : j = 0 ∨ j = 1 ∨ j = 2 ∨ j = 3 ∨ j = 4 ∨ j = 5 ∨ j = 6 ∨ j = 7 ∨ j = 8 ∨ j = 9 ∨ j = 10 ∨ j = 11 ∨ j = 12 ∨ j = 13 ∨ j = 14 ∨ j = 15 := by omega
          · refine wpOpIn_val ho (by cases ho; rfl) (w' := W.drew) (v := (.int .i64 k)) (by cases ho; rfl) (by cases ho; exact fun c h => by cases h) (by cases ho; simp [execOp, go_sem, e5]) ?_
            cases ho
            exact ⟨by simp [Act.put], rfl⟩
          · refine wpOpIn_val ho (by cases ho; rfl) (w' := W.drew) (v := (.pointer (some ⟨w.heap.size, 1, none⟩))) (by cases ho; rfl) (by cases ho; exact fun c h => by cases h) (by cases ho; simp [execOp, go_sem]) ?_
            cases ho
            exact ⟨by simp [Act.put], rfl⟩
          · have p1 : done 1 = true := by cases ho; exact hdep ⟨1, .data⟩ (by simp) rfl
            refine wpOpIn_val ho (by cases ho; rfl) (w' := W.drew) (v := (.slice (some ⟨b, off, none⟩) n cap)) (by cases ho; rfl) (by cases ho; exact fun c h => by cases h) (by cases ho; simp [execOp, go_sem, p1, e1]) ?_
            cases ho
            exact ⟨by simp [Act.put], rfl⟩
          · have p2 : done 2 = true := by cases ho; exact hdep ⟨2, .data⟩ (by simp) rfl
            refine wpOpIn_val ho (by cases ho; rfl) (w' := W.drew) (v := (.int .i64 n)) (by cases ho; simp [Oper.about, go_sem]) (by cases ho; exact fun c h => by cases h) (by cases ho; simp [execOp, go_sem, p2]) ?_
            cases ho
            exact ⟨by simp [Act.put], rfl⟩
          · have p0 : done 0 = true := by cases ho; exact hdep ⟨0, .data⟩ (by simp) rfl
            have p3 : done 3 = true := by cases ho; exact hdep ⟨3, .data⟩ (by simp) rfl
            refine wpOpIn_val ho (by cases ho; rfl) (w' := W.drew) (v := (.bool false)) (by cases ho; rfl) (by cases ho; exact fun c h => by cases h) (by cases ho; simp [execOp, go_sem, p0, p3, hpre]) ?_
            cases ho
            exact ⟨by simp [Act.put], rfl⟩
          · have p4 : done 4 = true := by cases ho; exact hdep ⟨4, .data⟩ (by simp) rfl
            refine wpOpIn_val ho (by cases ho; rfl) (w' := W.drew) (v := (.bool false)) (by cases ho; rfl) (by cases ho; exact fun c h => by cases h) (by cases ho; simp [execOp, go_sem, p4]) ?_
            cases ho
            exact ⟨by simp [Act.put], rfl⟩
          · have p5 : done 5 = true := by cases ho; exact hdep ⟨5, .guard⟩ (by simp) rfl
            refine wpOpIn_val ho (by cases ho; simp [Region.wanted, yielded, p5]) (w' := W.drew) (v := (.int .u32 x.1)) (by cases ho; rfl) (by cases ho; exact fun c h => by cases h) (by cases ho; simp [execOp, go_sem]) ?_
            cases ho
            exact ⟨by simp [Act.put], rfl⟩
          · have p5 : done 5 = true := by cases ho; exact hdep ⟨5, .guard⟩ (by simp) rfl
            refine wpOpIn_val ho (by cases ho; simp [Region.wanted, yielded, p5]) (w' := W.drew) (v := (.agg #[.int .i64 x.2.seg, .int .u64 x.2.gen, .int .i64 x.2.sec])) (by cases ho; rfl) (by cases ho; exact fun c h => by cases h) (by cases ho; simp [execOp, go_sem, e7, e8, e9]) ?_
            cases ho
            exact ⟨by simp [Act.put], rfl⟩
          · have p6 : done 6 = true := by cases ho; exact hdep ⟨6, .data⟩ (by simp) rfl
            have p7 : done 7 = true := by cases ho; exact hdep ⟨7, .data⟩ (by simp) rfl
            have p5 : done 5 = true := by cases ho; exact hdep ⟨5, .guard⟩ (by simp) rfl
            refine wpOpIn_val ho (by cases ho; simp [Region.wanted, yielded, p5]) (w' := W.drew) (v := (.agg #[.int .u32 x.1, .int .i64 x.2.seg, .int .u64 x.2.gen, .int .i64 x.2.sec])) (by cases ho; rfl) (by cases ho; exact fun c h => by cases h) (by cases ho; simp [execOp, go_sem, p6, p7]) ?_
            cases ho
            exact ⟨by simp [Act.put], rfl⟩
          · have p5 : done 5 = true := by cases ho; exact hdep ⟨5, .guard⟩ (by simp) rfl
            refine wpOpIn_val ho (by cases ho; simp [Region.wanted, yielded, p5]) (w' := W.drew) (v := (.pointer (some ⟨w.heap.size, 1, none⟩))) (by cases ho; rfl) (by cases ho; exact fun c h => by cases h) (by cases ho; simp [execOp, go_sem]) ?_
            cases ho
            exact ⟨by simp [Act.put], rfl⟩
          · have p9 : done 9 = true := by cases ho; exact hdep ⟨9, .data⟩ (by simp) rfl
            have p5 : done 5 = true := by cases ho; exact hdep ⟨5, .guard⟩ (by simp) rfl
            refine wpOpIn_val ho (by cases ho; simp [Region.wanted, yielded, p5]) (w' := W.drew) (v := (.slice (some ⟨b, off, none⟩) n cap)) (by cases ho; rfl) (by cases ho; exact fun c h => by cases h) (by cases ho; simp [execOp, go_sem, p9, e1]) ?_
            cases ho
            exact ⟨by simp [Act.put], rfl⟩
          · have p5 : done 5 = true := by cases ho; exact hdep ⟨5, .guard⟩ (by simp) rfl
            refine wpOpIn_val ho (by cases ho; simp [Region.wanted, yielded, p5]) (w' := W.drew) (v := (.int .i64 k)) (by cases ho; rfl) (by cases ho; exact fun c h => by cases h) (by cases ho; simp [execOp, go_sem, e5]) ?_
            cases ho
            exact ⟨by simp [Act.put], rfl⟩
          · have p10 : done 10 = true := by cases ho; exact hdep ⟨10, .data⟩ (by simp) rfl
            have p11 : done 11 = true := by cases ho; exact hdep ⟨11, .data⟩ (by simp) rfl
            have p5 : done 5 = true := by cases ho; exact hdep ⟨5, .guard⟩ (by simp) rfl
            refine wpOpIn_val ho (by cases ho; simp [Region.wanted, yielded, p5]) (w' := W.drew) (v := (.pointer (some ⟨b, off + k * 4, none⟩))) (by cases ho; rfl) (by cases ho; exact fun c h => by cases h) (by cases ho; simp [execOp, go_sem, p10, p11, Nat.not_le.2 hpre]) ?_
            cases ho
            exact ⟨by simp [Act.put], rfl⟩
          · have p12 : done 12 = true := by cases ho; exact hdep ⟨12, .data⟩ (by simp) rfl
            have p5 : done 5 = true := by cases ho; exact hdep ⟨5, .guard⟩ (by simp) rfl
            refine wpOpIn_val ho (by cases ho; simp [Region.wanted, yielded, p5]) (w' := W.drew) (v := (.agg #[.int .u32 z.1, .int .i64 z.2.seg, .int .u64 z.2.gen, .int .i64 z.2.sec])) (by cases ho; rfl) (by cases ho; exact fun c h => by cases h) (by cases ho; simp [execOp, go_sem, p12, c0, c1, c2, c3]) ?_
            cases ho
            exact ⟨by simp [Act.put], rfl⟩
          · have p8 : done 8 = true := by cases ho; exact hdep ⟨8, .data⟩ (by simp) rfl
            have p13 : done 13 = true := by cases ho; exact hdep ⟨13, .data⟩ (by simp) rfl
            have p5 : done 5 = true := by cases ho; exact hdep ⟨5, .guard⟩ (by simp) rfl
            refine wpOpIn_val ho (by cases ho; simp [Region.wanted, yielded, p5]) (w' := W.drew) (v := (.bool false)) (by cases ho; rfl) (by cases ho; exact fun c h => by cases h) (by cases ho; simp [execOp, go_sem, p8, p13, t1, t2, t3, t4]) ?_
            cases ho
            exact ⟨by simp [Act.put], rfl⟩
          · have p5 : done 5 = true := by cases ho; exact hdep ⟨5, .data⟩ (by simp) rfl
            have p14 : done 14 = true := by cases ho; exact hdep ⟨14, .data⟩ (by simp) rfl
            refine wpOpIn_val ho (by cases ho; rfl) (w' := W.drew) (v := (.bool false)) (by cases ho; rfl) (by cases ho; exact fun c h => by cases h) (by cases ho; simp [execOp, go_sem, p5, p14]) ?_
            cases ho
            exact ⟨by simp [Act.put], rfl⟩
        · rintro done ac WW hall ⟨rfl, rfl⟩
          have d0 := hall 0 (by decide)
          have d1 := hall 1 (by decide)
          have d2 := hall 2 (by decide)
          have d3 := hall 3 (by decide)
          have d4 := hall 4 (by decide)
          have d5 := hall 5 (by decide)
          have d6 := hall 6 (by decide)
          have d7 := hall 7 (by decide)
          have d8 := hall 8 (by decide)
          have d9 := hall 9 (by decide)
          have d10 := hall 10 (by decide)
          have d11 := hall 11 (by decide)
          have d12 := hall 12 (by decide)
          have d13 := hall 13 (by decide)
          have d14 := hall 14 (by decide)
          have d15 := hall 15 (by decide)
          simp only [d0, d1, d2, d3, d4, d5, d6, d7, d8, d9, d10, d11, d12, d13, d14, d15, if_true]
          clear hall d0 d1 d2 d3 d4 d5 d6 d7 d8 d9 d10 d11 d12 d13 d14 d15
          gi_wp2_with fail
          have hbx2 : Boxed (W.drew.setCell ⟨(W2.heap.size + 1), 0, none⟩ (.int .i64 ((k : Int) + 1))) (W2.heap.size + 1) 3 (.int .i64 (pre ++ [x]).length) := by
            have h1 := (show Boxed W.drew (W2.heap.size + 1) 3 (.int .i64 pre.length) from HI2.out).set (.int .i64 ((k : Int) + 1))
            rw [List.length_append, ← HKL.out]
            simpa using h1
          have hbl2 : Below (W2.heap.size + 1) V0 (W.drew.setCell ⟨(W2.heap.size + 1), 0, none⟩ (.int .i64 ((k : Int) + 1))) := HI1.out.drew.setCell (p := ⟨(W2.heap.size + 1), 0, none⟩) (Nat.le_refl _) _
          exact ⟨((KeepsOthers.drew _).trans (KeepsOthers.setCell _ _ _)).from _, ((Below.refl W2.heap.size W).drew).setCell (p := ⟨(W2.heap.size + 1), 0, none⟩) (show W2.heap.size ≤ (W2.heap.size + 1) by omega) _, ⟨hbl2, hbx2⟩, HNX.out HXZ.out⟩
      · cases h
    · have HXZ := Lib.hid (of_decide_eq_false he)
      clear he
      rcases h with t1 | ⟨t1, ⟨h, _⟩ | ⟨_, t2 | ⟨t2, t3 | ⟨t3, t4⟩⟩⟩⟩
      rotate_left
      · cases h
      · gi_wp2_with fail
        refine wpIn_region_inv (by kernel_rfl) (hord_of2 (by kernel_rfl)) (fun done ac WW => ac = { tmps := #[.pointer (some ⟨L.bx, 0, none⟩), .agg #[.int .i64 N, .slice (some ⟨b, off, none⟩) n cap], undef, .pointer (some ⟨w.heap.size, 0, none⟩), .pointer (some ⟨w.heap.size + 1, 0, none⟩), .func (.func 29) #[] #[.pointer (some ⟨W1.heap.size, 0, none⟩), .pointer (some ⟨W1.heap.size + 1, 0, none⟩)], .pointer (some ⟨W2.heap.size, 0, none⟩), .pointer (some ⟨(W2.heap.size + 1), 0, none⟩), .int .u32 x.1, .pointer (some ⟨Bx, 0, none⟩), .pointer (some ⟨L.bx, 0, none⟩), .int .i64 n, .pointer (some ⟨w.heap.size, 1, none⟩), .slice (some ⟨b, off, none⟩) n cap, .int .i64 n, .bool false, .bool false, .pointer (some ⟨L.bx, 0, none⟩), .int .i64 nb, .pointer (some ⟨w.heap.size, 0, none⟩), .int .i64 N, .pointer (some ⟨w.heap.size, 1, none⟩), .slice (some ⟨b, off, none⟩) n cap, .int .i64 n, .int .i64 ((N : Int) - (n : Int)), .bool false, .bool false, .pointer (some ⟨L.bx, 0, none⟩), .func (.func 29) #[] #[.pointer (some ⟨W1.heap.size, 0, none⟩), .pointer (some ⟨W1.heap.size + 1, 0, none⟩)], .func (.func 29) #[] #[.pointer (some ⟨W1.heap.size, 0, none⟩), .pointer (some ⟨W1.heap.size + 1, 0, none⟩)], .bool false, .int .i64 0, .bool true, undef, undef, .func (.func 29) #[] #[.pointer (some ⟨W1.heap.size, 0, none⟩), .pointer (some ⟨W1.heap.size + 1, 0, none⟩)], .int .u32 x.1, .agg #[.int .i64 x.2.seg, .int .u64 x.2.gen, .int .i64 x.2.sec], if done 0 then (.int .i64 k) else undef, if done 1 then (.pointer (some ⟨w.heap.size, 1, none⟩)) else undef, if done 2 then (.slice (some ⟨b, off, none⟩) n cap) else undef, if done 3 then (.int .i64 n) else undef, if done 4 then (.bool false) else undef, if done 5 then (.bool false) else undef, if done 6 then (.int .u32 x.1) else undef, if done 7 then (.agg #[.int .i64 x.2.seg, .int .u64 x.2.gen, .int .i64 x.2.sec]) else undef, if done 8 then (.agg #[.int .u32 x.1, .int .i64 x.2.seg, .int .u64 x.2.gen, .int .i64 x.2.sec]) else undef, if done 9 then (.pointer (some ⟨w.heap.size, 1, none⟩)) else undef, if done 10 then (.slice (some ⟨b, off, none⟩) n cap) else undef, if done 11 then (.int .i64 k) else undef, if done 12 then (.pointer (some ⟨b, off + k * 4, none⟩)) else undef, if done 13 then (.agg #[.int .u32 z.1, .int .i64 z.2.seg, .int .u64 z.2.gen, .int .i64 z.2.sec]) else undef, if done 14 then (.bool true) else undef, if done 15 then (.bool true) else undef, undef, undef, undef, undef, undef, undef, undef, undef, undef, undef, undef, undef, undef, undef, undef, undef, undef, undef], defers := [] } ∧ WW = W.drew) ?_ ?_ ?_
        · exact ⟨by simp, rfl⟩
        · intro done ac WW j oq ho hd hdep hcl ⟨hlit, hww⟩
          have hj : j < 16 := (Array.getElem?_eq_some_iff.1 ho).1
          subst hlit hww
          obtain rfl | rfl | rfl | rfl | rfl | rfl | rfl | rfl | rfl | rfl | rfl | rfl | rfl | rfl | rfl | rfl : j = 0 ∨ j = 1 ∨ j = 2 ∨ j = 3 ∨ j = 4 ∨ j = 5 ∨ j = 6 ∨ j = 7 ∨ j = 8 ∨ j = 9 ∨ j = 10 ∨ j = 11 ∨ j = 12 ∨ j = 13 ∨ j = 14 ∨ j = 15 := by omega
          · refine wpOpIn_val ho (by cases ho; rfl) (w' := W.drew) (v := (.int .i64 k)) (by cases ho; rfl) (by cases ho; exact fun c h => by cases h) (by cases ho; simp [execOp, go_sem, e5]) ?_
            cases ho
            exact ⟨by simp [Act.put], rfl⟩
          · refine wpOpIn_val ho (by cases ho; rfl) (w' := W.drew) (v := (.pointer (some ⟨w.heap.size, 1, none⟩))) (by cases ho; rfl) (by cases ho; exact fun c h => by cases h) (by cases ho; simp [execOp, go_sem]) ?_
            cases ho
            exact ⟨by simp [Act.put], rfl⟩
          · have p1 : done 1 = true := by cases ho; exact hdep ⟨1, .data⟩ (by simp) rfl
            refine wpOpIn_val ho (by cases ho; rfl) (w' := W.drew) (v := (.slice (some ⟨b, off, none⟩) n cap)) (by cases ho; rfl) (by cases ho; exact fun c h => by cases h) (by cases ho; simp [execOp, go_sem, p1, e1]) ?_
            cases ho
            exact ⟨by simp [Act.put], rfl⟩
          · have p2 : done 2 = true := by cases ho; exact hdep ⟨2, .data⟩ (by simp) rfl
            refine wpOpIn_val ho (by cases ho; rfl) (w' := W.drew) (v := (.int .i64 n)) (by cases ho; simp [Oper.about, go_sem]) (by cases ho; exact fun c h => by cases h) (by cases ho; simp [execOp, go_sem, p2]) ?_
            cases ho
            exact ⟨by simp [Act.put], rfl⟩
          · have p0 : done 0 = true := by cases ho; exact hdep ⟨0, .data⟩ (by simp) rfl
            have p3 : done 3 = true := by cases ho; exact hdep ⟨3, .data⟩ (by simp) rfl
            refine wpOpIn_val ho (by cases ho; rfl) (w' := W.drew) (v := (.bool false)) (by cases ho; rfl) (by cases ho; exact fun c h => by cases h) (by cases ho; simp [execOp, go_sem, p0, p3, hpre]) ?_
            cases ho
            exact ⟨by simp [Act.put], rfl⟩
          · have p4 : done 4 = true := by cases ho; exact hdep ⟨4, .data⟩ (by simp) rfl
            refine wpOpIn_val ho (by cases ho; rfl) (w' := W.drew) (v := (.bool false)) (by cases ho; rfl) (by cases ho; exact fun c h => by cases h) (by cases ho; simp [execOp, go_sem, p4]) ?_
            cases ho
            exact ⟨by simp [Act.put], rfl⟩
          · have p5 : done 5 = true := by cases ho; exact hdep ⟨5, .guard⟩ (by simp) rfl
            refine wpOpIn_val ho (by cases ho; simp [Region.wanted, yielded, p5]) (w' := W.drew) (v := (.int .u32 x.1)) (by cases ho; rfl) (by cases ho; exact fun c h => by cases h) (by cases ho; simp [execOp, go_sem]) ?_
            cases ho
            exact ⟨by simp [Act.put], rfl⟩
          · have p5 : done 5 = true := by cases ho; exact hdep ⟨5, .guard⟩ (by simp) rfl
            refine wpOpIn_val ho (by cases ho; simp [Region.wanted, yielded, p5]) (w' := W.drew) (v := (.agg #[.int .i64 x.2.seg, .int .u64 x.2.gen, .int .i64 x.2.sec])) (by cases ho; rfl) (by cases ho; exact fun c h => by cases h) (by cases ho; simp [execOp, go_sem, e7, e8, e9]) ?_
            cases ho
            exact ⟨by simp [Act.put], rfl⟩
          · have p6 : done 6 = true := by cases ho; exact hdep ⟨6, .data⟩ (by simp) rfl
            have p7 : done 7 = true := by cases ho; exact hdep ⟨7, .data⟩ (by simp) rfl
            have p5 : done 5 = true := by cases ho; exact hdep ⟨5, .guard⟩ (by simp) rfl
            refine wpOpIn_val ho (by cases ho; simp [Region.wanted, yielded, p5]) (w' := W.drew) (v := (.agg #[.int .u32 x.1, .int .i64 x.2.seg, .int .u64 x.2.gen, .int .i64 x.2.sec])) (by cases ho; rfl) (by cases ho; exact fun c h => by cases h) (by cases ho; simp [execOp, go_sem, p6, p7]) ?_
            cases ho
            exact ⟨by simp [Act.put], rfl⟩
          · have p5 : done 5 = true := by cases ho; exact hdep ⟨5, .guard⟩ (by simp) rfl
            refine wpOpIn_val ho (by cases ho; simp [Region.wanted, yielded, p5]) (w' := W.drew) (v := (.pointer (some ⟨w.heap.size, 1, none⟩))) (by cases ho; rfl) (by cases ho; exact fun c h => by cases h) (by cases ho; simp [execOp, go_sem]) ?_
            cases ho
            exact ⟨by simp [Act.put], rfl⟩
          · have p9 : done 9 = true := by cases ho; exact hdep ⟨9, .data⟩ (by simp) rfl
            have p5 : done 5 = true := by cases ho; exact hdep ⟨5, .guard⟩ (by simp) rfl
            refine wpOpIn_val ho (by cases ho; simp [Region.wanted, yielded, p5]) (w' := W.drew) (v := (.slice (some ⟨b, off, none⟩) n cap)) (by cases ho; rfl) (by cases ho; exact fun c h => by cases h) (by cases ho; simp [execOp, go_sem, p9, e1]) ?_
            cases ho
            exact ⟨by simp [Act.put], rfl⟩
          · have p5 : done 5 = true := by cases ho; exact hdep ⟨5, .guard⟩ (by simp) rfl
            refine wpOpIn_val ho (by cases ho; simp [Region.wanted, yielded, p5]) (w' := W.drew) (v := (.int .i64 k)) (by cases ho; rfl) (by cases ho; exact fun c h => by cases h) (by cases ho; simp [execOp, go_sem, e5]) ?_
            cases ho
            exact ⟨by simp [Act.put], rfl⟩
          · have p10 : done 10 = true := by cases ho; exact hdep ⟨10, .data⟩ (by simp) rfl
            have p11 : done 11 = true := by cases ho; exact hdep ⟨11, .data⟩ (by simp) rfl
            have p5 : done 5 = true := by cases ho; exact hdep ⟨5, .guard⟩ (by simp) rfl
            refine wpOpIn_val ho (by cases ho; simp [Region.wanted, yielded, p5]) (w' := W.drew) (v := (.pointer (some ⟨b, off + k * 4, none⟩))) (by cases ho; rfl) (by cases ho; exact fun c h => by cases h) (by cases ho; simp [execOp, go_sem, p10, p11, Nat.not_le.2 hpre]) ?_
            cases ho
            exact ⟨by simp [Act.put], rfl⟩
          · have p12 : done 12 = true := by cases ho; exact hdep ⟨12, .data⟩ (by simp) rfl
            have p5 : done 5 = true := by cases ho; exact hdep ⟨5, .guard⟩ (by simp) rfl
            refine wpOpIn_val ho (by cases ho; simp [Region.wanted, yielded, p5]) (w' := W.drew) (v := (.agg #[.int .u32 z.1, .int .i64 z.2.seg, .int .u64 z.2.gen, .int .i64 z.2.sec])) (by cases ho; rfl) (by cases ho; exact fun c h => by cases h) (by cases ho; simp [execOp, go_sem, p12, c0, c1, c2, c3]) ?_
            cases ho
            exact ⟨by simp [Act.put], rfl⟩
          · have p8 : done 8 = true := by cases ho; exact hdep ⟨8, .data⟩ (by simp) rfl
            have p13 : done 13 = true := by cases ho; exact hdep ⟨13, .data⟩ (by simp) rfl
            have p5 : done 5 = true := by cases ho; exact hdep ⟨5, .guard⟩ (by simp) rfl
            refine wpOpIn_val ho (by cases ho; simp [Region.wanted, yielded, p5]) (w' := W.drew) (v := (.bool true)) (by cases ho; rfl) (by cases ho; exact fun c h => by cases h) (by cases ho; simp [execOp, go_sem, p8, p13, t1, t2]) ?_
            cases ho
            exact ⟨by simp [Act.put], rfl⟩
          · have p5 : done 5 = true := by cases ho; exact hdep ⟨5, .data⟩ (by simp) rfl
            have p14 : done 14 = true := by cases ho; exact hdep ⟨14, .data⟩ (by simp) rfl
            refine wpOpIn_val ho (by cases ho; rfl) (w' := W.drew) (v := (.bool true)) (by cases ho; rfl) (by cases ho; exact fun c h => by cases h) (by cases ho; simp [execOp, go_sem, p5, p14]) ?_
            cases ho
            exact ⟨by simp [Act.put], rfl⟩
        · rintro done ac WW hall ⟨rfl, rfl⟩
          have d0 := hall 0 (by decide)
          have d1 := hall 1 (by decide)
          have d2 := hall 2 (by decide)
          have d3 := hall 3 (by decide)
          have d4 := hall 4 (by decide)
          have d5 := hall 5 (by decide)
          have d6 := hall 6 (by decide)
          have d7 := hall 7 (by decide)
          have d8 := hall 8 (by decide)
          have d9 := hall 9 (by decide)
          have d10 := hall 10 (by decide)
          have d11 := hall 11 (by decide)
          have d12 := hall 12 (by decide)
          have d13 := hall 13 (by decide)
          have d14 := hall 14 (by decide)
          have d15 := hall 15 (by decide)
          simp only [d0, d1, d2, d3, d4, d5, d6, d7, d8, d9, d10, d11, d12, d13, d14, d15, if_true]
          clear hall d0 d1 d2 d3 d4 d5 d6 d7 d8 d9 d10 d11 d12 d13 d14 d15
          gi_wp2_with fail
          exact ⟨((KeepsOthers.drew _).trans (KeepsOthers.setCell _ _ _)).from _, ⟨rfl, HNX2.out HXZ.out⟩⟩
      · gi_wp2_with fail
        refine wpIn_region_inv (by kernel_rfl) (hord_of2 (by kernel_rfl)) (fun done ac WW => ac = { tmps := #[.pointer (some ⟨L.bx, 0, none⟩), .agg #[.int .i64 N, .slice (some ⟨b, off, none⟩) n cap], undef, .pointer (some ⟨w.heap.size, 0, none⟩), .pointer (some ⟨w.heap.size + 1, 0, none⟩), .func (.func 29) #[] #[.pointer (some ⟨W1.heap.size, 0, none⟩), .pointer (some ⟨W1.heap.size + 1, 0, none⟩)], .pointer (some ⟨W2.heap.size, 0, none⟩), .pointer (some ⟨(W2.heap.size + 1), 0, none⟩), .int .u32 x.1, .pointer (some ⟨Bx, 0, none⟩), .pointer (some ⟨L.bx, 0, none⟩), .int .i64 n, .pointer (some ⟨w.heap.size, 1, none⟩), .slice (some ⟨b, off, none⟩) n cap, .int .i64 n, .bool false, .bool false, .pointer (some ⟨L.bx, 0, none⟩), .int .i64 nb, .pointer (some ⟨w.heap.size, 0, none⟩), .int .i64 N, .pointer (some ⟨w.heap.size, 1, none⟩), .slice (some ⟨b, off, none⟩) n cap, .int .i64 n, .int .i64 ((N : Int) - (n : Int)), .bool false, .bool false, .pointer (some ⟨L.bx, 0, none⟩), .func (.func 29) #[] #[.pointer (some ⟨W1.heap.size, 0, none⟩), .pointer (some ⟨W1.heap.size + 1, 0, none⟩)], .func (.func 29) #[] #[.pointer (some ⟨W1.heap.size, 0, none⟩), .pointer (some ⟨W1.heap.size + 1, 0, none⟩)], .bool false, .int .i64 0, .bool true, undef, undef, .func (.func 29) #[] #[.pointer (some ⟨W1.heap.size, 0, none⟩), .pointer (some ⟨W1.heap.size + 1, 0, none⟩)], .int .u32 x.1, .agg #[.int .i64 x.2.seg, .int .u64 x.2.gen, .int .i64 x.2.sec], if done 0 then (.int .i64 k) else undef, if done 1 then (.pointer (some ⟨w.heap.size, 1, none⟩)) else undef, if done 2 then (.slice (some ⟨b, off, none⟩) n cap) else undef, if done 3 then (.int .i64 n) else undef, if done 4 then (.bool false) else undef, if done 5 then (.bool false) else undef, if done 6 then (.int .u32 x.1) else undef, if done 7 then (.agg #[.int .i64 x.2.seg, .int .u64 x.2.gen, .int .i64 x.2.sec]) else undef, if done 8 then (.agg #[.int .u32 x.1, .int .i64 x.2.seg, .int .u64 x.2.gen, .int .i64 x.2.sec]) else undef, if done 9 then (.pointer (some ⟨w.heap.size, 1, none⟩)) else undef, if done 10 then (.slice (some ⟨b, off, none⟩) n cap) else undef, if done 11 then (.int .i64 k) else undef, if done 12 then (.pointer (some ⟨b, off + k * 4, none⟩)) else undef, if done 13 then (.agg #[.int .u32 z.1, .int .i64 z.2.seg, .int .u64 z.2.gen, .int .i64 z.2.sec]) else undef, if done 14 then (.bool true) else undef, if done 15 then (.bool true) else undef, undef, undef, undef, undef, undef, undef, undef, undef, undef, undef, undef, undef, undef, undef, undef, undef, undef, undef], defers := [] } ∧ WW = W.drew) ?_ ?_ ?_
        · exact ⟨by simp, rfl⟩
        · intro done ac WW j oq ho hd hdep hcl ⟨hlit, hww⟩
          have hj : j < 16 := (Array.getElem?_eq_some_iff.1 ho).1
          subst hlit hww
          obtain rfl | rfl | rfl | rfl | rfl | rfl | rfl | rfl | rfl | rfl | rfl | rfl | rfl | rfl | rfl | rfl : j = 0 ∨ j = 1 ∨ j = 2 ∨ j = 3 ∨ j = 4 ∨ j = 5 ∨ j = 6 ∨ j = 7 ∨ j = 8 ∨ j = 9 ∨ j = 10 ∨ j = 11 ∨ j = 12 ∨ j = 13 ∨ j = 14 ∨ j = 15 := by omega
          · refine wpOpIn_val ho (by cases ho; rfl) (w' := W.drew) (v := (.int .i64 k)) (by cases ho; rfl) (by cases ho; exact fun c h => by cases h) (by cases ho; simp [execOp, go_sem, e5]) ?_
            cases ho
            exact ⟨by simp [Act.put], rfl⟩
          · refine wpOpIn_val ho (by cases ho; rfl) (w' := W.drew) (v := (.pointer (some ⟨w.heap.size, 1, none⟩))) (by cases ho; rfl) (by cases ho; exact fun c h => by cases h) (by cases ho; simp [execOp, go_sem]) ?_
            cases ho
            exact ⟨by simp [Act.put], rfl⟩
          · have p1 : done 1 = true := by cases ho; exact hdep ⟨1, .data⟩ (by simp) rfl
            refine wpOpIn_val ho (by cases ho; rfl) (w' := W.drew) (v := (.slice (some ⟨b, off, none⟩) n cap)) (by cases ho; rfl) (by cases ho; exact fun c h => by cases h) (by cases ho; simp [execOp, go_sem, p1, e1]) ?_
            cases ho
            exact ⟨by simp [Act.put], rfl⟩
          · have p2 : done 2 = true := by cases ho; exact hdep ⟨2, .data⟩ (by simp) rfl
            refine wpOpIn_val ho (by cases ho; rfl) (w' := W.drew) (v := (.int .i64 n)) (by cases ho; simp [Oper.about, go_sem]) (by cases ho; exact fun c h => by cases h) (by cases ho; simp [execOp, go_sem, p2]) ?_
            cases ho
            exact ⟨by simp [Act.put], rfl⟩
          · have p0 : done 0 = true := by cases ho; exact hdep ⟨0, .data⟩ (by simp) rfl
            have p3 : done 3 = true := by cases ho; exact hdep ⟨3, .data⟩ (by simp) rfl
            refine wpOpIn_val ho (by cases ho; rfl) (w' := W.drew) (v := (.bool false)) (by cases ho; rfl) (by cases ho; exact fun c h => by cases h) (by cases ho; simp [execOp, go_sem, p0, p3, hpre]) ?_
            cases ho
            exact ⟨by simp [Act.put], rfl⟩
          · have p4 : done 4 = true := by cases ho; exact hdep ⟨4, .data⟩ (by simp) rfl
            refine wpOpIn_val ho (by cases ho; rfl) (w' := W.drew) (v := (.bool false)) (by cases ho; rfl) (by cases ho; exact fun c h => by cases h) (by cases ho; simp [execOp, go_sem, p4]) ?_
            cases ho
            exact ⟨by simp [Act.put], rfl⟩
          · have p5 : done 5 = true := by cases ho; exact hdep ⟨5, .guard⟩ (by simp) rfl
            refine wpOpIn_val ho (by cases ho; simp [Region.wanted, yielded, p5]) (w' := W.drew) (v := (.int .u32 x.1)) (by cases ho; rfl) (by cases ho; exact fun c h => by cases h) (by cases ho; simp [execOp, go_sem]) ?_
            cases ho
            exact ⟨by simp [Act.put], rfl⟩
          · have p5 : done 5 = true := by cases ho; exact hdep ⟨5, .guard⟩ (by simp) rfl
            refine wpOpIn_val ho (by cases ho; simp [Region.wanted, yielded, p5]) (w' := W.drew) (v := (.agg #[.int .i64 x.2.seg, .int .u64 x.2.gen, .int .i64 x.2.sec])) (by cases ho; rfl) (by cases ho; exact fun c h => by cases h) (by cases ho; simp [execOp, go_sem, e7, e8, e9]) ?_
            cases ho
            exact ⟨by simp [Act.put], rfl⟩
          · have p6 : done 6 = true := by cases ho; exact hdep ⟨6, .data⟩ (by simp) rfl
            have p7 : done 7 = true := by cases ho; exact hdep ⟨7, .data⟩ (by simp) rfl
            have p5 : done 5 = true := by cases ho; exact hdep ⟨5, .guard⟩ (by simp) rfl
            refine wpOpIn_val ho (by cases ho; simp [Region.wanted, yielded, p5]) (w' := W.drew) (v := (.agg #[.int .u32 x.1, .int .i64 x.2.seg, .int .u64 x.2.gen, .int .i64 x.2.sec])) (by cases ho; rfl) (by cases ho; exact fun c h => by cases h) (by cases ho; simp [execOp, go_sem, p6, p7]) ?_
            cases ho
            exact ⟨by simp [Act.put], rfl⟩
          · have p5 : done 5 = true := by cases ho; exact hdep ⟨5, .guard⟩ (by simp) rfl
            refine wpOpIn_val ho (by cases ho; simp [Region.wanted, yielded, p5]) (w' := W.drew) (v := (.pointer (some ⟨w.heap.size, 1, none⟩))) (by cases ho; rfl) (by cases ho; exact fun c h => by cases h) (by cases ho; simp [execOp, go_sem]) ?_
            cases ho
            exact ⟨by simp [Act.put], rfl⟩
          · have p9 : done 9 = true := by cases ho; exact hdep ⟨9, .data⟩ (by simp) rfl
            have p5 : done 5 = true := by cases ho; exact hdep ⟨5, .guard⟩ (by simp) rfl
            refine wpOpIn_val ho (by cases ho; simp [Region.wanted, yielded, p5]) (w' := W.drew) (v := (.slice (some ⟨b, off, none⟩) n cap)) (by cases ho; rfl) (by cases ho; exact fun c h => by cases h) (by cases ho; simp [execOp, go_sem, p9, e1]) ?_
            cases ho
            exact ⟨by simp [Act.put], rfl⟩
          · have p5 : done 5 = true := by cases ho; exact hdep ⟨5, .guard⟩ (by simp) rfl
            refine wpOpIn_val ho (by cases ho; simp [Region.wanted, yielded, p5]) (w' := W.drew) (v := (.int .i64 k)) (by cases ho; rfl) (by cases ho; exact fun c h => by cases h) (by cases ho; simp [execOp, go_sem, e5]) ?_
            cases ho
            exact ⟨by simp [Act.put], rfl⟩
          · have p10 : done 10 = true := by cases ho; exact hdep ⟨10, .data⟩ (by simp) rfl
            have p11 : done 11 = true := by cases ho; exact hdep ⟨11, .data⟩ (by simp) rfl
            have p5 : done 5 = true := by cases ho; exact hdep ⟨5, .guard⟩ (by simp) rfl
            refine wpOpIn_val ho (by cases ho; simp [Region.wanted, yielded, p5]) (w' := W.drew) (v := (.pointer (some ⟨b, off + k * 4, none⟩))) (by cases ho; rfl) (by cases ho; exact fun c h => by cases h) (by cases ho; simp [execOp, go_sem, p10, p11, Nat.not_le.2 hpre]) ?_
            cases ho
            exact ⟨by simp [Act.put], rfl⟩
          · have p12 : done 12 = true := by cases ho; exact hdep ⟨12, .data⟩ (by simp) rfl
            have p5 : done 5 = true := by cases ho; exact hdep ⟨5, .guard⟩ (by simp) rfl
            refine wpOpIn_val ho (by cases ho; simp [Region.wanted, yielded, p5]) (w' := W.drew) (v := (.agg #[.int .u32 z.1, .int .i64 z.2.seg, .int .u64 z.2.gen, .int .i64 z.2.sec])) (by cases ho; rfl) (by cases ho; exact fun c h => by cases h) (by cases ho; simp [execOp, go_sem, p12, c0, c1, c2, c3]) ?_
            cases ho
            exact ⟨by simp [Act.put], rfl⟩
          · have p8 : done 8 = true := by cases ho; exact hdep ⟨8, .data⟩ (by simp) rfl
            have p13 : done 13 = true := by cases ho; exact hdep ⟨13, .data⟩ (by simp) rfl
            have p5 : done 5 = true := by cases ho; exact hdep ⟨5, .guard⟩ (by simp) rfl
            refine wpOpIn_val ho (by cases ho; simp [Region.wanted, yielded, p5]) (w' := W.drew) (v := (.bool true)) (by cases ho; rfl) (by cases ho; exact fun c h => by cases h) (by cases ho; simp [execOp, go_sem, p8, p13, t1, t2, t3]) ?_
            cases ho
            exact ⟨by simp [Act.put], rfl⟩
          · have p5 : done 5 = true := by cases ho; exact hdep ⟨5, .data⟩ (by simp) rfl
            have p14 : done 14 = true := by cases ho; exact hdep ⟨14, .data⟩ (by simp) rfl
            refine wpOpIn_val ho (by cases ho; rfl) (w' := W.drew) (v := (.bool true)) (by cases ho; rfl) (by cases ho; exact fun c h => by cases h) (by cases ho; simp [execOp, go_sem, p5, p14]) ?_
            cases ho
            exact ⟨by simp [Act.put], rfl⟩
        · rintro done ac WW hall ⟨rfl, rfl⟩
          have d0 := hall 0 (by decide)
          have d1 := hall 1 (by decide)
          have d2 := hall 2 (by decide)
          have d3 := hall 3 (by decide)
          have d4 := hall 4 (by decide)
          have d5 := hall 5 (by decide)
          have d6 := hall 6 (by decide)
          have d7 := hall 7 (by decide)
          have d8 := hall 8 (by decide)
          have d9 := hall 9 (by decide)
          have d10 := hall 10 (by decide)
          have d11 := hall 11 (by decide)
          have d12 := hall 12 (by decide)
          have d13 := hall 13 (by decide)
          have d14 := hall 14 (by decide)
          have d15 := hall 15 (by decide)
          simp only [d0, d1, d2, d3, d4, d5, d6, d7, d8, d9, d10, d11, d12, d13, d14, d15, if_true]
          clear hall d0 d1 d2 d3 d4 d5 d6 d7 d8 d9 d10 d11 d12 d13 d14 d15
          gi_wp2_with fail
          exact ⟨((KeepsOthers.drew _).trans (KeepsOthers.setCell _ _ _)).from _, ⟨rfl, HNX2.out HXZ.out⟩⟩
      · gi_wp2_with fail
        refine wpIn_region_inv (by kernel_rfl) (hord_of2 (by kernel_rfl)) (fun done ac WW => ac = { tmps := #[.pointer (some ⟨L.bx, 0, none⟩), .agg #[.int .i64 N, .slice (some ⟨b, off, none⟩) n cap], undef, .pointer (some ⟨w.heap.size, 0, none⟩), .pointer (some ⟨w.heap.size + 1, 0, none⟩), .func (.func 29) #[] #[.pointer (some ⟨W1.heap.size, 0, none⟩), .pointer (some ⟨W1.heap.size + 1, 0, none⟩)], .pointer (some ⟨W2.heap.size, 0, none⟩), .pointer (some ⟨(W2.heap.size + 1), 0, none⟩), .int .u32 x.1, .pointer (some ⟨Bx, 0, none⟩), .pointer (some ⟨L.bx, 0, none⟩), .int .i64 n, .pointer (some ⟨w.heap.size, 1, none⟩), .slice (some ⟨b, off, none⟩) n cap, .int .i64 n, .bool false, .bool false, .pointer (some ⟨L.bx, 0, none⟩), .int .i64 nb, .pointer (some ⟨w.heap.size, 0, none⟩), .int .i64 N, .pointer (some ⟨w.heap.size, 1, none⟩), .slice (some ⟨b, off, none⟩) n cap, .int .i64 n, .int .i64 ((N : Int) - (n : Int)), .bool false, .bool false, .pointer (some ⟨L.bx, 0, none⟩), .func (.func 29) #[] #[.pointer (some ⟨W1.heap.size, 0, none⟩), .pointer (some ⟨W1.heap.size + 1, 0, none⟩)], .func (.func 29) #[] #[.pointer (some ⟨W1.heap.size, 0, none⟩), .pointer (some ⟨W1.heap.size + 1, 0, none⟩)], .bool false, .int .i64 0, .bool true, undef, undef, .func (.func 29) #[] #[.pointer (some ⟨W1.heap.size, 0, none⟩), .pointer (some ⟨W1.heap.size + 1, 0, none⟩)], .int .u32 x.1, .agg #[.int .i64 x.2.seg, .int .u64 x.2.gen, .int .i64 x.2.sec], if done 0 then (.int .i64 k) else undef, if done 1 then (.pointer (some ⟨w.heap.size, 1, none⟩)) else undef, if done 2 then (.slice (some ⟨b, off, none⟩) n cap) else undef, if done 3 then (.int .i64 n) else undef, if done 4 then (.bool false) else undef, if done 5 then (.bool false) else undef, if done 6 then (.int .u32 x.1) else undef, if done 7 then (.agg #[.int .i64 x.2.seg, .int .u64 x.2.gen, .int .i64 x.2.sec]) else undef, if done 8 then (.agg #[.int .u32 x.1, .int .i64 x.2.seg, .int .u64 x.2.gen, .int .i64 x.2.sec]) else undef, if done 9 then (.pointer (some ⟨w.heap.size, 1, none⟩)) else undef, if done 10 then (.slice (some ⟨b, off, none⟩) n cap) else undef, if done 11 then (.int .i64 k) else undef, if done 12 then (.pointer (some ⟨b, off + k * 4, none⟩)) else undef, if done 13 then (.agg #[.int .u32 z.1, .int .i64 z.2.seg, .int .u64 z.2.gen, .int .i64 z.2.sec]) else undef, if done 14 then (.bool true) else undef, if done 15 then (.bool true) else undef, undef, undef, undef, undef, undef, undef, undef, undef, undef, undef, undef, undef, undef, undef, undef, undef, undef, undef], defers := [] } ∧ WW = W.drew) ?_ ?_ ?_
        · exact ⟨by simp, rfl⟩
        · intro done ac WW j oq ho hd hdep hcl ⟨hlit, hww⟩
          have hj : j < 16 := (Array.getElem?_eq_some_iff.1 ho).1
          subst hlit hww
          obtain rfl | rfl | rfl | rfl | rfl | rfl | rfl | rfl | rfl | rfl | rfl | rfl | rfl | rfl | rfl | rfl : j = 0 ∨ j = 1 ∨ j = 2 ∨ j = 3 ∨ j = 4 ∨ j = 5 ∨ j = 6 ∨ j = 7 ∨ j = 8 ∨ j = 9 ∨ j = 10 ∨ j = 11 ∨ j = 12 ∨ j = 13 ∨ j = 14 ∨ j = 15 := by omega
          · refine wpOpIn_val ho (by cases ho; rfl) (w' := W.drew) (v := (.int .i64 k)) (by cases ho; rfl) (by cases ho; exact fun c h => by cases h) (by cases ho; simp [execOp, go_sem, e5]) ?_
            cases ho
            exact ⟨by simp [Act.put], rfl⟩
          · refine wpOpIn_val ho (by cases ho; rfl) (w' := W.drew) (v := (.pointer (some ⟨w.heap.size, 1, none⟩))) (by cases ho; rfl) (by cases ho; exact fun c h => by cases h) (by cases ho; simp [execOp, go_sem]) ?_
            cases ho
            exact ⟨by simp [Act.put], rfl⟩
          · have p1 : done 1 = true := by cases ho; exact hdep ⟨1, .data⟩ (by simp) rfl
            refine wpOpIn_val ho (by cases ho; rfl) (w' := W.drew) (v := (.slice (some ⟨b, off, none⟩) n cap)) (by cases ho; rfl) (by cases ho; exact fun c h => by cases h) (by cases ho; simp [execOp, go_sem, p1, e1]) ?_
            cases ho
            exact ⟨by simp [Act.put], rfl⟩
          · have p2 : done 2 = true := by cases ho; exact hdep ⟨2, .data⟩ (by simp) rfl
            refine wpOpIn_val ho (by cases ho; rfl) (w' := W.drew) (v := (.int .i64 n)) (by cases ho; simp [Oper.about, go_sem]) (by cases ho; exact fun c h => by cases h) (by cases ho; simp [execOp, go_sem, p2]) ?_
            cases ho
            exact ⟨by simp [Act.put], rfl⟩
          · have p0 : done 0 = true := by cases ho; exact hdep ⟨0, .data⟩ (by simp) rfl
            have p3 : done 3 = true := by cases ho; exact hdep ⟨3, .data⟩ (by simp) rfl
            refine wpOpIn_val ho (by cases ho; rfl) (w' := W.drew) (v := (.bool false)) (by cases ho; rfl) (by cases ho; exact fun c h => by cases h) (by cases ho; simp [execOp, go_sem, p0, p3, hpre]) ?_
            cases ho
            exact ⟨by simp [Act.put], rfl⟩
          · have p4 : done 4 = true := by cases ho; exact hdep ⟨4, .data⟩ (by simp) rfl
            refine wpOpIn_val ho (by cases ho; rfl) (w' := W.drew) (v := (.bool false)) (by cases ho; rfl) (by cases ho; exact fun c h => by cases h) (by cases ho; simp [execOp, go_sem, p4]) ?_
            cases ho
            exact ⟨by simp [Act.put], rfl⟩
          · have p5 : done 5 = true := by cases ho; exact hdep ⟨5, .guard⟩ (by simp) rfl
            refine wpOpIn_val ho (by cases ho; simp [Region.wanted, yielded, p5]) (w' := W.drew) (v := (.int .u32 x.1)) (by cases ho; rfl) (by cases ho; exact fun c h => by cases h) (by cases ho; simp [execOp, go_sem]) ?_
            cases ho
            exact ⟨by simp [Act.put], rfl⟩
          · have p5 : done 5 = true := by cases ho; exact hdep ⟨5, .guard⟩ (by simp) rfl
            refine wpOpIn_val ho (by cases ho; simp [Region.wanted, yielded, p5]) (w' := W.drew) (v := (.agg #[.int .i64 x.2.seg, .int .u64 x.2.gen, .int .i64 x.2.sec])) (by cases ho; rfl) (by cases ho; exact fun c h => by cases h) (by cases ho; simp [execOp, go_sem, e7, e8, e9]) ?_
            cases ho
            exact ⟨by simp [Act.put], rfl⟩
          · have p6 : done 6 = true := by cases ho; exact hdep ⟨6, .data⟩ (by simp) rfl
            have p7 : done 7 = true := by cases ho; exact hdep ⟨7, .data⟩ (by simp) rfl
            have p5 : done 5 = true := by cases ho; exact hdep ⟨5, .guard⟩ (by simp) rfl
            refine wpOpIn_val ho (by cases ho; simp [Region.wanted, yielded, p5]) (w' := W.drew) (v := (.agg #[.int .u32 x.1, .int .i64 x.2.seg, .int .u64 x.2.gen, .int .i64 x.2.sec])) (by cases ho; rfl) (by cases ho; exact fun c h => by cases h) (by cases ho; simp [execOp, go_sem, p6, p7]) ?_
            cases ho
            exact ⟨by simp [Act.put], rfl⟩
          · have p5 : done 5 = true := by cases ho; exact hdep ⟨5, .guard⟩ (by simp) rfl
            refine wpOpIn_val ho (by cases ho; simp [Region.wanted, yielded, p5]) (w' := W.drew) (v := (.pointer (some ⟨w.heap.size, 1, none⟩))) (by cases ho; rfl) (by cases ho; exact fun c h => by cases h) (by cases ho; simp [execOp, go_sem]) ?_
            cases ho
            exact ⟨by simp [Act.put], rfl⟩
          · have p9 : done 9 = true := by cases ho; exact hdep ⟨9, .data⟩ (by simp) rfl
            have p5 : done 5 = true := by cases ho; exact hdep ⟨5, .guard⟩ (by simp) rfl
            refine wpOpIn_val ho (by cases ho; simp [Region.wanted, yielded, p5]) (w' := W.drew) (v := (.slice (some ⟨b, off, none⟩) n cap)) (by cases ho; rfl) (by cases ho; exact fun c h => by cases h) (by cases ho; simp [execOp, go_sem, p9, e1]) ?_
            cases ho
            exact ⟨by simp [Act.put], rfl⟩
          · have p5 : done 5 = true := by cases ho; exact hdep ⟨5, .guard⟩ (by simp) rfl
            refine wpOpIn_val ho (by cases ho; simp [Region.wanted, yielded, p5]) (w' := W.drew) (v := (.int .i64 k)) (by cases ho; rfl) (by cases ho; exact fun c h => by cases h) (by cases ho; simp [execOp, go_sem, e5]) ?_
            cases ho
            exact ⟨by simp [Act.put], rfl⟩
          · have p10 : done 10 = true := by cases ho; exact hdep ⟨10, .data⟩ (by simp) rfl
            have p11 : done 11 = true := by cases ho; exact hdep ⟨11, .data⟩ (by simp) rfl
            have p5 : done 5 = true := by cases ho; exact hdep ⟨5, .guard⟩ (by simp) rfl
            refine wpOpIn_val ho (by cases ho; simp [Region.wanted, yielded, p5]) (w' := W.drew) (v := (.pointer (some ⟨b, off + k * 4, none⟩))) (by cases ho; rfl) (by cases ho; exact fun c h => by cases h) (by cases ho; simp [execOp, go_sem, p10, p11, Nat.not_le.2 hpre]) ?_
            cases ho
            exact ⟨by simp [Act.put], rfl⟩
          · have p12 : done 12 = true := by cases ho; exact hdep ⟨12, .data⟩ (by simp) rfl
            have p5 : done 5 = true := by cases ho; exact hdep ⟨5, .guard⟩ (by simp) rfl
            refine wpOpIn_val ho (by cases ho; simp [Region.wanted, yielded, p5]) (w' := W.drew) (v := (.agg #[.int .u32 z.1, .int .i64 z.2.seg, .int .u64 z.2.gen, .int .i64 z.2.sec])) (by cases ho; rfl) (by cases ho; exact fun c h => by cases h) (by cases ho; simp [execOp, go_sem, p12, c0, c1, c2, c3]) ?_
            cases ho
            exact ⟨by simp [Act.put], rfl⟩
          · have p8 : done 8 = true := by cases ho; exact hdep ⟨8, .data⟩ (by simp) rfl
            have p13 : done 13 = true := by cases ho; exact hdep ⟨13, .data⟩ (by simp) rfl
            have p5 : done 5 = true := by cases ho; exact hdep ⟨5, .guard⟩ (by simp) rfl
            refine wpOpIn_val ho (by cases ho; simp [Region.wanted, yielded, p5]) (w' := W.drew) (v := (.bool true)) (by cases ho; rfl) (by cases ho; exact fun c h => by cases h) (by cases ho; simp [execOp, go_sem, p8, p13, t1, t2, t3, t4]) ?_
            cases ho
            exact ⟨by simp [Act.put], rfl⟩
          · have p5 : done 5 = true := by cases ho; exact hdep ⟨5, .data⟩ (by simp) rfl
            have p14 : done 14 = true := by cases ho; exact hdep ⟨14, .data⟩ (by simp) rfl
            refine wpOpIn_val ho (by cases ho; rfl) (w' := W.drew) (v := (.bool true)) (by cases ho; rfl) (by cases ho; exact fun c h => by cases h) (by cases ho; simp [execOp, go_sem, p5, p14]) ?_
            cases ho
            exact ⟨by simp [Act.put], rfl⟩
        · rintro done ac WW hall ⟨rfl, rfl⟩
          have d0 := hall 0 (by decide)
          have d1 := hall 1 (by decide)
          have d2 := hall 2 (by decide)
          have d3 := hall 3 (by decide)
          have d4 := hall 4 (by decide)
          have d5 := hall 5 (by decide)
          have d6 := hall 6 (by decide)
          have d7 := hall 7 (by decide)
          have d8 := hall 8 (by decide)
          have d9 := hall 9 (by decide)
          have d10 := hall 10 (by decide)
          have d11 := hall 11 (by decide)
          have d12 := hall 12 (by decide)
          have d13 := hall 13 (by decide)
          have d14 := hall 14 (by decide)
          have d15 := hall 15 (by decide)
          simp only [d0, d1, d2, d3, d4, d5, d6, d7, d8, d9, d10, d11, d12, d13, d14, d15, if_true]
          clear hall d0 d1 d2 d3 d4 d5 d6 d7 d8 d9 d10 d11 d12 d13 d14 d15
          gi_wp2_with fail
          exact ⟨((KeepsOthers.drew _).trans (KeepsOthers.setCell _ _ _)).from _, ⟨rfl, HNX2.out HXZ.out⟩⟩
      · gi_wp2_with fail
        refine wpIn_region_inv (by kernel_rfl) (hord_of2 (by kernel_rfl)) (fun done ac WW => ac = { tmps := #[.pointer (some ⟨L.bx, 0, none⟩), .agg #[.int .i64 N, .slice (some ⟨b, off, none⟩) n cap], undef, .pointer (some ⟨w.heap.size, 0, none⟩), .pointer (some ⟨w.heap.size + 1, 0, none⟩), .func (.func 29) #[] #[.pointer (some ⟨W1.heap.size, 0, none⟩), .pointer (some ⟨W1.heap.size + 1, 0, none⟩)], .pointer (some ⟨W2.heap.size, 0, none⟩), .pointer (some ⟨(W2.heap.size + 1), 0, none⟩), .int .u32 x.1, .pointer (some ⟨Bx, 0, none⟩), .pointer (some ⟨L.bx, 0, none⟩), .int .i64 n, .pointer (some ⟨w.heap.size, 1, none⟩), .slice (some ⟨b, off, none⟩) n cap, .int .i64 n, .bool false, .bool false, .pointer (some ⟨L.bx, 0, none⟩), .int .i64 nb, .pointer (some ⟨w.heap.size, 0, none⟩), .int .i64 N, .pointer (some ⟨w.heap.size, 1, none⟩), .slice (some ⟨b, off, none⟩) n cap, .int .i64 n, .int .i64 ((N : Int) - (n : Int)), .bool false, .bool false, .pointer (some ⟨L.bx, 0, none⟩), .func (.func 29) #[] #[.pointer (some ⟨W1.heap.size, 0, none⟩), .pointer (some ⟨W1.heap.size + 1, 0, none⟩)], .func (.func 29) #[] #[.pointer (some ⟨W1.heap.size, 0, none⟩), .pointer (some ⟨W1.heap.size + 1, 0, none⟩)], .bool false, .int .i64 0, .bool true, undef, undef, .func (.func 29) #[] #[.pointer (some ⟨W1.heap.size, 0, none⟩), .pointer (some ⟨W1.heap.size + 1, 0, none⟩)], .int .u32 x.1, .agg #[.int .i64 x.2.seg, .int .u64 x.2.gen, .int .i64 x.2.sec], if done 0 then (.int .i64 k) else undef, if done 1 then (.pointer (some ⟨w.heap.size, 1, none⟩)) else undef, if done 2 then (.slice (some ⟨b, off, none⟩) n cap) else undef, if done 3 then (.int .i64 n) else undef, if done 4 then (.bool false) else undef, if done 5 then (.bool false) else undef, if done 6 then (.int .u32 x.1) else undef, if done 7 then (.agg #[.int .i64 x.2.seg, .int .u64 x.2.gen, .int .i64 x.2.sec]) else undef, if done 8 then (.agg #[.int .u32 x.1, .int .i64 x.2.seg, .int .u64 x.2.gen, .int .i64 x.2.sec]) else undef, if done 9 then (.pointer (some ⟨w.heap.size, 1, none⟩)) else undef, if done 10 then (.slice (some ⟨b, off, none⟩) n cap) else undef, if done 11 then (.int .i64 k) else undef, if done 12 then (.pointer (some ⟨b, off + k * 4, none⟩)) else undef, if done 13 then (.agg #[.int .u32 z.1, .int .i64 z.2.seg, .int .u64 z.2.gen, .int .i64 z.2.sec]) else undef, if done 14 then (.bool true) else undef, if done 15 then (.bool true) else undef, undef, undef, undef, undef, undef, undef, undef, undef, undef, undef, undef, undef, undef, undef, undef, undef, undef, undef], defers := [] } ∧ WW = W.drew) ?_ ?_ ?_
        · exact ⟨by simp, rfl⟩
        · intro done ac WW j oq ho hd hdep hcl ⟨hlit, hww⟩
          have hj : j < 16 := (Array.getElem?_eq_some_iff.1 ho).1
          subst hlit hww
          obtain rfl | rfl | rfl | rfl | rfl | rfl | rfl | rfl | rfl | rfl | rfl | rfl | rfl | rfl | rfl | rfl : j = 0 ∨ j = 1 ∨ j = 2 ∨ j = 3 ∨ j = 4 ∨ j = 5 ∨ j = 6 ∨ j = 7 ∨ j = 8 ∨ j = 9 ∨ j = 10 ∨ j = 11 ∨ j = 12 ∨ j = 13 ∨ j = 14 ∨ j = 15 := by omega
          · refine wpOpIn_val ho (by cases ho; rfl) (w' := W.drew) (v := (.int .i64 k)) (by cases ho; rfl) (by cases ho; exact fun c h => by cases h) (by cases ho; simp [execOp, go_sem, e5]) ?_
            cases ho
            exact ⟨by simp [Act.put], rfl⟩
          · refine wpOpIn_val ho (by cases ho; rfl) (w' := W.drew) (v := (.pointer (some ⟨w.heap.size, 1, none⟩))) (by cases ho; rfl) (by cases ho; exact fun c h => by cases h) (by cases ho; simp [execOp, go_sem]) ?_
            cases ho
            exact ⟨by simp [Act.put], rfl⟩
          · have p1 : done 1 = true := by cases ho; exact hdep ⟨1, .data⟩ (by simp) rfl
            refine wpOpIn_val ho (by cases ho; rfl) (w' := W.drew) (v := (.slice (some ⟨b, off, none⟩) n cap)) (by cases ho; rfl) (by cases ho; exact fun c h => by cases h) (by cases ho; simp [execOp, go_sem, p1, e1]) ?_
            cases ho
            exact ⟨by simp [Act.put], rfl⟩
          · have p2 : done 2 = true := by cases ho; exact hdep ⟨2, .data⟩ (by simp) rfl
            refine wpOpIn_val ho (by cases ho; rfl) (w' := W.drew) (v := (.int .i64 n)) (by cases ho; simp [Oper.about, go_sem]) (by cases ho; exact fun c h => by cases h) (by cases ho; simp [execOp, go_sem, p2]) ?_
            cases ho
            exact ⟨by simp [Act.put], rfl⟩
          · have p0 : done 0 = true := by cases ho; exact hdep ⟨0, .data⟩ (by simp) rfl
            have p3 : done 3 = true := by cases ho; exact hdep ⟨3, .data⟩ (by simp) rfl
            refine wpOpIn_val ho (by cases ho; rfl) (w' := W.drew) (v := (.bool false)) (by cases ho; rfl) (by cases ho; exact fun c h => by cases h) (by cases ho; simp [execOp, go_sem, p0, p3, hpre]) ?_
            cases ho
            exact ⟨by simp [Act.put], rfl⟩
          · have p4 : done 4 = true := by cases ho; exact hdep ⟨4, .data⟩ (by simp) rfl
            refine wpOpIn_val ho (by cases ho; rfl) (w' := W.drew) (v := (.bool false)) (by cases ho; rfl) (by cases ho; exact fun c h => by cases h) (by cases ho; simp [execOp, go_sem, p4]) ?_
            cases ho
            exact ⟨by simp [Act.put], rfl⟩
          · have p5 : done 5 = true := by cases ho; exact hdep ⟨5, .guard⟩ (by simp) rfl
            refine wpOpIn_val ho (by cases ho; simp [Region.wanted, yielded, p5]) (w' := W.drew) (v := (.int .u32 x.1)) (by cases ho; rfl) (by cases ho; exact fun c h => by cases h) (by cases ho; simp [execOp, go_sem]) ?_
            cases ho
            exact ⟨by simp [Act.put], rfl⟩
          · have p5 : done 5 = true := by cases ho; exact hdep ⟨5, .guard⟩ (by simp) rfl
            refine wpOpIn_val ho (by cases ho; simp [Region.wanted, yielded, p5]) (w' := W.drew) (v := (.agg #[.int .i64 x.2.seg, .int .u64 x.2.gen, .int .i64 x.2.sec])) (by cases ho; rfl) (by cases ho; exact fun c h => by cases h) (by cases ho; simp [execOp, go_sem, e7, e8, e9]) ?_
            cases ho
            exact ⟨by simp [Act.put], rfl⟩
          · have p6 : done 6 = true := by cases ho; exact hdep ⟨6, .data⟩ (by simp) rfl
            have p7 : done 7 = true := by cases ho; exact hdep ⟨7, .data⟩ (by simp) rfl
            have p5 : done 5 = true := by cases ho; exact hdep ⟨5, .guard⟩ (by simp) rfl
            refine wpOpIn_val ho (by cases ho; simp [Region.wanted, yielded, p5]) (w' := W.drew) (v := (.agg #[.int .u32 x.1, .int .i64 x.2.seg, .int .u64 x.2.gen, .int .i64 x.2.sec])) (by cases ho; rfl) (by cases ho; exact fun c h => by cases h) (by cases ho; simp [execOp, go_sem, p6, p7]) ?_
            cases ho
            exact ⟨by simp [Act.put], rfl⟩
          · have p5 : done 5 = true := by cases ho; exact hdep ⟨5, .guard⟩ (by simp) rfl
            refine wpOpIn_val ho (by cases ho; simp [Region.wanted, yielded, p5]) (w' := W.drew) (v := (.pointer (some ⟨w.heap.size, 1, none⟩))) (by cases ho; rfl) (by cases ho; exact fun c h => by cases h) (by cases ho; simp [execOp, go_sem]) ?_
            cases ho
            exact ⟨by simp [Act.put], rfl⟩
          · have p9 : done 9 = true := by cases ho; exact hdep ⟨9, .data⟩ (by simp) rfl
            have p5 : done 5 = true := by cases ho; exact hdep ⟨5, .guard⟩ (by simp) rfl
            refine wpOpIn_val ho (by cases ho; simp [Region.wanted, yielded, p5]) (w' := W.drew) (v := (.slice (some ⟨b, off, none⟩) n cap)) (by cases ho; rfl) (by cases ho; exact fun c h => by cases h) (by cases ho; simp [execOp, go_sem, p9, e1]) ?_
            cases ho
            exact ⟨by simp [Act.put], rfl⟩
          · have p5 : done 5 = true := by cases ho; exact hdep ⟨5, .guard⟩ (by simp) rfl
            refine wpOpIn_val ho (by cases ho; simp [Region.wanted, yielded, p5]) (w' := W.drew) (v := (.int .i64 k)) (by cases ho; rfl) (by cases ho; exact fun c h => by cases h) (by cases ho; simp [execOp, go_sem, e5]) ?_
            cases ho
            exact ⟨by simp [Act.put], rfl⟩
          · have p10 : done 10 = true := by cases ho; exact hdep ⟨10, .data⟩ (by simp) rfl
            have p11 : done 11 = true := by cases ho; exact hdep ⟨11, .data⟩ (by simp) rfl
            have p5 : done 5 = true := by cases ho; exact hdep ⟨5, .guard⟩ (by simp) rfl
            refine wpOpIn_val ho (by cases ho; simp [Region.wanted, yielded, p5]) (w' := W.drew) (v := (.pointer (some ⟨b, off + k * 4, none⟩))) (by cases ho; rfl) (by cases ho; exact fun c h => by cases h) (by cases ho; simp [execOp, go_sem, p10, p11, Nat.not_le.2 hpre]) ?_
            cases ho
            exact ⟨by simp [Act.put], rfl⟩
          · have p12 : done 12 = true := by cases ho; exact hdep ⟨12, .data⟩ (by simp) rfl
            have p5 : done 5 = true := by cases ho; exact hdep ⟨5, .guard⟩ (by simp) rfl
            refine wpOpIn_val ho (by cases ho; simp [Region.wanted, yielded, p5]) (w' := W.drew) (v := (.agg #[.int .u32 z.1, .int .i64 z.2.seg, .int .u64 z.2.gen, .int .i64 z.2.sec])) (by cases ho; rfl) (by cases ho; exact fun c h => by cases h) (by cases ho; simp [execOp, go_sem, p12, c0, c1, c2, c3]) ?_
            cases ho
            exact ⟨by simp [Act.put], rfl⟩
          · have p8 : done 8 = true := by cases ho; exact hdep ⟨8, .data⟩ (by simp) rfl
            have p13 : done 13 = true := by cases ho; exact hdep ⟨13, .data⟩ (by simp) rfl
            have p5 : done 5 = true := by cases ho; exact hdep ⟨5, .guard⟩ (by simp) rfl
            refine wpOpIn_val ho (by cases ho; simp [Region.wanted, yielded, p5]) (w' := W.drew) (v := (.bool true)) (by cases ho; rfl) (by cases ho; exact fun c h => by cases h) (by cases ho; simp [execOp, go_sem, p8, p13, t1]) ?_
            cases ho
            exact ⟨by simp [Act.put], rfl⟩
          · have p5 : done 5 = true := by cases ho; exact hdep ⟨5, .data⟩ (by simp) rfl
            have p14 : done 14 = true := by cases ho; exact hdep ⟨14, .data⟩ (by simp) rfl
            refine wpOpIn_val ho (by cases ho; rfl) (w' := W.drew) (v := (.bool true)) (by cases ho; rfl) (by cases ho; exact fun c h => by cases h) (by cases ho; simp [execOp, go_sem, p5, p14]) ?_
            cases ho
            exact ⟨by simp [Act.put], rfl⟩
        · rintro done ac WW hall ⟨rfl, rfl⟩
          have d0 := hall 0 (by decide)
          have d1 := hall 1 (by decide)
          have d2 := hall 2 (by decide)
          have d3 := hall 3 (by decide)
          have d4 := hall 4 (by decide)
          have d5 := hall 5 (by decide)
          have d6 := hall 6 (by decide)
          have d7 := hall 7 (by decide)
          have d8 := hall 8 (by decide)
          have d9 := hall 9 (by decide)
          have d10 := hall 10 (by decide)
          have d11 := hall 11 (by decide)
          have d12 := hall 12 (by decide)
          have d13 := hall 13 (by decide)
          have d14 := hall 14 (by decide)
          have d15 := hall 15 (by decide)
          simp only [d0, d1, d2, d3, d4, d5, d6, d7, d8, d9, d10, d11, d12, d13, d14, d15, if_true]
          clear hall d0 d1 d2 d3 d4 d5 d6 d7 d8 d9 d10 d11 d12 d13 d14 d15
          gi_wp2_with fail
          exact ⟨((KeepsOthers.drew _).trans (KeepsOthers.setCell _ _ _)).from _, ⟨rfl, HNX2.out HXZ.out⟩⟩
  case stop0 =>
    rintro D c pre W hD hp ⟨rfl, hn⟩ hK
    exact absurd hp hn
  case done0 =>
    rintro D0 ys Y0 hD0 hys ⟨⟨hI1, hI2⟩, _⟩ hK0
    rw [hys, ← HN.out] at hI2
    clear hys
    have HI10 := Lib.hid hI1
    have HI20 := Lib.hid hI2
    have HK0 := Lib.hid hK0
    clear hI1 hI2 hK0
    have hsY0 := HI10.out.size
    have z1 : Y0.cell? ⟨W2.heap.size, 0, none⟩ = some (.int .i64 0) := blk_cell (blk_below HB60.out HI10.out (by omega)) 0
    have z2 : Y0.cell? ⟨W2.heap.size + 1, 0, none⟩ = some (.int .i64 n) := blk_cell HI20.out 0
    have z3 : Y0.cell? ⟨w.heap.size, 1, none⟩ = some (.slice a n cap) := blk_cell (blk_below (blk_below HX12.out HVB0.out (by omega)) HI10.out (by omega)) 1
    have t1 : ((n : Int) != (n : Int)) = false := by simp
    go_wp2_with fail
    clear z1 z2 z3 t1
    rw [rounds_succ]
    go_wp2_with fail
    obtain ⟨V1, hV1⟩ : ∃ V1, V1 = (Y0.alloc (.cells #[.int .i64 1] 3)).alloc (.cells #[.int .i64 0] 3) := ⟨_, rfl⟩
    rw [← hV1]
    have hvs1 : V1.heap.size = Y0.heap.size + 2 := by rw [hV1]; simp
    have hYV : Below Y0.heap.size Y0 V1 := by rw [hV1]; exact ((Below.refl _ Y0).alloc (Nat.le_refl _) _).alloc (by simp) _
    have HVB1 : Hid (Below W2.heap.size W2 V1) := HVB0.out.trans ((HI10.out.mono (by omega)).trans (hYV.mono (by omega)))
    have HB61 : Hid (Boxed V1 Y0.heap.size 3 (.int .i64 1)) := by
      show Boxed _ _ _ _
      rw [hV1]; exact (Boxed.new Y0 3 _).alloc _
    have HB71 : Hid (Boxed V1 (Y0.heap.size + 1) 3 (.int .i64 0)) := by
      show Boxed _ _ _ _
      have := Boxed.new (Y0.alloc (.cells #[.int .i64 1] 3)) 3 (.int .i64 0)
      rw [World.size_alloc] at this
      rw [hV1]; exact this
    have HWB1 : Hid (Below w.heap.size w V1) := HB1.out.trans ((HB2.out.trans (HVB1.out.mono HB2.out.size)).mono HB1.out.size)
    have hD0l : D0 < Y0.heap.size := (Array.getElem?_eq_some_iff.1 HK0.out).1
    have HK01 : Hid (V1.heap[D0]? = some (.deferred (some []))) := (hYV.block D0 hD0l).trans HK0.out
    have HVS1 := Lib.hid hvs1
    clear hV1 hvs1 hYV
    have hvs1 : V1.heap.size ≥ Y0.heap.size + 2 := by rw [HVS1.out]; omega
    refine (wpIn_wide (n := 5)).1 ?_
    refine wpIn_rangeFunc_ownH rfl (by omega) (gf := 29) (lb := #[.pointer (some ⟨W1.heap.size, 0, none⟩), .pointer (some ⟨W1.heap.size + 1, 0, none⟩)]) rfl trivial (enters_of Try.func29 (by kernel_rfl) rfl)
      (all_stops Fence.wide _ trivial rfl (by omega) W1.heap.size (W1.heap.size + 1) W2.heap.size A V1 (by omega) (HS2.out.below HVB1.out)) belowK_t (belowK_b (by omega)) (Below.refl _ _) (fun _ => rfl)
      (fun pre W => (Below (Y0.heap.size + 1) V1 W ∧ Boxed W (Y0.heap.size + 1) 3 (.int .i64 pre.length)) ∧ pre <+: A)
      (fun c pre W => ((c = .ret ∧ ¬ pre <+: A) ∨ (c = .exit 2 ∧ pre.length = 2 ∧ pre <+: A ∧ Below (Y0.heap.size + 1) V1 W ∧ Boxed W (Y0.heap.size + 1) 3 (.int .i64 2))))
      (OwnFrom.and (OwnFrom.and (ownFrom_below (by omega) (by omega)) (Own.from (boxed_own _ _ (fun (pre : List (Nat × Adr)) => .int .i64 (pre.length : Int))) _)) (ownFrom_pure _ (fun (pre : List (Nat × Adr)) => pre <+: A)))
      (fun c s X Y row hs hg hr => by
        rcases hs with hs | ⟨h1, h2, h3, h4, h5⟩
        · exact .inl hs
        · exact .inr ⟨h1, h2, h3, (ownFrom_below (β := Unit) (n₀ := (Y0.heap.size + 1)) (B := V1.heap.size) (w₀ := V1) (by omega) (by omega)) () X Y row h4 hg hr, boxed_own (Y0.heap.size + 1) 3 (fun (_ : Unit) => Value.int .i64 2) () X Y row h5 hg (fun r e => (hr r e).2)⟩)
      ⟨⟨Below.refl _ _, HB71.out⟩, List.nil_prefix⟩
      (fun x a' W => ∃ Bx, (Y0.heap.size + 1) < Bx ∧ W.heap[Bx]? = some (.cells #[.int .i64 x.2.seg, .int .u64 x.2.gen, .int .i64 x.2.sec] 32 (0, 0)) ∧ a' = { tmps := #[.pointer (some ⟨L.bx, 0, none⟩), .agg #[.int .i64 N, .slice a n cap], undef, .pointer (some ⟨w.heap.size, 0, none⟩), .pointer (some ⟨w.heap.size + 1, 0, none⟩), .func (.func 29) #[] #[.pointer (some ⟨W1.heap.size, 0, none⟩), .pointer (some ⟨W1.heap.size + 1, 0, none⟩)], .pointer (some ⟨Y0.heap.size, 0, none⟩), .pointer (some ⟨(Y0.heap.size + 1), 0, none⟩), .int .u32 x.1, .pointer (some ⟨Bx, 0, none⟩), .pointer (some ⟨L.bx, 0, none⟩), .int .i64 n, .pointer (some ⟨w.heap.size, 1, none⟩), .slice a n cap, .int .i64 n, .bool false, .bool false, .pointer (some ⟨L.bx, 0, none⟩), .int .i64 nb, .pointer (some ⟨w.heap.size, 0, none⟩), .int .i64 N, .pointer (some ⟨w.heap.size, 1, none⟩), .slice a n cap, .int .i64 n, .int .i64 ((N : Int) - (n : Int)), .bool false, .bool false, .pointer (some ⟨L.bx, 0, none⟩), .func (.func 29) #[] #[.pointer (some ⟨W1.heap.size, 0, none⟩), .pointer (some ⟨W1.heap.size + 1, 0, none⟩)], .func (.func 29) #[] #[.pointer (some ⟨W1.heap.size, 0, none⟩), .pointer (some ⟨W1.heap.size + 1, 0, none⟩)], .bool false, .int .i64 1, .bool true, .int .i64 0, .int .i64 1, .func (.func 29) #[] #[.pointer (some ⟨W1.heap.size, 0, none⟩), .pointer (some ⟨W1.heap.size + 1, 0, none⟩)], .int .u32 x.1, .agg #[.int .i64 x.2.seg, .int .u64 x.2.gen, .int .i64 x.2.sec], undef, undef, undef, undef, undef, undef, undef, undef, undef, undef, undef, undef, undef, undef, undef, undef, undef, undef, undef, undef, undef, undef, undef, undef, .int .i64 0, .bool true, .bool true, .int .i64 n, .pointer (some ⟨w.heap.size, 1, none⟩), .slice a n cap, .int .i64 n, .bool false, .bool false, .int .i64 0], defers := [] })
      (fun x a' _ X Y row hs hg hr => by
        obtain ⟨Bx, h1, h2, h3⟩ := hs
        refine ⟨Bx, h1, (hg.block Bx (Array.getElem?_eq_some_iff.1 h2).1 (fun e => ?_)).trans h2, h3⟩
        obtain ⟨_, o, ho, hc⟩ := hr Bx e.symm
        rw [h2] at ho; injection ho with ho; rw [← ho] at hc; cases hc)
      ?assign1 ?body1 ?done1 ?stop1
    case assign1 =>
      rintro l pre x W K ⟨⟨hI1, hI2⟩, hI3⟩ hK
      unfold encE
      gi_wp2
      have hs := hI1.size
      exact hK _ _ ((KeepsOthers.alloc _ _).from _) ((Below.refl _ W).alloc (by omega) _) ⟨⟨hI1.alloc (by omega) _, hI2.alloc _⟩, hI3⟩ ⟨W.heap.size, hI2.lt, heap_alloc_new W _, rfl⟩
    case body1 =>
      rintro l pre x a' W hl _ ⟨⟨hI1, hI2⟩, hI3⟩ ⟨Bx, hBx, hbx, rfl⟩ hlt
      have hsW := hI1.size
      have hF := fun (b : Nat) (o : Obj) (h : W2.heap[b]? = some o) (hb : b < W2.heap.size) => blk_below (blk_below h HVB1.out hb) hI1 (show b < (Y0.heap.size + 1) by omega)
      have k1 := hF _ _ HX12.out (by omega)
      have k2 := hF _ _ HX22.out (by omega)
      have e1 : W.cell? ⟨w.heap.size, 1, none⟩ = some (.slice a n cap) := blk_cell k1 1
      have e2 : W.cell? ⟨w.heap.size + 1, 0, none⟩ = some (.bool false) := blk_cell k2 0
      have e3 : W.frozen? ⟨w.heap.size + 1, 0, none⟩ = false := blk_frozen k2 0
      have e4 : W.cell? ⟨Y0.heap.size, 0, none⟩ = some (.int .i64 1) := blk_cell (blk_below HB61.out hI1 (by omega)) 0
      have e5 : W.cell? ⟨(Y0.heap.size + 1), 0, none⟩ = some (.int .i64 pre.length) := blk_cell hI2 0
      have e6 : W.frozen? ⟨(Y0.heap.size + 1), 0, none⟩ = false := blk_frozen hI2 0
      have e7 : W.cell? ⟨Bx, 0, none⟩ = some (.int .i64 x.2.seg) := blk_cell hbx 0
      have e8 : W.cell? ⟨Bx, 1, none⟩ = some (.int .u64 x.2.gen) := blk_cell hbx 1
      have e9 : W.cell? ⟨Bx, 2, none⟩ = some (.int .i64 x.2.sec) := blk_cell hbx 2
      obtain ⟨b, off, cap', hsl, g1, g2, g3, hc⟩ := HV.out.at (by omega)
      obtain ⟨rfl, rfl⟩ : a = some ⟨b, off, none⟩ ∧ cap = cap' := by cases hsl; exact ⟨rfl, rfl⟩
      obtain ⟨c0, c1, c2, c3⟩ := hc pre.length hlt W (HWB1.out.trans (hI1.mono (by omega)))
      have hpre : pre.length < n := by rw [HN.out]; exact hlt
      have hnx : ∀ (h : x = A.getD pre.length default), pre ++ [x] <+: A := fun h => by
        obtain ⟨s, hs⟩ := hI3
        have h2 := take_snoc_getD A pre.length hlt
        rw [show A.take pre.length = pre from by rw [← hs]; simp, ← h] at h2
        rw [← h2]; exact List.take_prefix _ _
      have hnx2 : ∀ (h : x ≠ A.getD pre.length default), ¬ pre ++ [x] <+: A := fun h hp => by
        apply h
        obtain ⟨s, hs⟩ := hp
        rw [← hs]; simp [List.getD_eq_getElem?_getD]
      have HNX := Lib.hid hnx
      have HNX2 := Lib.hid hnx2
      have HI1 := Lib.hid hI1
      have HI2 := Lib.hid hI2
      have HI3 := Lib.hid hI3
      clear hc hsl hnx hnx2 hF k1 k2 hI1 hI2 hI3 hbx
      obtain ⟨z, hz⟩ : ∃ z, z = A.getD pre.length default := ⟨_, rfl⟩
      rw [← hz] at c0 c1 c2 c3 HNX HNX2
      clear hz
      obtain ⟨k, hk⟩ : ∃ k, k = pre.length := ⟨_, rfl⟩
      rw [← hk] at e5 c0 c1 c2 c3 hpre
      have HKL := Lib.hid hk
      clear hk
      have hgeq : ¬ (n : Int) ≤ (k : Int) := by omega
      have hgd : decide ((n : Int) ≤ (k : Int)) = false := by simp; omega
      rcases entTest x z with ⟨he, t1, h⟩ | ⟨he, h⟩
      · rcases h with ⟨_, t2, t3, t4⟩ | ⟨h, _⟩
        · have HXZ := Lib.hid (of_decide_eq_true he)
          clear he
          gi_wp2_with fail
          refine wpIn_region_inv (by kernel_rfl) (hord_of2 (by kernel_rfl)) (fun done ac WW => ac = { tmps := #[.pointer (some ⟨L.bx, 0, none⟩), .agg #[.int .i64 N, .slice (some ⟨b, off, none⟩) n cap], undef, .pointer (some ⟨w.heap.size, 0, none⟩), .pointer (some ⟨w.heap.size + 1, 0, none⟩), .func (.func 29) #[] #[.pointer (some ⟨W1.heap.size, 0, none⟩), .pointer (some ⟨W1.heap.size + 1, 0, none⟩)], .pointer (some ⟨Y0.heap.size, 0, none⟩), .pointer (some ⟨(Y0.heap.size + 1), 0, none⟩), .int .u32 x.1, .pointer (some ⟨Bx, 0, none⟩), .pointer (some ⟨L.bx, 0, none⟩), .int .i64 n, .pointer (some ⟨w.heap.size, 1, none⟩), .slice (some ⟨b, off, none⟩) n cap, .int .i64 n, .bool false, .bool false, .pointer (some ⟨L.bx, 0, none⟩), .int .i64 nb, .pointer (some ⟨w.heap.size, 0, none⟩), .int .i64 N, .pointer (some ⟨w.heap.size, 1, none⟩), .slice (some ⟨b, off, none⟩) n cap, .int .i64 n, .int .i64 ((N : Int) - (n : Int)), .bool false, .bool false, .pointer (some ⟨L.bx, 0, none⟩), .func (.func 29) #[] #[.pointer (some ⟨W1.heap.size, 0, none⟩), .pointer (some ⟨W1.heap.size + 1, 0, none⟩)], .func (.func 29) #[] #[.pointer (some ⟨W1.heap.size, 0, none⟩), .pointer (some ⟨W1.heap.size + 1, 0, none⟩)], .bool false, .int .i64 1, .bool true, .int .i64 0, .int .i64 1, .func (.func 29) #[] #[.pointer (some ⟨W1.heap.size, 0, none⟩), .pointer (some ⟨W1.heap.size + 1, 0, none⟩)], .int .u32 x.1, .agg #[.int .i64 x.2.seg, .int .u64 x.2.gen, .int .i64 x.2.sec], if done 0 then (.int .i64 k) else undef, if done 1 then (.pointer (some ⟨w.heap.size, 1, none⟩)) else undef, if done 2 then (.slice (some ⟨b, off, none⟩) n cap) else undef, if done 3 then (.int .i64 n) else undef, if done 4 then (.bool false) else undef, if done 5 then (.bool false) else undef, if done 6 then (.int .u32 x.1) else undef, if done 7 then (.agg #[.int .i64 x.2.seg, .int .u64 x.2.gen, .int .i64 x.2.sec]) else undef, if done 8 then (.agg #[.int .u32 x.1, .int .i64 x.2.seg, .int .u64 x.2.gen, .int .i64 x.2.sec]) else undef, if done 9 then (.pointer (some ⟨w.heap.size, 1, none⟩)) else undef, if done 10 then (.slice (some ⟨b, off, none⟩) n cap) else undef, if done 11 then (.int .i64 k) else undef, if done 12 then (.pointer (some ⟨b, off + k * 4, none⟩)) else undef, if done 13 then (.agg #[.int .u32 z.1, .int .i64 z.2.seg, .int .u64 z.2.gen, .int .i64 z.2.sec]) else undef, if done 14 then (.bool false) else undef, if done 15 then (.bool false) else undef, undef, undef, undef, undef, undef, undef, undef, undef, .int .i64 0, .bool true, .bool true, .int .i64 n, .pointer (some ⟨w.heap.size, 1, none⟩), .slice (some ⟨b, off, none⟩) n cap, .int .i64 n, .bool false, .bool false, .int .i64 0], defers := [] } ∧ WW = W.drew) ?_ ?_ ?_
          · exact ⟨by simp, rfl⟩
          · intro done ac WW j oq ho hd hdep hcl ⟨hlit, hww⟩
            have hj : j < 16 := (Array.getElem?_eq_some_iff.1 ho).1
            subst hlit hww
            obtain rfl | rfl | rfl | rfl | rfl | rfl | rfl | rfl | rfl | rfl | rfl | rfl | rfl | rfl | rfl | rfl : j = 0 ∨ j = 1 ∨ j = 2 ∨ j = 3 ∨ j = 4 ∨ j = 5 ∨ j = 6 ∨ j = 7 ∨ j = 8 ∨ j = 9 ∨ j = 10 ∨ j = 11 ∨ j = 12 ∨ j = 13 ∨ j = 14 ∨ j = 15 := by omega
            · refine wpOpIn_val ho (by cases ho; rfl) (w' := W.drew) (v := (.int .i64 k)) (by cases ho; rfl) (by cases ho; exact fun c h => by cases h) (by cases ho; simp [execOp, go_sem, e5]) ?_
              cases ho
              exact ⟨by simp [Act.put], rfl⟩
            · refine wpOpIn_val ho (by cases ho; rfl) (w' := W.drew) (v := (.pointer (some ⟨w.heap.size, 1, none⟩))) (by cases ho; rfl) (by cases ho; exact fun c h => by cases h) (by cases ho; simp [execOp, go_sem]) ?_
              cases ho
              exact ⟨by simp [Act.put], rfl⟩
            · have p1 : done 1 = true := by cases ho; exact hdep ⟨1, .data⟩ (by simp) rfl
              refine wpOpIn_val ho (by cases ho; rfl) (w' := W.drew) (v := (.slice (some ⟨b, off, none⟩) n cap)) (by cases ho; rfl) (by cases ho; exact fun c h => by cases h) (by cases ho; simp [execOp, go_sem, p1, e1]) ?_
              cases ho
              exact ⟨by simp [Act.put], rfl⟩
            · have p2 : done 2 = true := by cases ho; exact hdep ⟨2, .data⟩ (by simp) rfl
              refine wpOpIn_val ho (by cases ho; rfl) (w' := W.drew) (v := (.int .i64 n)) (by cases ho; simp [Oper.about, go_sem]) (by cases ho; exact fun c h => by cases h) (by cases ho; simp [execOp, go_sem, p2]) ?_
              cases ho
              exact ⟨by simp [Act.put], rfl⟩
            · have p0 : done 0 = true := by cases ho; exact hdep ⟨0, .data⟩ (by simp) rfl
              have p3 : done 3 = true := by cases ho; exact hdep ⟨3, .data⟩ (by simp) rfl
              refine wpOpIn_val ho (by cases ho; rfl) (w' := W.drew) (v := (.bool false)) (by cases ho; rfl) (by cases ho; exact fun c h => by cases h) (by cases ho; simp [execOp, go_sem, p0, p3, hpre]) ?_
              cases ho
              exact ⟨by simp [Act.put], rfl⟩
            · have p4 : done 4 = true := by cases ho; exact hdep ⟨4, .data⟩ (by simp) rfl
              refine wpOpIn_val ho (by cases ho; rfl) (w' := W.drew) (v := (.bool false)) (by cases ho; rfl) (by cases ho; exact fun c h => by cases h) (by cases ho; simp [execOp, go_sem, p4]) ?_
              cases ho
              exact ⟨by simp [Act.put], rfl⟩
            · have p5 : done 5 = true := by cases ho; exact hdep ⟨5, .guard⟩ (by simp) rfl
              refine wpOpIn_val ho (by cases ho; simp [Region.wanted, yielded, p5]) (w' := W.drew) (v := (.int .u32 x.1)) (by cases ho; rfl) (by cases ho; exact fun c h => by cases h) (by cases ho; simp [execOp, go_sem]) ?_
              cases ho
              exact ⟨by simp [Act.put], rfl⟩
            · have p5 : done 5 = true := by cases ho; exact hdep ⟨5, .guard⟩ (by simp) rfl
              refine wpOpIn_val ho (by cases ho; simp [Region.wanted, yielded, p5]) (w' := W.drew) (v := (.agg #[.int .i64 x.2.seg, .int .u64 x.2.gen, .int .i64 x.2.sec])) (by cases ho; rfl) (by cases ho; exact fun c h => by cases h) (by cases ho; simp [execOp, go_sem, e7, e8, e9]) ?_
              cases ho
              exact ⟨by simp [Act.put], rfl⟩
            · have p6 : done 6 = true := by cases ho; exact hdep ⟨6, .data⟩ (by simp) rfl
              have p7 : done 7 = true := by cases ho; exact hdep ⟨7, .data⟩ (by simp) rfl
              have p5 : done 5 = true := by cases ho; exact hdep ⟨5, .guard⟩ (by simp) rfl
              refine wpOpIn_val ho (by cases ho; simp [Region.wanted, yielded, p5]) (w' := W.drew) (v := (.agg #[.int .u32 x.1, .int .i64 x.2.seg, .int .u64 x.2.gen, .int .i64 x.2.sec])) (by cases ho; rfl) (by cases ho; exact fun c h => by cases h) (by cases ho; simp [execOp, go_sem, p6, p7]) ?_
              cases ho
              exact ⟨by simp [Act.put], rfl⟩
            · have p5 : done 5 = true := by cases ho; exact hdep ⟨5, .guard⟩ (by simp) rfl
              refine wpOpIn_val ho (by cases ho; simp [Region.wanted, yielded, p5]) (w' := W.drew) (v := (.pointer (some ⟨w.heap.size, 1, none⟩))) (by cases ho; rfl) (by cases ho; exact fun c h => by cases h) (by cases ho; simp [execOp, go_sem]) ?_
              cases ho
              exact ⟨by simp [Act.put], rfl⟩
            · have p9 : done 9 = true := by cases ho; exact hdep ⟨9, .data⟩ (by simp) rfl
              have p5 : done 5 = true := by cases ho; exact hdep ⟨5, .guard⟩ (by simp) rfl
              refine wpOpIn_val ho (by cases ho; simp [Region.wanted, yielded, p5]) (w' := W.drew) (v := (.slice (some ⟨b, off, none⟩) n cap)) (by cases ho; rfl) (by cases ho; exact fun c h => by cases h) (by cases ho; simp [execOp, go_sem, p9, e1]) ?_
              cases ho
              exact ⟨by simp [Act.put], rfl⟩
            · have p5 : done 5 = true := by cases ho; exact hdep ⟨5, .guard⟩ (by simp) rfl
              refine wpOpIn_val ho (by cases ho; simp [Region.wanted, yielded, p5]) (w' := W.drew) (v := (.int .i64 k)) (by cases ho; rfl) (by cases ho; exact fun c h => by cases h) (by cases ho; simp [execOp, go_sem, e5]) ?_
              cases ho
              exact ⟨by simp [Act.put], rfl⟩
            · have p10 : done 10 = true := by cases ho; exact hdep ⟨10, .data⟩ (by simp) rfl
              have p11 : done 11 = true := by cases ho; exact hdep ⟨11, .data⟩ (by simp) rfl
              have p5 : done 5 = true := by cases ho; exact hdep ⟨5, .guard⟩ (by simp) rfl
              refine wpOpIn_val ho (by cases ho; simp [Region.wanted, yielded, p5]) (w' := W.drew) (v := (.pointer (some ⟨b, off + k * 4, none⟩))) (by cases ho; rfl) (by cases ho; exact fun c h => by cases h) (by cases ho; simp [execOp, go_sem, p10, p11, Nat.not_le.2 hpre]) ?_
              cases ho
              exact ⟨by simp [Act.put], rfl⟩
            · have p12 : done 12 = true := by cases ho; exact hdep ⟨12, .data⟩ (by simp) rfl
              have p5 : done 5 = true := by cases ho; exact hdep ⟨5, .guard⟩ (by simp) rfl
              refine wpOpIn_val ho (by cases ho; simp [Region.wanted, yielded, p5]) (w' := W.drew) (v := (.agg #[.int .u32 z.1, .int .i64 z.2.seg, .int .u64 z.2.gen, .int .i64 z.2.sec])) (by cases ho; rfl) (by cases ho; exact fun c h => by cases h) (by cases ho; simp [execOp, go_sem, p12, c0, c1, c2, c3]) ?_
              cases ho
              exact ⟨by simp [Act.put], rfl⟩
            · have p8 : done 8 = true := by cases ho; exact hdep ⟨8, .data⟩ (by simp) rfl
              have p13 : done 13 = true := by cases ho; exact hdep ⟨13, .data⟩ (by simp) rfl
              have p5 : done 5 = true := by cases ho; exact hdep ⟨5, .guard⟩ (by simp) rfl
              refine wpOpIn_val ho (by cases ho; simp [Region.wanted, yielded, p5]) (w' := W.drew) (v := (.bool false)) (by cases ho; rfl) (by cases ho; exact fun c h => by cases h) (by cases ho; simp [execOp, go_sem, p8, p13, t1, t2, t3, t4]) ?_
              cases ho
              exact ⟨by simp [Act.put], rfl⟩
            · have p5 : done 5 = true := by cases ho; exact hdep ⟨5, .data⟩ (by simp) rfl
              have p14 : done 14 = true := by cases ho; exact hdep ⟨14, .data⟩ (by simp) rfl
              refine wpOpIn_val ho (by cases ho; rfl) (w' := W.drew) (v := (.bool false)) (by cases ho; rfl) (by cases ho; exact fun c h => by cases h) (by cases ho; simp [execOp, go_sem, p5, p14]) ?_
              cases ho
              exact ⟨by simp [Act.put], rfl⟩
          · rintro done ac WW hall ⟨rfl, rfl⟩
            have d0 := hall 0 (by decide)
            have d1 := hall 1 (by decide)
            have d2 := hall 2 (by decide)
            have d3 := hall 3 (by decide)
            have d4 := hall 4 (by decide)
            have d5 := hall 5 (by decide)
            have d6 := hall 6 (by decide)
            have d7 := hall 7 (by decide)
            have d8 := hall 8 (by decide)
            have d9 := hall 9 (by decide)
            have d10 := hall 10 (by decide)
            have d11 := hall 11 (by decide)
            have d12 := hall 12 (by decide)
            have d13 := hall 13 (by decide)
            have d14 := hall 14 (by decide)
            have d15 := hall 15 (by decide)
            simp only [d0, d1, d2, d3, d4, d5, d6, d7, d8, d9, d10, d11, d12, d13, d14, d15, if_true]
            clear hall d0 d1 d2 d3 d4 d5 d6 d7 d8 d9 d10 d11 d12 d13 d14 d15
            by_cases hk2 : k = 1
            · have hk3 : ((k : Int) + 1 == 2) = true := beq_iff_eq.2 (by omega)
              have HK2 := Lib.hid hk2
              clear hk2
              gi_wp2_with fail
              have hbx2 : Boxed (W.drew.setCell ⟨(Y0.heap.size + 1), 0, none⟩ (.int .i64 ((k : Int) + 1))) (Y0.heap.size + 1) 3 (.int .i64 (pre ++ [x]).length) := by
                have h1 := (show Boxed W.drew (Y0.heap.size + 1) 3 (.int .i64 pre.length) from HI2.out).set (.int .i64 ((k : Int) + 1))
                rw [List.length_append, ← HKL.out]
                simpa using h1
              have hbl2 : Below (Y0.heap.size + 1) V1 (W.drew.setCell ⟨(Y0.heap.size + 1), 0, none⟩ (.int .i64 ((k : Int) + 1))) := HI1.out.drew.setCell (p := ⟨(Y0.heap.size + 1), 0, none⟩) (Nat.le_refl _) _
              have hlen2 : (pre ++ [x]).length = 2 := by rw [List.length_append, ← HKL.out, HK2.out]; rfl
              exact ⟨((KeepsOthers.drew _).trans (KeepsOthers.setCell _ _ _)).from _, .inr ⟨rfl, hlen2, HNX.out HXZ.out, hbl2, by rw [hlen2] at hbx2; exact hbx2⟩⟩
            · have hk3 : ((k : Int) + 1 == 2) = false := beq_eq_false_iff_ne.2 (by omega)
              have HK2 := Lib.hid hk2
              clear hk2
              gi_wp2_with fail
              have hbx2 : Boxed (W.drew.setCell ⟨(Y0.heap.size + 1), 0, none⟩ (.int .i64 ((k : Int) + 1))) (Y0.heap.size + 1) 3 (.int .i64 (pre ++ [x]).length) := by
                have h1 := (show Boxed W.drew (Y0.heap.size + 1) 3 (.int .i64 pre.length) from HI2.out).set (.int .i64 ((k : Int) + 1))
                rw [List.length_append, ← HKL.out]
                simpa using h1
              have hbl2 : Below (Y0.heap.size + 1) V1 (W.drew.setCell ⟨(Y0.heap.size + 1), 0, none⟩ (.int .i64 ((k : Int) + 1))) := HI1.out.drew.setCell (p := ⟨(Y0.heap.size + 1), 0, none⟩) (Nat.le_refl _) _
              exact ⟨((KeepsOthers.drew _).trans (KeepsOthers.setCell _ _ _)).from _, ((Below.refl W2.heap.size W).drew).setCell (p := ⟨(Y0.heap.size + 1), 0, none⟩) (show W2.heap.size ≤ (Y0.heap.size + 1) by omega) _, ⟨hbl2, hbx2⟩, HNX.out HXZ.out⟩
        · cases h
      · have HXZ := Lib.hid (of_decide_eq_false he)
        clear he
        rcases h with t1 | ⟨t1, ⟨h, _⟩ | ⟨_, t2 | ⟨t2, t3 | ⟨t3, t4⟩⟩⟩⟩
        rotate_left
        · cases h
        · gi_wp2_with fail
          refine wpIn_region_inv (by kernel_rfl) (hord_of2 (by kernel_rfl)) (fun done ac WW => ac = { tmps := #[.pointer (some ⟨L.bx, 0, none⟩), .agg #[.int .i64 N, .slice (some ⟨b, off, none⟩) n cap], undef, .pointer (some ⟨w.heap.size, 0, none⟩), .pointer (some ⟨w.heap.size + 1, 0, none⟩), .func (.func 29) #[] #[.pointer (some ⟨W1.heap.size, 0, none⟩), .pointer (some ⟨W1.heap.size + 1, 0, none⟩)], .pointer (some ⟨Y0.heap.size, 0, none⟩), .pointer (some ⟨(Y0.heap.size + 1), 0, none⟩), .int .u32 x.1, .pointer (some ⟨Bx, 0, none⟩), .pointer (some ⟨L.bx, 0, none⟩), .int .i64 n, .pointer (some ⟨w.heap.size, 1, none⟩), .slice (some ⟨b, off, none⟩) n cap, .int .i64 n, .bool false, .bool false, .pointer (some ⟨L.bx, 0, none⟩), .int .i64 nb, .pointer (some ⟨w.heap.size, 0, none⟩), .int .i64 N, .pointer (some ⟨w.heap.size, 1, none⟩), .slice (some ⟨b, off, none⟩) n cap, .int .i64 n, .int .i64 ((N : Int) - (n : Int)), .bool false, .bool false, .pointer (some ⟨L.bx, 0, none⟩), .func (.func 29) #[] #[.pointer (some ⟨W1.heap.size, 0, none⟩), .pointer (some ⟨W1.heap.size + 1, 0, none⟩)], .func (.func 29) #[] #[.pointer (some ⟨W1.heap.size, 0, none⟩), .pointer (some ⟨W1.heap.size + 1, 0, none⟩)], .bool false, .int .i64 1, .bool true, .int .i64 0, .int .i64 1, .func (.func 29) #[] #[.pointer (some ⟨W1.heap.size, 0, none⟩), .pointer (some ⟨W1.heap.size + 1, 0, none⟩)], .int .u32 x.1, .agg #[.int .i64 x.2.seg, .int .u64 x.2.gen, .int .i64 x.2.sec], if done 0 then (.int .i64 k) else undef, if done 1 then (.pointer (some ⟨w.heap.size, 1, none⟩)) else undef, if done 2 then (.slice (some ⟨b, off, none⟩) n cap) else undef, if done 3 then (.int .i64 n) else undef, if done 4 then (.bool false) else undef, if done 5 then (.bool false) else undef, if done 6 then (.int .u32 x.1) else undef, if done 7 then (.agg #[.int .i64 x.2.seg, .int .u64 x.2.gen, .int .i64 x.2.sec]) else undef, if done 8 then (.agg #[.int .u32 x.1, .int .i64 x.2.seg, .int .u64 x.2.gen, .int .i64 x.2.sec]) else undef, if done 9 then (.pointer (some ⟨w.heap.size, 1, none⟩)) else undef, if done 10 then (.slice (some ⟨b, off, none⟩) n cap) else undef, if done 11 then (.int .i64 k) else undef, if done 12 then (.pointer (some ⟨b, off + k * 4, none⟩)) else undef, if done 13 then (.agg #[.int .u32 z.1, .int .i64 z.2.seg, .int .u64 z.2.gen, .int .i64 z.2.sec]) else undef, if done 14 then (.bool true) else undef, if done 15 then (.bool true) else undef, undef, undef, undef, undef, undef, undef, undef, undef, .int .i64 0, .bool true, .bool true, .int .i64 n, .pointer (some ⟨w.heap.size, 1, none⟩), .slice (some ⟨b, off, none⟩) n cap, .int .i64 n, .bool false, .bool false, .int .i64 0], defers := [] } ∧ WW = W.drew) ?_ ?_ ?_
          · exact ⟨by simp, rfl⟩
          · intro done ac WW j oq ho hd hdep hcl ⟨hlit, hww⟩
            have hj : j < 16 := (Array.getElem?_eq_some_iff.1 ho).1
            subst hlit hww
            obtain rfl | rfl | rfl | rfl | rfl | rfl | rfl | rfl | rfl | rfl | rfl | rfl | rfl | rfl | rfl | rfl : j = 0 ∨ j = 1 ∨ j = 2 ∨ j = 3 ∨ j = 4 ∨ j = 5 ∨ j = 6 ∨ j = 7 ∨ j = 8 ∨ j = 9 ∨ j = 10 ∨ j = 11 ∨ j = 12 ∨ j = 13 ∨ j = 14 ∨ j = 15 := by omega
            · refine wpOpIn_val ho (by cases ho; rfl) (w' := W.drew) (v := (.int .i64 k)) (by cases ho; rfl) (by cases ho; exact fun c h => by cases h) (by cases ho; simp [execOp, go_sem, e5]) ?_
              cases ho
              exact ⟨by simp [Act.put], rfl⟩
            · refine wpOpIn_val ho (by cases ho; rfl) (w' := W.drew) (v := (.pointer (some ⟨w.heap.size, 1, none⟩))) (by cases ho; rfl) (by cases ho; exact fun c h => by cases h) (by cases ho; simp [execOp, go_sem]) ?_
              cases ho
              exact ⟨by simp [Act.put], rfl⟩
            · have p1 : done 1 = true := by cases ho; exact hdep ⟨1, .data⟩ (by simp) rfl
              refine wpOpIn_val ho (by cases ho; rfl) (w' := W.drew) (v := (.slice (some ⟨b, off, none⟩) n cap)) (by cases ho; rfl) (by cases ho; exact fun c h => by cases h) (by cases ho; simp [execOp, go_sem, p1, e1]) ?_
              cases ho
              exact ⟨by simp [Act.put], rfl⟩
            · have p2 : done 2 = true := by cases ho; exact hdep ⟨2, .data⟩ (by simp) rfl
              refine wpOpIn_val ho (by cases ho; rfl) (w' := W.drew) (v := (.int .i64 n)) (by cases ho; simp [Oper.about, go_sem]) (by cases ho; exact fun c h => by cases h) (by cases ho; simp [execOp, go_sem, p2]) ?_
              cases ho
              exact ⟨by simp [Act.put], rfl⟩
            · have p0 : done 0 = true := by cases ho; exact hdep ⟨0, .data⟩ (by simp) rfl
              have p3 : done 3 = true := by cases ho; exact hdep ⟨3, .data⟩ (by simp) rfl
              refine wpOpIn_val ho (by cases ho; rfl) (w' := W.drew) (v := (.bool false)) (by cases ho; rfl) (by cases ho; exact fun c h => by cases h) (by cases ho; simp [execOp, go_sem, p0, p3, hpre]) ?_
              cases ho
              exact ⟨by simp [Act.put], rfl⟩
            · have p4 : done 4 = true := by cases ho; exact hdep ⟨4, .data⟩ (by simp) rfl
              refine wpOpIn_val ho (by cases ho; rfl) (w' := W.drew) (v := (.bool false)) (by cases ho; rfl) (by cases ho; exact fun c h => by cases h) (by cases ho; simp [execOp, go_sem, p4]) ?_
              cases ho
              exact ⟨by simp [Act.put], rfl⟩
            · have p5 : done 5 = true := by cases ho; exact hdep ⟨5, .guard⟩ (by simp) rfl
              refine wpOpIn_val ho (by cases ho; simp [Region.wanted, yielded, p5]) (w' := W.drew) (v := (.int .u32 x.1)) (by cases ho; rfl) (by cases ho; exact fun c h => by cases h) (by cases ho; simp [execOp, go_sem]) ?_
              cases ho
              exact ⟨by simp [Act.put], rfl⟩
            · have p5 : done 5 = true := by cases ho; exact hdep ⟨5, .guard⟩ (by simp) rfl
              refine wpOpIn_val ho (by cases ho; simp [Region.wanted, yielded, p5]) (w' := W.drew) (v := (.agg #[.int .i64 x.2.seg, .int .u64 x.2.gen, .int .i64 x.2.sec])) (by cases ho; rfl) (by cases ho; exact fun c h => by cases h) (by cases ho; simp [execOp, go_sem, e7, e8, e9]) ?_
              cases ho
              exact ⟨by simp [Act.put], rfl⟩
            · have p6 : done 6 = true := by cases ho; exact hdep ⟨6, .data⟩ (by simp) rfl
              have p7 : done 7 = true := by cases ho; exact hdep ⟨7, .data⟩ (by simp) rfl
              have p5 : done 5 = true := by cases ho; exact hdep ⟨5, .guard⟩ (by simp) rfl
              refine wpOpIn_val ho (by cases ho; simp [Region.wanted, yielded, p5]) (w' := W.drew) (v := (.agg #[.int .u32 x.1, .int .i64 x.2.seg, .int .u64 x.2.gen, .int .i64 x.2.sec])) (by cases ho; rfl) (by cases ho; exact fun c h => by cases h) (by cases ho; simp [execOp, go_sem, p6, p7]) ?_
              cases ho
              exact ⟨by simp [Act.put], rfl⟩
            · have p5 : done 5 = true := by cases ho; exact hdep ⟨5, .guard⟩ (by simp) rfl
              refine wpOpIn_val ho (by cases ho; simp [Region.wanted, yielded, p5]) (w' := W.drew) (v := (.pointer (some ⟨w.heap.size, 1, none⟩))) (by cases ho; rfl) (by cases ho; exact fun c h => by cases h) (by cases ho; simp [execOp, go_sem]) ?_
              cases ho
              exact ⟨by simp [Act.put], rfl⟩
            · have p9 : done 9 = true := by cases ho; exact hdep ⟨9, .data⟩ (by simp) rfl
              have p5 : done 5 = true := by cases ho; exact hdep ⟨5, .guard⟩ (by simp) rfl
              refine wpOpIn_val ho (by cases ho; simp [Region.wanted, yielded, p5]) (w' := W.drew) (v := (.slice (some ⟨b, off, none⟩) n cap)) (by cases ho; rfl) (by cases ho; exact fun c h => by cases h) (by cases ho; simp [execOp, go_sem, p9, e1]) ?_
              cases ho
              exact ⟨by simp [Act.put], rfl⟩
            · have p5 : done 5 = true := by cases ho; exact hdep ⟨5, .guard⟩ (by simp) rfl
              refine wpOpIn_val ho (by cases ho; simp [Region.wanted, yielded, p5]) (w' := W.drew) (v := (.int .i64 k)) (by cases ho; rfl) (by cases ho; exact fun c h => by cases h) (by cases ho; simp [execOp, go_sem, e5]) ?_
              cases ho
              exact ⟨by simp [Act.put], rfl⟩
            · have p10 : done 10 = true := by cases ho; exact hdep ⟨10, .data⟩ (by simp) rfl
              have p11 : done 11 = true := by cases ho; exact hdep ⟨11, .data⟩ (by simp) rfl
              have p5 : done 5 = true := by cases ho; exact hdep ⟨5, .guard⟩ (by simp) rfl
              refine wpOpIn_val ho (by cases ho; simp [Region.wanted, yielded, p5]) (w' := W.drew) (v := (.pointer (some ⟨b, off + k * 4, none⟩))) (by cases ho; rfl) (by cases ho; exact fun c h => by cases h) (by cases ho; simp [execOp, go_sem, p10, p11, Nat.not_le.2 hpre]) ?_
              cases ho
              exact ⟨by simp [Act.put], rfl⟩
            · have p12 : done 12 = true := by cases ho; exact hdep ⟨12, .data⟩ (by simp) rfl
              have p5 : done 5 = true := by cases ho; exact hdep ⟨5, .guard⟩ (by simp) rfl
              refine wpOpIn_val ho (by cases ho; simp [Region.wanted, yielded, p5]) (w' := W.drew) (v := (.agg #[.int .u32 z.1, .int .i64 z.2.seg, .int .u64 z.2.gen, .int .i64 z.2.sec])) (by cases ho; rfl) (by cases ho; exact fun c h => by cases h) (by cases ho; simp [execOp, go_sem, p12, c0, c1, c2, c3]) ?_
              cases ho
              exact ⟨by simp [Act.put], rfl⟩
            · have p8 : done 8 = true := by cases ho; exact hdep ⟨8, .data⟩ (by simp) rfl
              have p13 : done 13 = true := by cases ho; exact hdep ⟨13, .data⟩ (by simp) rfl
              have p5 : done 5 = true := by cases ho; exact hdep ⟨5, .guard⟩ (by simp) rfl
              refine wpOpIn_val ho (by cases ho; simp [Region.wanted, yielded, p5]) (w' := W.drew) (v := (.bool true)) (by cases ho; rfl) (by cases ho; exact fun c h => by cases h) (by cases ho; simp [execOp, go_sem, p8, p13, t1, t2]) ?_
              cases ho
              exact ⟨by simp [Act.put], rfl⟩
            · have p5 : done 5 = true := by cases ho; exact hdep ⟨5, .data⟩ (by simp) rfl
              have p14 : done 14 = true := by cases ho; exact hdep ⟨14, .data⟩ (by simp) rfl
              refine wpOpIn_val ho (by cases ho; rfl) (w' := W.drew) (v := (.bool true)) (by cases ho; rfl) (by cases ho; exact fun c h => by cases h) (by cases ho; simp [execOp, go_sem, p5, p14]) ?_
              cases ho
              exact ⟨by simp [Act.put], rfl⟩
          · rintro done ac WW hall ⟨rfl, rfl⟩
            have d0 := hall 0 (by decide)
            have d1 := hall 1 (by decide)
            have d2 := hall 2 (by decide)
            have d3 := hall 3 (by decide)
            have d4 := hall 4 (by decide)
            have d5 := hall 5 (by decide)
            have d6 := hall 6 (by decide)
            have d7 := hall 7 (by decide)
            have d8 := hall 8 (by decide)
            have d9 := hall 9 (by decide)
            have d10 := hall 10 (by decide)
            have d11 := hall 11 (by decide)
            have d12 := hall 12 (by decide)
            have d13 := hall 13 (by decide)
            have d14 := hall 14 (by decide)
            have d15 := hall 15 (by decide)
            simp only [d0, d1, d2, d3, d4, d5, d6, d7, d8, d9, d10, d11, d12, d13, d14, d15, if_true]
            clear hall d0 d1 d2 d3 d4 d5 d6 d7 d8 d9 d10 d11 d12 d13 d14 d15
            gi_wp2_with fail
            exact ⟨((KeepsOthers.drew _).trans (KeepsOthers.setCell _ _ _)).from _, .inl ⟨rfl, HNX2.out HXZ.out⟩⟩
        · gi_wp2_with fail
          refine wpIn_region_inv (by kernel_rfl) (hord_of2 (by kernel_rfl)) (fun done ac WW => ac = { tmps := #[.pointer (some ⟨L.bx, 0, none⟩), .agg #[.int .i64 N, .slice (some ⟨b, off, none⟩) n cap], undef, .pointer (some ⟨w.heap.size, 0, none⟩), .pointer (some ⟨w.heap.size + 1, 0, none⟩), .func (.func 29) #[] #[.pointer (some ⟨W1.heap.size, 0, none⟩), .pointer (some ⟨W1.heap.size + 1, 0, none⟩)], .pointer (some ⟨Y0.heap.size, 0, none⟩), .pointer (some ⟨(Y0.heap.size + 1), 0, none⟩), .int .u32 x.1, .pointer (some ⟨Bx, 0, none⟩), .pointer (some ⟨L.bx, 0, none⟩), .int .i64 n, .pointer (some ⟨w.heap.size, 1, none⟩), .slice (some ⟨b, off, none⟩) n cap, .int .i64 n, .bool false, .bool false, .pointer (some ⟨L.bx, 0, none⟩), .int .i64 nb, .pointer (some ⟨w.heap.size, 0, none⟩), .int .i64 N, .pointer (some ⟨w.heap.size, 1, none⟩), .slice (some ⟨b, off, none⟩) n cap, .int .i64 n, .int .i64 ((N : Int) - (n : Int)), .bool false, .bool false, .pointer (some ⟨L.bx, 0, none⟩), .func (.func 29) #[] #[.pointer (some ⟨W1.heap.size, 0, none⟩), .pointer (some ⟨W1.heap.size + 1, 0, none⟩)], .func (.func 29) #[] #[.pointer (some ⟨W1.heap.size, 0, none⟩), .pointer (some ⟨W1.heap.size + 1, 0, none⟩)], .bool false, .int .i64 1, .bool true, .int .i64 0, .int .i64 1, .func (.func 29) #[] #[.pointer (some ⟨W1.heap.size, 0, none⟩), .pointer (some ⟨W1.heap.size + 1, 0, none⟩)], .int .u32 x.1, .agg #[.int .i64 x.2.seg, .int .u64 x.2.gen, .int .i64 x.2.sec], if done 0 then (.int .i64 k) else undef, if done 1 then (.pointer (some ⟨w.heap.size, 1, none⟩)) else undef, if done 2 then (.slice (some ⟨b, off, none⟩) n cap) else undef, if done 3 then (.int .i64 n) else undef, if done 4 then (.bool false) else undef, if done 5 then (.bool false) else undef, if done 6 then (.int .u32 x.1) else undef, if done 7 then (.agg #[.int .i64 x.2.seg, .int .u64 x.2.gen, .int .i64 x.2.sec]) else undef, if done 8 then (.agg #[.int .u32 x.1, .int .i64 x.2.seg, .int .u64 x.2.gen, .int .i64 x.2.sec]) else undef, if done 9 then (.pointer (some ⟨w.heap.size, 1, none⟩)) else undef, if done 10 then (.slice (some ⟨b, off, none⟩) n cap) else undef, if done 11 then (.int .i64 k) else undef, if done 12 then (.pointer (some ⟨b, off + k * 4, none⟩)) else undef, if done 13 then (.agg #[.int .u32 z.1, .int .i64 z.2.seg, .int .u64 z.2.gen, .int .i64 z.2.sec]) else undef, if done 14 then (.bool true) else undef, if done 15 then (.bool true) else undef, undef, undef, undef, undef, undef, undef, undef, undef, .int .i64 0, .bool true, .bool true, .int .i64 n, .pointer (some ⟨w.heap.size, 1, none⟩), .slice (some ⟨b, off, none⟩) n cap, .int .i64 n, .bool false, .bool false, .int .i64 0], defers := [] } ∧ WW = W.drew) ?_ ?_ ?_
          · exact ⟨by simp, rfl⟩
          · intro done ac WW j oq ho hd hdep hcl ⟨hlit, hww⟩
            have hj : j < 16 := (Array.getElem?_eq_some_iff.1 ho).1
            subst hlit hww
            obtain rfl | rfl | rfl | rfl | rfl | rfl | rfl | rfl | rfl | rfl | rfl | rfl | rfl | rfl | rfl | rfl : j = 0 ∨ j = 1 ∨ j = 2 ∨ j = 3 ∨ j = 4 ∨ j = 5 ∨ j = 6 ∨ j = 7 ∨ j = 8 ∨ j = 9 ∨ j = 10 ∨ j = 11 ∨ j = 12 ∨ j = 13 ∨ j = 14 ∨ j = 15 := by omega
            · refine wpOpIn_val ho (by cases ho; rfl) (w' := W.drew) (v := (.int .i64 k)) (by cases ho; rfl) (by cases ho; exact fun c h => by cases h) (by cases ho; simp [execOp, go_sem, e5]) ?_
              cases ho
              exact ⟨by simp [Act.put], rfl⟩
            · refine wpOpIn_val ho (by cases ho; rfl) (w' := W.drew) (v := (.pointer (some ⟨w.heap.size, 1, none⟩))) (by cases ho; rfl) (by cases ho; exact fun c h => by cases h) (by cases ho; simp [execOp, go_sem]) ?_
              cases ho
              exact ⟨by simp [Act.put], rfl⟩
            · have p1 : done 1 = true := by cases ho; exact hdep ⟨1, .data⟩ (by simp) rfl
              refine wpOpIn_val ho (by cases ho; rfl) (w' := W.drew) (v := (.slice (some ⟨b, off, none⟩) n cap)) (by cases ho; rfl) (by cases ho; exact fun c h => by cases h) (by cases ho; simp [execOp, go_sem, p1, e1]) ?_
              cases ho
              exact ⟨by simp [Act.put], rfl⟩
            · have p2 : done 2 = true := by cases ho; exact hdep ⟨2, .data⟩ (by simp) rfl
              refine wpOpIn_val ho (by cases ho; rfl) (w' := W.drew) (v := (.int .i64 n)) (by cases ho; simp [Oper.about, go_sem]) (by cases ho; exact fun c h => by cases h) (by cases ho; simp [execOp, go_sem, p2]) ?_
              cases ho
              exact ⟨by simp [Act.put], rfl⟩
            · have p0 : done 0 = true := by cases ho; exact hdep ⟨0, .data⟩ (by simp) rfl
              have p3 : done 3 = true := by cases ho; exact hdep ⟨3, .data⟩ (by simp) rfl
              refine wpOpIn_val ho (by cases ho; rfl) (w' := W.drew) (v := (.bool false)) (by cases ho; rfl) (by cases ho; exact fun c h => by cases h) (by cases ho; simp [execOp, go_sem, p0, p3, hpre]) ?_
              cases ho
              exact ⟨by simp [Act.put], rfl⟩
            · have p4 : done 4 = true := by cases ho; exact hdep ⟨4, .data⟩ (by simp) rfl
              refine wpOpIn_val ho (by cases ho; rfl) (w' := W.drew) (v := (.bool false)) (by cases ho; rfl) (by cases ho; exact fun c h => by cases h) (by cases ho; simp [execOp, go_sem, p4]) ?_
              cases ho
              exact ⟨by simp [Act.put], rfl⟩
            · have p5 : done 5 = true := by cases ho; exact hdep ⟨5, .guard⟩ (by simp) rfl
              refine wpOpIn_val ho (by cases ho; simp [Region.wanted, yielded, p5]) (w' := W.drew) (v := (.int .u32 x.1)) (by cases ho; rfl) (by cases ho; exact fun c h => by cases h) (by cases ho; simp [execOp, go_sem]) ?_
              cases ho
              exact ⟨by simp [Act.put], rfl⟩
            · have p5 : done 5 = true := by cases ho; exact hdep ⟨5, .guard⟩ (by simp) rfl
              refine wpOpIn_val ho (by cases ho; simp [Region.wanted, yielded, p5]) (w' := W.drew) (v := (.agg #[.int .i64 x.2.seg, .int .u64 x.2.gen, .int .i64 x.2.sec])) (by cases ho; rfl) (by cases ho; exact fun c h => by cases h) (by cases ho; simp [execOp, go_sem, e7, e8, e9]) ?_
              cases ho
              exact ⟨by simp [Act.put], rfl⟩
            · have p6 : done 6 = true := by cases ho; exact hdep ⟨6, .data⟩ (by simp) rfl
              have p7 : done 7 = true := by cases ho; exact hdep ⟨7, .data⟩ (by simp) rfl
              have p5 : done 5 = true := by cases ho; exact hdep ⟨5, .guard⟩ (by simp) rfl
              refine wpOpIn_val ho (by cases ho; simp [Region.wanted, yielded, p5]) (w' := W.drew) (v := (.agg #[.int .u32 x.1, .int .i64 x.2.seg, .int .u64 x.2.gen, .int .i64 x.2.sec])) (by cases ho; rfl) (by cases ho; exact fun c h => by cases h) (by cases ho; simp [execOp, go_sem, p6, p7]) ?_
              cases ho
              exact ⟨by simp [Act.put], rfl⟩
            · have p5 : done 5 = true := by cases ho; exact hdep ⟨5, .guard⟩ (by simp) rfl
              refine wpOpIn_val ho (by cases ho; simp [Region.wanted, yielded, p5]) (w' := W.drew) (v := (.pointer (some ⟨w.heap.size, 1, none⟩))) (by cases ho; rfl) (by cases ho; exact fun c h => by cases h) (by cases ho; simp [execOp, go_sem]) ?_
              cases ho
              exact ⟨by simp [Act.put], rfl⟩
            · have p9 : done 9 = true := by cases ho; exact hdep ⟨9, .data⟩ (by simp) rfl
              have p5 : done 5 = true := by cases ho; exact hdep ⟨5, .guard⟩ (by simp) rfl
              refine wpOpIn_val ho (by cases ho; simp [Region.wanted, yielded, p5]) (w' := W.drew) (v := (.slice (some ⟨b, off, none⟩) n cap)) (by cases ho; rfl) (by cases ho; exact fun c h => by cases h) (by cases ho; simp [execOp, go_sem, p9, e1]) ?_
              cases ho
              exact ⟨by simp [Act.put], rfl⟩
            · have p5 : done 5 = true := by cases ho; exact hdep ⟨5, .guard⟩ (by simp) rfl
              refine wpOpIn_val ho (by cases ho; simp [Region.wanted, yielded, p5]) (w' := W.drew) (v := (.int .i64 k)) (by cases ho; rfl) (by cases ho; exact fun c h => by cases h) (by cases ho; simp [execOp, go_sem, e5]) ?_
              cases ho
              exact ⟨by simp [Act.put], rfl⟩
            · have p10 : done 10 = true := by cases ho; exact hdep ⟨10, .data⟩ (by simp) rfl
              have p11 : done 11 = true := by cases ho; exact hdep ⟨11, .data⟩ (by simp) rfl
              have p5 : done 5 = true := by cases ho; exact hdep ⟨5, .guard⟩ (by simp) rfl
              refine wpOpIn_val ho (by cases ho; simp [Region.wanted, yielded, p5]) (w' := W.drew) (v := (.pointer (some ⟨b, off + k * 4, none⟩))) (by cases ho; rfl) (by cases ho; exact fun c h => by cases h) (by cases ho; simp [execOp, go_sem, p10, p11, Nat.not_le.2 hpre]) ?_
              cases ho
              exact ⟨by simp [Act.put], rfl⟩
            · have p12 : done 12 = true := by cases ho; exact hdep ⟨12, .data⟩ (by simp) rfl
              have p5 : done 5 = true := by cases ho; exact hdep ⟨5, .guard⟩ (by simp) rfl
              refine wpOpIn_val ho (by cases ho; simp [Region.wanted, yielded, p5]) (w' := W.drew) (v := (.agg #[.int .u32 z.1, .int .i64 z.2.seg, .int .u64 z.2.gen, .int .i64 z.2.sec])) (by cases ho; rfl) (by cases ho; exact fun c h => by cases h) (by cases ho; simp [execOp, go_sem, p12, c0, c1, c2, c3]) ?_
              cases ho
              exact ⟨by simp [Act.put], rfl⟩
            · have p8 : done 8 = true := by cases ho; exact hdep ⟨8, .data⟩ (by simp) rfl
              have p13 : done 13 = true := by cases ho; exact hdep ⟨13, .data⟩ (by simp) rfl
              have p5 : done 5 = true := by cases ho; exact hdep ⟨5, .guard⟩ (by simp) rfl
              refine wpOpIn_val ho (by cases ho; simp [Region.wanted, yielded, p5]) (w' := W.drew) (v := (.bool true)) (by cases ho; rfl) (by cases ho; exact fun c h => by cases h) (by cases ho; simp [execOp, go_sem, p8, p13, t1, t2, t3]) ?_
              cases ho
              exact ⟨by simp [Act.put], rfl⟩
            · have p5 : done 5 = true := by cases ho; exact hdep ⟨5, .data⟩ (by simp) rfl
              have p14 : done 14 = true := by cases ho; exact hdep ⟨14, .data⟩ (by simp) rfl
              refine wpOpIn_val ho (by cases ho; rfl) (w' := W.drew) (v := (.bool true)) (by cases ho; rfl) (by cases ho; exact fun c h => by cases h) (by cases ho; simp [execOp, go_sem, p5, p14]) ?_
              cases ho
              exact ⟨by simp [Act.put], rfl⟩
          · rintro done ac WW hall ⟨rfl, rfl⟩
            have d0 := hall 0 (by decide)
            have d1 := hall 1 (by decide)
            have d2 := hall 2 (by decide)
            have d3 := hall 3 (by decide)
            have d4 := hall 4 (by decide)
            have d5 := hall 5 (by decide)
            have d6 := hall 6 (by decide)
            have d7 := hall 7 (by decide)
            have d8 := hall 8 (by decide)
            have d9 := hall 9 (by decide)
            have d10 := hall 10 (by decide)
            have d11 := hall 11 (by decide)
            have d12 := hall 12 (by decide)
            have d13 := hall 13 (by decide)
            have d14 := hall 14 (by decide)
            have d15 := hall 15 (by decide)
            simp only [d0, d1, d2, d3, d4, d5, d6, d7, d8, d9, d10, d11, d12, d13, d14, d15, if_true]
            clear hall d0 d1 d2 d3 d4 d5 d6 d7 d8 d9 d10 d11 d12 d13 d14 d15
            gi_wp2_with fail
            exact ⟨((KeepsOthers.drew _).trans (KeepsOthers.setCell _ _ _)).from _, .inl ⟨rfl, HNX2.out HXZ.out⟩⟩
        · gi_wp2_with fail
          refine wpIn_region_inv (by kernel_rfl) (hord_of2 (by kernel_rfl)) (fun done ac WW => ac = { tmps := #[.pointer (some ⟨L.bx, 0, none⟩), .agg #[.int .i64 N, .slice (some ⟨b, off, none⟩) n cap], undef, .pointer (some ⟨w.heap.size, 0, none⟩), .pointer (some ⟨w.heap.size + 1, 0, none⟩), .func (.func 29) #[] #[.pointer (some ⟨W1.heap.size, 0, none⟩), .pointer (some ⟨W1.heap.size + 1, 0, none⟩)], .pointer (some ⟨Y0.heap.size, 0, none⟩), .pointer (some ⟨(Y0.heap.size + 1), 0, none⟩), .int .u32 x.1, .pointer (some ⟨Bx, 0, none⟩), .pointer (some ⟨L.bx, 0, none⟩), .int .i64 n, .pointer (some ⟨w.heap.size, 1, none⟩), .slice (some ⟨b, off, none⟩) n cap, .int .i64 n, .bool false, .bool false, .pointer (some ⟨L.bx, 0, none⟩), .int .i64 nb, .pointer (some ⟨w.heap.size, 0, none⟩), .int .i64 N, .pointer (some ⟨w.heap.size, 1, none⟩), .slice (some ⟨b, off, none⟩) n cap, .int .i64 n, .int .i64 ((N : Int) - (n : Int)), .bool false, .bool false, .pointer (some ⟨L.bx, 0, none⟩), .func (.func 29) #[] #[.pointer (some ⟨W1.heap.size, 0, none⟩), .pointer (some ⟨W1.heap.size + 1, 0, none⟩)], .func (.func 29) #[] #[.pointer (some ⟨W1.heap.size, 0, none⟩), .pointer (some ⟨W1.heap.size + 1, 0, none⟩)], .bool false, .int .i64 1, .bool true, .int .i64 0, .int .i64 1, .func (.func 29) #[] #[.pointer (some ⟨W1.heap.size, 0, none⟩), .pointer (some ⟨W1.heap.size + 1, 0, none⟩)], .int .u32 x.1, .agg #[.int .i64 x.2.seg, .int .u64 x.2.gen, .int .i64 x.2.sec], if done 0 then (.int .i64 k) else undef, if done 1 then (.pointer (some ⟨w.heap.size, 1, none⟩)) else undef, if done 2 then (.slice (some ⟨b, off, none⟩) n cap) else undef, if done 3 then (.int .i64 n) else undef, if done 4 then (.bool false) else undef, if done 5 then (.bool false) else undef, if done 6 then (.int .u32 x.1) else undef, if done 7 then (.agg #[.int .i64 x.2.seg, .int .u64 x.2.gen, .int .i64 x.2.sec]) else undef, if done 8 then (.agg #[.int .u32 x.1, .int .i64 x.2.seg, .int .u64 x.2.gen, .int .i64 x.2.sec]) else undef, if done 9 then (.pointer (some ⟨w.heap.size, 1, none⟩)) else undef, if done 10 then (.slice (some ⟨b, off, none⟩) n cap) else undef, if done 11 then (.int .i64 k) else undef, if done 12 then (.pointer (some ⟨b, off + k * 4, none⟩)) else undef, if done 13 then (.agg #[.int .u32 z.1, .int .i64 z.2.seg, .int .u64 z.2.gen, .int .i64 z.2.sec]) else undef, if done 14 then (.bool true) else undef, if done 15 then (.bool true) else undef, undef, undef, undef, undef, undef, undef, undef, undef, .int .i64 0, .bool true, .bool true, .int .i64 n, .pointer (some ⟨w.heap.size, 1, none⟩), .slice (some ⟨b, off, none⟩) n cap, .int .i64 n, .bool false, .bool false, .int .i64 0], defers := [] } ∧ WW = W.drew) ?_ ?_ ?_
          · exact ⟨by simp, rfl⟩
          · intro done ac WW j oq ho hd hdep hcl ⟨hlit, hww⟩
            have hj : j < 16 := (Array.getElem?_eq_some_iff.1 ho).1
            subst hlit hww
            obtain rfl | rfl | rfl | rfl | rfl | rfl | rfl | rfl | rfl | rfl | rfl | rfl | rfl | rfl | rfl | rfl : j = 0 ∨ j = 1 ∨ j = 2 ∨ j = 3 ∨ j = 4 ∨ j = 5 ∨ j = 6 ∨ j = 7 ∨ j = 8 ∨ j = 9 ∨ j = 10 ∨ j = 11 ∨ j = 12 ∨ j = 13 ∨ j = 14 ∨ j = 15 := by omega
            · refine wpOpIn_val ho (by cases ho; rfl) (w' := W.drew) (v := (.int .i64 k)) (by cases ho; rfl) (by cases ho; exact fun c h => by cases h) (by cases ho; simp [execOp, go_sem, e5]) ?_
              cases ho
              exact ⟨by simp [Act.put], rfl⟩
            · refine wpOpIn_val ho (by cases ho; rfl) (w' := W.drew) (v := (.pointer (some ⟨w.heap.size, 1, none⟩))) (by cases ho; rfl) (by cases ho; exact fun c h => by cases h) (by cases ho; simp [execOp, go_sem]) ?_
              cases ho
              exact ⟨by simp [Act.put], rfl⟩
            · have p1 : done 1 = true := by cases ho; exact hdep ⟨1, .data⟩ (by simp) rfl
              refine wpOpIn_val ho (by cases ho; rfl) (w' := W.drew) (v := (.slice (some ⟨b, off, none⟩) n cap)) (by cases ho; rfl) (by cases ho; exact fun c h => by cases h) (by cases ho; simp [execOp, go_sem, p1, e1]) ?_
              cases ho
              exact ⟨by simp [Act.put], rfl⟩
            · have p2 : done 2 = true := by cases ho; exact hdep ⟨2, .data⟩ (by simp) rfl
              refine wpOpIn_val ho (by cases ho; rfl) (w' := W.drew) (v := (.int .i64 n)) (by cases ho; simp [Oper.about, go_sem]) (by cases ho; exact fun c h => by cases h) (by cases ho; simp [execOp, go_sem, p2]) ?_
              cases ho
              exact ⟨by simp [Act.put], rfl⟩
            · have p0 : done 0 = true := by cases ho; exact hdep ⟨0, .data⟩ (by simp) rfl
              have p3 : done 3 = true := by cases ho; exact hdep ⟨3, .data⟩ (by simp) rfl
              refine wpOpIn_val ho (by cases ho; rfl) (w' := W.drew) (v := (.bool false)) (by cases ho; rfl) (by cases ho; exact fun c h => by cases h) (by cases ho; simp [execOp, go_sem, p0, p3, hpre]) ?_
              cases ho
              exact ⟨by simp [Act.put], rfl⟩
            · have p4 : done 4 = true := by cases ho; exact hdep ⟨4, .data⟩ (by simp) rfl
              refine wpOpIn_val ho (by cases ho; rfl) (w' := W.drew) (v := (.bool false)) (by cases ho; rfl) (by cases ho; exact fun c h => by cases h) (by cases ho; simp [execOp, go_sem, p4]) ?_
              cases ho
              exact ⟨by simp [Act.put], rfl⟩
            · have p5 : done 5 = true := by cases ho; exact hdep ⟨5, .guard⟩ (by simp) rfl
              refine wpOpIn_val ho (by cases ho; simp [Region.wanted, yielded, p5]) (w' := W.drew) (v := (.int .u32 x.1)) (by cases ho; rfl) (by cases ho; exact fun c h => by cases h) (by cases ho; simp [execOp, go_sem]) ?_
              cases ho
              exact ⟨by simp [Act.put], rfl⟩
            · have p5 : done 5 = true := by cases ho; exact hdep ⟨5, .guard⟩ (by simp) rfl
              refine wpOpIn_val ho (by cases ho; simp [Region.wanted, yielded, p5]) (w' := W.drew) (v := (.agg #[.int .i64 x.2.seg, .int .u64 x.2.gen, .int .i64 x.2.sec])) (by cases ho; rfl) (by cases ho; exact fun c h => by cases h) (by cases ho; simp [execOp, go_sem, e7, e8, e9]) ?_
              cases ho
              exact ⟨by simp [Act.put], rfl⟩
            · have p6 : done 6 = true := by cases ho; exact hdep ⟨6, .data⟩ (by simp) rfl
              have p7 : done 7 = true := by cases ho; exact hdep ⟨7, .data⟩ (by simp) rfl
              have p5 : done 5 = true := by cases ho; exact hdep ⟨5, .guard⟩ (by simp) rfl
              refine wpOpIn_val ho (by cases ho; simp [Region.wanted, yielded, p5]) (w' := W.drew) (v := (.agg #[.int .u32 x.1, .int .i64 x.2.seg, .int .u64 x.2.gen, .int .i64 x.2.sec])) (by cases ho; rfl) (by cases ho; exact fun c h => by cases h) (by cases ho; simp [execOp, go_sem, p6, p7]) ?_
              cases ho
              exact ⟨by simp [Act.put], rfl⟩
            · have p5 : done 5 = true := by cases ho; exact hdep ⟨5, .guard⟩ (by simp) rfl
              refine wpOpIn_val ho (by cases ho; simp [Region.wanted, yielded, p5]) (w' := W.drew) (v := (.pointer (some ⟨w.heap.size, 1, none⟩))) (by cases ho; rfl) (by cases ho; exact fun c h => by cases h) (by cases ho; simp [execOp, go_sem]) ?_
              cases ho
              exact ⟨by simp [Act.put], rfl⟩
            · have p9 : done 9 = true := by cases ho; exact hdep ⟨9, .data⟩ (by simp) rfl
              have p5 : done 5 = true := by cases ho; exact hdep ⟨5, .guard⟩ (by simp) rfl
              refine wpOpIn_val ho (by cases ho; simp [Region.wanted, yielded, p5]) (w' := W.drew) (v := (.slice (some ⟨b, off, none⟩) n cap)) (by cases ho; rfl) (by cases ho; exact fun c h => by cases h) (by cases ho; simp [execOp, go_sem, p9, e1]) ?_
              cases ho
              exact ⟨by simp [Act.put], rfl⟩
            · have p5 : done 5 = true := by cases ho; exact hdep ⟨5, .guard⟩ (by simp) rfl
              refine wpOpIn_val ho (by cases ho; simp [Region.wanted, yielded, p5]) (w' := W.drew) (v := (.int .i64 k)) (by cases ho; rfl) (by cases ho; exact fun c h => by cases h) (by cases ho; simp [execOp, go_sem, e5]) ?_
              cases ho
              exact ⟨by simp [Act.put], rfl⟩
            · have p10 : done 10 = true := by cases ho; exact hdep ⟨10, .data⟩ (by simp) rfl
              have p11 : done 11 = true := by cases ho; exact hdep ⟨11, .data⟩ (by simp) rfl
              have p5 : done 5 = true := by cases ho; exact hdep ⟨5, .guard⟩ (by simp) rfl
              refine wpOpIn_val ho (by cases ho; simp [Region.wanted, yielded, p5]) (w' := W.drew) (v := (.pointer (some ⟨b, off + k * 4, none⟩))) (by cases ho; rfl) (by cases ho; exact fun c h => by cases h) (by cases ho; simp [execOp, go_sem, p10, p11, Nat.not_le.2 hpre]) ?_
              cases ho
              exact ⟨by simp [Act.put], rfl⟩
            · have p12 : done 12 = true := by cases ho; exact hdep ⟨12, .data⟩ (by simp) rfl
              have p5 : done 5 = true := by cases ho; exact hdep ⟨5, .guard⟩ (by simp) rfl
              refine wpOpIn_val ho (by cases ho; simp [Region.wanted, yielded, p5]) (w' := W.drew) (v := (.agg #[.int .u32 z.1, .int .i64 z.2.seg, .int .u64 z.2.gen, .int .i64 z.2.sec])) (by cases ho; rfl) (by cases ho; exact fun c h => by cases h) (by cases ho; simp [execOp, go_sem, p12, c0, c1, c2, c3]) ?_
              cases ho
              exact ⟨by simp [Act.put], rfl⟩
            · have p8 : done 8 = true := by cases ho; exact hdep ⟨8, .data⟩ (by simp) rfl
              have p13 : done 13 = true := by cases ho; exact hdep ⟨13, .data⟩ (by simp) rfl
              have p5 : done 5 = true := by cases ho; exact hdep ⟨5, .guard⟩ (by simp) rfl
              refine wpOpIn_val ho (by cases ho; simp [Region.wanted, yielded, p5]) (w' := W.drew) (v := (.bool true)) (by cases ho; rfl) (by cases ho; exact fun c h => by cases h) (by cases ho; simp [execOp, go_sem, p8, p13, t1, t2, t3, t4]) ?_
              cases ho
              exact ⟨by simp [Act.put], rfl⟩
            · have p5 : done 5 = true := by cases ho; exact hdep ⟨5, .data⟩ (by simp) rfl
              have p14 : done 14 = true := by cases ho; exact hdep ⟨14, .data⟩ (by simp) rfl
              refine wpOpIn_val ho (by cases ho; rfl) (w' := W.drew) (v := (.bool true)) (by cases ho; rfl) (by cases ho; exact fun c h => by cases h) (by cases ho; simp [execOp, go_sem, p5, p14]) ?_
              cases ho
              exact ⟨by simp [Act.put], rfl⟩
          · rintro done ac WW hall ⟨rfl, rfl⟩
            have d0 := hall 0 (by decide)
            have d1 := hall 1 (by decide)
            have d2 := hall 2 (by decide)
            have d3 := hall 3 (by decide)
            have d4 := hall 4 (by decide)
            have d5 := hall 5 (by decide)
            have d6 := hall 6 (by decide)
            have d7 := hall 7 (by decide)
            have d8 := hall 8 (by decide)
            have d9 := hall 9 (by decide)
            have d10 := hall 10 (by decide)
            have d11 := hall 11 (by decide)
            have d12 := hall 12 (by decide)
            have d13 := hall 13 (by decide)
            have d14 := hall 14 (by decide)
            have d15 := hall 15 (by decide)
            simp only [d0, d1, d2, d3, d4, d5, d6, d7, d8, d9, d10, d11, d12, d13, d14, d15, if_true]
            clear hall d0 d1 d2 d3 d4 d5 d6 d7 d8 d9 d10 d11 d12 d13 d14 d15
            gi_wp2_with fail
            exact ⟨((KeepsOthers.drew _).trans (KeepsOthers.setCell _ _ _)).from _, .inl ⟨rfl, HNX2.out HXZ.out⟩⟩
        · gi_wp2_with fail
          refine wpIn_region_inv (by kernel_rfl) (hord_of2 (by kernel_rfl)) (fun done ac WW => ac = { tmps := #[.pointer (some ⟨L.bx, 0, none⟩), .agg #[.int .i64 N, .slice (some ⟨b, off, none⟩) n cap], undef, .pointer (some ⟨w.heap.size, 0, none⟩), .pointer (some ⟨w.heap.size + 1, 0, none⟩), .func (.func 29) #[] #[.pointer (some ⟨W1.heap.size, 0, none⟩), .pointer (some ⟨W1.heap.size + 1, 0, none⟩)], .pointer (some ⟨Y0.heap.size, 0, none⟩), .pointer (some ⟨(Y0.heap.size + 1), 0, none⟩), .int .u32 x.1, .pointer (some ⟨Bx, 0, none⟩), .pointer (some ⟨L.bx, 0, none⟩), .int .i64 n, .pointer (some ⟨w.heap.size, 1, none⟩), .slice (some ⟨b, off, none⟩) n cap, .int .i64 n, .bool false, .bool false, .pointer (some ⟨L.bx, 0, none⟩), .int .i64 nb, .pointer (some ⟨w.heap.size, 0, none⟩), .int .i64 N, .pointer (some ⟨w.heap.size, 1, none⟩), .slice (some ⟨b, off, none⟩) n cap, .int .i64 n, .int .i64 ((N : Int) - (n : Int)), .bool false, .bool false, .pointer (some ⟨L.bx, 0, none⟩), .func (.func 29) #[] #[.pointer (some ⟨W1.heap.size, 0, none⟩), .pointer (some ⟨W1.heap.size + 1, 0, none⟩)], .func (.func 29) #[] #[.pointer (some ⟨W1.heap.size, 0, none⟩), .pointer (some ⟨W1.heap.size + 1, 0, none⟩)], .bool false, .int .i64 1, .bool true, .int .i64 0, .int .i64 1, .func (.func 29) #[] #[.pointer (some ⟨W1.heap.size, 0, none⟩), .pointer (some ⟨W1.heap.size + 1, 0, none⟩)], .int .u32 x.1, .agg #[.int .i64 x.2.seg, .int .u64 x.2.gen, .int .i64 x.2.sec], if done 0 then (.int .i64 k) else undef, if done 1 then (.pointer (some ⟨w.heap.size, 1, none⟩)) else undef, if done 2 then (.slice (some ⟨b, off, none⟩) n cap) else undef, if done 3 then (.int .i64 n) else undef, if done 4 then (.bool false) else undef, if done 5 then (.bool false) else undef, if done 6 then (.int .u32 x.1) else undef, if done 7 then (.agg #[.int .i64 x.2.seg, .int .u64 x.2.gen, .int .i64 x.2.sec]) else undef, if done 8 then (.agg #[.int .u32 x.1, .int .i64 x.2.seg, .int .u64 x.2.gen, .int .i64 x.2.sec]) else undef, if done 9 then (.pointer (some ⟨w.heap.size, 1, none⟩)) else undef, if done 10 then (.slice (some ⟨b, off, none⟩) n cap) else undef, if done 11 then (.int .i64 k) else undef, if done 12 then (.pointer (some ⟨b, off + k * 4, none⟩)) else undef, if done 13 then (.agg #[.int .u32 z.1, .int .i64 z.2.seg, .int .u64 z.2.gen, .int .i64 z.2.sec]) else undef, if done 14 then (.bool true) else undef, if done 15 then (.bool true) else undef, undef, undef, undef, undef, undef, undef, undef, undef, .int .i64 0, .bool true, .bool true, .int .i64 n, .pointer (some ⟨w.heap.size, 1, none⟩), .slice (some ⟨b, off, none⟩) n cap, .int .i64 n, .bool false, .bool false, .int .i64 0], defers := [] } ∧ WW = W.drew) ?_ ?_ ?_
          · exact ⟨by simp, rfl⟩
          · intro done ac WW j oq ho hd hdep hcl ⟨hlit, hww⟩
            have hj : j < 16 := (Array.getElem?_eq_some_iff.1 ho).1
            subst hlit hww
            obtain rfl | rfl | rfl | rfl | rfl | rfl | rfl | rfl | rfl | rfl | rfl | rfl | rfl | rfl | rfl | rfl : j = 0 ∨ j = 1 ∨ j = 2 ∨ j = 3 ∨ j = 4 ∨ j = 5 ∨ j = 6 ∨ j = 7 ∨ j = 8 ∨ j = 9 ∨ j = 10 ∨ j = 11 ∨ j = 12 ∨ j = 13 ∨ j = 14 ∨ j = 15 := by omega
            · refine wpOpIn_val ho (by cases ho; rfl) (w' := W.drew) (v := (.int .i64 k)) (by cases ho; rfl) (by cases ho; exact fun c h => by cases h) (by cases ho; simp [execOp, go_sem, e5]) ?_
              cases ho
              exact ⟨by simp [Act.put], rfl⟩
            · refine wpOpIn_val ho (by cases ho; rfl) (w' := W.drew) (v := (.pointer (some ⟨w.heap.size, 1, none⟩))) (by cases ho; rfl) (by cases ho; exact fun c h => by cases h) (by cases ho; simp [execOp, go_sem]) ?_
              cases ho
              exact ⟨by simp [Act.put], rfl⟩
            · have p1 : done 1 = true := by cases ho; exact hdep ⟨1, .data⟩ (by simp) rfl
              refine wpOpIn_val ho (by cases ho; rfl) (w' := W.drew) (v := (.slice (some ⟨b, off, none⟩) n cap)) (by cases ho; rfl) (by cases ho; exact fun c h => by cases h) (by cases ho; simp [execOp, go_sem, p1, e1]) ?_
              cases ho
              exact ⟨by simp [Act.put], rfl⟩
            · have p2 : done 2 = true := by cases ho; exact hdep ⟨2, .data⟩ (by simp) rfl
              refine wpOpIn_val ho (by cases ho; rfl) (w' := W.drew) (v := (.int .i64 n)) (by cases ho; simp [Oper.about, go_sem]) (by cases ho; exact fun c h => by cases h) (by cases ho; simp [execOp, go_sem, p2]) ?_
              cases ho
              exact ⟨by simp [Act.put], rfl⟩
            · have p0 : done 0 = true := by cases ho; exact hdep ⟨0, .data⟩ (by simp) rfl
              have p3 : done 3 = true := by cases ho; exact hdep ⟨3, .data⟩ (by simp) rfl
              refine wpOpIn_val ho (by cases ho; rfl) (w' := W.drew) (v := (.bool false)) (by cases ho; rfl) (by cases ho; exact fun c h => by cases h) (by cases ho; simp [execOp, go_sem, p0, p3, hpre]) ?_
              cases ho
              exact ⟨by simp [Act.put], rfl⟩
            · have p4 : done 4 = true := by cases ho; exact hdep ⟨4, .data⟩ (by simp) rfl
              refine wpOpIn_val ho (by cases ho; rfl) (w' := W.drew) (v := (.bool false)) (by cases ho; rfl) (by cases ho; exact fun c h => by cases h) (by cases ho; simp [execOp, go_sem, p4]) ?_
              cases ho
              exact ⟨by simp [Act.put], rfl⟩
            · have p5 : done 5 = true := by cases ho; exact hdep ⟨5, .guard⟩ (by simp) rfl
              refine wpOpIn_val ho (by cases ho; simp [Region.wanted, yielded, p5]) (w' := W.drew) (v := (.int .u32 x.1)) (by cases ho; rfl) (by cases ho; exact fun c h => by cases h) (by cases ho; simp [execOp, go_sem]) ?_
              cases ho
              exact ⟨by simp [Act.put], rfl⟩
            · have p5 : done 5 = true := by cases ho; exact hdep ⟨5, .guard⟩ (by simp) rfl
              refine wpOpIn_val ho (by cases ho; simp [Region.wanted, yielded, p5]) (w' := W.drew) (v := (.agg #[.int .i64 x.2.seg, .int .u64 x.2.gen, .int .i64 x.2.sec])) (by cases ho; rfl) (by cases ho; exact fun c h => by cases h) (by cases ho; simp [execOp, go_sem, e7, e8, e9]) ?_
              cases ho
              exact ⟨by simp [Act.put], rfl⟩
            · have p6 : done 6 = true := by cases ho; exact hdep ⟨6, .data⟩ (by simp) rfl
              have p7 : done 7 = true := by cases ho; exact hdep ⟨7, .data⟩ (by simp) rfl
              have p5 : done 5 = true := by cases ho; exact hdep ⟨5, .guard⟩ (by simp) rfl
              refine wpOpIn_val ho (by cases ho; simp [Region.wanted, yielded, p5]) (w' := W.drew) (v := (.agg #[.int .u32 x.1, .int .i64 x.2.seg, .int .u64 x.2.gen, .int .i64 x.2.sec])) (by cases ho; rfl) (by cases ho; exact fun c h => by cases h) (by cases ho; simp [execOp, go_sem, p6, p7]) ?_
              cases ho
              exact ⟨by simp [Act.put], rfl⟩
            · have p5 : done 5 = true := by cases ho; exact hdep ⟨5, .guard⟩ (by simp) rfl
              refine wpOpIn_val ho (by cases ho; simp [Region.wanted, yielded, p5]) (w' := W.drew) (v := (.pointer (some ⟨w.heap.size, 1, none⟩))) (by cases ho; rfl) (by cases ho; exact fun c h => by cases h) (by cases ho; simp [execOp, go_sem]) ?_
              cases ho
              exact ⟨by simp [Act.put], rfl⟩
            · have p9 : done 9 = true := by cases ho; exact hdep ⟨9, .data⟩ (by simp) rfl
              have p5 : done 5 = true := by cases ho; exact hdep ⟨5, .guard⟩ (by simp) rfl
              refine wpOpIn_val ho (by cases ho; simp [Region.wanted, yielded, p5]) (w' := W.drew) (v := (.slice (some ⟨b, off, none⟩) n cap)) (by cases ho; rfl) (by cases ho; exact fun c h => by cases h) (by cases ho; simp [execOp, go_sem, p9, e1]) ?_
              cases ho
              exact ⟨by simp [Act.put], rfl⟩
            · have p5 : done 5 = true := by cases ho; exact hdep ⟨5, .guard⟩ (by simp) rfl
              refine wpOpIn_val ho (by cases ho; simp [Region.wanted, yielded, p5]) (w' := W.drew) (v := (.int .i64 k)) (by cases ho; rfl) (by cases ho; exact fun c h => by cases h) (by cases ho; simp [execOp, go_sem, e5]) ?_
              cases ho
              exact ⟨by simp [Act.put], rfl⟩
            · have p10 : done 10 = true := by cases ho; exact hdep ⟨10, .data⟩ (by simp) rfl
              have p11 : done 11 = true := by cases ho; exact hdep ⟨11, .data⟩ (by simp) rfl
              have p5 : done 5 = true := by cases ho; exact hdep ⟨5, .guard⟩ (by simp) rfl
              refine wpOpIn_val ho (by cases ho; simp [Region.wanted, yielded, p5]) (w' := W.drew) (v := (.pointer (some ⟨b, off + k * 4, none⟩))) (by cases ho; rfl) (by cases ho; exact fun c h => by cases h) (by cases ho; simp [execOp, go_sem, p10, p11, Nat.not_le.2 hpre]) ?_
              cases ho
              exact ⟨by simp [Act.put], rfl⟩
            · have p12 : done 12 = true := by cases ho; exact hdep ⟨12, .data⟩ (by simp) rfl
              have p5 : done 5 = true := by cases ho; exact hdep ⟨5, .guard⟩ (by simp) rfl
              refine wpOpIn_val ho (by cases ho; simp [Region.wanted, yielded, p5]) (w' := W.drew) (v := (.agg #[.int .u32 z.1, .int .i64 z.2.seg, .int .u64 z.2.gen, .int .i64 z.2.sec])) (by cases ho; rfl) (by cases ho; exact fun c h => by cases h) (by cases ho; simp [execOp, go_sem, p12, c0, c1, c2, c3]) ?_
              cases ho
              exact ⟨by simp [Act.put], rfl⟩
            · have p8 : done 8 = true := by cases ho; exact hdep ⟨8, .data⟩ (by simp) rfl
              have p13 : done 13 = true := by cases ho; exact hdep ⟨13, .data⟩ (by simp) rfl
              have p5 : done 5 = true := by cases ho; exact hdep ⟨5, .guard⟩ (by simp) rfl
              refine wpOpIn_val ho (by cases ho; simp [Region.wanted, yielded, p5]) (w' := W.drew) (v := (.bool true)) (by cases ho; rfl) (by cases ho; exact fun c h => by cases h) (by cases ho; simp [execOp, go_sem, p8, p13, t1]) ?_
              cases ho
              exact ⟨by simp [Act.put], rfl⟩
            · have p5 : done 5 = true := by cases ho; exact hdep ⟨5, .data⟩ (by simp) rfl
              have p14 : done 14 = true := by cases ho; exact hdep ⟨14, .data⟩ (by simp) rfl
              refine wpOpIn_val ho (by cases ho; rfl) (w' := W.drew) (v := (.bool true)) (by cases ho; rfl) (by cases ho; exact fun c h => by cases h) (by cases ho; simp [execOp, go_sem, p5, p14]) ?_
              cases ho
              exact ⟨by simp [Act.put], rfl⟩
          · rintro done ac WW hall ⟨rfl, rfl⟩
            have d0 := hall 0 (by decide)
            have d1 := hall 1 (by decide)
            have d2 := hall 2 (by decide)
            have d3 := hall 3 (by decide)
            have d4 := hall 4 (by decide)
            have d5 := hall 5 (by decide)
            have d6 := hall 6 (by decide)
            have d7 := hall 7 (by decide)
            have d8 := hall 8 (by decide)
            have d9 := hall 9 (by decide)
            have d10 := hall 10 (by decide)
            have d11 := hall 11 (by decide)
            have d12 := hall 12 (by decide)
            have d13 := hall 13 (by decide)
            have d14 := hall 14 (by decide)
            have d15 := hall 15 (by decide)
            simp only [d0, d1, d2, d3, d4, d5, d6, d7, d8, d9, d10, d11, d12, d13, d14, d15, if_true]
            clear hall d0 d1 d2 d3 d4 d5 d6 d7 d8 d9 d10 d11 d12 d13 d14 d15
            gi_wp2_with fail
            exact ⟨((KeepsOthers.drew _).trans (KeepsOthers.setCell _ _ _)).from _, .inl ⟨rfl, HNX2.out HXZ.out⟩⟩
    case stop1 =>
      rintro D1 c pre Y1 hD1 hp hx hK1
      rcases hx with ⟨rfl, hn⟩ | ⟨rfl, hl, _, hI1, hI2⟩
      · exact absurd hp hn
      have HI11 := Lib.hid hI1
      have HI21 := Lib.hid hI2
      have HK1 := Lib.hid hK1
      clear hI1 hI2 hK1 hp hl
      refine wpIn_wide.2 ?_
      have hsY1 := HI11.out.size
      have z1 : Y1.cell? ⟨Y0.heap.size, 0, none⟩ = some (.int .i64 1) := blk_cell (blk_below HB61.out HI11.out (by omega)) 0
      have k2 := blk_below (blk_below HX22.out HVB1.out (by omega)) HI11.out (show w.heap.size + 1 < Y0.heap.size + 1 by omega)
      have z2 : Y1.cell? ⟨w.heap.size + 1, 0, none⟩ = some (.bool false) := blk_cell k2 0
      have z3 : Y1.frozen? ⟨w.heap.size + 1, 0, none⟩ = false := blk_frozen k2 0
      have hl3 : w.heap.size + 1 < Y1.heap.size := by omega
      have HKF := Lib.hid k2
      clear k2
      go_wp2_with fail
      rw [rounds_succ]
      go_wp2_with fail
      have hD1l := (Array.getElem?_eq_some_iff.1 HK1.out).1
      have hK1' : ((Y1.setCell ⟨w.heap.size + 1, 0, none⟩ (.bool true)).alloc (.cells #[.int .i64 2] 3)).heap[D1]? = some (.deferred (some [])) := by
        rw [Below.heap_alloc _ _ _ (by simpa [World.setCell] using hD1l), Below.heap_setCell _ _ _ _ (by simp; omega)]; exact HK1.out
      have hK0' : (((Y1.setCell ⟨w.heap.size + 1, 0, none⟩ (.bool true)).alloc (.cells #[.int .i64 2] 3)).putObj D1 (.deferred none)).heap[D0]? = some (.deferred (some [])) := by
        rw [World.putObj_heap_other (by omega), Below.heap_alloc _ _ _ (by simp [World.setCell]; omega), Below.heap_setCell _ _ _ _ (by simp; omega)]
        exact (HI11.out.block D0 (by omega)).trans HK01.out
      refine ⟨by simp, .inl ⟨_, _, rfl, run_takeDeferred hK1', ⟨by simp, .inl ⟨_, _, rfl, run_takeDeferred hK0', ?_⟩⟩⟩⟩
      have hc0 : ((Y1.setCell ⟨w.heap.size + 1, 0, none⟩ (.bool true)).alloc (.cells #[.int .i64 2] 3)).cell? ⟨w.heap.size + 1, 0, none⟩ = some (.bool true) :=
        (((Below.refl _ (Y1.setCell ⟨w.heap.size + 1, 0, none⟩ (.bool true))).alloc (Nat.le_refl _) _).cell (p := ⟨w.heap.size + 1, 0, none⟩) (by simpa [World.setCell] using hl3)).trans (World.cell?_setCell_same' _ _ _ (by rw [z2]; rfl))
      have hc1 := cell_kept hc0 (grownBy_putObj' _ D1 (.deferred none)) (fun r e => by cases e; exact ⟨_, hK1', rfl⟩)
      have hc2 := cell_kept hc1 (grownBy_putObj' _ D0 (.deferred none)) (fun r e => by cases e; exact ⟨_, hK0', rfl⟩)
      have hby : Below w.heap.size w Y1 := HWB1.out.trans (HI11.out.mono (by omega))
      refine ⟨.bool true, by simp [results, Try.f20, go_sem, hc2], rfl, (((hby.setCell (p := ⟨w.heap.size + 1, 0, none⟩) (by simp) _).alloc (by simpa [World.setCell] using hby.size) _).trans (belowK_b (w := w) (Nat.le_refl _) _ D1 _ _ (by omega) hK1' rfl rfl)).trans (belowK_b (w := w) (Nat.le_refl _) _ D0 _ _ (by omega) hK0' rfl rfl)⟩
    case done1 =>
      rintro D1 ys Y1 hD1 hys ⟨⟨hI1, hI2⟩, _⟩ hK1
      rw [hys, ← HN.out] at hI2
      clear hys
      have HI11 := Lib.hid hI1
      have HI21 := Lib.hid hI2
      have HK1 := Lib.hid hK1
      clear hI1 hI2 hK1
      have hsY1 := HI11.out.size
      have z1 : Y1.cell? ⟨Y0.heap.size, 0, none⟩ = some (.int .i64 1) := blk_cell (blk_below HB61.out HI11.out (by omega)) 0
      have k2 := blk_below (blk_below HX22.out HVB1.out (by omega)) HI11.out (show w.heap.size + 1 < Y0.heap.size + 1 by omega)
      have z2 : Y1.cell? ⟨w.heap.size + 1, 0, none⟩ = some (.bool false) := blk_cell k2 0
      have z3 : Y1.frozen? ⟨w.heap.size + 1, 0, none⟩ = false := blk_frozen k2 0
      have hl3 : w.heap.size + 1 < Y1.heap.size := by omega
      have HKF := Lib.hid k2
      clear k2
      go_wp2_with fail
      rw [rounds_succ]
      go_wp2_with fail
      have hD1l := (Array.getElem?_eq_some_iff.1 HK1.out).1
      have hK1' : ((Y1.setCell ⟨w.heap.size + 1, 0, none⟩ (.bool true)).alloc (.cells #[.int .i64 2] 3)).heap[D1]? = some (.deferred (some [])) := by
        rw [Below.heap_alloc _ _ _ (by simpa [World.setCell] using hD1l), Below.heap_setCell _ _ _ _ (by simp; omega)]; exact HK1.out
      have hK0' : (((Y1.setCell ⟨w.heap.size + 1, 0, none⟩ (.bool true)).alloc (.cells #[.int .i64 2] 3)).putObj D1 (.deferred none)).heap[D0]? = some (.deferred (some [])) := by
        rw [World.putObj_heap_other (by omega), Below.heap_alloc _ _ _ (by simp [World.setCell]; omega), Below.heap_setCell _ _ _ _ (by simp; omega)]
        exact (HI11.out.block D0 (by omega)).trans HK01.out
      refine ⟨by simp, .inl ⟨_, _, rfl, run_takeDeferred hK1', ⟨by simp, .inl ⟨_, _, rfl, run_takeDeferred hK0', ?_⟩⟩⟩⟩
      have hc0 : ((Y1.setCell ⟨w.heap.size + 1, 0, none⟩ (.bool true)).alloc (.cells #[.int .i64 2] 3)).cell? ⟨w.heap.size + 1, 0, none⟩ = some (.bool true) :=
        (((Below.refl _ (Y1.setCell ⟨w.heap.size + 1, 0, none⟩ (.bool true))).alloc (Nat.le_refl _) _).cell (p := ⟨w.heap.size + 1, 0, none⟩) (by simpa [World.setCell] using hl3)).trans (World.cell?_setCell_same' _ _ _ (by rw [z2]; rfl))
      have hc1 := cell_kept hc0 (grownBy_putObj' _ D1 (.deferred none)) (fun r e => by cases e; exact ⟨_, hK1', rfl⟩)
      have hc2 := cell_kept hc1 (grownBy_putObj' _ D0 (.deferred none)) (fun r e => by cases e; exact ⟨_, hK0', rfl⟩)
      have hby : Below w.heap.size w Y1 := HWB1.out.trans (HI11.out.mono (by omega))
      refine ⟨.bool true, by simp [results, Try.f20, go_sem, hc2], rfl, (((hby.setCell (p := ⟨w.heap.size + 1, 0, none⟩) (by simp) _).alloc (by simpa [World.setCell] using hby.size) _).trans (belowK_b (w := w) (Nat.le_refl _) _ D1 _ _ (by omega) hK1' rfl rfl)).trans (belowK_b (w := w) (Nat.le_refl _) _ D0 _ _ (by omega) hK0' rfl rfl)⟩
  -- END
end Go.Proofs.Ytccgdfamjohmgaa
