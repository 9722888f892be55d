/- What Order's function value does when a range statement runs it, its elements told through a map. Condition: its blocks are kept by the rounds. -/
import Derived.Test.YtlcdadnfcdjglaaSeq
set_option linter.unusedVariables false
set_option linter.unusedSimpArgs false
namespace Go.Proofs.Ytlcdadnfcdjglaa
open Go.RowKit Go.Ice Go.Ring Go.Shelf

attribute [local go_sem] Oper.semAt_some
set_option maxRecDepth 100000 in
set_option maxHeartbeats 4000000 in
theorem order_inG {α : Type} (f : α → Nat × Seg) (L : List α) (n : Nat) (hn : 1 ≤ n) (lb B : Nat) (sec : Int) (u : Value) (l : List Seg) (T : Nat → Prop) (J Jx : List α → World → Prop) (W : World) (hL : L.map f = tellL sec l)
    (hJ : AbidesFrom W.heap.size J)
    (hY : ∀ pre x W1, J pre W1 → pre.length < L.length → YieldAt Fence.wide (n - 1) Try.prog lb (encS (f x)) W1 fun e W' =>
      (e = .returned (.bool true) ∧ J (pre ++ [x]) W' ∧ CK T W1 W') ∨ (e = .returned (.bool false) ∧ Jx (pre ++ [x]) W'))
    (hB : W.heap[B]? = some (.cells #[.int .i64 sec, u] 25 (0, 0))) (hu : SegsAt W u l) (hTB : ¬ T B) (hTu : ∀ k, u.ownBlock = some k → ¬ T k) (hTn : ∀ k, W.heap.size ≤ k → ¬ T k) (h0 : J [] W) :
    CallsIn Fence.wide n Try.prog 48 #[.func (.yield lb) #[] #[], .pointer (some ⟨B, 0, none⟩)] W fun e W' => (∃ v, e = .returned v) ∧
      ((∃ ys, ys = L ∧ J ys W') ∨ (∃ pre, pre <+: L ∧ Jx pre W')) := by
  have HCK := Lib.hid (chek W sec u l hu)
  have b0 : W.cell? ⟨B, 0, none⟩ = some (.int .i64 sec) := blk_cell hB 0
  have b1 : W.cell? ⟨B, 1, none⟩ = some u := blk_cell hB 1
  have HB := Lib.hid hB
  have HU := Lib.hid hu
  obtain ⟨cb, hcb⟩ : ∃ cb, cb = checkB sec l := ⟨_, rfl⟩
  rw [← hcb] at HCK
  unfold ringV chekE at HCK
  have HT : Hid (tellL sec l = if cb then (order l).map fun i => (i, at' l i) else []) := by show _ = _; rw [hcb]; rfl
  have HCB := Lib.hid hcb
  have HLL := Lib.hid hL
  clear hB hu hcb hL
  refine callsIn_of_wp Try.func48 rfl trivial ?_ rfl
  simp only [Try.ntmps48, List.size_toArray, List.length_cons, List.length_nil, Nat.reduceAdd, Nat.reduceSub, Array.replicate_succ, Array.replicate_zero, List.push_toArray, List.append_toArray, List.nil_append, List.cons_append]
  gi_wp2_with fail
  refine ⟨trivial, ?_⟩
  refine (callsIn_wide.2 HCK.out).mono ?_
  rintro e W1 ⟨rfl, hb⟩
  have HJ1 : Hid (J [] W1) := hJ _ W W1 none h0 ⟨hb.os, hb.tape, hb.output, hb.size, fun k hk _ => hb.block k hk⟩ (fun r e => by cases e)
  have HBL1 := Lib.hid hb
  clear b0 b1 hb HCK
  cases cb with
  | false =>
    simp only [Bool.false_eq_true, if_false] at HT ⊢
    gi_wp2_with fail
    refine bodyPost_ret (results_none rfl _ _ _) rfl ?_
    exact ⟨⟨_, rfl⟩, .inl ⟨_, rfl, by have h := HLL.out; rw [HT.out, List.map_eq_nil_iff] at h; rw [h]; exact HJ1.out⟩⟩
  | true =>
    simp only [if_true] at HT ⊢
    have b0 : W1.cell? ⟨B, 0, none⟩ = some (.int .i64 sec) := blk_cell (blk_below HB.out HBL1.out (blk_lt HB.out)) 0
    have b1 : W1.cell? ⟨B, 1, none⟩ = some u := blk_cell (blk_below HB.out HBL1.out (blk_lt HB.out)) 1
    have hsz := check_size HCB.out.symm
    have HO := Lib.hid (ordr2 W1 sec u l (RowAt.below HU.out HBL1.out (Nat.le_refl _)) (by omega) (by omega))
    unfold ringV at HO
    clear hsz
    gi_wp2_with fail
    refine ⟨trivial, ?_⟩
    refine (callsIn_wide.2 HO.out).mono ?_
    rintro e W2 ⟨o, rfl, hI, hb, hlt⟩
    have HJ2 : Hid (J [] W2) := hJ _ W W2 none h0 (by have hb := HBL1.out.trans (hb.mono HBL1.out.size); exact ⟨hb.os, hb.tape, hb.output, hb.size, fun k hk _ => hb.block k hk⟩) (fun r e => by cases e)
    have HBL2 : Hid (Below W.heap.size W W2) := HBL1.out.trans (hb.mono HBL1.out.size)
    have HTo : Hid (∀ k, o.ownBlock = some k → ¬ T k) := fun k hk => hTn k (by have := hlt k hk; have := HBL1.out.size; omega)
    have HU2 : Hid (SegsAt W2 u l) := RowAt.below HU.out HBL2.out (Nat.le_refl _)
    have HB2 : Hid (W2.heap[B]? = some (.cells #[.int .i64 sec, u] 25 (0, 0))) := blk_below HB.out HBL2.out (blk_lt HB.out)
    have HOL : Hid (∀ x ∈ order l, x < l.length) := fun x hx => (mem_order.1 hx).1
    clear hb b0 b1 HJ1 hlt HO
    rcases hI with ⟨hnil, hsl⟩ | ⟨hpos, g, off, cap, rfl, h1, h2, h3, h4⟩
    · have hm : (order l).map (fun i => (i, at' l i)) = [] := by rw [List.map_eq_nil_iff] at hnil ⊢; exact hnil
      rw [hm] at HT
      obtain ⟨a, c, rfl⟩ : ∃ a c, o = .slice a 0 c := by rcases hsl with rfl | ⟨a, c, rfl⟩ <;> exact ⟨_, _, rfl⟩
      clear hnil hsl hm
      gi_wp2
      gi_loopw [11] (fun i wr => i = .int .i64 0 ∧ J [] wr) (fun _ _ => 0)
      case atStart => exact ⟨rfl, HJ2.out⟩
      case round =>
        obtain ⟨rfl, hJs⟩ := hrel
        gi_wp2
        go_end0
        exact ⟨⟨_, rfl⟩, .inl ⟨_, rfl, by have h := HLL.out; rw [HT.out, List.map_eq_nil_iff] at h; rw [h]; exact hJs⟩⟩
    · rw [List.length_map] at hpos h1 h4
      obtain ⟨m, hm⟩ : ∃ m, m = (order l).length := ⟨_, rfl⟩
      have HPOS := Lib.hid hpos
      rw [← hm] at hpos h1 h4
      rw [List.length_map, ← hm]
      have HM := Lib.hid hm
      have H4 : Hid (∀ j, j < m → W2.cell? ⟨g, off + j, none⟩ = some (.int .i64 ((order l).getD j 0 : Nat))) := fun j hj => by
        rw [h4 j hj, List.getElem?_map, List.getElem?_eq_getElem (by omega)]
        simp [intV, List.getD_eq_getElem?_getD, hm ▸ hj]
      have HTL : Hid (L.length = m) := by show _ = _; rw [← List.length_map (f := f), HLL.out, HT.out, List.length_map, HM.out]
      have hmx : m ≤ maxLen := by omega
      unfold maxLen at hmx
      rw [HTL.out] at hY
      clear hm hpos h1 h2 h3 h4 
      gi_wp2
      gi_loopw [11] (fun i wr => ∃ k : Nat, k ≤ m ∧ i = .int .i64 k ∧ J (L.take k) wr ∧ CK T W2 wr) (fun i _ => m - (intOf i).toNat)
      case atStart => exact ⟨0, Nat.zero_le _, rfl, HJ2.out, CK.refl _ _⟩
      case round =>
        obtain ⟨k, hk, rfl, hJs, hck⟩ := hrel
        by_cases hlt : k < m
        · obtain ⟨x, hx⟩ : ∃ x, x = (order l).getD k 0 := ⟨_, rfl⟩
          have hxl : x < l.length := by rw [hx]; exact HOL.out _ (by rw [List.getD_eq_getElem?_getD, List.getElem?_eq_getElem (by have := HM.out; omega)]; exact List.getElem_mem _)
          obtain ⟨el, hel⟩ : ∃ el, L[k]? = some el := ⟨_, List.getElem?_eq_getElem (by rw [HTL.out]; exact hlt)⟩
          have hfe : f el = (x, at' l x) := by
            have h1 : (L.map f)[k]? = some (f el) := by rw [List.getElem?_map, hel]; rfl
            rw [HLL.out, HT.out, List.getElem?_map, List.getElem?_eq_getElem (by have := HM.out; omega)] at h1
            have h2 : (order l)[k]'(by have := HM.out; omega) = x := by rw [hx]; simp [List.getD_eq_getElem?_getD, HM.out ▸ hlt]
            rw [h2] at h1
            injection h1 with h1
            exact h1.symm
          have hxe : L.take (k + 1) = L.take k ++ [el] := by
            rw [List.take_add_one, hel]
            rfl
          have HXE := Lib.hid hxe
          obtain ⟨fn, tmps, assign, body, hy, hR⟩ := hY _ el wr hJs (by rw [List.length_take, HTL.out]; omega)
          have c0 := hck.cell (HTo.out g rfl) (H4.out k hlt)
          rw [← hx] at c0
          have c1 : wr.cell? ⟨B, 1, none⟩ = some u := hck.cell hTB (blk_cell HB2.out 1)
          have HUr : SegsAt wr u l := rowAt_ck HU2.out hck hTu
          obtain ⟨bs, off', cap', rfl, e1, e2, e3, e4⟩ := HUr.cell (by omega)
          obtain ⟨q0, q1, q2⟩ := e4 x hxl
          rw [hfe] at hy
          unfold encS segV at hy
          clear e4 hxe hx HUr hfe hel
          generalize at' l x = s at *
          have HQ1 : Hid (CK T W2 wr) := hck
          clear hck hJs
          gi_wp2
          refine hR.mono ?_
          rintro e W3 (⟨rfl, hJ3, hk3⟩ | ⟨rfl, hJx3⟩)
          · clear q0 q1 q2 c0 c1
            gi_wp2
            go_roundw
            case rel => exact ⟨k + 1, by omega, by simp, by rw [HXE.out]; exact hJ3, HQ1.out.trans hk3⟩
            case measure => simp [intOf]; omega
          · gi_wp2
            refine bodyPost_ret (results_none rfl _ _ _) rfl ?_
            exact ⟨⟨_, rfl⟩, .inr ⟨_, List.take_prefix (k + 1) _, by rw [HXE.out]; exact hJx3⟩⟩
        · obtain rfl : k = m := by omega
          gi_wp2
          go_end0
          exact ⟨⟨_, rfl⟩, .inl ⟨_, by rw [← HTL.out, List.take_length], hJs⟩⟩

theorem order_stopsG {α : Type} (f : α → Nat × Seg) (L : List α) (n : Nat) (hn : 1 ≤ n) (B : Nat) (sec : Int) (u : Value) (l : List Seg) (T : Nat → Prop) (w : World) (hL : L.map f = tellL sec l) (hB : w.heap[B]? = some (.cells #[.int .i64 sec, u] 25 (0, 0))) (hu : SegsAt w u l) (hTB : ¬ T B) (hTu : ∀ k, u.ownBlock = some k → ¬ T k) (hTn : ∀ k, w.heap.size ≤ k → ¬ T k) :
    SeqStopsK Fence.wide n Try.prog 48 #[.pointer (some ⟨B, 0, none⟩)] (fun x => encS (f x)) (CK T) (fun ys => ys = L) (fun pre => pre <+: L) L.length w := fun lb J Jx W hW hJ _ hY h0 =>
  order_inG f L n hn lb B sec u l T J Jx W hL hJ hY (blk_below hB hW (blk_lt hB)) (RowAt.below hu hW (Nat.le_refl _)) hTB hTu (fun k hk => hTn k (by have := hW.size; omega)) h0
end Go.Proofs.Ytlcdadnfcdjglaa
