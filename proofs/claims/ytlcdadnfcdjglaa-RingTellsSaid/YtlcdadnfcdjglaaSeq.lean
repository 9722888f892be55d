/- Order: the function value, and what it does when a range statement runs it. Condition: its blocks are kept by the rounds. -/
import Derived.RangeFuncNested
import Derived.RangeFuncBound
import Derived.RangeFuncCalls
import Derived.RangeFuncLeaves
import Derived.Shelf.Abstract
import Derived.Shelf.RegionOpen
import Derived.WalkKit
import Derived.OwnWalkIn
import Derived.TacticsInMore
import Derived.LoopNIn
import Derived.LoopIn
import Derived.Test.YtlcdadnfcdjglaaTrn
import Derived.Test.YtlcdadnfcdjglaaTurnsW
import Derived.Test.YtlcdadnfcdjglaaOrd2
set_option linter.unusedVariables false
set_option linter.unusedSimpArgs false
namespace Go.Proofs.Ytlcdadnfcdjglaa
open Go.RowKit Go.Ice Go.Ring Go.Shelf

attribute [local go_sem] Oper.semAt_some

set_option maxHeartbeats 4000000 in
/-- Order's function value: a ring of its own. -/
theorem orderV (w : World) (sec : Int) (v : Value) (l : List Seg) (h : SegsAt w v l) (hl : l.length ≤ 1000) :
    Calls Try.prog 22 #[ringV sec v] w fun e w' => ∃ B u, e = .returned (.func (.func 48) #[] #[.pointer (some ⟨B, 0, none⟩)]) ∧ OwnSegs w' w.heap.size u l ∧ Kp w [(B, .cells #[.int .i64 sec, u] 25)] w' ∧ w.heap.size ≤ B ∧ (∀ k, u.ownBlock = some k → k ≠ B) := by
  obtain ⟨B, W0, HB, HW, HK, HZ⟩ := boxed1 w #[.int .i64 sec, v] 25
  have HR : Hid (SegsAt W0 v l) := RowAt.below h HK.out.below (Nat.le_refl _)
  have HCL := Lib.hid (clone W0 v l HR.out hl)
  have b0 : W0.cell? ⟨B, 0, none⟩ = some (.int .i64 sec) := blk_cell HK.out.b0 0
  have b1 : W0.cell? ⟨B, 1, none⟩ = some v := blk_cell HK.out.b0 1
  clear h hl
  unfold ringV
  go_enter Try.func22, Try.ntmps22
  go_upto_region 1 with fail
  rw [HB.out, HW.out]
  go_wp2_with fail
  refine HCL.out.mono ?_
  rintro e W1 ⟨u, rfl, ho, hb⟩
  have HK1 := Lib.hid (HK.out.step hb)
  have HO : Hid (OwnSegs W1 W0.heap.size u l) := ho
  clear ho hb b0 b1 HCL HK HR
  have f1 := fun r => blk_frozen HK1.out.b0 r
  have b1 : W1.cell? ⟨B, 1, none⟩ = some v := blk_cell HK1.out.b0 1
  obtain ⟨a, n, c, rfl⟩ := own_sl HO.out
  go_wp2_with fail
  have HF : Hid (OwnSegs (W1.setCell ⟨B, 1, none⟩ (.slice a n c)) w.heap.size (.slice a n c) l ∧ Kp w [(B, .cells #[.int .i64 sec, .slice a n c] 25)] (W1.setCell ⟨B, 1, none⟩ (.slice a n c)) ∧ (∀ k, (Value.slice a n c).ownBlock = some k → k ≠ B)) := by
    have hbw : B < W0.heap.size := by have := HZ.out; omega
    refine ⟨own_base (own_set HO.out hbw _) (by have := HZ.out; have := HB.out; omega), ?_, fun k hk => by have := (HO.out.lt k hk).1; omega⟩
    have := HK1.out.set0 (k := 1) (Nat.le_of_eq HB.out) (fun p hp => by cases hp) (.slice a n c)
    simpa using this
  go_ret
  exact ⟨B, _, rfl, HF.out.1, HF.out.2.1, Nat.le_of_eq HB.out, HF.out.2.2⟩

/-- All blocks of cells are as they were, but those of T. -/
def CK (T : Nat → Prop) (A B : World) : Prop := A.heap.size ≤ B.heap.size ∧ ∀ k cs e x, ¬ T k → A.heap[k]? = some (.cells cs e x) → B.heap[k]? = some (.cells cs e x)
theorem CK.trans {T : Nat → Prop} {A B C : World} (h : CK T A B) (k : CK T B C) : CK T A C := ⟨Nat.le_trans h.1 k.1, fun i cs e x ht hi => k.2 i cs e x ht (h.2 i cs e x ht hi)⟩
theorem CK.refl (T : Nat → Prop) (A : World) : CK T A A := ⟨Nat.le_refl _, fun _ _ _ _ _ h => h⟩
theorem CK.put {T : Nat → Prop} {n₀ : Nat} (W : World) (l : Nat) (o o' : Obj) (_ : n₀ ≤ l) (h : W.heap[l]? = some o) (hc : o.isCells = false) (_ : o.isWalk = false) : CK T W (W.putObj l o') := by
  refine ⟨by simp [World.putObj], fun k cs e x _ hk => ?_⟩
  by_cases hkl : k = l
  · subst hkl; rw [hk] at h; injection h with h; subst h; cases hc
  · rw [World.putObj_heap_other hkl]; exact hk
theorem CK.below {T : Nat → Prop} {A B : World} (h : Below A.heap.size A B) : CK T A B := ⟨h.size, fun k cs e x _ hk => (h.block k (blk_lt hk)).trans hk⟩
theorem CK.frm {T : Nat → Prop} {A B : World} (h : Frm T A B) : CK T A B := ⟨h.size, fun k cs e x ht hk => (h.block k (blk_lt hk) ht).trans hk⟩

theorem CK.cell {T : Nat → Prop} {A B : World} (h : CK T A B) {b r : Nat} {x : Value} (hb : ¬ T b) (hc : A.cell? ⟨b, r, none⟩ = some x) : B.cell? ⟨b, r, none⟩ = some x := by
  unfold World.cell? at hc ⊢
  simp only at hc ⊢
  cases hh : A.heap[b]? with
  | none => rw [hh] at hc; cases hc
  | some o =>
    rw [hh] at hc
    cases o with
    | cells cs e y => rw [h.2 b cs e y hb hh]; exact hc
    | _ => cases hc
theorem rowAt_ck {T : Nat → Prop} {A B : World} {c n : Nat} {v : Value} {X : Nat → Nat → Value} (h : RowAt A c v n X) (hk : CK T A B) (hc : ∀ b, v.ownBlock = some b → ¬ T b) : RowAt B c v n X := by
  rcases h with h | ⟨h0, b, off, cap, hv, h1, h2, h3, h4⟩
  · exact .inl h
  · exact .inr ⟨h0, b, off, cap, hv, h1, h2, by have := hk.1; omega, fun i hi j hj => hk.cell (hc b (by rw [hv]; rfl)) (h4 i hi j hj)⟩

def encS (x : Nat × Seg) : Array Value := #[.int .i64 x.1, segV x.2]
/-- What Order tells. -/
def tellL (sec : Int) (l : List Seg) : List (Nat × Seg) := if checkB sec l then (order l).map fun i => (i, at' l i) else []

set_option maxRecDepth 100000 in
set_option maxHeartbeats 4000000 in
theorem order_in (n : Nat) (hn : 1 ≤ n) (lb B : Nat) (sec : Int) (u : Value) (l : List Seg) (T : Nat → Prop) (J Jx : List (Nat × Seg) → World → Prop) (W : World)
    (hJ : AbidesFrom W.heap.size J)
    (hY : ∀ pre x W1, J pre W1 → pre.length < (tellL sec l).length → YieldAt Fence.wide (n - 1) Try.prog lb (encS x) W1 fun e W' =>
      (e = .returned (.bool true) ∧ J (pre ++ [x]) W' ∧ CK T W1 W') ∨ (e = .returned (.bool false) ∧ Jx (pre ++ [x]) W'))
    (hB : W.heap[B]? = some (.cells #[.int .i64 sec, u] 25 (0, 0))) (hu : SegsAt W u l) (hTB : ¬ T B) (hTu : ∀ k, u.ownBlock = some k → ¬ T k) (hTn : ∀ k, W.heap.size ≤ k → ¬ T k) (h0 : J [] W) :
    CallsIn Fence.wide n Try.prog 48 #[.func (.yield lb) #[] #[], .pointer (some ⟨B, 0, none⟩)] W fun e W' => (∃ v, e = .returned v) ∧
      ((∃ ys, ys = tellL sec l ∧ J ys W') ∨ (∃ pre, pre <+: tellL sec l ∧ Jx pre W')) := by
  have HCK := Lib.hid (chek W sec u l hu)
  have b0 : W.cell? ⟨B, 0, none⟩ = some (.int .i64 sec) := blk_cell hB 0
  have b1 : W.cell? ⟨B, 1, none⟩ = some u := blk_cell hB 1
  have HB := Lib.hid hB
  have HU := Lib.hid hu
  obtain ⟨cb, hcb⟩ : ∃ cb, cb = checkB sec l := ⟨_, rfl⟩
  rw [← hcb] at HCK
  unfold ringV chekE at HCK
  have HT : Hid (tellL sec l = if cb then (order l).map fun i => (i, at' l i) else []) := by show _ = _; rw [hcb]; rfl
  have HCB := Lib.hid hcb
  clear hB hu hcb
  refine callsIn_of_wp Try.func48 rfl trivial ?_ rfl
  simp only [Try.ntmps48, List.size_toArray, List.length_cons, List.length_nil, Nat.reduceAdd, Nat.reduceSub, Array.replicate_succ, Array.replicate_zero, List.push_toArray, List.append_toArray, List.nil_append, List.cons_append]
  gi_wp2_with fail
  refine ⟨trivial, ?_⟩
  refine (callsIn_wide.2 HCK.out).mono ?_
  rintro e W1 ⟨rfl, hb⟩
  have HJ1 : Hid (J [] W1) := hJ _ W W1 none h0 ⟨hb.os, hb.tape, hb.output, hb.size, fun k hk _ => hb.block k hk⟩ (fun r e => by cases e)
  have HBL1 := Lib.hid hb
  clear b0 b1 hb HCK
  cases cb with
  | false =>
    simp only [Bool.false_eq_true, if_false] at HT ⊢
    gi_wp2_with fail
    refine bodyPost_ret (results_none rfl _ _ _) rfl ?_
    exact ⟨⟨_, rfl⟩, .inl ⟨_, rfl, by rw [HT.out]; exact HJ1.out⟩⟩
  | true =>
    simp only [if_true] at HT ⊢
    have b0 : W1.cell? ⟨B, 0, none⟩ = some (.int .i64 sec) := blk_cell (blk_below HB.out HBL1.out (blk_lt HB.out)) 0
    have b1 : W1.cell? ⟨B, 1, none⟩ = some u := blk_cell (blk_below HB.out HBL1.out (blk_lt HB.out)) 1
    have hsz := check_size HCB.out.symm
    have HO := Lib.hid (ordr2 W1 sec u l (RowAt.below HU.out HBL1.out (Nat.le_refl _)) (by omega) (by omega))
    unfold ringV at HO
    clear hsz
    gi_wp2_with fail
    refine ⟨trivial, ?_⟩
    refine (callsIn_wide.2 HO.out).mono ?_
    rintro e W2 ⟨o, rfl, hI, hb, hlt⟩
    have HJ2 : Hid (J [] W2) := hJ _ W W2 none h0 (by have hb := HBL1.out.trans (hb.mono HBL1.out.size); exact ⟨hb.os, hb.tape, hb.output, hb.size, fun k hk _ => hb.block k hk⟩) (fun r e => by cases e)
    have HBL2 : Hid (Below W.heap.size W W2) := HBL1.out.trans (hb.mono HBL1.out.size)
    have HTo : Hid (∀ k, o.ownBlock = some k → ¬ T k) := fun k hk => hTn k (by have := hlt k hk; have := HBL1.out.size; omega)
    have HU2 : Hid (SegsAt W2 u l) := RowAt.below HU.out HBL2.out (Nat.le_refl _)
    have HB2 : Hid (W2.heap[B]? = some (.cells #[.int .i64 sec, u] 25 (0, 0))) := blk_below HB.out HBL2.out (blk_lt HB.out)
    have HOL : Hid (∀ x ∈ order l, x < l.length) := fun x hx => (mem_order.1 hx).1
    clear hb b0 b1 HJ1 hlt HO
    rcases hI with ⟨hnil, hsl⟩ | ⟨hpos, g, off, cap, rfl, h1, h2, h3, h4⟩
    · have hm : (order l).map (fun i => (i, at' l i)) = [] := by rw [List.map_eq_nil_iff] at hnil ⊢; exact hnil
      rw [hm] at HT
      obtain ⟨a, c, rfl⟩ : ∃ a c, o = .slice a 0 c := by rcases hsl with rfl | ⟨a, c, rfl⟩ <;> exact ⟨_, _, rfl⟩
      clear hnil hsl hm
      gi_wp2
      gi_loopw [11] (fun i wr => i = .int .i64 0 ∧ J [] wr) (fun _ _ => 0)
      case atStart => exact ⟨rfl, HJ2.out⟩
      case round =>
        obtain ⟨rfl, hJs⟩ := hrel
        gi_wp2
        go_end0
        exact ⟨⟨_, rfl⟩, .inl ⟨_, rfl, by rw [HT.out]; exact hJs⟩⟩
    · rw [List.length_map] at hpos h1 h4
      obtain ⟨m, hm⟩ : ∃ m, m = (order l).length := ⟨_, rfl⟩
      have HPOS := Lib.hid hpos
      rw [← hm] at hpos h1 h4
      rw [List.length_map, ← hm]
      have HM := Lib.hid hm
      have H4 : Hid (∀ j, j < m → W2.cell? ⟨g, off + j, none⟩ = some (.int .i64 ((order l).getD j 0 : Nat))) := fun j hj => by
        rw [h4 j hj, List.getElem?_map, List.getElem?_eq_getElem (by omega)]
        simp [intV, List.getD_eq_getElem?_getD, hm ▸ hj]
      have HTL : Hid ((tellL sec l).length = m) := by show _ = _; rw [HT.out, List.length_map, HM.out]
      have hmx : m ≤ maxLen := by omega
      unfold maxLen at hmx
      rw [HTL.out] at hY
      clear hm hpos h1 h2 h3 h4 
      gi_wp2
      gi_loopw [11] (fun i wr => ∃ k : Nat, k ≤ m ∧ i = .int .i64 k ∧ J ((tellL sec l).take k) wr ∧ CK T W2 wr) (fun i _ => m - (intOf i).toNat)
      case atStart => exact ⟨0, Nat.zero_le _, rfl, HJ2.out, CK.refl _ _⟩
      case round =>
        obtain ⟨k, hk, rfl, hJs, hck⟩ := hrel
        by_cases hlt : k < m
        · obtain ⟨x, hx⟩ : ∃ x, x = (order l).getD k 0 := ⟨_, rfl⟩
          have hxl : x < l.length := by rw [hx]; exact HOL.out _ (by rw [List.getD_eq_getElem?_getD, List.getElem?_eq_getElem (by have := HM.out; omega)]; exact List.getElem_mem _)
          have hxe : (tellL sec l).take (k + 1) = (tellL sec l).take k ++ [(x, at' l x)] := by
            rw [List.take_succ_eq_append_getElem (by rw [HTL.out]; exact hlt)]
            congr 2
            have : (tellL sec l)[k]? = some (x, at' l x) := by
              rw [HT.out, List.getElem?_map, hx]
              rw [List.getElem?_eq_getElem (by have := HM.out; omega)]
              simp [List.getD_eq_getElem?_getD, HM.out ▸ hlt]
            have h2 := List.getElem?_eq_getElem (l := tellL sec l) (i := k) (by rw [HTL.out]; exact hlt)
            rw [h2] at this
            injection this
          have HXE := Lib.hid hxe
          obtain ⟨fn, tmps, assign, body, hy, hR⟩ := hY _ (x, at' l x) wr hJs (by rw [List.length_take, HTL.out]; omega)
          have c0 := hck.cell (HTo.out g rfl) (H4.out k hlt)
          rw [← hx] at c0
          have c1 : wr.cell? ⟨B, 1, none⟩ = some u := hck.cell hTB (blk_cell HB2.out 1)
          have HUr : SegsAt wr u l := rowAt_ck HU2.out hck hTu
          obtain ⟨bs, off', cap', rfl, e1, e2, e3, e4⟩ := HUr.cell (by omega)
          obtain ⟨q0, q1, q2⟩ := e4 x hxl
          unfold encS segV at hy
          clear e4 hxe hx HUr
          generalize at' l x = s at *
          have HQ1 : Hid (CK T W2 wr) := hck
          clear hck hJs
          gi_wp2
          refine hR.mono ?_
          rintro e W3 (⟨rfl, hJ3, hk3⟩ | ⟨rfl, hJx3⟩)
          · clear q0 q1 q2 c0 c1
            gi_wp2
            go_roundw
            case rel => exact ⟨k + 1, by omega, by simp, by rw [HXE.out]; exact hJ3, HQ1.out.trans hk3⟩
            case measure => simp [intOf]; omega
          · gi_wp2
            refine bodyPost_ret (results_none rfl _ _ _) rfl ?_
            exact ⟨⟨_, rfl⟩, .inr ⟨_, List.take_prefix (k + 1) _, by rw [HXE.out]; exact hJx3⟩⟩
        · obtain rfl : k = m := by omega
          gi_wp2
          go_end0
          exact ⟨⟨_, rfl⟩, .inl ⟨_, by rw [← HTL.out, List.take_length], hJs⟩⟩

theorem order_stops (n : Nat) (hn : 1 ≤ n) (B : Nat) (sec : Int) (u : Value) (l : List Seg) (T : Nat → Prop) (w : World) (hB : w.heap[B]? = some (.cells #[.int .i64 sec, u] 25 (0, 0))) (hu : SegsAt w u l) (hTB : ¬ T B) (hTu : ∀ k, u.ownBlock = some k → ¬ T k) (hTn : ∀ k, w.heap.size ≤ k → ¬ T k) :
    SeqStopsK Fence.wide n Try.prog 48 #[.pointer (some ⟨B, 0, none⟩)] encS (CK T) (fun ys => ys = tellL sec l) (fun pre => pre <+: tellL sec l) (tellL sec l).length w := fun lb J Jx W hW hJ _ hY h0 =>
  order_in n hn lb B sec u l T J Jx W hJ hY (blk_below hB hW (blk_lt hB)) (RowAt.below hu hW (Nat.le_refl _)) hTB hTu (fun k hk => hTn k (by have := hW.size; omega)) h0
end Go.Proofs.Ytlcdadnfcdjglaa
