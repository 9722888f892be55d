/- The function value of index.All, run by a range statement: every entry once, the oldest first. Condition: its blocks lie below a bound that the rounds keep. -/
import Derived.RangeFuncNested
import Derived.RangeFuncBound
import Derived.RangeFuncCalls
import Derived.RangeFuncLeaves
import Derived.Shelf.Abstract
import Derived.Shelf.RegionOpen
import Derived.WalkKit
import Derived.OwnWalkIn
import Derived.TacticsInMore
import Derived.LoopNIn
import Derived.LoopIn
import Derived.Test.YtccgdfamjohmgaaAll
set_option linter.unusedVariables false
namespace Go.Proofs.Ytccgdfamjohmgaa
open Go.RowKit Go.Ice Go.Shelf

attribute [local go_sem] Oper.semAt_some

/-- The two blocks that All leaves, and what their slices hold, all below a bound. -/
structure SeqAt (n₀ : Nat) (w : World) (bF bA : Nat) (A : List (Nat × Adr)) : Prop where
  lt : bF < n₀ ∧ bA < n₀
  ex : ∃ vF vA, w.cell? ⟨bF, 0, none⟩ = some vF ∧ w.cell? ⟨bA, 0, none⟩ = some vA ∧
    ((A = [] ∧ (∃ a cap, vF = .slice a 0 cap) ∧ ∃ a cap, vA = .slice a 0 cap) ∨
     (0 < A.length ∧ A.length ≤ 1024 ∧ ∃ g c g' c', vF = .slice (some ⟨g, 0, none⟩) A.length c ∧ vA = .slice (some ⟨g', 0, none⟩) A.length c' ∧ g < n₀ ∧ g' < n₀ ∧ ∀ i, i < A.length →
        w.cell? ⟨g, i, none⟩ = some (.int .u32 (A.getD i default).1) ∧ w.cell? ⟨g', i * 3, none⟩ = some (.int .i64 (A.getD i default).2.seg) ∧ w.cell? ⟨g', i * 3 + 1, none⟩ = some (.int .u64 (A.getD i default).2.gen) ∧ w.cell? ⟨g', i * 3 + 2, none⟩ = some (.int .i64 (A.getD i default).2.sec)))

theorem SeqAt.below {n₀ bF bA : Nat} {w w' : World} {A : List (Nat × Adr)} (h : SeqAt n₀ w bF bA A) (hb : Below n₀ w w') : SeqAt n₀ w' bF bA A := by
  obtain ⟨⟨l1, l2⟩, vF, vA, h1, h2, h3⟩ := h
  refine ⟨⟨l1, l2⟩, vF, vA, by rw [hb.cell (p := ⟨bF, 0, none⟩) l1]; exact h1, by rw [hb.cell (p := ⟨bA, 0, none⟩) l2]; exact h2, ?_⟩
  rcases h3 with h3 | ⟨k0, k1, g, c, g', c', e1, e2, l3, l4, h4⟩
  · exact .inl h3
  · refine .inr ⟨k0, k1, g, c, g', c', e1, e2, l3, l4, fun i hi => ?_⟩
    rw [hb.cell (p := ⟨g, i, none⟩) l3, hb.cell (p := ⟨g', i * 3, none⟩) l4, hb.cell (p := ⟨g', i * 3 + 1, none⟩) l4, hb.cell (p := ⟨g', i * 3 + 2, none⟩) l4]
    exact h4 i hi

/-- What All leaves. -/
theorem seqAt_of {w : World} {b : Nat} {A : List (Nat × Adr)} {vF vA : Value} (hA : A.length ≤ 1024) (h1 : w.heap[b]? = some (.cells #[vF] 57 (0, 0))) (h2 : w.heap[b + 1]? = some (.cells #[vA] 39 (0, 0)))
    (hF : w.ownsRow (b + 2) 23 1 vF A.length (fngCells (A.map (·.1)))) (hAd : w.ownsRow (b + 2) 32 3 vA A.length (adrCells (A.map (·.2)))) : SeqAt w.heap.size w b (b + 1) A := by
  have l1 := (Array.getElem?_eq_some_iff.1 h1).1
  have l2 := (Array.getElem?_eq_some_iff.1 h2).1
  refine ⟨⟨l1, l2⟩, vF, vA, by simp [World.cell?, h1], by simp [World.cell?, h2], ?_⟩
  have rF := (own_isSlK hF).rowAt (X := fun i j => .int .u32 (A.getD i default).1) (fun i hi j hj => by
    obtain rfl : j = 0 := by omega
    rw [Nat.mul_one, Nat.add_zero]
    unfold fngCells
    rw [List.getElem?_map, List.getElem?_map, List.getElem?_eq_getElem hi]
    simp [List.getD_eq_getElem?_getD, hi])
  have rA := (own_isSlK hAd).rowAt (X := fun i j => (((A.map (fun e => e.2)).getD i default) : Adr).cell j) (fun i hi j hj => adrCells_get (A.map (fun e => e.2)) i (by simpa using hi) j hj)
  rcases Nat.eq_zero_or_pos A.length with h0 | h0
  · obtain rfl := List.length_eq_zero_iff.1 h0
    left
    obtain ⟨a, c, e, _⟩ := rF.form
    obtain ⟨a', c', e', _⟩ := rA.form
    exact ⟨rfl, ⟨a, c, e⟩, a', c', e'⟩
  · right
    have oF : ∃ g c, vF = .slice (some ⟨g, 0, none⟩) A.length c ∧ g < w.heap.size := by
      rcases hF.2 with ⟨_, h⟩ | ⟨g, c, cur, e, _, hg, _⟩
      · omega
      · exact ⟨g, c, e, (Array.getElem?_eq_some_iff.1 hg).1⟩
    have oA : ∃ g c, vA = .slice (some ⟨g, 0, none⟩) A.length c ∧ g < w.heap.size := by
      rcases hAd.2 with ⟨_, h⟩ | ⟨g, c, cur, e, _, hg, _⟩
      · omega
      · exact ⟨g, c, e, (Array.getElem?_eq_some_iff.1 hg).1⟩
    obtain ⟨g, c, rfl, hg⟩ := oF
    obtain ⟨g', c', rfl, hg'⟩ := oA
    refine ⟨h0, hA, g, c, g', c', rfl, rfl, hg, hg', fun i hi => ?_⟩
    obtain ⟨b1, off1, cap1, e1, _, _, _, k1⟩ := rF.at h0
    obtain ⟨b2, off2, cap2, e2, _, _, _, k2⟩ := rA.at h0
    cases e1
    cases e2
    have q : (A.map (·.2)).getD i default = (A.getD i default).2 := by simp [List.getD_eq_getElem?_getD, hi]
    have q0 := k2 i hi 0 (by decide)
    have q1 := k2 i hi 1 (by decide)
    have q2 := k2 i hi 2 (by decide)
    have q3 := k1 i hi 0 (by decide)
    rw [q] at q0 q1 q2
    simp only [Nat.zero_add, Nat.add_zero, Nat.mul_one, Adr.cell] at q0 q1 q2 q3
    exact ⟨q3, q0, q1, q2⟩

def encE (x : Nat × Adr) : Array Value := #[.int .u32 x.1, .agg #[.int .i64 x.2.seg, .int .u64 x.2.gen, .int .i64 x.2.sec]]
theorem take_snoc_getD {α : Type} [Inhabited α] (A : List α) (k : Nat) (h : k < A.length) : A.take (k + 1) = A.take k ++ [A.getD k default] := by
  rw [List.take_succ_eq_append_getElem h, List.getD_eq_getElem?_getD, List.getElem?_eq_getElem h]; rfl

set_option maxRecDepth 100000 in
set_option maxHeartbeats 4000000 in
theorem all1_in (F : Fence) (n : Nat) (h7 : F.fn 29) (hro : F.round = none) (hn : 1 ≤ n) (l bF bA n₀ : Nat) (A : List (Nat × Adr)) (J Jx : List (Nat × Adr) → World → Prop)
    (hY : ∀ pre x W, J pre W → pre.length < A.length → YieldAt F (n - 1) Try.prog l (encE x) W fun e W' =>
      (e = .returned (.bool true) ∧ J (pre ++ [x]) W' ∧ Below n₀ W W') ∨ (e = .returned (.bool false) ∧ Jx (pre ++ [x]) W'))
    (W : World) (hS : SeqAt n₀ W bF bA A) (h0 : J [] W) :
    CallsIn F n Try.prog 29 #[.func (.yield l) #[] #[], .pointer (some ⟨bF, 0, none⟩), .pointer (some ⟨bA, 0, none⟩)] W fun e W' => (∃ v, e = .returned v) ∧
      ((∃ ys, ys = A ∧ J ys W') ∨ (∃ pre, pre <+: A ∧ Jx pre W')) := by
  have HS := Lib.hid hS
  obtain ⟨⟨l1, l2⟩, vF, vA, c1, c2, hcase⟩ := hS
  rcases hcase with ⟨rfl, ⟨a, cap, rfl⟩, a', cap', rfl⟩ | ⟨k0, k1, g, c, g', c', rfl, rfl, l3, l4, hcell⟩
  · refine callsIn_of_wp Try.func29 rfl h7 ?_ hro
    simp only [Try.ntmps29, List.size_toArray, List.length_cons, List.length_nil, Nat.reduceAdd, Nat.reduceSub, Array.replicate_succ, Array.replicate_zero, List.push_toArray, List.append_toArray, List.nil_append, List.cons_append]
    gi_wp2
    gi_loopw [8] (fun i wr => i = .int .i64 0 ∧ J [] wr) (fun _ _ => 0)
    case atStart => exact ⟨rfl, h0⟩
    case round =>
      obtain ⟨rfl, hJs⟩ := hrel
      gi_wp2
      go_end0
      exact ⟨⟨_, rfl⟩, .inl ⟨_, rfl, hJs⟩⟩
  · refine callsIn_of_wp Try.func29 rfl h7 ?_ hro
    simp only [Try.ntmps29, List.size_toArray, List.length_cons, List.length_nil, Nat.reduceAdd, Nat.reduceSub, Array.replicate_succ, Array.replicate_zero, List.push_toArray, List.append_toArray, List.nil_append, List.cons_append]
    have HC := Lib.hid hcell
    obtain ⟨len, hlen⟩ : ∃ len, len = A.length := ⟨_, rfl⟩
    rw [← hlen] at k0 k1 HC c1 c2 hY
    have HLEN := Lib.hid hlen
    clear hcell hlen
    gi_wp2
    gi_loopw [8] (fun i wr => ∃ k : Nat, k ≤ len ∧ i = .int .i64 k ∧ J (A.take k) wr ∧ Below n₀ W wr) (fun i _ => len - (intOf i).toNat)
    case atStart => exact ⟨0, Nat.zero_le _, rfl, h0, Below.refl _ _⟩
    case round =>
      obtain ⟨k, hk, rfl, hJs, hnx⟩ := hrel
      by_cases hlt : k < len
      · obtain ⟨fn, tmps, assign, body, hy, hR⟩ := hY _ (A.getD k default) wr hJs (by rw [List.length_take, ← HLEN.out]; omega)
        have hc := HC.out k hlt
        rw [← hnx.cell (p := ⟨g, k, none⟩) l3, ← hnx.cell (p := ⟨g', k * 3, none⟩) l4, ← hnx.cell (p := ⟨g', k * 3 + 1, none⟩) l4, ← hnx.cell (p := ⟨g', k * 3 + 2, none⟩) l4] at hc
        obtain ⟨d1, d2, d3, d4⟩ := hc
        have c2' : wr.cell? ⟨bA, 0, none⟩ = some (.slice (some ⟨g', 0, none⟩) len c') := (hnx.cell (p := ⟨bA, 0, none⟩) l2).trans c2
        unfold encE at hy
        have HTS := Lib.hid (take_snoc_getD A k (by rw [← HLEN.out]; exact hlt))
        generalize A.getD k default = x at *
        gi_wp2
        refine hR.mono ?_
        rintro e W3 (⟨rfl, hJ3, hk3⟩ | ⟨rfl, hJx3⟩)
        · clear d1 d2 d3 d4 c2' c1
          gi_wp2
          go_roundw
          case rel => exact ⟨k + 1, by omega, by simp, by rw [HTS.out]; exact hJ3, hnx.trans hk3⟩
          case measure => simp [intOf]; omega
        · gi_wp2
          refine bodyPost_ret (results_none rfl _ _ _) rfl ?_
          exact ⟨⟨_, rfl⟩, .inr ⟨A.take (k + 1), List.take_prefix _ _, by rw [HTS.out]; exact hJx3⟩⟩
      · obtain rfl : k = len := by omega
        gi_wp2
        go_end0
        exact ⟨⟨_, rfl⟩, .inl ⟨_, by rw [HLEN.out, List.take_length], hJs⟩⟩

theorem all_stops (F : Fence) (n : Nat) (h7 : F.fn 29) (hro : F.round = none) (hn : 1 ≤ n) (bF bA n₀ : Nat) (A : List (Nat × Adr)) (w : World) (hn₀ : n₀ ≤ w.heap.size) (hS : SeqAt n₀ w bF bA A) :
    SeqStopsK F n Try.prog 29 #[.pointer (some ⟨bF, 0, none⟩), .pointer (some ⟨bA, 0, none⟩)] encE (Below n₀) (fun ys => ys = A) (fun pre => pre <+: A) A.length w := fun l J Jx W hW _ _ hY h0 =>
  all1_in F n h7 hro hn l bF bA n₀ A J Jx hY W (hS.below (hW.mono hn₀)) h0

/-- A nil index has no entries. -/
theorem all_nil (w : World) : Calls Try.prog 22 #[.pointer none] w fun e w' => e = .returned (.func (.func 29) #[] #[.pointer (some ⟨w.heap.size, 0, none⟩), .pointer (some ⟨w.heap.size + 1, 0, none⟩)]) ∧
    SeqAt w'.heap.size w' w.heap.size (w.heap.size + 1) [] ∧ Below w.heap.size w w' := by
  have hb : Below w.heap.size w ((w.alloc (.cells #[.slice none 0 0] 57)).alloc (.cells #[.slice none 0 0] 39)) := ((Below.refl _ w).alloc (Nat.le_refl _) _).alloc (by simp) _
  have hs : SeqAt ((w.alloc (.cells #[.slice none 0 0] 57)).alloc (.cells #[.slice none 0 0] 39)).heap.size ((w.alloc (.cells #[.slice none 0 0] 57)).alloc (.cells #[.slice none 0 0] 39)) w.heap.size (w.heap.size + 1) [] := by
    refine seqAt_of (vF := .slice none 0 0) (vA := .slice none 0 0) (by decide) ?_ ?_ (World.ownsRow_nil _ _ _ _) (World.ownsRow_nil _ _ _ _)
    · rw [Below.heap_alloc _ _ _ (by simp)]; exact heap_alloc_new w _
    · have := heap_alloc_new (w.alloc (.cells #[.slice none 0 0] 57)) (.cells #[.slice none 0 0] 39)
      simpa using this
  have HB := Lib.hid hb
  have HS := Lib.hid hs
  clear hb hs
  go_enter Try.func22, Try.ntmps22
  go_wp2_with fail
  go_ret
  exact ⟨rfl, HS.out, HB.out⟩
end Go.Proofs.Ytccgdfamjohmgaa
