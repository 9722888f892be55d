/- The comparison of two segments, and the sort of at most sixteen numbers by it. Conditions: the segments lie in memory; the numbers are theirs. -/
import Derived.Test.YtlcdadnfcdjglaaMem
import Derived.Test.YtlcdadnfcdjglaaPlain2
set_option linter.unusedVariables false
set_option linter.unusedSimpArgs false
namespace Go.Proofs.Ytlcdadnfcdjglaa
open Go.RowKit Go.Ice Go.Ring

def cmpF (a b : Nat) : Int := if a < b then -1 else if b < a then 1 else 0

theorem compare (a b : Nat) (w : World) : Calls Try.prog 60 #[.int .u64 a, .int .u64 b] w fun e w' => e = .returned (.int .i64 (cmpF a b)) ∧ w = w' := by
  have nan : ∀ (x : Nat) (w : World), Calls Try.prog 62 #[.int .u64 x] w fun e w' => e = .returned (.bool false) ∧ w = w' := fun x w => by
    have h : ((x : Int) != (x : Int)) = false := by simp
    go_enter Try.func62, Try.ntmps62
    go_wp2_with fail
    go_ret
    exact ⟨rfl, rfl⟩
  have NAN := Lib.hid nan
  clear nan
  unfold cmpF
  by_cases h1 : a < b
  · rw [if_pos h1]
    go_enter Try.func60, Try.ntmps60
    go_wp2_with fail
    refine (NAN.out _ _).mono ?_
    rintro e w1 ⟨rfl, rfl⟩
    go_wp2_with fail
    refine (NAN.out _ _).mono ?_
    rintro e w1 ⟨rfl, rfl⟩
    go_wp2_with fail
    go_ret
    exact ⟨rfl, rfl⟩
  · rw [if_neg h1]
    by_cases h2 : b < a
    · rw [if_pos h2]
      go_enter Try.func60, Try.ntmps60
      go_wp2_with fail
      refine (NAN.out _ _).mono ?_
      rintro e w1 ⟨rfl, rfl⟩
      go_wp2_with fail
      refine (NAN.out _ _).mono ?_
      rintro e w1 ⟨rfl, rfl⟩
      go_wp2_with fail
      go_ret
      exact ⟨rfl, rfl⟩
    · rw [if_neg h2]
      go_enter Try.func60, Try.ntmps60
      go_wp2_with fail
      refine (NAN.out _ _).mono ?_
      rintro e w1 ⟨rfl, rfl⟩
      go_wp2_with fail
      refine (NAN.out _ _).mono ?_
      rintro e w1 ⟨rfl, rfl⟩
      go_wp2_with fail
      go_ret
      exact ⟨rfl, rfl⟩

def segCell (s : Seg) : Nat → Value
  | 0 => .int .i64 s.st
  | 1 => .int .u64 s.gen
  | _ => .int .i64 s.used
def SegsAt (w : World) (v : Value) (l : List Seg) : Prop := RowAt w 3 v l.length fun i j => segCell (at' l i) j
/-- A ring in a block of its own: its sectors, its segments. -/
structure RingAt (w : World) (b : Nat) (sec : Int) (v : Value) (l : List Seg) : Prop where
  box : w.heap[b]? = some (.cells #[.int .i64 sec, v] 25 (0, 0))
  segs : SegsAt w v l

theorem SegsAt.cell {w : World} {v : Value} {l : List Seg} (h : SegsAt w v l) (hl : 0 < l.length) : ∃ b off cap, v = .slice (some ⟨b, off, none⟩) l.length cap ∧ l.length ≤ cap ∧ cap ≤ maxLen ∧ b < w.heap.size ∧
    ∀ i, i < l.length → w.cell? ⟨b, off + i * 3, none⟩ = some (.int .i64 (at' l i).st) ∧ w.cell? ⟨b, off + i * 3 + 1, none⟩ = some (.int .u64 (at' l i).gen) ∧ w.cell? ⟨b, off + i * 3 + 2, none⟩ = some (.int .i64 (at' l i).used) := by
  obtain ⟨b, off, cap, h1, h2, h3, h4, h5⟩ := RowAt.at h hl
  refine ⟨b, off, cap, h1, h2, h3, h4, fun i hi => ?_⟩
  have q0 := h5 i hi 0 (by decide)
  have q1 := h5 i hi 1 (by decide)
  have q2 := h5 i hi 2 (by decide)
  simp only [segCell, Nat.add_zero, ← Nat.add_assoc] at q0 q1 q2
  exact ⟨q0, q1, q2⟩

set_option maxHeartbeats 2000000 in
theorem order1 (w : World) (b : Nat) (sec : Int) (v : Value) (l : List Seg) (i j : Nat) (h : RingAt w b sec v l) (hi : i < l.length) (hj : j < l.length) :
    Calls Try.prog 59 #[.int .i64 i, .int .i64 j, .pointer (some ⟨b, 0, none⟩)] w fun e w' => e = .returned (.int .i64 (cmpF (gen l i) (gen l j))) ∧ ∃ m, w' = w.drewN m := by
  obtain ⟨bs, off, cap, rfl, h1, h2, h3, h4⟩ := h.segs.cell (by omega)
  have c1 : w.cell? ⟨b, 1, none⟩ = some (.slice (some ⟨bs, off, none⟩) l.length cap) := blk_cell h.box 1
  have g1 : w.cell? ⟨bs, off + i * 3 + 1, none⟩ = some (.int .u64 (gen l i)) := (h4 i hi).2.1
  have g2 : w.cell? ⟨bs, off + j * 3 + 1, none⟩ = some (.int .u64 (gen l j)) := (h4 j hj).2.1
  generalize l.length = n at *
  generalize gen l i = x at *
  generalize gen l j = y at *
  have hC := fun m => compare x y (w.drewN m)
  have HC : Hid (∀ m, Calls Try.prog 60 #[.int .u64 x, .int .u64 y] (w.drewN m) fun e w' => e = .returned (.int .i64 (cmpF x y)) ∧ w' = w.drewN m) := fun m => (hC m).mono fun e w' ⟨h1, h2⟩ => ⟨h1, h2.symm⟩
  unfold maxLen at h2
  clear h h4 hC
  go_enter Try.func59, Try.ntmps59
  go_wp2_with fail
  go_quiet ((go_at_call 60; exact Calls.quiet_of_same (HC.out _)))
  go_wp2_with fail
  go_ret
  exact ⟨rfl, nq, rfl⟩

/-- A row of numbers at the head of a block. -/
def IntsAt (w : World) (g : Nat) (ds : List Nat) : Prop := ∃ c, w.heap[g]? = some (.cells c 3 (0, 0)) ∧ ∀ k, k < ds.length → c[k]? = some (.int .i64 (ds.getD k 0 : Nat))
theorem IntsAt.cell {w : World} {g : Nat} {ds : List Nat} (h : IntsAt w g ds) {k : Nat} (hk : k < ds.length) : w.cell? ⟨g, k, none⟩ = some (.int .i64 (ds.getD k 0 : Nat)) := by
  obtain ⟨c, h1, h2⟩ := h
  simpa [World.cell?, h1] using h2 k hk
theorem IntsAt.frozen {w : World} {g : Nat} {ds : List Nat} (h : IntsAt w g ds) (k : Nat) : w.frozen? ⟨g, k, none⟩ = false := by
  obtain ⟨c, h1, _⟩ := h
  simp [World.frozen?, h1]
theorem IntsAt.set {w : World} {g : Nat} {ds : List Nat} (h : IntsAt w g ds) (k x : Nat) : IntsAt (w.setCell ⟨g, k, none⟩ (.int .i64 x)) g (ds.set k x) := by
  obtain ⟨c, h1, h2⟩ := h
  refine ⟨c.setIfInBounds k (.int .i64 x), by simp [World.setCell, Array.getElem?_modify, h1], fun j hj => ?_⟩
  rw [List.length_set] at hj
  have h3 := h2 j hj
  have hlt := (Array.getElem?_eq_some_iff.1 h3).1
  rw [List.getD_eq_getElem?_getD, List.getElem?_set]
  by_cases e : k = j
  · subst e; simp [hlt, hj]
  · rw [if_neg e, ← List.getD_eq_getElem?_getD]
    simp [e, h3]
theorem RingAt.frm {w w' : World} {b : Nat} {sec : Int} {v : Value} {l : List Seg} {T : Nat → Prop} (h : RingAt w b sec v l) (hf : Frm T w w') (hb : ¬ T b) (hT : ∀ k, v.ownBlock = some k → ¬ T k) : RingAt w' b sec v l :=
  ⟨(hf.block b (Array.getElem?_eq_some_iff.1 h.box).1 hb).trans h.box, RowAt.frm h.segs hf hT⟩
end Go.Proofs.Ytlcdadnfcdjglaa
