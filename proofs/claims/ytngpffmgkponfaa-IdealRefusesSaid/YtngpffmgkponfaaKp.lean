/- Blocks of the call's own, carried along through calls. No condition. -/
import Derived.Test.YtngpffmgkponfaaBox
set_option linter.unusedVariables false
namespace Go.Ice
open Go.RowKit

/-- What was before w's end is as it was; the blocks of L hold what L says. -/
structure Kp (w : World) (L : List (Nat × Obj)) (W : World) : Prop where
  below : Below w.heap.size w W
  blks : ∀ p ∈ L, W.heap[p.1]? = some p.2

theorem Kp.nil (w : World) : Kp w [] w := ⟨Below.refl _ w, fun p hp => by cases hp⟩
theorem Kp.step {w W W' : World} {L : List (Nat × Obj)} (h : Kp w L W) (hb : Below W.heap.size W W') : Kp w L W' :=
  ⟨h.below.trans (hb.mono h.below.size), fun p hp => (hb.block p.1 (blk_lt (h.blks p hp))).trans (h.blks p hp)⟩
theorem Kp.drew {w W : World} {L : List (Nat × Obj)} (h : Kp w L W) : Kp w L W.drew := ⟨h.below.drew, h.blks⟩
theorem Kp.drewN {w W : World} {L : List (Nat × Obj)} (h : Kp w L W) (n : Nat) : Kp w L (W.drewN n) := h.step (drewN_below W n)
theorem Kp.alloc {w W : World} {L : List (Nat × Obj)} (h : Kp w L W) (o : Obj) : Kp w ((W.heap.size, o) :: L) (W.alloc o) :=
  ⟨h.below.alloc h.below.size o, fun p hp => by
    rcases List.mem_cons.1 hp with rfl | hp
    · exact heap_alloc_new W o
    · exact keep_alloc (h.blks p hp) o⟩
theorem Kp.b0 {w W : World} {b : Nat} {o : Obj} {L : List (Nat × Obj)} (h : Kp w ((b, o) :: L) W) : W.heap[b]? = some o := h.blks (b, o) (.head _)
theorem Kp.tail {w W : World} {p : Nat × Obj} {L : List (Nat × Obj)} (h : Kp w (p :: L) W) : Kp w L W := ⟨h.below, fun q hq => h.blks q (.tail _ hq)⟩
theorem Kp.b1 {w W : World} {b : Nat} {o : Obj} {p : Nat × Obj} {L : List (Nat × Obj)} (h : Kp w (p :: (b, o) :: L) W) : W.heap[b]? = some o := h.tail.b0
theorem Kp.b2 {w W : World} {b : Nat} {o : Obj} {p q : Nat × Obj} {L : List (Nat × Obj)} (h : Kp w (p :: q :: (b, o) :: L) W) : W.heap[b]? = some o := h.tail.tail.b0
theorem Kp.b3 {w W : World} {b : Nat} {o : Obj} {p q r : Nat × Obj} {L : List (Nat × Obj)} (h : Kp w (p :: q :: r :: (b, o) :: L) W) : W.heap[b]? = some o := h.tail.tail.tail.b0
/-- A store into the first block. -/
theorem Kp.set0 {w W : World} {b k : Nat} {cs : Array Value} {e : TypeId} {L : List (Nat × Obj)} (h : Kp w ((b, .cells cs e (0, 0)) :: L) W) (hb : w.heap.size ≤ b) (hL : ∀ p ∈ L, p.1 ≠ b) (v : Value) :
    Kp w ((b, .cells (cs.setIfInBounds k v) e (0, 0)) :: L) (W.setCell ⟨b, k, none⟩ v) :=
  ⟨h.below.setCell hb v, fun p hp => by
    rcases List.mem_cons.1 hp with rfl | hp
    · have := h.b0
      simp [World.setCell, Array.getElem?_modify, this]
    · exact blk_set (h.tail.blks p hp) (hL p hp) v⟩
theorem Kp.swap {w W : World} {p q : Nat × Obj} {L : List (Nat × Obj)} (h : Kp w (p :: q :: L) W) : Kp w (q :: p :: L) W :=
  ⟨h.below, fun r hr => h.blks r (by
    rcases List.mem_cons.1 hr with rfl | hr
    · exact .tail _ (.head _)
    · rcases List.mem_cons.1 hr with rfl | hr
      · exact .head _
      · exact .tail _ (.tail _ hr))⟩
theorem Kp.swap2 {w W : World} {p q s : Nat × Obj} {L : List (Nat × Obj)} (h : Kp w (p :: q :: s :: L) W) : Kp w (s :: p :: q :: L) W :=
  ⟨h.below, fun r hr => h.blks r (by
    rcases List.mem_cons.1 hr with rfl | hr
    · exact .tail _ (.tail _ (.head _))
    · rcases List.mem_cons.1 hr with rfl | hr
      · exact .head _
      · rcases List.mem_cons.1 hr with rfl | hr
        · exact .tail _ (.head _)
        · exact .tail _ (.tail _ (.tail _ hr)))⟩
/-- Something is done to other blocks. -/
theorem Kp.frm {w W W' : World} {L : List (Nat × Obj)} {S : Nat → Prop} (h : Kp w L W) (hf : Frm S W W') (h1 : ∀ k, k < w.heap.size → ¬ S k) (h2 : ∀ p ∈ L, ¬ S p.1) : Kp w L W' :=
  ⟨h.below.trans (hf.below h1 h.below.size), fun p hp => (hf.block p.1 (blk_lt (h.blks p hp)) (h2 p hp)).trans (h.blks p hp)⟩

theorem boxed1 (w : World) (c1 : Array Value) (t1 : TypeId) : ∃ B W, Hid (w.heap.size = B) ∧ Hid (w.alloc (.cells c1 t1) = W) ∧ Hid (Kp w [(B, .cells c1 t1)] W) ∧ Hid (W.heap.size = B + 1) :=
  ⟨_, _, rfl, rfl, (Kp.nil w).alloc _, (show (w.alloc _).heap.size = _ from by simp)⟩
theorem boxed2 (w : World) (c1 : Array Value) (t1 : TypeId) (c2 : Array Value) (t2 : TypeId) :
    ∃ B C W, Hid (w.heap.size = B) ∧ Hid (w.heap.size + 1 = C) ∧ Hid ((w.alloc (.cells c1 t1)).alloc (.cells c2 t2) = W) ∧ Hid (Kp w [(B, .cells c1 t1), (C, .cells c2 t2)] W) ∧ Hid (W.heap.size = B + 2) :=
  ⟨w.heap.size, w.heap.size + 1, _, rfl, rfl, rfl, (show Kp _ _ _ from by
    have := ((Kp.nil w).alloc (.cells c1 t1)).alloc (.cells c2 t2)
    simp only [World.size_alloc] at this
    exact this.swap), (show ((w.alloc _).alloc _).heap.size = _ from by simp)⟩
theorem boxed3 (w : World) (c1 : Array Value) (t1 : TypeId) (c2 : Array Value) (t2 : TypeId) (c3 : Array Value) (t3 : TypeId) :
    ∃ B C D W, Hid (w.heap.size = B) ∧ Hid (w.heap.size + 1 = C) ∧ Hid (w.heap.size + 2 = D) ∧ Hid (((w.alloc (.cells c1 t1)).alloc (.cells c2 t2)).alloc (.cells c3 t3) = W) ∧ Hid (Kp w [(B, .cells c1 t1), (C, .cells c2 t2), (D, .cells c3 t3)] W) ∧ Hid (W.heap.size = B + 3) :=
  ⟨w.heap.size, w.heap.size + 1, w.heap.size + 2, _, rfl, rfl, rfl, rfl, (show Kp _ _ _ from by
    have := (((Kp.nil w).alloc (.cells c1 t1)).alloc (.cells c2 t2)).alloc (.cells c3 t3)
    simp only [World.size_alloc] at this
    exact ⟨this.below, fun p hp => this.blks p (by
      simp only [List.mem_cons, List.mem_nil_iff, or_false] at hp ⊢
      rcases hp with h | h | h
      · exact .inr (.inr h)
      · exact .inr (.inl h)
      · exact .inl h)⟩), (show (((w.alloc _).alloc _).alloc _).heap.size = _ from by simp)⟩
end Go.Ice
