/- Blocks of the call's own, carried along through calls. No condition. Bytes in memory; what one owns, kept. No condition. Ranges of cells, whole variables: structs and arrays without unrolling. No condition. -/
import Derived.Test.YtjmocjcjiiopnaaGreatLogScans01
import Derived.Deep.MidRow

section
set_option linter.unusedVariables false
namespace Go.Ice
open Go.RowKit

/-- What was before w's end is as it was; the blocks of L hold what L says. -/
structure Kp (w : World) (L : List (Nat × Obj)) (W : World) : Prop where
  below : Below w.heap.size w W
  blks : ∀ p ∈ L, W.heap[p.1]? = some p.2

theorem Kp.nil (w : World) : Kp w [] w := ⟨Below.refl _ w, fun p hp => by cases hp⟩
theorem Kp.step {w W W' : World} {L : List (Nat × Obj)} (h : Kp w L W) (hb : Below W.heap.size W W') : Kp w L W' :=
  ⟨h.below.trans (hb.mono h.below.size), fun p hp => (hb.block p.1 (blk_lt (h.blks p hp))).trans (h.blks p hp)⟩
theorem Kp.drew {w W : World} {L : List (Nat × Obj)} (h : Kp w L W) : Kp w L W.drew := ⟨h.below.drew, h.blks⟩
theorem Kp.drewN {w W : World} {L : List (Nat × Obj)} (h : Kp w L W) (n : Nat) : Kp w L (W.drewN n) := h.step (drewN_below W n)
theorem Kp.alloc {w W : World} {L : List (Nat × Obj)} (h : Kp w L W) (o : Obj) : Kp w ((W.heap.size, o) :: L) (W.alloc o) :=
  ⟨h.below.alloc h.below.size o, fun p hp => by
    rcases List.mem_cons.1 hp with rfl | hp
    · exact heap_alloc_new W o
    · exact keep_alloc (h.blks p hp) o⟩
theorem Kp.b0 {w W : World} {b : Nat} {o : Obj} {L : List (Nat × Obj)} (h : Kp w ((b, o) :: L) W) : W.heap[b]? = some o := h.blks (b, o) (.head _)
theorem Kp.tail {w W : World} {p : Nat × Obj} {L : List (Nat × Obj)} (h : Kp w (p :: L) W) : Kp w L W := ⟨h.below, fun q hq => h.blks q (.tail _ hq)⟩
theorem Kp.b1 {w W : World} {b : Nat} {o : Obj} {p : Nat × Obj} {L : List (Nat × Obj)} (h : Kp w (p :: (b, o) :: L) W) : W.heap[b]? = some o := h.tail.b0
theorem Kp.b2 {w W : World} {b : Nat} {o : Obj} {p q : Nat × Obj} {L : List (Nat × Obj)} (h : Kp w (p :: q :: (b, o) :: L) W) : W.heap[b]? = some o := h.tail.tail.b0
theorem Kp.b3 {w W : World} {b : Nat} {o : Obj} {p q r : Nat × Obj} {L : List (Nat × Obj)} (h : Kp w (p :: q :: r :: (b, o) :: L) W) : W.heap[b]? = some o := h.tail.tail.tail.b0
/-- A store into the first block. -/
theorem Kp.set0 {w W : World} {b k : Nat} {cs : Array Value} {e : TypeId} {L : List (Nat × Obj)} (h : Kp w ((b, .cells cs e (0, 0)) :: L) W) (hb : w.heap.size ≤ b) (hL : ∀ p ∈ L, p.1 ≠ b) (v : Value) :
    Kp w ((b, .cells (cs.setIfInBounds k v) e (0, 0)) :: L) (W.setCell ⟨b, k, none⟩ v) :=
  ⟨h.below.setCell hb v, fun p hp => by
    rcases List.mem_cons.1 hp with rfl | hp
    · have := h.b0
      simp [World.setCell, Array.getElem?_modify, this]
    · exact blk_set (h.tail.blks p hp) (hL p hp) v⟩
theorem Kp.swap {w W : World} {p q : Nat × Obj} {L : List (Nat × Obj)} (h : Kp w (p :: q :: L) W) : Kp w (q :: p :: L) W :=
  ⟨h.below, fun r hr => h.blks r (by
    rcases List.mem_cons.1 hr with rfl | hr
    · exact .tail _ (.head _)
    · rcases List.mem_cons.1 hr with rfl | hr
      · exact .head _
      · exact .tail _ (.tail _ hr))⟩
theorem Kp.swap2 {w W : World} {p q s : Nat × Obj} {L : List (Nat × Obj)} (h : Kp w (p :: q :: s :: L) W) : Kp w (s :: p :: q :: L) W :=
  ⟨h.below, fun r hr => h.blks r (by
    rcases List.mem_cons.1 hr with rfl | hr
    · exact .tail _ (.tail _ (.head _))
    · rcases List.mem_cons.1 hr with rfl | hr
      · exact .head _
      · rcases List.mem_cons.1 hr with rfl | hr
        · exact .tail _ (.head _)
        · exact .tail _ (.tail _ (.tail _ hr)))⟩
/-- Something is done to other blocks. -/
theorem Kp.frm {w W W' : World} {L : List (Nat × Obj)} {S : Nat → Prop} (h : Kp w L W) (hf : Frm S W W') (h1 : ∀ k, k < w.heap.size → ¬ S k) (h2 : ∀ p ∈ L, ¬ S p.1) : Kp w L W' :=
  ⟨h.below.trans (hf.below h1 h.below.size), fun p hp => (hf.block p.1 (blk_lt (h.blks p hp)) (h2 p hp)).trans (h.blks p hp)⟩

theorem boxed1 (w : World) (c1 : Array Value) (t1 : TypeId) : ∃ B W, Hid (w.heap.size = B) ∧ Hid (w.alloc (.cells c1 t1) = W) ∧ Hid (Kp w [(B, .cells c1 t1)] W) ∧ Hid (W.heap.size = B + 1) :=
  ⟨_, _, rfl, rfl, (Kp.nil w).alloc _, (show (w.alloc _).heap.size = _ from by simp)⟩
theorem boxed2 (w : World) (c1 : Array Value) (t1 : TypeId) (c2 : Array Value) (t2 : TypeId) :
    ∃ B C W, Hid (w.heap.size = B) ∧ Hid (w.heap.size + 1 = C) ∧ Hid ((w.alloc (.cells c1 t1)).alloc (.cells c2 t2) = W) ∧ Hid (Kp w [(B, .cells c1 t1), (C, .cells c2 t2)] W) ∧ Hid (W.heap.size = B + 2) :=
  ⟨w.heap.size, w.heap.size + 1, _, rfl, rfl, rfl, (show Kp _ _ _ from by
    have := ((Kp.nil w).alloc (.cells c1 t1)).alloc (.cells c2 t2)
    simp only [World.size_alloc] at this
    exact this.swap), (show ((w.alloc _).alloc _).heap.size = _ from by simp)⟩
theorem boxed3 (w : World) (c1 : Array Value) (t1 : TypeId) (c2 : Array Value) (t2 : TypeId) (c3 : Array Value) (t3 : TypeId) :
    ∃ B C D W, Hid (w.heap.size = B) ∧ Hid (w.heap.size + 1 = C) ∧ Hid (w.heap.size + 2 = D) ∧ Hid (((w.alloc (.cells c1 t1)).alloc (.cells c2 t2)).alloc (.cells c3 t3) = W) ∧ Hid (Kp w [(B, .cells c1 t1), (C, .cells c2 t2), (D, .cells c3 t3)] W) ∧ Hid (W.heap.size = B + 3) :=
  ⟨w.heap.size, w.heap.size + 1, w.heap.size + 2, _, rfl, rfl, rfl, rfl, (show Kp _ _ _ from by
    have := (((Kp.nil w).alloc (.cells c1 t1)).alloc (.cells c2 t2)).alloc (.cells c3 t3)
    simp only [World.size_alloc] at this
    exact ⟨this.below, fun p hp => this.blks p (by
      simp only [List.mem_cons, List.mem_nil_iff, or_false] at hp ⊢
      rcases hp with h | h | h
      · exact .inr (.inr h)
      · exact .inr (.inl h)
      · exact .inl h)⟩), (show (((w.alloc _).alloc _).alloc _).heap.size = _ from by simp)⟩
end Go.Ice
end

section
set_option linter.unusedVariables false
set_option linter.unusedSimpArgs false
namespace Go.Ice
open Go.RowKit
/-- Bytes, bools in memory. -/
def BytesAt (w : World) (v : Value) (l : List UInt8) : Prop := IsSl w v (l.map u8v)
theorem BytesAt.below {B : Nat} {w w' : World} {v : Value} {l : List UInt8} (h : BytesAt w v l) (hb : Below B w w') (hB : w.heap.size ≤ B) : BytesAt w' v l := IsSl.below h hb hB
theorem BytesAt.form {w : World} {v : Value} {l : List UInt8} (h : BytesAt w v l) : ∃ a cap, v = .slice a l.length cap ∧ l.length ≤ maxLen := by
  obtain ⟨a, c, h1, h2⟩ := IsSl.form h
  rw [List.length_map] at h1 h2
  exact ⟨a, c, h1, h2⟩
theorem BytesAt.at {w : World} {v : Value} {l : List UInt8} (h : BytesAt w v l) (hl : 0 < l.length) : ∃ b off cap, v = .slice (some ⟨b, off, none⟩) l.length cap ∧ l.length ≤ cap ∧ cap ≤ maxLen ∧ b < w.heap.size ∧ ∀ i, i < l.length → w.cell? ⟨b, off + i, none⟩ = some (.int .u8 (l.getD i 0).toNat) := by
  rcases h with ⟨h, _⟩ | ⟨_, b, off, cap, h1, h2, h3, h4, h5⟩
  · rw [List.map_eq_nil_iff] at h; subst h; simp at hl
  · rw [List.length_map] at h1 h2 h5
    refine ⟨b, off, cap, h1, h2, h3, h4, fun i hi => ?_⟩
    rw [h5 i hi, List.getElem?_map, List.getElem?_eq_getElem hi]
    simp [u8v, List.getD_eq_getElem?_getD, hi]
/-- Bytes in memory, in blocks of C. -/
def BytesIn (w : World) (C : Nat → Prop) (v : Value) (l : List UInt8) : Prop := BytesAt w v l ∧ (l ≠ [] → ∀ b, v.ownBlock = some b → C b)

theorem IsSl.frm {S : Nat → Prop} {w w' : World} {v : Value} {cs : List Value} (h : IsSl w v cs) (hf : Frm S w w') (hS : cs ≠ [] → ∀ b, v.ownBlock = some b → ¬ S b) : IsSl w' v cs := by
  rcases h with h | ⟨h0, b, off, cap, hv, h1, h2, h3, h4⟩
  · exact .inl h
  · refine .inr ⟨h0, b, off, cap, hv, h1, h2, by have := hf.size; omega, fun j hj => ?_⟩
    rw [hf.cell (p := ⟨b, off + j, none⟩) h3 (hS (by intro e; simp [e] at h0) b (by rw [hv]; rfl))]
    exact h4 j hj
theorem BytesIn.frm {S C : Nat → Prop} {w w' : World} {v : Value} {l : List UInt8} (h : BytesIn w C v l) (hf : Frm S w w') (hS : ∀ b, C b → ¬ S b) : BytesIn w' C v l :=
  ⟨IsSl.frm h.1 hf (fun hl b hb => hS b (h.2 (by intro e; simp [e] at hl) b hb)), h.2⟩
theorem BytesIn.mono {C D : Nat → Prop} {w : World} {v : Value} {l : List UInt8} (h : BytesIn w C v l) (hS : ∀ b, b < w.heap.size → C b → D b) : BytesIn w D v l :=
  ⟨h.1, fun hl b hb => hS b (by
    rcases h.1 with ⟨h, _⟩ | ⟨h0, b', off, cap, hv, h1, h2, h3, h4⟩
    · simp at h; exact absurd h hl
    · rw [hv] at hb; cases hb; exact h3) (h.2 hl b hb)⟩
theorem BytesIn.nil (w : World) (C : Nat → Prop) : BytesIn w C (.slice none 0 0) [] := ⟨.inl ⟨rfl, .inl rfl⟩, fun h => absurd rfl h⟩
theorem bytes_take {w : World} {a : Option Addr} {c : Nat} {l : List UInt8} (h : BytesAt w (.slice a l.length c) l) (m : Nat) : BytesAt w (.slice a (l.take m).length c) (l.take m) := by
  rcases h with ⟨h1, h2⟩ | ⟨h0, b, off, cap, hv, h1, h2, h3, h4⟩
  · have : l = [] := by simpa using h1
    subst this
    rw [List.take_nil]
    exact .inl ⟨rfl, h2⟩
  · rw [List.length_map] at h0 h1 h4
    injection hv with e1 e2 e3
    subst e1 e3
    by_cases hm : m = 0
    · subst hm
      exact .inl ⟨rfl, .inr ⟨_, _, rfl⟩⟩
    · have hl : 0 < (l.take m).length := by rw [List.length_take]; omega
      refine .inr ⟨by rw [List.length_map]; exact hl, b, off, c, by rw [List.length_map], by rw [List.length_map, List.length_take]; omega, h2, h3, fun j hj => ?_⟩
      rw [List.length_map, List.length_take] at hj
      rw [h4 j (by omega), List.getElem?_map, List.getElem?_map, List.getElem?_take_of_lt (by omega)]
theorem bytes_cap {w : World} {a : Option Addr} {n c : Nat} {l : List UInt8} (h : BytesAt w (.slice a n c) l) : n ≤ c := by
  rcases h with ⟨h1, h2 | ⟨x, cap, h2⟩⟩ | ⟨h0, b, off, cap, hv, h1, h2, h3, h4⟩
  · injection h2 with e1 e2 e3; omega
  · injection h2 with e1 e2 e3; omega
  · injection hv with e1 e2 e3; omega
theorem bodyPost_world {P : Program} {F : Func} {Q : Ending → World → Prop} {x : Exit} {a : Act} {w : World} (R : World → Prop) (h : R w) (k : ∀ w', R w' → bodyPost P F Q x a w') : bodyPost P F Q x a w := k w h
theorem heap_drew_eq {w : World} {b : Nat} {o : Obj} (h : w.heap[b]? = some o) : w.drew.heap[b]? = some o := h
theorem own_keep {w w' : World} {base e size n : Nat} {v : Value} {xs : List Value} (h : w.ownsRow base e size v n xs) (hk : ∀ b, v.ownBlock = some b → w'.heap[b]? = w.heap[b]?) : w'.ownsRow base e size v n xs := by
  obtain ⟨h1, h2⟩ := h
  refine ⟨h1, ?_⟩
  rcases h2 with h2 | ⟨g, cap, cur, hv, hb, hg, r⟩
  · exact .inl h2
  · exact .inr ⟨g, cap, cur, hv, hb, (hk g (by rw [hv]; rfl)).trans hg, r⟩
theorem own_belowK {B : Nat} {w w' : World} {base e size n : Nat} {v : Value} {xs : List Value} (h : w.ownsRow base e size v n xs) (hb : Below B w w') (hB : w.heap.size ≤ B) : w'.ownsRow base e size v n xs :=
  own_keep h fun b hb' => hb.block b (by have := (h.lt b hb').2; omega)
theorem own_bytes {w : World} {base : Nat} {v : Value} {l : List UInt8} {C : Nat → Prop} (h : w.ownsRow base 5 1 v l.length (l.map u8v)) (hC : ∀ b, base ≤ b → C b) : BytesIn w C v l :=
  ⟨own_isSl h, fun _ b hb => hC b (h.lt b hb).1⟩

theorem isSlK_new (w : World) (cs : List Value) (e : TypeId) (n size cap : Nat) (h0 : 0 < n) (hl : cs.length = n * size) (hc : n ≤ cap) (hm : cap ≤ maxLen) : IsSlK (w.alloc (.cells cs.toArray e)) size n (.slice (some ⟨w.heap.size, 0, none⟩) n cap) cs :=
  ⟨hl, .inr ⟨h0, w.heap.size, 0, cap, rfl, hc, hm, by simp, fun j hj => by rw [Nat.zero_add, World.cell?_alloc_mark]; simp⟩⟩
theorem hbelow_drew (w : World) : Below w.heap.size w w.drew := (Below.refl _ _).drew
theorem cellB {w W : World} {p : Addr} {v : Value} (hb : Below w.heap.size w W) (h : w.cell? p = some v) : W.cell? p = some v := (hb.cell (World.block_lt_of_cell? w p h)).trans h
theorem blk_setAt {w : World} {b k : Nat} {cs : Array Value} {e : TypeId} (h : w.heap[b]? = some (.cells cs e (0, 0))) (v : Value) : (w.setCell ⟨b, k, none⟩ v).heap[b]? = some (.cells (cs.setIfInBounds k v) e (0, 0)) := by
  simp [World.setCell, Array.getElem?_modify, h]
theorem setCell_frm1 (w : World) (b k : Nat) (v : Value) : Frm (fun x => x = b) w (w.setCell ⟨b, k, none⟩ v) := (Frm.refl (fun x => x = b) w).setCell (p := ⟨b, k, none⟩) (.inl rfl) v
end Go.Ice
end

section
set_option linter.unusedVariables false
set_option linter.unusedSimpArgs false
namespace Go.Ice
open Go.RowKit
theorem rangeAt_append {w : World} {b o : Nat} {l m : List Value} : w.rangeAt b o (l ++ m) ↔ w.rangeAt b o l ∧ w.rangeAt b (o + l.length) m := by
  constructor
  · intro h
    refine ⟨fun j v hv => h j v (by rw [List.getElem?_append_left (List.getElem?_eq_some_iff.1 hv).1]; exact hv), fun j v hv => ?_⟩
    rw [Nat.add_assoc]
    exact h (l.length + j) v (by rw [List.getElem?_append_right (by omega), Nat.add_sub_cancel_left]; exact hv)
  · rintro ⟨h1, h2⟩ j v hv
    by_cases h : j < l.length
    · rw [List.getElem?_append_left h] at hv; exact h1 j v hv
    · rw [List.getElem?_append_right (by omega)] at hv
      have := h2 _ v hv
      rw [Nat.add_assoc, show l.length + (j - l.length) = j by omega] at this
      exact this
theorem rangeAt_frm {w w' : World} {S : Nat → Prop} {b o : Nat} {l : List Value} (h : w.rangeAt b o l) (hf : Frm S w w') (hb : b < w.heap.size) (hS : ¬ S b) : w'.rangeAt b o l := fun j v hv => (hf.cell (p := ⟨b, o + j, none⟩) hb hS).trans (h j v hv)
theorem there_frm {w w' : World} {S : Nat → Prop} {b o n : Nat} (h : w.there b o n) (hf : Frm S w w') (hb : b < w.heap.size) (hS : ¬ S b) : w'.there b o n := fun j hj => by
  have := hf.block b hb hS
  obtain ⟨h1, h2⟩ := h j hj
  refine ⟨by rw [hf.cell (p := ⟨b, o + j, none⟩) hb hS]; exact h1, ?_⟩
  rw [show w'.frozen? ⟨b, o + j, none⟩ = w.frozen? ⟨b, o + j, none⟩ from by simp [World.frozen?, this]]; exact h2
theorem frm_setCells (w : World) (b : Nat) : ∀ (vs : List Value) (o : Nat), Frm (fun k => k = b) w (w.setCells b o vs)
  | [], o => Frm.refl _ _
  | v :: vs, o => by
    have h := (Frm.refl (fun k => k = b) w).setCell (p := ⟨b, o, none⟩) (.inl rfl) v
    exact h.trans (frm_setCells (w.setCell ⟨b, o, none⟩ v) b vs (o + 1))
theorem there_of_blk {w : World} {b n : Nat} {cs : Array Value} {e : TypeId} (h : w.heap[b]? = some (.cells cs e (0, 0))) (hn : n ≤ cs.size) : w.there b 0 n := fun j hj => by
  rw [Nat.zero_add]
  refine ⟨?_, blk_frozen h j⟩
  rw [blk_cell h, Array.getElem?_eq_getElem (by omega)]; rfl
theorem rangeAt_mono {w : World} {b o : Nat} {l : List Value} {n : Nat} (h : w.there b 0 n) (ho : o + l.length ≤ n) : w.there b o l.length := fun j hj => by have := h (o + j) (by omega); rw [Nat.zero_add] at this; exact this
theorem blk_setCells {w : World} {b : Nat} {e : TypeId} : ∀ (vs : List Value) (o : Nat) (cs : List Value) (w : World), w.heap[b]? = some (.cells cs.toArray e (0, 0)) → o + vs.length ≤ cs.length → (w.setCells b o vs).heap[b]? = some (.cells (cs.take o ++ vs ++ cs.drop (o + vs.length)).toArray e (0, 0))
  | [], o, cs, w, h, hl => by simpa [World.setCells] using h
  | v :: vs, o, cs, w, h, hl => by
    have h1 := blk_setAt (k := o) h v
    rw [List.setIfInBounds_toArray] at h1
    have h2 := blk_setCells (w := w) vs (o + 1) (cs.set o v) (w.setCell ⟨b, o, none⟩ v) h1 (by simp at hl ⊢; omega)
    have e1 : (cs.set o v).take (o + 1) = cs.take o ++ [v] := by
      rw [List.take_set, List.take_add_one, List.getElem?_eq_getElem (by simp at hl; omega)]
      rw [List.set_append_right _ _ (by simp; omega)]
      simp [show o - min o cs.length = 0 by simp at hl; omega]
    have e2 : (cs.set o v).drop (o + 1 + vs.length) = cs.drop (o + (v :: vs).length) := by
      rw [List.drop_set_of_lt (by omega)]
      congr 1
      simp; omega
    rw [e1, e2] at h2
    show ((w.setCell ⟨b, o, none⟩ v).setCells b (o + 1) vs).heap[b]? = _
    simpa using h2
/-- A new variable is written whole. -/
theorem blk_whole {w : World} {zs : Array Value} {e : TypeId} {vs : List Value} (h : zs.size = vs.length) : ((w.alloc (.cells zs e)).setCells w.heap.size 0 vs).heap[w.heap.size]? = some (.cells vs.toArray e (0, 0)) ∧ Below w.heap.size w ((w.alloc (.cells zs e)).setCells w.heap.size 0 vs) := by
  constructor
  · have := blk_setCells (w := w) (b := w.heap.size) (e := e) vs 0 zs.toList (w.alloc (.cells zs e)) (heap_alloc_new w _) (by simp; omega)
    rw [this]
    have : zs.toList.drop (0 + vs.length) = [] := by rw [List.drop_eq_nil_iff]; simp; omega
    rw [this]; simp
  · exact (((frm_below ((Below.refl w.heap.size w).alloc (Nat.le_refl _) _)) : Frm (fun k => k = w.heap.size) w _).trans (frm_setCells _ w.heap.size vs 0)).below (fun b hb e => by omega) (Nat.le_refl _)
theorem there_whole (w : World) (zs : Array Value) (e : TypeId) (n : Nat) (h : n ≤ zs.size) : (w.alloc (.cells zs e)).there w.heap.size 0 n := there_of_blk (heap_alloc_new w _) h
theorem rangeAt_blk {W : World} {b : Nat} {l : List Value} {e : TypeId} {fz : Nat × Nat} (h : W.heap[b]? = some (.cells l.toArray e fz)) : W.rangeAt b 0 l := fun j v hv => by
  rw [Nat.zero_add]
  simp [World.cell?, h, hv]
/-- A copy in a walk, its run known. -/
theorem wpList_copy_eq {P : Program} {ops : Array Oper} {rest : List Oper} {o : Oper} {a : Act} {w : World} {Q : Exit → Act → World → Prop} (hgd : o.guard = none) (s x : Operand) (t t2 : TypeId)
    (ho : o.op = .call { callee := .builtin .copy, args := #[s, x], argTypes := #[t, t2] }) {v vx v' : Value} {w' : World} (hs : a.eval s = v) (hx : a.eval x = vx)
    (hrun : (Builtin.copy_ #[t, t2] o.type #[v, vx]).run P w = .ok v' w') (h : wpList P ops Q rest (a.put o.dst v') w') : wpList P ops Q (o :: rest) a w :=
  wpList_plain hgd fun _ hK => by
    unfold Oper.wp execOp
    simp only [ho, resolve, invoke, builtin, Sem.run_bind, Sem.run_pure, Result.andThen_ok, List.map_toArray, List.map_cons, List.map_nil, hs, hx, hrun]
    exact hK _ _ h
theorem setRow_frm (w : World) (g : Nat) (cs : Array Value) : Frm (fun k => k = g) w (w.setRow g cs) := by
  refine ⟨rfl, rfl, rfl, by simp, fun k hk hne => ?_⟩
  simp only [World.setRow]
  rw [Array.getElem?_modify]
  have : ¬ g = k := fun e => hne e.symm
  simp [this]
theorem setRow_blk {w : World} {g : Nat} {cs cur : Array Value} {e : TypeId} {fz : Nat × Nat} (h : w.heap[g]? = some (.cells cur e fz)) : (w.setRow g cs).heap[g]? = some (.cells cs e fz) := by
  simp [World.setRow, Array.getElem?_modify, h]
end Go.Ice
end
