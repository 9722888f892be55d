/- A round's keeping of cells; posts without panics; the marks that range statements leave. No condition. -/
import Derived.RangeFuncNested
import Derived.RangeFuncBound
import Derived.RangeFuncCalls
import Derived.RangeFuncLeaves
import Derived.Test.YtngpffmgkponfaaKp
set_option linter.unusedVariables false
namespace Go.Ice
open Go.RowKit

/-- All blocks of cells are as they were, but those of T. -/
def CKept (T : Nat → Prop) (A B : World) : Prop := A.heap.size ≤ B.heap.size ∧ ∀ k cs e x, ¬ T k → A.heap[k]? = some (.cells cs e x) → B.heap[k]? = some (.cells cs e x)
theorem CKept.trans {T : Nat → Prop} {A B C : World} (h : CKept T A B) (k : CKept T B C) : CKept T A C := ⟨Nat.le_trans h.1 k.1, fun i cs e x ht hi => k.2 i cs e x ht (h.2 i cs e x ht hi)⟩
theorem CKept.refl (T : Nat → Prop) (A : World) : CKept T A A := ⟨Nat.le_refl _, fun _ _ _ _ _ h => h⟩
theorem CKept.put {T : Nat → Prop} {n₀ : Nat} (W : World) (l : Nat) (o o' : Obj) (_ : n₀ ≤ l) (h : W.heap[l]? = some o) (hc : o.isCells = false) (_ : o.isWalk = false) : CKept T W (W.putObj l o') := by
  refine ⟨by simp [World.putObj], fun k cs e x _ hk => ?_⟩
  by_cases hkl : k = l
  · subst hkl; rw [hk] at h; injection h with h; subst h; cases hc
  · rw [World.putObj_heap_other hkl]; exact hk
theorem CKept.below {T : Nat → Prop} {A B : World} (h : Below A.heap.size A B) : CKept T A B := ⟨h.size, fun k cs e x _ hk => (h.block k (blk_lt hk)).trans hk⟩
theorem CKept.frm {T : Nat → Prop} {A B : World} (h : Frm T A B) : CKept T A B := ⟨h.size, fun k cs e x ht hk => (h.block k (blk_lt hk) ht).trans hk⟩

theorem CKept.cell {T : Nat → Prop} {A B : World} (h : CKept T A B) {b r : Nat} {x : Value} (hb : ¬ T b) (hc : A.cell? ⟨b, r, none⟩ = some x) : B.cell? ⟨b, r, none⟩ = some x := by
  unfold World.cell? at hc ⊢
  simp only at hc ⊢
  cases hh : A.heap[b]? with
  | none => rw [hh] at hc; cases hc
  | some o =>
    rw [hh] at hc
    cases o with
    | cells cs e y => rw [h.2 b cs e y hb hh]; exact hc
    | _ => cases hc
theorem rowAt_ck {T : Nat → Prop} {A B : World} {c n : Nat} {v : Value} {X : Nat → Nat → Value} (h : RowAt A c v n X) (hk : CKept T A B) (hc : ∀ b, v.ownBlock = some b → ¬ T b) : RowAt B c v n X := by
  rcases h with h | ⟨h0, b, off, cap, hv, h1, h2, h3, h4⟩
  · exact .inl h
  · exact .inr ⟨h0, b, off, cap, hv, h1, h2, by have := hk.1; omega, fun i hi j hj => hk.cell (hc b (by rw [hv]; rfl)) (h4 i hi j hj)⟩

/-- What never panics may be walked under a post that bears no panic. -/
theorem wp_calm {P : Program} {s : Code} {K : Act → World → Prop} {Q' : Exit → Act → World → Prop} {a : Act} {w : World} (h : s.wp P (Exit.then K fun _ _ _ => False) a w) : s.wp P (Exit.then K Q') a w := by
  refine wp_mono h ?_
  intro e a' w' hq
  cases e with
  | normal => exact hq
  | exit id => exact hq.elim
  | goto l => exact hq.elim
  | ret => exact hq.elim
  | panic ch => exact hq.elim
  | outgrown => exact hq.elim
/-- Marks that range statements leave. -/
structure Marks (n₀ : Nat) (ds : List Deferred) (W : World) : Prop where
  all : ∀ d ∈ ds, ∃ D, d = { target := .collected D, args := #[] } ∧ n₀ ≤ D ∧ W.heap[D]? = some (.deferred (some []))
  nd : ds.Pairwise (· ≠ ·)
theorem Marks.nil (n₀ : Nat) (W : World) : Marks n₀ [] W := ⟨(fun d hd => by cases hd), List.Pairwise.nil⟩
theorem Marks.step {n₀ : Nat} {ds : List Deferred} {W W' : World} (h : Marks n₀ ds W) (hb : ∀ D : Nat, W.heap[D]? = some (Obj.deferred (some [])) → W'.heap[D]? = some (Obj.deferred (some []))) : Marks n₀ ds W' :=
  ⟨fun d hd => by obtain ⟨D, h1, h2, h3⟩ := h.all d hd; exact ⟨D, h1, h2, hb D h3⟩, h.nd⟩
theorem Marks.below {n₀ : Nat} {ds : List Deferred} {W W' : World} (h : Marks n₀ ds W) (hb : Below W.heap.size W W') : Marks n₀ ds W' :=
  h.step fun D hD => (hb.block D (Array.getElem?_eq_some_iff.1 hD).1).trans hD
theorem Marks.leave {F : Fence} {n : Nat} {P : Program} {fn : Func} {tmps : Array Value} {R : Ending → World → Prop} {n₀ : Nat} : ∀ (ds : List Deferred) (W : World), Marks n₀ ds W → n₀ ≤ W.heap.size →
    (∀ W', Below n₀ W W' → CKept (fun _ => False) W W' → LeavesInM F n P fn tmps R [] .returning W') → LeavesInM F n P fn tmps R ds .returning W := by
  intro ds
  induction ds with
  | nil => exact fun W _ _ h => h W (Below.refl _ _) (CKept.refl _ _)
  | cons d ds ih =>
    intro W hm hn h
    obtain ⟨D, rfl, h2, h3⟩ := hm.all d (.head _)
    have hlt := (Array.getElem?_eq_some_iff.1 h3).1
    have hb : Below n₀ W (W.putObj D (.deferred none)) := (Below.refl n₀ W).grown (grownBy_putObj' W D _) hn (fun k e => by cases e; exact h2)
    have hc : CKept (fun _ => False) W (W.putObj D (.deferred none)) := CKept.put (n₀ := 0) W D _ _ (Nat.zero_le _) h3 rfl rfl
    refine ⟨by simp, .inl ⟨D, _, rfl, run_takeDeferred h3, ih _ ⟨fun d hd => ?_, (List.pairwise_cons.1 hm.nd).2⟩ (Nat.le_trans hn hb.size) fun W' h4 h5 => h W' (hb.trans h4) (hc.trans h5)⟩⟩
    obtain ⟨D', rfl, k2, k3⟩ := hm.all d (.tail _ hd)
    refine ⟨D', rfl, k2, ?_⟩
    have hne : D' ≠ D := fun e => (List.pairwise_cons.1 hm.nd).1 _ hd (by rw [e])
    rw [World.putObj_heap_other hne]
    exact k3
theorem Marks.cons {n₀ : Nat} {ds : List Deferred} {W : World} {D : Nat} (h : Marks n₀ ds W) (hD : n₀ ≤ D) (hk : W.heap[D]? = some (.deferred (some []))) (hn : ∀ d ∈ ds, d ≠ { target := .collected D, args := #[] }) : Marks n₀ ({ target := .collected D, args := #[] } :: ds) W :=
  ⟨fun d hd => by
    rcases List.mem_cons.1 hd with rfl | hd
    · exact ⟨D, rfl, hD, hk⟩
    · exact h.all d hd, List.pairwise_cons.2 ⟨fun d hd => (hn d hd).symm, h.nd⟩⟩
theorem Marks.lt {n₀ : Nat} {ds : List Deferred} {W : World} (h : Marks n₀ ds W) {D : Nat} (hD : W.heap.size ≤ D) : ∀ d ∈ ds, d ≠ { target := .collected D, args := #[] } := fun d hd e => by
  obtain ⟨D', h1, h2, h3⟩ := h.all d hd
  rw [e] at h1
  injection h1 with h1 _
  injection h1 with h1
  subst h1
  have := (Array.getElem?_eq_some_iff.1 h3).1
  omega

theorem Marks.set {n₀ : Nat} {ds : List Deferred} {W : World} (h : Marks n₀ ds W) {P : Nat} {cs : Array Value} {e : TypeId} (hP : W.heap[P]? = some (.cells cs e (0, 0))) (k : Nat) (u : Value) : Marks n₀ ds (W.setCell ⟨P, k, none⟩ u) :=
  h.step fun D hD => (Below.heap_setCell W ⟨P, k, none⟩ u D (fun e' => by
    have e' : D = P := e'
    subst e'
    rw [hP] at hD
    cases hD)).trans hD
end Go.Ice
