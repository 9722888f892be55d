/- Rings in plain terms: the order of the segments, when a ring may be, and that the document says the same. No condition. -/
namespace Go.Ring

structure Seg where
  st : Int
  gen : Nat
  used : Int
deriving DecidableEq

instance : Inhabited Seg := ⟨⟨0, 0, 0⟩⟩
def zero : Seg := ⟨0, 0, 0⟩
def at' (l : List Seg) (i : Nat) : Seg := l.getD i default
def gen (l : List Seg) (i : Nat) : Nat := (at' l i).gen
def nonfree (l : List Seg) : List Nat := (List.range l.length).filter fun i => !decide ((at' l i).st = 0)

/-- x goes to the left of all greater ones, from the right on. The list is from right to left. -/
def insR (g : Nat → Nat) (x : Nat) : List Nat → List Nat
  | [] => [x]
  | y :: q => if g x < g y then y :: insR g x q else x :: y :: q
def sortR (g : Nat → Nat) (l : List Nat) : List Nat := (l.foldl (fun q x => insR g x q) []).reverse
def order (l : List Seg) : List Nat := sortR (gen l) (nonfree l)

theorem insR_perm (g : Nat → Nat) (x : Nat) : ∀ q, (insR g x q).Perm (x :: q)
  | [] => List.Perm.refl _
  | y :: q => by
    unfold insR
    split
    · exact ((insR_perm g x q).cons y).trans (List.Perm.swap _ _ _)
    · exact List.Perm.refl _
theorem insR_sorted (g : Nat → Nat) (x : Nat) : ∀ q, q.Pairwise (fun a b => g b ≤ g a) → (insR g x q).Pairwise (fun a b => g b ≤ g a)
  | [], _ => by simp [insR]
  | y :: q, h => by
    unfold insR
    rw [List.pairwise_cons] at h
    split
    · rename_i hlt
      rw [List.pairwise_cons]
      refine ⟨fun b hb => ?_, insR_sorted g x q h.2⟩
      rcases List.mem_cons.1 ((insR_perm g x q).mem_iff.1 hb) with rfl | hb
      · omega
      · exact h.1 b hb
    · rename_i hlt
      rw [List.pairwise_cons]
      refine ⟨fun b hb => ?_, List.pairwise_cons.2 h⟩
      rcases List.mem_cons.1 hb with rfl | hb
      · omega
      · have := h.1 b hb; omega

theorem foldl_perm (g : Nat → Nat) : ∀ (l q : List Nat), (l.foldl (fun q x => insR g x q) q).Perm (l ++ q)
  | [], q => List.Perm.refl _
  | x :: l, q => by
    rw [List.foldl_cons]
    refine (foldl_perm g l (insR g x q)).trans ?_
    refine (List.Perm.append_left l (insR_perm g x q)).trans ?_
    exact List.perm_middle
theorem foldl_sorted (g : Nat → Nat) : ∀ (l q : List Nat), q.Pairwise (fun a b => g b ≤ g a) → (l.foldl (fun q x => insR g x q) q).Pairwise (fun a b => g b ≤ g a)
  | [], q, h => h
  | x :: l, q, h => by
    rw [List.foldl_cons]
    exact foldl_sorted g l _ (insR_sorted g x q h)
theorem sortR_perm (g : Nat → Nat) (l : List Nat) : (sortR g l).Perm l := by
  unfold sortR
  refine (List.reverse_perm _).trans ?_
  have := foldl_perm g l []
  rwa [List.append_nil] at this
theorem sortR_sorted (g : Nat → Nat) (l : List Nat) : (sortR g l).Pairwise (fun a b => g a ≤ g b) := by
  unfold sortR
  rw [List.pairwise_reverse]
  exact foldl_sorted g l [] List.Pairwise.nil

theorem mem_nonfree {l : List Seg} {i : Nat} : i ∈ nonfree l ↔ i < l.length ∧ (at' l i).st ≠ 0 := by
  unfold nonfree
  rw [List.mem_filter, List.mem_range]
  simp
theorem nonfree_nodup (l : List Seg) : (nonfree l).Nodup := List.Nodup.sublist List.filter_sublist List.nodup_range
theorem mem_order {l : List Seg} {i : Nat} : i ∈ order l ↔ i < l.length ∧ (at' l i).st ≠ 0 := ((sortR_perm _ _).mem_iff).trans mem_nonfree
theorem order_nodup (l : List Seg) : (order l).Nodup := (sortR_perm _ _).nodup_iff.2 (nonfree_nodup l)
theorem order_sorted (l : List Seg) : (order l).Pairwise (fun a b => gen l a ≤ gen l b) := sortR_sorted _ _

/-- Two rows of the same, each rising, are one. -/
theorem rising_unique {g : Nat → Nat} : ∀ {a b : List Nat}, a.Pairwise (fun x y => g x < g y) → b.Pairwise (fun x y => g x < g y) → a.Perm b → a = b
  | [], b, _, _, h => (List.nil_perm.1 h).symm
  | x :: a, [], _, _, h => by have := h.length_eq; simp at this
  | x :: a, y :: b, ha, hb, h => by
    rw [List.pairwise_cons] at ha hb
    have hxy : x = y := by
      have hx : x ∈ y :: b := h.mem_iff.1 (by simp)
      have hy : y ∈ x :: a := h.mem_iff.2 (by simp)
      rcases List.mem_cons.1 hx with e | hx
      · exact e
      · rcases List.mem_cons.1 hy with e | hy
        · exact e.symm
        · have := ha.1 y hy; have := hb.1 x hx; omega
    subst hxy
    rw [rising_unique ha.2 hb.2 (List.perm_cons x |>.1 h)]

/-! ### When a ring may be: as the program says it -/

def sizedB (n : Nat) (sec : Int) : Bool := decide (4 ≤ n ∧ n ≤ 16) && decide (24 ≤ sec ∧ sec ≤ 64)
def segOk (sec : Int) (s : Seg) : Bool := if s.st = 0 then decide (s = zero) else (decide (s.st = 1) || decide (s.st = 2)) && decide (1 ≤ s.used ∧ s.used ≤ sec)
/-- The order from a place on: each generation above the last; an open one only at the end. -/
def chain (l : List Seg) : Nat → List Nat → Bool
  | _, [] => true
  | last, i :: q => decide (last < gen l i) && (decide ((at' l i).st ≠ 1) || decide (q = [])) && chain l (gen l i) q
def checkB (sec : Int) (l : List Seg) : Bool := sizedB l.length sec && l.all (segOk sec) && chain l 0 (order l)

/-! ### and as the document says it -/

def rightSeg (sec : Int) (l : List Seg) (i : Nat) (s : Seg) : Bool :=
  if s.st = 0 then decide (s.gen = 0 ∧ s.used = 0)
  else (decide (s.st = 1) || decide (s.st = 2)) && (decide (s.gen ≠ 0) && decide (1 ≤ s.used ∧ s.used ≤ sec)) &&
    (List.range l.length).all fun k => (decide (k = i) || decide (gen l k ≠ s.gen)) && (decide (s.st ≠ 1) || decide (gen l k ≤ s.gen))
def rightB (sec : Int) (l : List Seg) : Bool := sizedB l.length sec && (List.range l.length).all fun i => rightSeg sec l i (at' l i)

theorem chain_iff (l : List Seg) : ∀ (last : Nat) (q : List Nat), chain l last q = true ↔ (∀ i ∈ q, last < gen l i) ∧ q.Pairwise (fun a b => gen l a < gen l b) ∧ ∀ p i r, q = p ++ i :: r → (at' l i).st = 1 → r = []
  | last, [] => by simp [chain]
  | last, i :: q => by
    unfold chain
    rw [Bool.and_eq_true, Bool.and_eq_true, chain_iff l (gen l i) q, List.pairwise_cons]
    constructor
    · rintro ⟨⟨h1, h2⟩, h3, h4, h5⟩
      have h1 := of_decide_eq_true h1
      refine ⟨fun k hk => ?_, ⟨h3, h4⟩, fun p k r hp hst => ?_⟩
      · rcases List.mem_cons.1 hk with rfl | hk
        · exact h1
        · have := h3 k hk; omega
      · cases p with
        | nil =>
          injection hp with e1 e2
          subst e1 e2
          simpa [hst] using h2
        | cons x p =>
          injection hp with e1 e2
          exact h5 p k r e2 hst
    · rintro ⟨h1, ⟨h2, h3⟩, h4⟩
      refine ⟨⟨decide_eq_true (h1 i (by simp)), ?_⟩, h2, h3, fun p k r hp hst => h4 (i :: p) k r (by rw [hp]; rfl) hst⟩
      by_cases hst : (at' l i).st = 1
      · have := h4 [] i q rfl hst
        simp [this]
      · simp [hst]

theorem at_mem {l : List Seg} {i : Nat} (h : i < l.length) : at' l i ∈ l := by
  unfold at'; rw [List.getD_eq_getElem?_getD, List.getElem?_eq_getElem h]; exact List.getElem_mem h
theorem mem_at {l : List Seg} {s : Seg} (h : s ∈ l) : ∃ i, i < l.length ∧ at' l i = s := by
  obtain ⟨i, hi, e⟩ := List.getElem_of_mem h
  exact ⟨i, hi, by unfold at'; rw [List.getD_eq_getElem?_getD, List.getElem?_eq_getElem hi]; exact e⟩

/-- Check and the document agree on which rings may be. -/
theorem check_right (sec : Int) (l : List Seg) : checkB sec l = rightB sec l := by
  rw [Bool.eq_iff_iff]
  unfold checkB rightB
  rw [Bool.and_eq_true, Bool.and_eq_true, Bool.and_eq_true, chain_iff, List.all_eq_true, List.all_eq_true]
  constructor
  · rintro ⟨⟨hs, hok⟩, h1, h2, h3⟩
    refine ⟨hs, fun i hi => ?_⟩
    rw [List.mem_range] at hi
    have hseg := hok _ (at_mem hi)
    unfold segOk at hseg
    unfold rightSeg
    split
    · rename_i h0
      rw [if_pos h0] at hseg
      have := of_decide_eq_true hseg
      rw [this]; rfl
    · rename_i h0
      rw [if_neg h0, Bool.and_eq_true] at hseg
      have hio : i ∈ order l := mem_order.2 ⟨hi, h0⟩
      have hg := h1 i hio
      rw [Bool.and_eq_true, Bool.and_eq_true, Bool.and_eq_true, List.all_eq_true]
      refine ⟨⟨hseg.1, by simp; unfold gen at hg; omega, hseg.2⟩, fun k hk => ?_⟩
      rw [List.mem_range] at hk
      rw [Bool.and_eq_true]
      obtain ⟨p, r, hp⟩ := List.append_of_mem hio
      rw [hp] at h2
      have h2' := List.pairwise_append.1 h2
      have h2'' := List.pairwise_cons.1 h2'.2.1
      by_cases hk0 : (at' l k).st = 0
      · have hseg2 := hok _ (at_mem hk)
        unfold segOk at hseg2
        rw [if_pos hk0] at hseg2
        have hz : gen l k = 0 := by unfold gen; rw [of_decide_eq_true hseg2]; rfl
        unfold gen at hg hz ⊢
        refine ⟨?_, ?_⟩
        · simp; right; omega
        · simp; right; omega
      · have hko : k ∈ order l := mem_order.2 ⟨hk, hk0⟩
        rw [hp] at hko
        rcases List.mem_append.1 hko with hko | hko
        · have h5 := h2'.2.2 k hko i (by simp)
          unfold gen at h5 ⊢
          refine ⟨?_, ?_⟩
          · simp; right; omega
          · simp; right; omega
        · rcases List.mem_cons.1 hko with rfl | hko
          · exact ⟨by simp, by unfold gen; simp⟩
          · have h5 := h2''.1 k hko
            unfold gen at h5 ⊢
            refine ⟨by simp; right; omega, ?_⟩
            have : (at' l i).st ≠ 1 := fun hst => by
              have := h3 p i r hp hst
              subst this
              cases hko
            simp [this]
  · rintro ⟨hs, hr⟩
    have hr' : ∀ i, i < l.length → rightSeg sec l i (at' l i) = true := fun i hi => hr i (List.mem_range.2 hi)
    have key : ∀ i, i < l.length → (at' l i).st ≠ 0 → 0 < gen l i ∧ (1 ≤ (at' l i).used ∧ (at' l i).used ≤ sec) ∧ ((at' l i).st = 1 ∨ (at' l i).st = 2) ∧ ∀ k, k < l.length → (k ≠ i → gen l k ≠ gen l i) ∧ ((at' l i).st = 1 → gen l k ≤ gen l i) := by
      intro i hi h0
      have := hr' i hi
      unfold rightSeg at this
      rw [if_neg h0, Bool.and_eq_true, Bool.and_eq_true, Bool.and_eq_true, List.all_eq_true] at this
      obtain ⟨⟨a1, a2, a3⟩, a4⟩ := this
      refine ⟨by unfold gen; have := of_decide_eq_true a2; omega, of_decide_eq_true a3, by simpa using a1, fun k hk => ?_⟩
      have := a4 k (List.mem_range.2 hk)
      rw [Bool.and_eq_true] at this
      unfold gen at *
      refine ⟨fun hne => ?_, fun hst => ?_⟩
      · simpa [hne] using this.1
      · simpa [hst] using this.2
    refine ⟨⟨hs, fun s hs => ?_⟩, fun i hi => (key i (mem_order.1 hi).1 (mem_order.1 hi).2).1, ?_, fun p i r hp hst => ?_⟩
    · obtain ⟨i, hi, rfl⟩ := mem_at hs
      unfold segOk
      split
      · rename_i h0
        have := hr' i hi
        unfold rightSeg at this
        rw [if_pos h0] at this
        have := of_decide_eq_true this
        apply decide_eq_true
        cases hseg : at' l i
        rw [hseg] at h0 this
        simp only at h0 this
        rw [h0, this.1, this.2]; rfl
      · rename_i h0
        obtain ⟨_, b2, b3, _⟩ := key i hi h0
        rw [Bool.and_eq_true]
        exact ⟨by simpa using b3, decide_eq_true b2⟩
    · have hso := order_sorted l
      have hnd := order_nodup l
      have hm : ∀ i ∈ order l, i < l.length ∧ (at' l i).st ≠ 0 := fun i hi => mem_order.1 hi
      generalize order l = q at hso hnd hm
      induction q with
      | nil => exact List.Pairwise.nil
      | cons x q ih =>
        rw [List.pairwise_cons] at hso ⊢
        rw [List.nodup_cons] at hnd
        refine ⟨fun y hy => ?_, ih hso.2 hnd.2 (fun i hi => hm i (by simp [hi]))⟩
        have h1 := hso.1 y hy
        have h2 := (key x (hm x (by simp)).1 (hm x (by simp)).2).2.2.2 y (hm y (by simp [hy])).1
        have hne : y ≠ x := fun e => hnd.1 (e ▸ hy)
        have := h2.1 hne
        omega
    · have hm : ∀ k ∈ order l, k < l.length ∧ (at' l k).st ≠ 0 := fun k hk => mem_order.1 hk
      have hso := order_sorted l
      have hnd := order_nodup l
      rw [hp] at hm hso hnd
      cases r with
      | nil => rfl
      | cons y r =>
        exfalso
        have h1 := (List.pairwise_cons.1 (List.pairwise_append.1 hso).2.1).1 y (by simp)
        have hn := (List.nodup_cons.1 (List.nodup_append.1 hnd).2.1).1
        have hne : y ≠ i := fun e => hn (by simp [e])
        have h2 := (key i (hm i (by simp)).1 (hm i (by simp)).2).2.2.2 y (hm y (by simp)).1
        have := h2.1 hne
        have := h2.2 hst
        omega
end Go.Ring
