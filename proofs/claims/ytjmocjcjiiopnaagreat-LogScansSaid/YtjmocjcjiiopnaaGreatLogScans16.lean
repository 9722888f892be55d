/- Rings as lists: what they may be, their order, what becomes of them. No condition. -/

section
set_option linter.unusedVariables false
set_option linter.unusedSimpArgs false
namespace Go.Ring

structure Seg where
  st : Int
  gen : Nat
  used : Int
deriving DecidableEq

instance : Inhabited Seg := ⟨⟨0, 0, 0⟩⟩
def zero : Seg := ⟨0, 0, 0⟩
def at' (l : List Seg) (i : Nat) : Seg := l.getD i default
def gen (l : List Seg) (i : Nat) : Nat := (at' l i).gen
def nonfree (l : List Seg) : List Nat := (List.range l.length).filter fun i => !decide ((at' l i).st = 0)

/-- x goes to the left of all greater ones, from the right on. The list is from right to left. -/
def insR (g : Nat → Nat) (x : Nat) : List Nat → List Nat
  | [] => [x]
  | y :: q => if g x < g y then y :: insR g x q else x :: y :: q
def sortR (g : Nat → Nat) (l : List Nat) : List Nat := (l.foldl (fun q x => insR g x q) []).reverse
def order (l : List Seg) : List Nat := sortR (gen l) (nonfree l)

theorem insR_perm (g : Nat → Nat) (x : Nat) : ∀ q, (insR g x q).Perm (x :: q)
  | [] => List.Perm.refl _
  | y :: q => by
    unfold insR
    split
    · exact ((insR_perm g x q).cons y).trans (List.Perm.swap _ _ _)
    · exact List.Perm.refl _
theorem insR_sorted (g : Nat → Nat) (x : Nat) : ∀ q, q.Pairwise (fun a b => g b ≤ g a) → (insR g x q).Pairwise (fun a b => g b ≤ g a)
  | [], _ => by simp [insR]
  | y :: q, h => by
    unfold insR
    rw [List.pairwise_cons] at h
    split
    · rename_i hlt
      rw [List.pairwise_cons]
      refine ⟨fun b hb => ?_, insR_sorted g x q h.2⟩
      rcases List.mem_cons.1 ((insR_perm g x q).mem_iff.1 hb) with rfl | hb
      · omega
      · exact h.1 b hb
    · rename_i hlt
      rw [List.pairwise_cons]
      refine ⟨fun b hb => ?_, List.pairwise_cons.2 h⟩
      rcases List.mem_cons.1 hb with rfl | hb
      · omega
      · have := h.1 b hb; omega

theorem foldl_perm (g : Nat → Nat) : ∀ (l q : List Nat), (l.foldl (fun q x => insR g x q) q).Perm (l ++ q)
  | [], q => List.Perm.refl _
  | x :: l, q => by
    rw [List.foldl_cons]
    refine (foldl_perm g l (insR g x q)).trans ?_
    refine (List.Perm.append_left l (insR_perm g x q)).trans ?_
    exact List.perm_middle
theorem foldl_sorted (g : Nat → Nat) : ∀ (l q : List Nat), q.Pairwise (fun a b => g b ≤ g a) → (l.foldl (fun q x => insR g x q) q).Pairwise (fun a b => g b ≤ g a)
  | [], q, h => h
  | x :: l, q, h => by
    rw [List.foldl_cons]
    exact foldl_sorted g l _ (insR_sorted g x q h)
theorem sortR_perm (g : Nat → Nat) (l : List Nat) : (sortR g l).Perm l := by
  unfold sortR
  refine (List.reverse_perm _).trans ?_
  have := foldl_perm g l []
  rwa [List.append_nil] at this
theorem sortR_sorted (g : Nat → Nat) (l : List Nat) : (sortR g l).Pairwise (fun a b => g a ≤ g b) := by
  unfold sortR
  rw [List.pairwise_reverse]
  exact foldl_sorted g l [] List.Pairwise.nil

theorem mem_nonfree {l : List Seg} {i : Nat} : i ∈ nonfree l ↔ i < l.length ∧ (at' l i).st ≠ 0 := by
  unfold nonfree
  rw [List.mem_filter, List.mem_range]
  simp
theorem nonfree_nodup (l : List Seg) : (nonfree l).Nodup := List.Nodup.sublist List.filter_sublist List.nodup_range
theorem mem_order {l : List Seg} {i : Nat} : i ∈ order l ↔ i < l.length ∧ (at' l i).st ≠ 0 := ((sortR_perm _ _).mem_iff).trans mem_nonfree
theorem order_nodup (l : List Seg) : (order l).Nodup := (sortR_perm _ _).nodup_iff.2 (nonfree_nodup l)
theorem order_sorted (l : List Seg) : (order l).Pairwise (fun a b => gen l a ≤ gen l b) := sortR_sorted _ _

/-- Two rows of the same, each rising, are one. -/
theorem rising_unique {g : Nat → Nat} : ∀ {a b : List Nat}, a.Pairwise (fun x y => g x < g y) → b.Pairwise (fun x y => g x < g y) → a.Perm b → a = b
  | [], b, _, _, h => (List.nil_perm.1 h).symm
  | x :: a, [], _, _, h => by have := h.length_eq; simp at this
  | x :: a, y :: b, ha, hb, h => by
    rw [List.pairwise_cons] at ha hb
    have hxy : x = y := by
      have hx : x ∈ y :: b := h.mem_iff.1 (by simp)
      have hy : y ∈ x :: a := h.mem_iff.2 (by simp)
      rcases List.mem_cons.1 hx with e | hx
      · exact e
      · rcases List.mem_cons.1 hy with e | hy
        · exact e.symm
        · have := ha.1 y hy; have := hb.1 x hx; omega
    subst hxy
    rw [rising_unique ha.2 hb.2 (List.perm_cons x |>.1 h)]

/-! ### When a ring may be: as the program says it -/

def sizedB (n : Nat) (sec : Int) : Bool := decide (4 ≤ n ∧ n ≤ 16) && decide (24 ≤ sec ∧ sec ≤ 64)
def segOk (sec : Int) (s : Seg) : Bool := if s.st = 0 then decide (s = zero) else (decide (s.st = 1) || decide (s.st = 2)) && decide (1 ≤ s.used ∧ s.used ≤ sec)
/-- The order from a place on: each generation above the last; an open one only at the end. -/
def chain (l : List Seg) : Nat → List Nat → Bool
  | _, [] => true
  | last, i :: q => decide (last < gen l i) && (decide ((at' l i).st ≠ 1) || decide (q = [])) && chain l (gen l i) q
def checkB (sec : Int) (l : List Seg) : Bool := sizedB l.length sec && l.all (segOk sec) && chain l 0 (order l)

/-! ### and as the document says it -/

def rightSeg (sec : Int) (l : List Seg) (i : Nat) (s : Seg) : Bool :=
  if s.st = 0 then decide (s.gen = 0 ∧ s.used = 0)
  else (decide (s.st = 1) || decide (s.st = 2)) && (decide (s.gen ≠ 0) && decide (1 ≤ s.used ∧ s.used ≤ sec)) &&
    (List.range l.length).all fun k => (decide (k = i) || decide (gen l k ≠ s.gen)) && (decide (s.st ≠ 1) || decide (gen l k ≤ s.gen))
def rightB (sec : Int) (l : List Seg) : Bool := sizedB l.length sec && (List.range l.length).all fun i => rightSeg sec l i (at' l i)

theorem chain_iff (l : List Seg) : ∀ (last : Nat) (q : List Nat), chain l last q = true ↔ (∀ i ∈ q, last < gen l i) ∧ q.Pairwise (fun a b => gen l a < gen l b) ∧ ∀ p i r, q = p ++ i :: r → (at' l i).st = 1 → r = []
  | last, [] => by simp [chain]
  | last, i :: q => by
    unfold chain
    rw [Bool.and_eq_true, Bool.and_eq_true, chain_iff l (gen l i) q, List.pairwise_cons]
    constructor
    · rintro ⟨⟨h1, h2⟩, h3, h4, h5⟩
      have h1 := of_decide_eq_true h1
      refine ⟨fun k hk => ?_, ⟨h3, h4⟩, fun p k r hp hst => ?_⟩
      · rcases List.mem_cons.1 hk with rfl | hk
        · exact h1
        · have := h3 k hk; omega
      · cases p with
        | nil =>
          injection hp with e1 e2
          subst e1 e2
          simpa [hst] using h2
        | cons x p =>
          injection hp with e1 e2
          exact h5 p k r e2 hst
    · rintro ⟨h1, ⟨h2, h3⟩, h4⟩
      refine ⟨⟨decide_eq_true (h1 i (by simp)), ?_⟩, h2, h3, fun p k r hp hst => h4 (i :: p) k r (by rw [hp]; rfl) hst⟩
      by_cases hst : (at' l i).st = 1
      · have := h4 [] i q rfl hst
        simp [this]
      · simp [hst]

theorem at_mem {l : List Seg} {i : Nat} (h : i < l.length) : at' l i ∈ l := by
  unfold at'; rw [List.getD_eq_getElem?_getD, List.getElem?_eq_getElem h]; exact List.getElem_mem h
theorem mem_at {l : List Seg} {s : Seg} (h : s ∈ l) : ∃ i, i < l.length ∧ at' l i = s := by
  obtain ⟨i, hi, e⟩ := List.getElem_of_mem h
  exact ⟨i, hi, by unfold at'; rw [List.getD_eq_getElem?_getD, List.getElem?_eq_getElem hi]; exact e⟩

/-- Check and the document agree on which rings may be. -/
theorem check_right (sec : Int) (l : List Seg) : checkB sec l = rightB sec l := by
  rw [Bool.eq_iff_iff]
  unfold checkB rightB
  rw [Bool.and_eq_true, Bool.and_eq_true, Bool.and_eq_true, chain_iff, List.all_eq_true, List.all_eq_true]
  constructor
  · rintro ⟨⟨hs, hok⟩, h1, h2, h3⟩
    refine ⟨hs, fun i hi => ?_⟩
    rw [List.mem_range] at hi
    have hseg := hok _ (at_mem hi)
    unfold segOk at hseg
    unfold rightSeg
    split
    · rename_i h0
      rw [if_pos h0] at hseg
      have := of_decide_eq_true hseg
      rw [this]; rfl
    · rename_i h0
      rw [if_neg h0, Bool.and_eq_true] at hseg
      have hio : i ∈ order l := mem_order.2 ⟨hi, h0⟩
      have hg := h1 i hio
      rw [Bool.and_eq_true, Bool.and_eq_true, Bool.and_eq_true, List.all_eq_true]
      refine ⟨⟨hseg.1, by simp; unfold gen at hg; omega, hseg.2⟩, fun k hk => ?_⟩
      rw [List.mem_range] at hk
      rw [Bool.and_eq_true]
      obtain ⟨p, r, hp⟩ := List.append_of_mem hio
      rw [hp] at h2
      have h2' := List.pairwise_append.1 h2
      have h2'' := List.pairwise_cons.1 h2'.2.1
      by_cases hk0 : (at' l k).st = 0
      · have hseg2 := hok _ (at_mem hk)
        unfold segOk at hseg2
        rw [if_pos hk0] at hseg2
        have hz : gen l k = 0 := by unfold gen; rw [of_decide_eq_true hseg2]; rfl
        unfold gen at hg hz ⊢
        refine ⟨?_, ?_⟩
        · simp; right; omega
        · simp; right; omega
      · have hko : k ∈ order l := mem_order.2 ⟨hk, hk0⟩
        rw [hp] at hko
        rcases List.mem_append.1 hko with hko | hko
        · have h5 := h2'.2.2 k hko i (by simp)
          unfold gen at h5 ⊢
          refine ⟨?_, ?_⟩
          · simp; right; omega
          · simp; right; omega
        · rcases List.mem_cons.1 hko with rfl | hko
          · exact ⟨by simp, by unfold gen; simp⟩
          · have h5 := h2''.1 k hko
            unfold gen at h5 ⊢
            refine ⟨by simp; right; omega, ?_⟩
            have : (at' l i).st ≠ 1 := fun hst => by
              have := h3 p i r hp hst
              subst this
              cases hko
            simp [this]
  · rintro ⟨hs, hr⟩
    have hr' : ∀ i, i < l.length → rightSeg sec l i (at' l i) = true := fun i hi => hr i (List.mem_range.2 hi)
    have key : ∀ i, i < l.length → (at' l i).st ≠ 0 → 0 < gen l i ∧ (1 ≤ (at' l i).used ∧ (at' l i).used ≤ sec) ∧ ((at' l i).st = 1 ∨ (at' l i).st = 2) ∧ ∀ k, k < l.length → (k ≠ i → gen l k ≠ gen l i) ∧ ((at' l i).st = 1 → gen l k ≤ gen l i) := by
      intro i hi h0
      have := hr' i hi
      unfold rightSeg at this
      rw [if_neg h0, Bool.and_eq_true, Bool.and_eq_true, Bool.and_eq_true, List.all_eq_true] at this
      obtain ⟨⟨a1, a2, a3⟩, a4⟩ := this
      refine ⟨by unfold gen; have := of_decide_eq_true a2; omega, of_decide_eq_true a3, by simpa using a1, fun k hk => ?_⟩
      have := a4 k (List.mem_range.2 hk)
      rw [Bool.and_eq_true] at this
      unfold gen at *
      refine ⟨fun hne => ?_, fun hst => ?_⟩
      · simpa [hne] using this.1
      · simpa [hst] using this.2
    refine ⟨⟨hs, fun s hs => ?_⟩, fun i hi => (key i (mem_order.1 hi).1 (mem_order.1 hi).2).1, ?_, fun p i r hp hst => ?_⟩
    · obtain ⟨i, hi, rfl⟩ := mem_at hs
      unfold segOk
      split
      · rename_i h0
        have := hr' i hi
        unfold rightSeg at this
        rw [if_pos h0] at this
        have := of_decide_eq_true this
        apply decide_eq_true
        cases hseg : at' l i
        rw [hseg] at h0 this
        simp only at h0 this
        rw [h0, this.1, this.2]; rfl
      · rename_i h0
        obtain ⟨_, b2, b3, _⟩ := key i hi h0
        rw [Bool.and_eq_true]
        exact ⟨by simpa using b3, decide_eq_true b2⟩
    · have hso := order_sorted l
      have hnd := order_nodup l
      have hm : ∀ i ∈ order l, i < l.length ∧ (at' l i).st ≠ 0 := fun i hi => mem_order.1 hi
      generalize order l = q at hso hnd hm
      induction q with
      | nil => exact List.Pairwise.nil
      | cons x q ih =>
        rw [List.pairwise_cons] at hso ⊢
        rw [List.nodup_cons] at hnd
        refine ⟨fun y hy => ?_, ih hso.2 hnd.2 (fun i hi => hm i (by simp [hi]))⟩
        have h1 := hso.1 y hy
        have h2 := (key x (hm x (by simp)).1 (hm x (by simp)).2).2.2.2 y (hm y (by simp [hy])).1
        have hne : y ≠ x := fun e => hnd.1 (e ▸ hy)
        have := h2.1 hne
        omega
    · have hm : ∀ k ∈ order l, k < l.length ∧ (at' l k).st ≠ 0 := fun k hk => mem_order.1 hk
      have hso := order_sorted l
      have hnd := order_nodup l
      rw [hp] at hm hso hnd
      cases r with
      | nil => rfl
      | cons y r =>
        exfalso
        have h1 := (List.pairwise_cons.1 (List.pairwise_append.1 hso).2.1).1 y (by simp)
        have hn := (List.nodup_cons.1 (List.nodup_append.1 hnd).2.1).1
        have hne : y ≠ i := fun e => hn (by simp [e])
        have h2 := (key i (hm i (by simp)).1 (hm i (by simp)).2).2.2.2 y (hm y (by simp)).1
        have := h2.1 hne
        have := h2.2 hst
        omega
end Go.Ring
namespace Go.Ring

/-- The best of those with p, the first one of its kind, if any. -/
def bestF (p : Nat → Bool) (h : Nat → Int) (o : Option Nat) (i : Nat) : Option Nat :=
  if p i && (match o with | none => true | some a => decide (h a < h i)) then some i else o
def best (p : Nat → Bool) (h : Nat → Int) (q : List Nat) : Option Nat := q.foldl (bestF p h) none

def BestOf (p : Nat → Bool) (h : Nat → Int) (q : List Nat) (o : Option Nat) : Prop :=
  match o with
  | none => ∀ y ∈ q, p y = false
  | some x => x ∈ q ∧ p x = true ∧ ∀ y ∈ q, p y = true → h y ≤ h x

theorem bestOf_snoc {p : Nat → Bool} {h : Nat → Int} {q : List Nat} {o : Option Nat} (i : Nat) (hb : BestOf p h q o) : BestOf p h (q ++ [i]) (bestF p h o i) := by
  unfold bestF
  cases hp : p i with
  | false =>
    simp only [Bool.false_and, Bool.false_eq_true, if_false]
    cases o with
    | none =>
      intro y hy
      rcases List.mem_append.1 hy with hy | hy
      · exact hb y hy
      · rw [List.mem_singleton.1 hy]; exact hp
    | some x =>
      obtain ⟨h1, h2, h3⟩ := hb
      refine ⟨List.mem_append_left _ h1, h2, fun y hy hpy => ?_⟩
      rcases List.mem_append.1 hy with hy | hy
      · exact h3 y hy hpy
      · rw [List.mem_singleton.1 hy, hp] at hpy; cases hpy
  | true =>
    simp only [Bool.true_and]
    cases o with
    | none =>
      simp only [if_true]
      refine ⟨by simp, hp, fun y hy hpy => ?_⟩
      rcases List.mem_append.1 hy with hy | hy
      · rw [hb y hy] at hpy; cases hpy
      · rw [List.mem_singleton.1 hy]; exact Int.le_refl _
    | some x =>
      obtain ⟨h1, h2, h3⟩ := hb
      simp only
      by_cases hlt : h x < h i
      · rw [if_pos (decide_eq_true hlt)]
        refine ⟨by simp, hp, fun y hy hpy => ?_⟩
        rcases List.mem_append.1 hy with hy | hy
        · have := h3 y hy hpy; omega
        · rw [List.mem_singleton.1 hy]; exact Int.le_refl _
      · rw [if_neg (by simpa using hlt)]
        refine ⟨List.mem_append_left _ h1, h2, fun y hy hpy => ?_⟩
        rcases List.mem_append.1 hy with hy | hy
        · exact h3 y hy hpy
        · rw [List.mem_singleton.1 hy]; omega
theorem bestOf_foldl {p : Nat → Bool} {h : Nat → Int} : ∀ (q r : List Nat) (o : Option Nat), BestOf p h r o → BestOf p h (r ++ q) (q.foldl (bestF p h) o)
  | [], r, o, hb => by rw [List.append_nil]; exact hb
  | i :: q, r, o, hb => by
    rw [List.foldl_cons]
    have := bestOf_foldl q (r ++ [i]) _ (bestOf_snoc i hb)
    rwa [List.append_assoc] at this
theorem best_spec (p : Nat → Bool) (h : Nat → Int) (q : List Nat) : BestOf p h q (best p h q) := by
  have := bestOf_foldl (p := p) (h := h) q [] none (fun y hy => by cases hy)
  rwa [List.nil_append] at this

/-- There is one best at most, where no two are equally good. -/
theorem bestOf_unique {p : Nat → Bool} {h : Nat → Int} {q r : List Nat} {o o' : Option Nat} (hqr : ∀ y, p y = true → (y ∈ q ↔ y ∈ r)) (hinj : ∀ x ∈ q, ∀ y ∈ q, p x = true → p y = true → h x = h y → x = y)
    (h1 : BestOf p h q o) (h2 : BestOf p h r o') : o = o' := by
  cases o with
  | none =>
    cases o' with
    | none => rfl
    | some y => obtain ⟨a, b, _⟩ := h2; have := h1 y ((hqr y b).2 a); rw [b] at this; cases this
  | some x =>
    obtain ⟨a, b, c⟩ := h1
    cases o' with
    | none => have := h2 x ((hqr x b).1 a); rw [b] at this; cases this
    | some y =>
      obtain ⟨a', b', c'⟩ := h2
      have e1 := c y ((hqr y b').2 a') b'
      have e2 := c' x ((hqr x b).1 a) b
      rw [hinj x a y ((hqr y b').2 a') b b' (by omega)]

/-! ### the program's way -/
def openB (l : List Seg) (i : Nat) : Bool := decide ((at' l i).st = 1)
def sealedB (l : List Seg) (i : Nat) : Bool := decide ((at' l i).st = 2)
def usedB (l : List Seg) (i : Nat) : Bool := !decide ((at' l i).st = 0)
def openedP (l : List Seg) : Option Nat := (order l).find? (openB l)
def oldestP (l : List Seg) : Option Nat := (order l).find? (sealedB l)
def latestP (l : List Seg) : Option Nat := (order l).getLast?
/-! ### the document's -/
def openedR (l : List Seg) : Option Nat := (List.range l.length).find? (openB l)
def oldestR (l : List Seg) : Option Nat := best (sealedB l) (fun i => - (gen l i : Int)) (List.range l.length)
def latestR (l : List Seg) : Option Nat := best (usedB l) (fun i => (gen l i : Int)) (List.range l.length)

theorem rising {sec : Int} {l : List Seg} (h : checkB sec l = true) : (∀ i ∈ order l, 0 < gen l i) ∧ (order l).Pairwise (fun a b => gen l a < gen l b) ∧ ∀ p i r, order l = p ++ i :: r → (at' l i).st = 1 → r = [] := by
  unfold checkB at h
  rw [Bool.and_eq_true, chain_iff] at h
  exact h.2
theorem gen_inj {sec : Int} {l : List Seg} (h : checkB sec l = true) : ∀ x ∈ order l, ∀ y ∈ order l, gen l x = gen l y → x = y := by
  have hr := (rising h).2.1
  intro x hx y hy e
  obtain ⟨p, r, hp⟩ := List.append_of_mem hx
  rw [hp] at hr hy
  have h1 := List.pairwise_append.1 hr
  have h2 := List.pairwise_cons.1 h1.2.1
  rcases List.mem_append.1 hy with hy | hy
  · have := h1.2.2 y hy x (by simp); omega
  · rcases List.mem_cons.1 hy with e | hy
    · exact e.symm
    · have := h2.1 y hy; omega

theorem find_first {p : Nat → Bool} {q : List Nat} : match q.find? p with
    | none => ∀ y ∈ q, p y = false
    | some x => ∃ a b, q = a ++ x :: b ∧ p x = true ∧ ∀ y ∈ a, p y = false := by
  cases h : q.find? p with
  | none => simp only; intro y hy; have := List.find?_eq_none.1 h y hy; simpa using this
  | some x =>
    obtain ⟨h1, a, b, h2, h3⟩ := List.find?_eq_some_iff_append.1 h
    exact ⟨a, b, h2, h1, fun y hy => by simpa using h3 y hy⟩

theorem opened_eq {sec : Int} {l : List Seg} (h : checkB sec l = true) : openedP l = openedR l := by
  have hr := rising h
  unfold openedP openedR
  have h1 := find_first (p := openB l) (q := order l)
  have h2 := find_first (p := openB l) (q := List.range l.length)
  have one : ∀ x y, x ∈ order l → y ∈ order l → openB l x = true → openB l y = true → x = y := by
    intro x y hx hy ox oy
    obtain ⟨p, r, hp⟩ := List.append_of_mem hx
    have hx0 := hr.2.2 p x r hp (of_decide_eq_true ox)
    obtain ⟨p', r', hp'⟩ := List.append_of_mem hy
    have hy0 := hr.2.2 p' y r' hp' (of_decide_eq_true oy)
    subst hx0 hy0
    rw [hp] at hp'
    have := congrArg List.getLast? hp'
    simpa using this
  have mo : ∀ x, openB l x = true → x < l.length → x ∈ order l := fun x hx hl => mem_order.2 ⟨hl, by have := of_decide_eq_true hx; omega⟩
  cases e1 : (order l).find? (openB l) with
  | none =>
    rw [e1] at h1
    cases e2 : (List.range l.length).find? (openB l) with
    | none => rfl
    | some y =>
      rw [e2] at h2
      obtain ⟨a, b, hq, hy, _⟩ := h2
      have hyl : y < l.length := List.mem_range.1 (by rw [hq]; simp)
      have := h1 y (mo y hy hyl)
      rw [hy] at this; cases this
  | some x =>
    rw [e1] at h1
    obtain ⟨a, b, hq, hx, _⟩ := h1
    have hxo : x ∈ order l := by rw [hq]; simp
    cases e2 : (List.range l.length).find? (openB l) with
    | none =>
      rw [e2] at h2
      have := h2 x (List.mem_range.2 (mem_order.1 hxo).1)
      rw [hx] at this; cases this
    | some y =>
      rw [e2] at h2
      obtain ⟨a', b', hq', hy, _⟩ := h2
      have hyl : y < l.length := List.mem_range.1 (by rw [hq']; simp)
      rw [one x y hxo (mo y hy hyl) hx hy]

theorem oldest_eq {sec : Int} {l : List Seg} (h : checkB sec l = true) : oldestP l = oldestR l := by
  have hr := rising h
  refine bestOf_unique (p := sealedB l) (h := fun i => - (gen l i : Int)) (q := order l) (r := List.range l.length) (fun y hy => ?_) (fun x hx y hy _ _ e => gen_inj h x hx y hy (by omega)) ?_ (best_spec _ _ _)
  · rw [mem_order, List.mem_range]
    have := of_decide_eq_true hy
    exact ⟨fun a => a.1, fun a => ⟨a, by omega⟩⟩
  · unfold oldestP
    have h1 := find_first (p := sealedB l) (q := order l)
    cases e1 : (order l).find? (sealedB l) with
    | none => rw [e1] at h1; exact h1
    | some x =>
      rw [e1] at h1
      obtain ⟨a, b, hq, hx, hno⟩ := h1
      refine ⟨by rw [hq]; simp, hx, fun y hy hs => ?_⟩
      rw [hq] at hy
      have h2 := hr.2.1
      rw [hq] at h2
      rcases List.mem_append.1 hy with hy | hy
      · rw [hno y hy] at hs; cases hs
      · rcases List.mem_cons.1 hy with rfl | hy
        · exact Int.le_refl _
        · have := (List.pairwise_cons.1 (List.pairwise_append.1 h2).2.1).1 y hy
          simp only; omega

theorem latest_eq {sec : Int} {l : List Seg} (h : checkB sec l = true) : latestP l = latestR l := by
  have hr := rising h
  refine bestOf_unique (p := usedB l) (h := fun i => (gen l i : Int)) (q := order l) (r := List.range l.length) (fun y hy => ?_) (fun x hx y hy _ _ e => gen_inj h x hx y hy (by omega)) ?_ (best_spec _ _ _)
  · rw [mem_order, List.mem_range]
    unfold usedB at hy
    simp at hy
    exact ⟨fun a => a.1, fun a => ⟨a, hy⟩⟩
  · unfold latestP
    cases e1 : (order l).getLast? with
    | none =>
      rw [List.getLast?_eq_none_iff] at e1
      rw [e1]; intro y hy; cases hy
    | some x =>
      obtain ⟨a, ha⟩ := List.getLast?_eq_some_iff.1 e1
      have hx : x ∈ order l := by rw [ha]; simp
      refine ⟨hx, by unfold usedB; simpa using (mem_order.1 hx).2, fun y hy hs => ?_⟩
      have h2 := hr.2.1
      rw [ha] at h2 hy
      rcases List.mem_append.1 hy with hy | hy
      · have := (List.pairwise_append.1 h2).2.2 y hy x (by simp)
        simp only; omega
      · rw [List.mem_singleton.1 hy]; exact Int.le_refl _

/-- The document puts each segment behind those with lesser generations. -/
def insL (g : Nat → Nat) (x : Nat) : List Nat → List Nat
  | [] => [x]
  | y :: q => if g y < g x then y :: insL g x q else x :: y :: q
def orderR (l : List Seg) : List Nat := (nonfree l).foldl (fun q x => insL (gen l) x q) []

theorem insL_perm (g : Nat → Nat) (x : Nat) : ∀ q, (insL g x q).Perm (x :: q)
  | [] => List.Perm.refl _
  | y :: q => by
    unfold insL
    split
    · exact ((insL_perm g x q).cons y).trans (List.Perm.swap _ _ _)
    · exact List.Perm.refl _
theorem insL_sorted (g : Nat → Nat) (x : Nat) : ∀ q, q.Pairwise (fun a b => g a ≤ g b) → (insL g x q).Pairwise (fun a b => g a ≤ g b)
  | [], _ => by simp [insL]
  | y :: q, h => by
    unfold insL
    rw [List.pairwise_cons] at h
    split
    · rename_i hlt
      rw [List.pairwise_cons]
      refine ⟨fun b hb => ?_, insL_sorted g x q h.2⟩
      rcases List.mem_cons.1 ((insL_perm g x q).mem_iff.1 hb) with rfl | hb
      · omega
      · exact h.1 b hb
    · rename_i hlt
      rw [List.pairwise_cons]
      refine ⟨fun b hb => ?_, List.pairwise_cons.2 h⟩
      rcases List.mem_cons.1 hb with rfl | hb
      · omega
      · have := h.1 b hb; omega
theorem foldlL (g : Nat → Nat) : ∀ (l q : List Nat), q.Pairwise (fun a b => g a ≤ g b) → (l.foldl (fun q x => insL g x q) q).Perm (l ++ q) ∧ (l.foldl (fun q x => insL g x q) q).Pairwise (fun a b => g a ≤ g b)
  | [], q, h => ⟨List.Perm.refl _, h⟩
  | x :: l, q, h => by
    rw [List.foldl_cons]
    obtain ⟨h1, h2⟩ := foldlL g l _ (insL_sorted g x q h)
    exact ⟨(h1.trans (List.Perm.append_left l (insL_perm g x q))).trans List.perm_middle, h2⟩

theorem order_eq {sec : Int} {l : List Seg} (h : checkB sec l = true) : order l = orderR l := by
  have hr := rising h
  obtain ⟨h1, h2⟩ := foldlL (gen l) (nonfree l) [] List.Pairwise.nil
  rw [List.append_nil] at h1
  have hp : (order l).Perm (orderR l) := (sortR_perm _ _).trans h1.symm
  refine rising_unique hr.2.1 ?_ hp
  have hnd : (orderR l).Nodup := hp.nodup_iff.1 (order_nodup l)
  have hm : ∀ i ∈ orderR l, i ∈ order l := fun i hi => hp.mem_iff.2 hi
  have h2' : (orderR l).Pairwise (fun a b => gen l a ≤ gen l b) := h2
  generalize orderR l = q at h2' hnd hm
  induction q with
  | nil => exact List.Pairwise.nil
  | cons x q ih =>
    rw [List.pairwise_cons] at h2' ⊢
    rw [List.nodup_cons] at hnd
    refine ⟨fun y hy => ?_, ih h2'.2 hnd.2 (fun i hi => hm i (by simp [hi]))⟩
    have a1 := h2'.1 y hy
    rcases Nat.lt_or_ge (gen l x) (gen l y) with hlt | hge
    · exact hlt
    · exfalso
      have := gen_inj h x (hm x (by simp)) y (hm y (by simp [hy])) (by omega)
      subst this
      exact hnd.1 hy
end Go.Ring
namespace Go.Ring

def freeB (l : List Seg) (i : Nat) : Bool := decide ((at' l i).st = 0)
/-- The places behind one, round and round. -/
def behind (n a : Nat) : List Nat := (List.range n).map fun k => (a + k) % n
def startOf (o : Option Nat) : Nat := match o with | none => 0 | some a => a + 1
def nextP (l : List Seg) : Option Nat := (behind l.length (startOf (latestP l))).find? (freeB l)
def lastGen (l : List Seg) : Nat := match latestP l with | none => 0 | some a => gen l a
def leftP (sec : Int) (l : List Seg) : Int := match openedP l with | none => 0 | some i => sec - (at' l i).used

/-- What Open, Use, Seal and Free answer: an error's number, the segments, the number. -/
def openF (sec : Int) (l : List Seg) (g : Nat) : Int × Option (List Seg × Nat) :=
  if checkB sec l = false then (180, none) else if openedP l ≠ none then (181, none) else if g ≤ lastGen l then (2, none) else
    match nextP l with | none => (6, none) | some i => (0, some (l.set i ⟨1, g, 1⟩, i))
def useF (sec : Int) (l : List Seg) (n : Int) : Int × Option (List Seg) :=
  if checkB sec l = false then (180, none) else match openedP l with
    | none => (181, none)
    | some i => if n < 0 then (2, none) else if leftP sec l < n then (6, none) else (0, some (l.set i { at' l i with used := (at' l i).used + n }))
def sealF (sec : Int) (l : List Seg) : Int × Option (List Seg) :=
  if checkB sec l = false then (180, none) else match openedP l with
    | none => (181, none)
    | some i => (0, some (l.set i { at' l i with st := 2 }))
def freeF (sec : Int) (l : List Seg) (i : Int) : Int × Option (List Seg) :=
  if checkB sec l = false then (180, none) else if i < 0 ∨ (l.length : Int) ≤ i then (2, none) else if (at' l i.toNat).st ≠ 2 then (181, none) else (0, some (l.set i.toNat zero))

theorem at_set {l : List Seg} {i k : Nat} {s : Seg} (h : i < l.length) : at' (l.set i s) k = if k = i then s else at' l k := by
  unfold at'
  rw [List.getD_eq_getElem?_getD, List.getD_eq_getElem?_getD, List.getElem?_set]
  by_cases e : i = k
  · subst e; simp [h]
  · rw [if_neg e, if_neg (fun h => e h.symm)]

/-- m segments from s on are in use, side by side, round and round; the last of them is open, if o; their generations rise. -/
structure Side (sec : Int) (l : List Seg) (s m : Nat) (o : Bool) : Prop where
  size : sizedB l.length sec = true
  hs : s < l.length
  hm : m ≤ l.length
  ho : o = true → 0 < m
  used : ∀ j, j < m → (at' l ((s + j) % l.length)).st = (if o = true ∧ j + 1 = m then 1 else 2) ∧ 1 ≤ (at' l ((s + j) % l.length)).used ∧ (at' l ((s + j) % l.length)).used ≤ sec ∧ 0 < gen l ((s + j) % l.length)
  rise : ∀ i j, i < j → j < m → gen l ((s + i) % l.length) < gen l ((s + j) % l.length)
  free : ∀ k, k < l.length → (∀ j, j < m → (s + j) % l.length ≠ k) → at' l k = zero

theorem mod_inj {n s i j : Nat} (hi : i < n) (hj : j < n) (h : (s + i) % n = (s + j) % n) : i = j := by
  have h1 : (s + i) % n = (s % n + i) % n := by rw [Nat.mod_add_mod]
  have h2 : (s + j) % n = (s % n + j) % n := by rw [Nat.mod_add_mod]
  rw [h1, h2] at h
  have hs : s % n < n := Nat.mod_lt _ (by omega)
  generalize s % n = t at h hs
  have e1 : (t + i) % n = if t + i < n then t + i else t + i - n := by
    split
    · exact Nat.mod_eq_of_lt ‹_›
    · rw [Nat.mod_eq_sub_mod (by omega), Nat.mod_eq_of_lt (by omega)]
  have e2 : (t + j) % n = if t + j < n then t + j else t + j - n := by
    split
    · exact Nat.mod_eq_of_lt ‹_›
    · rw [Nat.mod_eq_sub_mod (by omega), Nat.mod_eq_of_lt (by omega)]
  rw [e1, e2] at h
  split at h <;> split at h <;> omega

section
variable {sec : Int} {l : List Seg} {s m : Nat} {o : Bool}
theorem Side.pos (h : Side sec l s m o) : 0 < l.length := by have := h.hs; omega
theorem Side.order (h : Side sec l s m o) : order l = (List.range m).map fun j => (s + j) % l.length := by
  have hp := h.pos
  have hm' := h.hm
  have hnd2 : ((List.range m).map fun j => (s + j) % l.length).Nodup := by
    rw [List.nodup_iff_pairwise_ne, List.pairwise_map]
    refine List.Pairwise.imp_of_mem ?_ (List.nodup_iff_pairwise_ne.1 (List.nodup_range (n := m)))
    intro a b ha hb hne e
    rw [List.mem_range] at ha hb
    exact hne (mod_inj (by omega) (by omega) e)
  have hmem : ∀ k, k ∈ Ring.order l ↔ k ∈ (List.range m).map fun j => (s + j) % l.length := by
    intro k
    rw [mem_order, List.mem_map]
    constructor
    · rintro ⟨h1, h2⟩
      rcases Classical.em (∃ j, j < m ∧ (s + j) % l.length = k) with ⟨j, hj, e⟩ | hn
      · exact ⟨j, List.mem_range.2 hj, e⟩
      · exfalso
        have := h.free k h1 (fun j hj e => hn ⟨j, hj, e⟩)
        rw [this] at h2
        exact h2 rfl
    · rintro ⟨j, hj, rfl⟩
      rw [List.mem_range] at hj
      refine ⟨Nat.mod_lt _ hp, ?_⟩
      rw [(h.used j hj).1]
      split <;> decide
  have hperm : (Ring.order l).Perm ((List.range m).map fun j => (s + j) % l.length) := (List.perm_ext_iff_of_nodup (order_nodup l) hnd2).2 hmem
  have hr2 : ((List.range m).map fun j => (s + j) % l.length).Pairwise (fun a b => gen l a < gen l b) := by
    rw [List.pairwise_map]
    refine List.Pairwise.imp_of_mem ?_ (List.pairwise_lt_range (n := m))
    intro a b ha hb hlt
    exact h.rise a b hlt (List.mem_range.1 hb)
  have hso := order_sorted l
  have hr1 : (Ring.order l).Pairwise (fun a b => gen l a < gen l b) := by
    have hinj : ∀ x ∈ Ring.order l, ∀ y ∈ Ring.order l, x ≠ y → gen l x ≠ gen l y := by
      intro x hx y hy hne e
      obtain ⟨i, hi, rfl⟩ := List.mem_map.1 ((hmem x).1 hx)
      obtain ⟨j, hj, rfl⟩ := List.mem_map.1 ((hmem y).1 hy)
      rw [List.mem_range] at hi hj
      rcases Nat.lt_trichotomy i j with hij | rfl | hij
      · have := h.rise i j hij hj; omega
      · exact hne rfl
      · have := h.rise j i hij hi; omega
    refine List.Pairwise.imp_of_mem ?_ ((List.nodup_iff_pairwise_ne.1 (order_nodup l)).and hso)
    intro a b ha hb ⟨h1, h2⟩
    have := hinj a ha b hb h1
    omega
  exact rising_unique hr1 hr2 hperm

theorem Side.check (h : Side sec l s m o) : checkB sec l = true := by
  have hp := h.pos
  unfold checkB
  rw [Bool.and_eq_true, Bool.and_eq_true, chain_iff, List.all_eq_true]
  refine ⟨⟨h.size, fun x hx => ?_⟩, fun i hi => ?_, ?_, fun p i r hq hst => ?_⟩
  · obtain ⟨k, hk, rfl⟩ := mem_at hx
    unfold segOk
    rcases Classical.em (∃ j, j < m ∧ (s + j) % l.length = k) with ⟨j, hj, rfl⟩ | hn
    · obtain ⟨h1, h2, h3, h4⟩ := h.used j hj
      rw [if_neg (by rw [h1]; split <;> decide), Bool.and_eq_true]
      refine ⟨?_, decide_eq_true ⟨h2, h3⟩⟩
      rw [h1]; split <;> decide
    · rw [h.free k hk (fun j hj e => hn ⟨j, hj, e⟩)]; rfl
  · rw [h.order] at hi
    obtain ⟨j, hj, rfl⟩ := List.mem_map.1 hi
    exact (h.used j (List.mem_range.1 hj)).2.2.2
  · rw [h.order, List.pairwise_map]
    refine List.Pairwise.imp_of_mem ?_ (List.pairwise_lt_range (n := m))
    intro a b ha hb hlt
    exact h.rise a b hlt (List.mem_range.1 hb)
  · rw [h.order] at hq
    have hlen := congrArg List.length hq
    simp only [List.length_map, List.length_range, List.length_append, List.length_cons] at hlen
    have hi : (s + p.length) % l.length = i := by
      have := congrArg (fun q => q[p.length]?) hq
      rw [List.getElem?_map, List.getElem?_range (by omega)] at this
      simpa using this
    have hu := (h.used p.length (by omega)).1
    rw [hi, hst] at hu
    by_cases hc : o = true ∧ p.length + 1 = m
    · exact List.length_eq_zero_iff.1 (by omega)
    · rw [if_neg hc] at hu; cases hu
end
end Go.Ring
namespace Go.Ring
section
variable {sec : Int} {l : List Seg} {s m : Nat} {o : Bool}

theorem Side.latest (h : Side sec l s m o) : latestP l = if m = 0 then none else some ((s + (m - 1)) % l.length) := by
  unfold latestP
  rw [h.order, List.getLast?_map]
  cases m with
  | zero => rfl
  | succ k => rw [List.range_succ, List.getLast?_concat, if_neg (by omega)]; rfl

theorem find_map_range {n : Nat} {f : Nat → Nat} {p : Nat → Bool} {k : Nat} (hk : k < n) (h1 : p (f k) = true) (h2 : ∀ j, j < k → p (f j) = false) : ((List.range n).map f).find? p = some (f k) := by
  induction n generalizing k with
  | zero => omega
  | succ n ih =>
    rw [List.range_succ, List.map_append, List.find?_append]
    by_cases hkn : k < n
    · rw [ih hkn h1 h2]; rfl
    · obtain rfl : k = n := by omega
      have : ((List.range k).map f).find? p = none := by
        rw [List.find?_eq_none]
        intro x hx
        obtain ⟨j, hj, rfl⟩ := List.mem_map.1 hx
        rw [h2 j (List.mem_range.1 hj)]; decide
      rw [this]
      simp [h1]
theorem find_map_none {n : Nat} {f : Nat → Nat} {p : Nat → Bool} (h : ∀ j, j < n → p (f j) = false) : ((List.range n).map f).find? p = none := by
  rw [List.find?_eq_none]
  intro x hx
  obtain ⟨j, hj, rfl⟩ := List.mem_map.1 hx
  rw [h j (List.mem_range.1 hj)]; decide

theorem Side.opened (h : Side sec l s m o) : openedP l = if o = true then some ((s + (m - 1)) % l.length) else none := by
  unfold openedP
  rw [h.order]
  cases o with
  | true =>
    have hm := h.ho rfl
    rw [if_pos rfl]
    refine find_map_range (k := m - 1) (by omega) ?_ (fun j hj => ?_)
    · unfold openB
      rw [(h.used (m - 1) (by omega)).1, if_pos ⟨rfl, by omega⟩]; rfl
    · unfold openB
      rw [(h.used j (by omega)).1, if_neg (fun hc => by omega)]; rfl
  | false =>
    rw [if_neg (by decide)]
    refine find_map_none (fun j hj => ?_)
    unfold openB
    rw [(h.used j hj).1, if_neg (fun hc => by cases hc.1)]; rfl

/-- How many are sealed. -/
def sealedN (m : Nat) (o : Bool) : Nat := if o = true then m - 1 else m
theorem Side.oldest (h : Side sec l s m o) : oldestP l = if sealedN m o = 0 then none else some s := by
  unfold oldestP
  rw [h.order]
  have hp := h.hs
  by_cases h0 : sealedN m o = 0
  · rw [if_pos h0]
    refine find_map_none (fun j hj => ?_)
    unfold sealedB
    unfold sealedN at h0
    cases o with
    | true =>
      rw [if_pos rfl] at h0
      rw [(h.used j hj).1, if_pos ⟨rfl, by omega⟩]; rfl
    | false => rw [if_neg (by decide)] at h0; omega
  · rw [if_neg h0]
    have hm : 0 < m := by unfold sealedN at h0; split at h0 <;> omega
    have e : (s + 0) % l.length = s := by rw [Nat.add_zero, Nat.mod_eq_of_lt hp]
    have := find_map_range (n := m) (f := fun j => (s + j) % l.length) (p := sealedB l) (k := 0) hm (by
      unfold sealedB
      rw [(h.used 0 hm).1, if_neg (fun hc => by unfold sealedN at h0; rw [if_pos hc.1] at h0; omega)]; rfl) (fun j hj => by omega)
    rw [this]
    simp only [e]

/-- Where the next one is. -/
def nextAt (n s m : Nat) : Nat := if m = 0 then 0 else (s + m) % n
theorem Side.used_st (h : Side sec l s m o) {j : Nat} (hj : j < m) : freeB l ((s + j) % l.length) = false := by
  unfold freeB
  rw [(h.used j hj).1]; split <;> rfl
theorem Side.free_st (h : Side sec l s m o) {j : Nat} (hj : m ≤ j) (hn : j < l.length) : at' l ((s + j) % l.length) = zero :=
  h.free _ (Nat.mod_lt _ h.pos) (fun i hi e => by have := mod_inj (by omega) hn e; omega)
theorem Side.next (h : Side sec l s m o) : nextP l = if m = l.length then none else some (nextAt l.length s m) := by
  have hp := h.pos
  have hm := h.hm
  unfold nextP behind
  rw [h.latest]
  by_cases h0 : m = 0
  · subst h0
    rw [if_pos rfl, if_neg (by omega)]
    unfold startOf nextAt
    rw [if_pos rfl]
    have := find_map_range (n := l.length) (f := fun k => (0 + k) % l.length) (p := freeB l) (k := 0) hp (by
      unfold freeB
      rw [h.free _ (Nat.mod_lt _ hp) (fun j hj => by omega)]; rfl) (fun j hj => by omega)
    rw [this]; simp
  · rw [if_neg h0]
    unfold startOf
    simp only
    by_cases hfull : m = l.length
    · rw [if_pos hfull]
      refine find_map_none (fun j hj => ?_)
      have e : ((s + (m - 1)) % l.length + 1 + j) % l.length = (s + (if j = 0 then 0 else j) ) % l.length := by
        have : (s + (m - 1)) % l.length + 1 + j = (s + (m - 1)) % l.length + (1 + j) := by omega
        rw [this, Nat.mod_add_mod]
        have h2 : s + (m - 1) + (1 + j) = (s + j) + l.length := by omega
        rw [h2, Nat.add_mod_right]
        split <;> simp [*]
      rw [e]
      exact h.used_st (by split <;> omega)
    · rw [if_neg hfull]
      have e : ∀ k, ((s + (m - 1)) % l.length + 1 + k) % l.length = (s + (m + k)) % l.length := fun k => by
        have : (s + (m - 1)) % l.length + 1 + k = (s + (m - 1)) % l.length + (1 + k) := by omega
        rw [this, Nat.mod_add_mod]
        congr 1; omega
      have e0 : ((s + (m - 1)) % l.length + 1) % l.length = (s + m) % l.length := e 0
      have := find_map_range (n := l.length) (f := fun k => ((s + (m - 1)) % l.length + 1 + k) % l.length) (p := freeB l) (k := 0) hp (by
        simp only [Nat.add_zero]
        rw [e0]
        unfold freeB
        rw [h.free_st (Nat.le_refl _) (by omega)]; rfl) (fun j hj => by omega)
      rw [this]
      unfold nextAt
      rw [if_neg h0]
      simp only [Nat.add_zero]
      rw [e0]

theorem Side.lastGen_eq (h : Side sec l s m o) : lastGen l = if m = 0 then 0 else gen l ((s + (m - 1)) % l.length) := by
  unfold lastGen
  rw [h.latest]
  by_cases h0 : m = 0
  · rw [if_pos h0, if_pos h0]
  · rw [if_neg h0, if_neg h0]

/-- The start behind an opening. -/
def startAt (s m : Nat) : Nat := if m = 0 then 0 else s

theorem gen_set {l : List Seg} {i k : Nat} {x : Seg} (h : i < l.length) : gen (l.set i x) k = if k = i then x.gen else gen l k := by
  unfold gen; rw [at_set h]; split <;> rfl

theorem Side.open (h : Side sec l s m false) (hm : m < l.length) {g : Nat} (hg : lastGen l < g) : Side sec (l.set (nextAt l.length s m) ⟨1, g, 1⟩) (startAt s m) (m + 1) true := by
  have hp := h.pos
  have hlt : nextAt l.length s m < l.length := by unfold nextAt; split; · exact hp
                                                  · exact Nat.mod_lt _ hp
  have hsec : 24 ≤ sec := by
    have := h.size
    unfold sizedB at this
    rw [Bool.and_eq_true] at this
    exact (of_decide_eq_true this.2).1
  have hnew : (startAt s m + m) % l.length = nextAt l.length s m := by
    unfold startAt nextAt
    split
    · rename_i h0; subst h0; simp
    · rfl
  have hold : ∀ j, j < m → (startAt s m + j) % l.length = (s + j) % l.length ∧ (startAt s m + j) % l.length ≠ nextAt l.length s m := by
    intro j hj
    have h0 : m ≠ 0 := by omega
    unfold startAt nextAt
    rw [if_neg h0, if_neg h0]
    refine ⟨rfl, fun e => ?_⟩
    have := mod_inj (by omega) hm e
    omega
  have hlg : ∀ j, j < m → gen l ((s + j) % l.length) < g := by
    intro j hj
    rw [h.lastGen_eq, if_neg (by omega)] at hg
    rcases Nat.lt_or_ge j (m - 1) with hj2 | hj2
    · have := h.rise j (m - 1) hj2 (by omega); omega
    · obtain rfl : j = m - 1 := by omega
      exact hg
  have hst : startAt s m < l.length := by
    unfold startAt
    split
    · exact hp
    · exact h.hs
  refine ⟨by rw [List.length_set]; exact h.size, by rw [List.length_set]; exact hst, by rw [List.length_set]; omega, fun _ => by omega, fun j hj => ?_, fun i j hij hj => ?_, fun k hk hno => ?_⟩
  · rw [List.length_set, at_set hlt, gen_set hlt]
    rcases Nat.lt_or_ge j m with hjm | hjm
    · obtain ⟨e1, e2⟩ := hold j hjm
      rw [if_neg e2, if_neg e2, e1, if_neg (fun hc => by omega)]
      obtain ⟨u1, u2⟩ := h.used j hjm
      rw [if_neg (fun hc => by cases hc.1)] at u1
      exact ⟨u1, u2⟩
    · obtain rfl : j = m := by omega
      rw [hnew, if_pos rfl, if_pos rfl, if_pos ⟨rfl, rfl⟩]
      exact ⟨rfl, Int.le_refl _, by show (1 : Int) ≤ sec; omega, by simp only; omega⟩
  · rw [List.length_set, gen_set hlt, gen_set hlt]
    obtain ⟨e1, e2⟩ := hold i (by omega)
    rw [if_neg e2, e1]
    rcases Nat.lt_or_ge j m with hjm | hjm
    · obtain ⟨e3, e4⟩ := hold j hjm
      rw [if_neg e4, e3]
      exact h.rise i j hij hjm
    · obtain rfl : j = m := by omega
      rw [hnew, if_pos rfl]
      exact hlg i hij
  · rw [List.length_set] at hk hno
    rw [at_set hlt]
    have hk2 : k ≠ nextAt l.length s m := fun e => hno m (by omega) (by rw [hnew, e])
    rw [if_neg hk2]
    refine h.free k hk (fun j hj e => ?_)
    exact hno j (by omega) (by rw [(hold j hj).1]; exact e)

/-- The last one of those in use is changed, its generation not. -/
theorem Side.change (h : Side sec l s m true) {x : Seg} {o' : Bool} (hx : x.gen = gen l ((s + (m - 1)) % l.length)) (hst : x.st = if o' = true then 1 else 2) (hu : 1 ≤ x.used ∧ x.used ≤ sec) : Side sec (l.set ((s + (m - 1)) % l.length) x) s m o' := by
  have hp := h.pos
  have hm0 := h.ho rfl
  have hml := h.hm
  have hlt : (s + (m - 1)) % l.length < l.length := Nat.mod_lt _ hp
  have hne : ∀ j, j < m → j ≠ m - 1 → (s + j) % l.length ≠ (s + (m - 1)) % l.length := fun j hj hj2 e => hj2 (mod_inj (by omega) (by omega) e)
  have hgen : ∀ k, gen (l.set ((s + (m - 1)) % l.length) x) k = gen l k := fun k => by
    rw [gen_set hlt]
    split
    · rename_i e; rw [hx, e]
    · rfl
  refine ⟨by rw [List.length_set]; exact h.size, by rw [List.length_set]; exact h.hs, by rw [List.length_set]; exact hml, fun _ => hm0, fun j hj => ?_, fun i j hij hj => ?_, fun k hk hno => ?_⟩
  · rw [List.length_set, at_set hlt, hgen]
    by_cases hj2 : j = m - 1
    · subst hj2
      rw [if_pos rfl]
      refine ⟨?_, hu.1, hu.2, (h.used _ hj).2.2.2⟩
      rw [hst]
      by_cases ho : o' = true
      · rw [if_pos ho, if_pos ⟨ho, by omega⟩]
      · rw [if_neg ho, if_neg (fun hc => ho hc.1)]
    · rw [if_neg (hne j hj hj2), if_neg (fun hc => hj2 (by omega))]
      obtain ⟨u1, u2⟩ := h.used j hj
      rw [if_neg (fun hc => hj2 (by omega))] at u1
      exact ⟨u1, u2⟩
  · rw [List.length_set, hgen, hgen]; exact h.rise i j hij hj
  · rw [List.length_set] at hk hno
    rw [at_set hlt, if_neg (fun e => hno (m - 1) (by omega) e.symm)]
    exact h.free k hk hno

theorem Side.freed (h : Side sec l s m o) (hm : 0 < sealedN m o) : Side sec (l.set s zero) ((s + 1) % l.length) (m - 1) o := by
  have hp := h.pos
  have hs := h.hs
  have hml := h.hm
  have hm1 : 0 < m := by unfold sealedN at hm; split at hm <;> omega
  have e : ∀ j, ((s + 1) % l.length + j) % l.length = (s + (j + 1)) % l.length := fun j => by rw [Nat.mod_add_mod]; congr 1; omega
  have e0 : (s + 0) % l.length = s := by rw [Nat.add_zero, Nat.mod_eq_of_lt hs]
  have hne : ∀ j, j < m - 1 → (s + (j + 1)) % l.length ≠ s := fun j hj e1 => by
    have := mod_inj (n := l.length) (s := s) (i := j + 1) (j := 0) (by omega) hp (by rw [e1, e0])
    omega
  refine ⟨by rw [List.length_set]; exact h.size, by rw [List.length_set]; exact Nat.mod_lt _ hp, by rw [List.length_set]; omega, fun ho => by unfold sealedN at hm; rw [if_pos ho] at hm; omega, fun j hj => ?_, fun i j hij hj => ?_, fun k hk hno => ?_⟩
  · rw [List.length_set, at_set hs, gen_set hs, e, if_neg (hne j hj), if_neg (hne j hj)]
    obtain ⟨u1, u2⟩ := h.used (j + 1) (by omega)
    refine ⟨?_, u2⟩
    rw [u1]
    by_cases hc : o = true ∧ j + 1 + 1 = m
    · rw [if_pos hc, if_pos ⟨hc.1, by omega⟩]
    · rw [if_neg hc, if_neg (fun h2 => hc ⟨h2.1, by omega⟩)]
  · rw [List.length_set, gen_set hs, gen_set hs, e, e, if_neg (hne i (by omega)), if_neg (hne j hj)]
    exact h.rise (i + 1) (j + 1) (by omega) (by omega)
  · rw [List.length_set] at hk hno
    rw [at_set hs]
    split
    · rfl
    · rename_i hks
      refine h.free k hk (fun j hj e1 => ?_)
      cases j with
      | zero => exact hks (by rw [← e1, e0])
      | succ j => exact hno j (by omega) (by rw [e, e1])

theorem Side.new {n : Nat} (hn : sizedB n sec = true) : Side sec (List.replicate n zero) 0 0 false := by
  have h4 : 4 ≤ n := by
    unfold sizedB at hn
    rw [Bool.and_eq_true] at hn
    exact (of_decide_eq_true hn.1).1
  refine ⟨by rw [List.length_replicate]; exact hn, by rw [List.length_replicate]; omega, Nat.zero_le _, fun h => (by cases h), fun j hj => by omega, fun i j _ hj => by omega, fun k hk _ => ?_⟩
  rw [List.length_replicate] at hk
  unfold at'
  rw [List.getD_eq_getElem?_getD, List.getElem?_replicate, if_pos hk]; rfl
end
end Go.Ring
end
