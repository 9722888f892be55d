/- Rings in plain terms: which segment is open, the latest, the oldest, and the order: the program's way and the document's are one, of a ring that may be. No condition beside that. -/
import Derived.Test.YtlcdadnfcdjglaaPlain
namespace Go.Ring

/-- The best of those with p, the first one of its kind, if any. -/
def bestF (p : Nat → Bool) (h : Nat → Int) (o : Option Nat) (i : Nat) : Option Nat :=
  if p i && (match o with | none => true | some a => decide (h a < h i)) then some i else o
def best (p : Nat → Bool) (h : Nat → Int) (q : List Nat) : Option Nat := q.foldl (bestF p h) none

def BestOf (p : Nat → Bool) (h : Nat → Int) (q : List Nat) (o : Option Nat) : Prop :=
  match o with
  | none => ∀ y ∈ q, p y = false
  | some x => x ∈ q ∧ p x = true ∧ ∀ y ∈ q, p y = true → h y ≤ h x

theorem bestOf_snoc {p : Nat → Bool} {h : Nat → Int} {q : List Nat} {o : Option Nat} (i : Nat) (hb : BestOf p h q o) : BestOf p h (q ++ [i]) (bestF p h o i) := by
  unfold bestF
  cases hp : p i with
  | false =>
    simp only [Bool.false_and, Bool.false_eq_true, if_false]
    cases o with
    | none =>
      intro y hy
      rcases List.mem_append.1 hy with hy | hy
      · exact hb y hy
      · rw [List.mem_singleton.1 hy]; exact hp
    | some x =>
      obtain ⟨h1, h2, h3⟩ := hb
      refine ⟨List.mem_append_left _ h1, h2, fun y hy hpy => ?_⟩
      rcases List.mem_append.1 hy with hy | hy
      · exact h3 y hy hpy
      · rw [List.mem_singleton.1 hy, hp] at hpy; cases hpy
  | true =>
    simp only [Bool.true_and]
    cases o with
    | none =>
      simp only [if_true]
      refine ⟨by simp, hp, fun y hy hpy => ?_⟩
      rcases List.mem_append.1 hy with hy | hy
      · rw [hb y hy] at hpy; cases hpy
      · rw [List.mem_singleton.1 hy]; exact Int.le_refl _
    | some x =>
      obtain ⟨h1, h2, h3⟩ := hb
      simp only
      by_cases hlt : h x < h i
      · rw [if_pos (decide_eq_true hlt)]
        refine ⟨by simp, hp, fun y hy hpy => ?_⟩
        rcases List.mem_append.1 hy with hy | hy
        · have := h3 y hy hpy; omega
        · rw [List.mem_singleton.1 hy]; exact Int.le_refl _
      · rw [if_neg (by simpa using hlt)]
        refine ⟨List.mem_append_left _ h1, h2, fun y hy hpy => ?_⟩
        rcases List.mem_append.1 hy with hy | hy
        · exact h3 y hy hpy
        · rw [List.mem_singleton.1 hy]; omega
theorem bestOf_foldl {p : Nat → Bool} {h : Nat → Int} : ∀ (q r : List Nat) (o : Option Nat), BestOf p h r o → BestOf p h (r ++ q) (q.foldl (bestF p h) o)
  | [], r, o, hb => by rw [List.append_nil]; exact hb
  | i :: q, r, o, hb => by
    rw [List.foldl_cons]
    have := bestOf_foldl q (r ++ [i]) _ (bestOf_snoc i hb)
    rwa [List.append_assoc] at this
theorem best_spec (p : Nat → Bool) (h : Nat → Int) (q : List Nat) : BestOf p h q (best p h q) := by
  have := bestOf_foldl (p := p) (h := h) q [] none (fun y hy => by cases hy)
  rwa [List.nil_append] at this

/-- There is one best at most, where no two are equally good. -/
theorem bestOf_unique {p : Nat → Bool} {h : Nat → Int} {q r : List Nat} {o o' : Option Nat} (hqr : ∀ y, p y = true → (y ∈ q ↔ y ∈ r)) (hinj : ∀ x ∈ q, ∀ y ∈ q, p x = true → p y = true → h x = h y → x = y)
    (h1 : BestOf p h q o) (h2 : BestOf p h r o') : o = o' := by
  cases o with
  | none =>
    cases o' with
    | none => rfl
    | some y => obtain ⟨a, b, _⟩ := h2; have := h1 y ((hqr y b).2 a); rw [b] at this; cases this
  | some x =>
    obtain ⟨a, b, c⟩ := h1
    cases o' with
    | none => have := h2 x ((hqr x b).1 a); rw [b] at this; cases this
    | some y =>
      obtain ⟨a', b', c'⟩ := h2
      have e1 := c y ((hqr y b').2 a') b'
      have e2 := c' x ((hqr x b).1 a) b
      rw [hinj x a y ((hqr y b').2 a') b b' (by omega)]

/-! ### the program's way -/
def openB (l : List Seg) (i : Nat) : Bool := decide ((at' l i).st = 1)
def sealedB (l : List Seg) (i : Nat) : Bool := decide ((at' l i).st = 2)
def usedB (l : List Seg) (i : Nat) : Bool := !decide ((at' l i).st = 0)
def openedP (l : List Seg) : Option Nat := (order l).find? (openB l)
def oldestP (l : List Seg) : Option Nat := (order l).find? (sealedB l)
def latestP (l : List Seg) : Option Nat := (order l).getLast?
/-! ### the document's -/
def openedR (l : List Seg) : Option Nat := (List.range l.length).find? (openB l)
def oldestR (l : List Seg) : Option Nat := best (sealedB l) (fun i => - (gen l i : Int)) (List.range l.length)
def latestR (l : List Seg) : Option Nat := best (usedB l) (fun i => (gen l i : Int)) (List.range l.length)

theorem rising {sec : Int} {l : List Seg} (h : checkB sec l = true) : (∀ i ∈ order l, 0 < gen l i) ∧ (order l).Pairwise (fun a b => gen l a < gen l b) ∧ ∀ p i r, order l = p ++ i :: r → (at' l i).st = 1 → r = [] := by
  unfold checkB at h
  rw [Bool.and_eq_true, chain_iff] at h
  exact h.2
theorem gen_inj {sec : Int} {l : List Seg} (h : checkB sec l = true) : ∀ x ∈ order l, ∀ y ∈ order l, gen l x = gen l y → x = y := by
  have hr := (rising h).2.1
  intro x hx y hy e
  obtain ⟨p, r, hp⟩ := List.append_of_mem hx
  rw [hp] at hr hy
  have h1 := List.pairwise_append.1 hr
  have h2 := List.pairwise_cons.1 h1.2.1
  rcases List.mem_append.1 hy with hy | hy
  · have := h1.2.2 y hy x (by simp); omega
  · rcases List.mem_cons.1 hy with e | hy
    · exact e.symm
    · have := h2.1 y hy; omega

theorem find_first {p : Nat → Bool} {q : List Nat} : match q.find? p with
    | none => ∀ y ∈ q, p y = false
    | some x => ∃ a b, q = a ++ x :: b ∧ p x = true ∧ ∀ y ∈ a, p y = false := by
  cases h : q.find? p with
  | none => simp only; intro y hy; have := List.find?_eq_none.1 h y hy; simpa using this
  | some x =>
    obtain ⟨h1, a, b, h2, h3⟩ := List.find?_eq_some_iff_append.1 h
    exact ⟨a, b, h2, h1, fun y hy => by simpa using h3 y hy⟩

theorem opened_eq {sec : Int} {l : List Seg} (h : checkB sec l = true) : openedP l = openedR l := by
  have hr := rising h
  unfold openedP openedR
  have h1 := find_first (p := openB l) (q := order l)
  have h2 := find_first (p := openB l) (q := List.range l.length)
  have one : ∀ x y, x ∈ order l → y ∈ order l → openB l x = true → openB l y = true → x = y := by
    intro x y hx hy ox oy
    obtain ⟨p, r, hp⟩ := List.append_of_mem hx
    have hx0 := hr.2.2 p x r hp (of_decide_eq_true ox)
    obtain ⟨p', r', hp'⟩ := List.append_of_mem hy
    have hy0 := hr.2.2 p' y r' hp' (of_decide_eq_true oy)
    subst hx0 hy0
    rw [hp] at hp'
    have := congrArg List.getLast? hp'
    simpa using this
  have mo : ∀ x, openB l x = true → x < l.length → x ∈ order l := fun x hx hl => mem_order.2 ⟨hl, by have := of_decide_eq_true hx; omega⟩
  cases e1 : (order l).find? (openB l) with
  | none =>
    rw [e1] at h1
    cases e2 : (List.range l.length).find? (openB l) with
    | none => rfl
    | some y =>
      rw [e2] at h2
      obtain ⟨a, b, hq, hy, _⟩ := h2
      have hyl : y < l.length := List.mem_range.1 (by rw [hq]; simp)
      have := h1 y (mo y hy hyl)
      rw [hy] at this; cases this
  | some x =>
    rw [e1] at h1
    obtain ⟨a, b, hq, hx, _⟩ := h1
    have hxo : x ∈ order l := by rw [hq]; simp
    cases e2 : (List.range l.length).find? (openB l) with
    | none =>
      rw [e2] at h2
      have := h2 x (List.mem_range.2 (mem_order.1 hxo).1)
      rw [hx] at this; cases this
    | some y =>
      rw [e2] at h2
      obtain ⟨a', b', hq', hy, _⟩ := h2
      have hyl : y < l.length := List.mem_range.1 (by rw [hq']; simp)
      rw [one x y hxo (mo y hy hyl) hx hy]

theorem oldest_eq {sec : Int} {l : List Seg} (h : checkB sec l = true) : oldestP l = oldestR l := by
  have hr := rising h
  refine bestOf_unique (p := sealedB l) (h := fun i => - (gen l i : Int)) (q := order l) (r := List.range l.length) (fun y hy => ?_) (fun x hx y hy _ _ e => gen_inj h x hx y hy (by omega)) ?_ (best_spec _ _ _)
  · rw [mem_order, List.mem_range]
    have := of_decide_eq_true hy
    exact ⟨fun a => a.1, fun a => ⟨a, by omega⟩⟩
  · unfold oldestP
    have h1 := find_first (p := sealedB l) (q := order l)
    cases e1 : (order l).find? (sealedB l) with
    | none => rw [e1] at h1; exact h1
    | some x =>
      rw [e1] at h1
      obtain ⟨a, b, hq, hx, hno⟩ := h1
      refine ⟨by rw [hq]; simp, hx, fun y hy hs => ?_⟩
      rw [hq] at hy
      have h2 := hr.2.1
      rw [hq] at h2
      rcases List.mem_append.1 hy with hy | hy
      · rw [hno y hy] at hs; cases hs
      · rcases List.mem_cons.1 hy with rfl | hy
        · exact Int.le_refl _
        · have := (List.pairwise_cons.1 (List.pairwise_append.1 h2).2.1).1 y hy
          simp only; omega

theorem latest_eq {sec : Int} {l : List Seg} (h : checkB sec l = true) : latestP l = latestR l := by
  have hr := rising h
  refine bestOf_unique (p := usedB l) (h := fun i => (gen l i : Int)) (q := order l) (r := List.range l.length) (fun y hy => ?_) (fun x hx y hy _ _ e => gen_inj h x hx y hy (by omega)) ?_ (best_spec _ _ _)
  · rw [mem_order, List.mem_range]
    unfold usedB at hy
    simp at hy
    exact ⟨fun a => a.1, fun a => ⟨a, hy⟩⟩
  · unfold latestP
    cases e1 : (order l).getLast? with
    | none =>
      rw [List.getLast?_eq_none_iff] at e1
      rw [e1]; intro y hy; cases hy
    | some x =>
      obtain ⟨a, ha⟩ := List.getLast?_eq_some_iff.1 e1
      have hx : x ∈ order l := by rw [ha]; simp
      refine ⟨hx, by unfold usedB; simpa using (mem_order.1 hx).2, fun y hy hs => ?_⟩
      have h2 := hr.2.1
      rw [ha] at h2 hy
      rcases List.mem_append.1 hy with hy | hy
      · have := (List.pairwise_append.1 h2).2.2 y hy x (by simp)
        simp only; omega
      · rw [List.mem_singleton.1 hy]; exact Int.le_refl _

/-- The document puts each segment behind those with lesser generations. -/
def insL (g : Nat → Nat) (x : Nat) : List Nat → List Nat
  | [] => [x]
  | y :: q => if g y < g x then y :: insL g x q else x :: y :: q
def orderR (l : List Seg) : List Nat := (nonfree l).foldl (fun q x => insL (gen l) x q) []

theorem insL_perm (g : Nat → Nat) (x : Nat) : ∀ q, (insL g x q).Perm (x :: q)
  | [] => List.Perm.refl _
  | y :: q => by
    unfold insL
    split
    · exact ((insL_perm g x q).cons y).trans (List.Perm.swap _ _ _)
    · exact List.Perm.refl _
theorem insL_sorted (g : Nat → Nat) (x : Nat) : ∀ q, q.Pairwise (fun a b => g a ≤ g b) → (insL g x q).Pairwise (fun a b => g a ≤ g b)
  | [], _ => by simp [insL]
  | y :: q, h => by
    unfold insL
    rw [List.pairwise_cons] at h
    split
    · rename_i hlt
      rw [List.pairwise_cons]
      refine ⟨fun b hb => ?_, insL_sorted g x q h.2⟩
      rcases List.mem_cons.1 ((insL_perm g x q).mem_iff.1 hb) with rfl | hb
      · omega
      · exact h.1 b hb
    · rename_i hlt
      rw [List.pairwise_cons]
      refine ⟨fun b hb => ?_, List.pairwise_cons.2 h⟩
      rcases List.mem_cons.1 hb with rfl | hb
      · omega
      · have := h.1 b hb; omega
theorem foldlL (g : Nat → Nat) : ∀ (l q : List Nat), q.Pairwise (fun a b => g a ≤ g b) → (l.foldl (fun q x => insL g x q) q).Perm (l ++ q) ∧ (l.foldl (fun q x => insL g x q) q).Pairwise (fun a b => g a ≤ g b)
  | [], q, h => ⟨List.Perm.refl _, h⟩
  | x :: l, q, h => by
    rw [List.foldl_cons]
    obtain ⟨h1, h2⟩ := foldlL g l _ (insL_sorted g x q h)
    exact ⟨(h1.trans (List.Perm.append_left l (insL_perm g x q))).trans List.perm_middle, h2⟩

theorem order_eq {sec : Int} {l : List Seg} (h : checkB sec l = true) : order l = orderR l := by
  have hr := rising h
  obtain ⟨h1, h2⟩ := foldlL (gen l) (nonfree l) [] List.Pairwise.nil
  rw [List.append_nil] at h1
  have hp : (order l).Perm (orderR l) := (sortR_perm _ _).trans h1.symm
  refine rising_unique hr.2.1 ?_ hp
  have hnd : (orderR l).Nodup := hp.nodup_iff.1 (order_nodup l)
  have hm : ∀ i ∈ orderR l, i ∈ order l := fun i hi => hp.mem_iff.2 hi
  have h2' : (orderR l).Pairwise (fun a b => gen l a ≤ gen l b) := h2
  generalize orderR l = q at h2' hnd hm
  induction q with
  | nil => exact List.Pairwise.nil
  | cons x q ih =>
    rw [List.pairwise_cons] at h2' ⊢
    rw [List.nodup_cons] at hnd
    refine ⟨fun y hy => ?_, ih h2'.2 hnd.2 (fun i hi => hm i (by simp [hi]))⟩
    have a1 := h2'.1 y hy
    rcases Nat.lt_or_ge (gen l x) (gen l y) with hlt | hge
    · exact hlt
    · exfalso
      have := gen_inj h x (hm x (by simp)) y (hm y (by simp [hy])) (by omega)
      subst this
      exact hnd.1 hy
end Go.Ring
