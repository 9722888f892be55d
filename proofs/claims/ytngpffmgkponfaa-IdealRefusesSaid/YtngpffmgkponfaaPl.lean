/- Plain Lean: versions, their order, sorted lists of versions. No condition. -/
import Derived.Sort.Statements
set_option linter.unusedVariables false
namespace Go.Idl

/-- A version: what is told of a key. -/
structure Tv where
  val : List UInt8
  fl : Int
  ex : Int
  cas : Int
  deriving DecidableEq, Inhabited

/-- A comparison that is a total order. -/
structure Cmp {α : Type} (f : α → α → Int) : Prop where
  eq : ∀ a b, f a b = 0 ↔ a = b
  anti : ∀ a b, f a b < 0 ↔ 0 < f b a
  trans : ∀ a b c, f a b < 0 → f b c < 0 → f a c < 0

def cmpI (a b : Int) : Int := if a < b then -1 else if b < a then 1 else 0
theorem cmpI_cmp : Cmp cmpI := by
  constructor <;> intros <;> unfold cmpI at * <;> (repeat' split) <;> omega

/-- Two comparisons, one behind the other, of two parts. -/
def orI (a b : Int) : Int := if a ≠ 0 then a else b
theorem Cmp.lex {α β γ : Type} {f : α → α → Int} {g : β → β → Int} (hf : Cmp f) (hg : Cmp g) (p : γ → α) (q : γ → β) (inj : ∀ a b, p a = p b → q a = q b → a = b) :
    Cmp fun a b => orI (f (p a) (p b)) (g (q a) (q b)) := by
  constructor
  · intro a b
    unfold orI
    constructor
    · intro h
      by_cases h0 : f (p a) (p b) = 0
      · rw [if_neg (by simpa using h0)] at h
        exact inj a b ((hf.eq _ _).1 h0) ((hg.eq _ _).1 h)
      · rw [if_pos h0] at h; exact absurd h h0
    · rintro rfl
      rw [if_neg (by simpa using (hf.eq _ _).2 rfl)]
      exact (hg.eq _ _).2 rfl
  · intro a b
    unfold orI
    have e1 := hf.eq (p a) (p b)
    have e2 := hf.eq (p b) (p a)
    by_cases h0 : f (p a) (p b) = 0
    · have h1 : f (p b) (p a) = 0 := e2.2 (e1.1 h0).symm
      rw [if_neg (by simpa using h0), if_neg (by simpa using h1)]
      exact hg.anti _ _
    · have h1 : f (p b) (p a) ≠ 0 := fun h => h0 (e1.2 (e2.1 h).symm)
      rw [if_pos h0, if_pos h1]
      exact hf.anti _ _
  · intro a b c
    unfold orI
    have e1 := hf.eq (p a) (p b)
    have e2 := hf.eq (p b) (p c)
    by_cases h0 : f (p a) (p b) = 0
    · rw [if_neg (by simpa using h0)]
      rw [e1.1 h0]
      by_cases h1 : f (p b) (p c) = 0
      · simp only [if_neg (show ¬ f (p b) (p c) ≠ 0 by simpa using h1)]
        exact hg.trans _ _ _
      · simp only [if_pos h1]
        exact fun _ h => h
    · rw [if_pos h0]
      by_cases h1 : f (p b) (p c) = 0
      · rw [if_neg (by simpa using h1), ← e2.1 h1, if_pos h0]
        exact fun h _ => h
      · rw [if_pos h1]
        intro h2 h3
        have h4 := hf.trans _ _ _ h2 h3
        rw [if_pos (by omega)]
        exact h4

/-- The order of bytes, lexically. -/
def cmpB : List UInt8 → List UInt8 → Int
  | [], [] => 0
  | [], _ :: _ => -1
  | _ :: _, [] => 1
  | a :: x, b :: y => orI (cmpI a.toNat b.toNat) (cmpB x y)
theorem cmpB_cmp : Cmp cmpB := by
  have hI := cmpI_cmp
  have e0 : ∀ a b : UInt8, cmpI a.toNat b.toNat = 0 ↔ a = b := fun a b => by
    rw [hI.eq]
    constructor
    · intro h; exact UInt8.toNat_inj.1 (by omega)
    · rintro rfl; rfl
  constructor
  · intro a
    induction a with
    | nil => intro b; cases b <;> simp [cmpB]
    | cons x a ih =>
      intro b
      cases b with
      | nil => simp [cmpB]
      | cons y b =>
        unfold cmpB orI
        by_cases h : cmpI x.toNat y.toNat = 0
        · rw [if_neg (by simpa using h), ih, (e0 x y).1 h]; simp
        · rw [if_pos h]
          constructor
          · intro h'; exact absurd h' h
          · intro h'; cases h'; exact absurd ((e0 x x).2 rfl) h
  · intro a
    induction a with
    | nil => intro b; cases b <;> simp [cmpB]
    | cons x a ih =>
      intro b
      cases b with
      | nil => simp [cmpB]
      | cons y b =>
        unfold cmpB orI
        by_cases h : cmpI x.toNat y.toNat = 0
        · rw [if_neg (by simpa using h), ← (e0 x y).1 h, if_neg (by simpa using (e0 x x).2 rfl), ih]
        · have h2 : cmpI (y.toNat : Int) x.toNat ≠ 0 := fun h' => h ((e0 x y).2 ((e0 y x).1 h').symm)
          rw [if_pos h, if_pos h2]
          exact hI.anti _ _
  · intro a
    induction a with
    | nil => intro b c; cases b <;> cases c <;> simp [cmpB]
    | cons x a ih =>
      intro b c
      cases b with
      | nil => simp [cmpB]
      | cons y b =>
        cases c with
        | nil => simp [cmpB]
        | cons z c =>
          unfold cmpB orI
          by_cases h : cmpI x.toNat y.toNat = 0
          · rw [if_neg (by simpa using h), (e0 x y).1 h]
            by_cases h1 : cmpI y.toNat z.toNat = 0
            · simp only [if_neg (show ¬ cmpI (y.toNat : Int) z.toNat ≠ 0 by simpa using h1)]
              exact ih b c
            · simp only [if_pos h1]
              exact fun _ h => h
          · rw [if_pos h]
            by_cases h1 : cmpI y.toNat z.toNat = 0
            · rw [if_neg (by simpa using h1), ← (e0 y z).1 h1, if_pos h]
              exact fun h _ => h
            · rw [if_pos h1]
              intro h2 h3
              have h4 := hI.trans _ _ _ h2 h3
              rw [if_pos (by omega)]
              exact h4

/-- The order of versions. -/
def cmpT (a b : Tv) : Int := orI (cmpI a.cas b.cas) (orI (cmpB a.val b.val) (orI (cmpI a.fl b.fl) (cmpI a.ex b.ex)))
theorem cmpT_cmp : Cmp cmpT := by
  have h1 := Cmp.lex (γ := Int × Int) cmpI_cmp cmpI_cmp (fun t => t.1) (fun t => t.2) (fun a b h1 h2 => Prod.ext h1 h2)
  have h2 := Cmp.lex (γ := List UInt8 × Int × Int) cmpB_cmp h1 (fun t => t.1) (fun t => t.2) (fun a b h1 h2 => Prod.ext h1 h2)
  exact Cmp.lex (γ := Tv) cmpI_cmp h2 (fun t => t.cas) (fun t => (t.val, t.fl, t.ex)) (fun a b h1 h2 => by
    cases a; cases b; simp at *; exact ⟨h2.1, h2.2.1, h2.2.2, h1⟩)

def ltT (a b : Tv) : Prop := cmpT a b < 0
instance (a b : Tv) : Decidable (ltT a b) := inferInstanceAs (Decidable (cmpT a b < 0))
theorem ltT_irrefl (a : Tv) : ¬ ltT a a := by unfold ltT; rw [(cmpT_cmp.eq a a).2 rfl]; omega
theorem ltT_trans {a b c : Tv} (h : ltT a b) (h' : ltT b c) : ltT a c := cmpT_cmp.trans _ _ _ h h'
theorem ltT_total {a b : Tv} (h : a ≠ b) : ltT a b ∨ ltT b a := by
  unfold ltT
  have h1 := cmpT_cmp.eq a b
  have h2 := cmpT_cmp.anti a b
  have h3 := cmpT_cmp.anti b a
  have : cmpT a b ≠ 0 := fun e => h (h1.1 e)
  omega

/-- Rising, each once, with the members of l. -/
structure SortOf (r l : List Tv) : Prop where
  up : r.Pairwise ltT
  mem : ∀ t, t ∈ r ↔ t ∈ l

theorem SortOf.unique {r r' l l' : List Tv} (h : SortOf r l) (h' : SortOf r' l') (he : ∀ t, t ∈ l ↔ t ∈ l') : r = r' := by
  obtain ⟨hu, hm⟩ := h
  obtain ⟨hu', hm'⟩ := h'
  have hmm : ∀ t, t ∈ r ↔ t ∈ r' := fun t => by rw [hm, hm', he]
  clear hm hm' he
  induction r generalizing r' with
  | nil =>
    cases r' with
    | nil => rfl
    | cons y r' => have := (hmm y).2 (by simp); cases this
  | cons x r ih =>
    cases r' with
    | nil => have := (hmm x).1 (by simp); cases this
    | cons y r' =>
      rw [List.pairwise_cons] at hu hu'
      have e : x = y := by
        by_cases e : x = y
        · exact e
        · exfalso
          have h1 := (hmm x).1 (by simp)
          have h2 := (hmm y).2 (by simp)
          simp [e] at h1
          simp [Ne.symm e] at h2
          exact ltT_irrefl _ (ltT_trans (hu.1 y h2) (hu'.1 x h1))
      subst e
      rw [ih hu.2 hu'.2 fun t => ?_]
      have := hmm t
      simp only [List.mem_cons] at this
      constructor
      · intro ht
        rcases this.1 (.inr ht) with rfl | h
        · exact absurd (hu.1 _ ht) (ltT_irrefl _)
        · exact h
      · intro ht
        rcases this.2 (.inr ht) with rfl | h
        · exact absurd (hu'.1 _ ht) (ltT_irrefl _)
        · exact h

/-- A version among others in order. -/
def insT (x : Tv) : List Tv → List Tv
  | [] => [x]
  | y :: r => if ltT y x then y :: insT x r else if y = x then y :: r else x :: y :: r
def sortT (l : List Tv) : List Tv := l.foldr insT []
theorem insT_mem (x t : Tv) (l : List Tv) : t ∈ insT x l ↔ t = x ∨ t ∈ l := by
  induction l with
  | nil => simp [insT]
  | cons y r ih =>
    unfold insT
    split
    · simp [ih]; grind
    · split
      · simp_all
      · simp
theorem insT_up (x : Tv) (l : List Tv) (h : l.Pairwise ltT) : (insT x l).Pairwise ltT := by
  induction l with
  | nil => simp [insT]
  | cons y r ih =>
    rw [List.pairwise_cons] at h
    unfold insT
    split
    · rename_i hy
      rw [List.pairwise_cons]
      refine ⟨fun t ht => ?_, ih h.2⟩
      rcases (insT_mem x t r).1 ht with rfl | h'
      · exact hy
      · exact h.1 t h'
    · split
      · rw [List.pairwise_cons]; exact h
      · rename_i h1 h2
        have h3 : ltT x y := by rcases ltT_total h2 with h | h <;> first | exact absurd h h1 | exact h
        rw [List.pairwise_cons, List.pairwise_cons]
        refine ⟨fun t ht => ?_, h⟩
        rcases List.mem_cons.1 ht with rfl | h'
        · exact h3
        · exact ltT_trans h3 (h.1 t h')
theorem sortT_of (l : List Tv) : SortOf (sortT l) l := by
  unfold sortT
  induction l with
  | nil => exact ⟨List.Pairwise.nil, fun t => Iff.rfl⟩
  | cons x l ih => exact ⟨insT_up x _ ih.up, fun t => by simp only [List.foldr_cons, insT_mem, ih.mem, List.mem_cons]⟩
theorem SortOf.eq {r l : List Tv} (h : SortOf r l) : r = sortT l := h.unique (sortT_of l) (fun _ => Iff.rfl)
theorem sortT_mem {t : Tv} {l : List Tv} : t ∈ sortT l ↔ t ∈ l := (sortT_of l).mem t
theorem sortT_nil : sortT [] = [] := rfl
theorem sortT_congr {l l' : List Tv} (h : ∀ t, t ∈ l ↔ t ∈ l') : sortT l = sortT l' := (sortT_of l).unique (sortT_of l') h
theorem sortT_sortT (l : List Tv) : sortT (sortT l) = sortT l := sortT_congr fun t => sortT_mem
theorem sortT_eq_nil {l : List Tv} : sortT l = [] ↔ l = [] := by
  constructor
  · intro h
    cases l with
    | nil => rfl
    | cons x l => have : x ∈ sortT (x :: l) := sortT_mem.2 (by simp); rw [h] at this; cases this
  · rintro rfl; rfl

/-- Neighbours that are one (by a key) are told once: the first of them. -/
def compC {α κ : Type} [DecidableEq κ] (key : α → κ) (prev : κ) : List α → List α
  | [] => []
  | p :: r => if key p = prev then compC key prev r else p :: compC key (key p) r
def compF {α κ : Type} [DecidableEq κ] (key : α → κ) : List α → List α
  | [] => []
  | p :: r => p :: compC key (key p) r
section
variable {α κ : Type} [DecidableEq κ] (key : α → κ)
theorem compC_map (prev : κ) (l : List α) : (compC key prev l).map key = compC id prev (l.map key) := by
  induction l generalizing prev with
  | nil => rfl
  | cons p r ih =>
    simp only [compC, List.map_cons, id_eq]
    split
    · exact ih _
    · rw [List.map_cons, ih]
theorem compF_map (l : List α) : (compF key l).map key = compF id (l.map key) := by
  cases l with
  | nil => rfl
  | cons p r => simp only [compF, List.map_cons, id_eq, compC_map]
theorem compC_snoc (prev : κ) (l : List α) (x : α) : compC key prev (l ++ [x]) = compC key prev l ++ (if key x = (l.getLast?.map key).getD prev then [] else [x]) := by
  induction l generalizing prev with
  | nil => by_cases h : key x = prev <;> simp [compC, h]
  | cons p r ih =>
    simp only [List.cons_append, compC]
    have e : ((p :: r).getLast?.map key).getD prev = (r.getLast?.map key).getD (key p) := by
      cases r with
      | nil => simp
      | cons q r =>
        rw [List.getLast?_cons_cons]
        cases h : (q :: r).getLast? with
        | none => simp at h
        | some z => simp
    rw [e]
    split
    · rename_i hp
      rw [ih, hp]
    · rw [ih]; rfl
theorem compF_take {l : List α} {j : Nat} (hj : 0 < j) {x y : α} (hx : l[j]? = some x) (hy : l[j - 1]? = some y) :
    compF key (l.take (j + 1)) = compF key (l.take j) ++ (if key x = key y then [] else [x]) := by
  rw [List.take_add_one, hx]
  obtain ⟨p, r, hl⟩ : ∃ p r, l.take j = p :: r := by
    cases h : l.take j with
    | nil =>
      have h2 : (l.take j)[j - 1]? = some y := by rw [List.getElem?_take_of_lt (by omega)]; exact hy
      rw [h] at h2; cases h2
    | cons p r => exact ⟨p, r, rfl⟩
  have hlast : (l.take j).getLast? = some y := by
    rw [List.getLast?_eq_getElem?]
    have hlen : (l.take j).length = j := by
      rw [List.length_take]
      have := (List.getElem?_eq_some_iff.1 hx).1
      omega
    rw [hlen, List.getElem?_take_of_lt (by omega)]
    exact hy
  rw [hl] at hlast ⊢
  show p :: compC key (key p) (r ++ [x]) = _
  rw [compC_snoc]
  have e : (r.getLast?.map key).getD (key p) = key y := by
    cases r with
    | nil => simp at hlast; simp [hlast]
    | cons q r =>
      rw [List.getLast?_cons_cons] at hlast
      rw [hlast]; rfl
  rw [e]
  rfl
theorem compF_len_le (l : List α) : (compF key l).length ≤ l.length := by
  have h : ∀ (l : List α) prev, (compC key prev l).length ≤ l.length := by
    intro l
    induction l with
    | nil => intro _; exact Nat.le_refl _
    | cons p r ih =>
      intro prev
      unfold compC
      split
      · exact Nat.le_succ_of_le (ih _)
      · exact Nat.succ_le_succ (ih _)
  cases l with
  | nil => exact Nat.le_refl _
  | cons p r => exact Nat.succ_le_succ (h r _)
/-- Where no two neighbours are one, nothing is left out. -/
theorem compF_all (l : List α) : ∀ j, j ≤ l.length → (∀ i x y, 0 < i → i < j → l[i]? = some x → l[i - 1]? = some y → key x ≠ key y) → compF key (l.take j) = l.take j := by
  intro j
  induction j with
  | zero => intro _ _; simp [compF]
  | succ j ih =>
    intro hj h
    have hx : l[j]? = some l[j] := List.getElem?_eq_getElem (by omega)
    rcases Nat.eq_zero_or_pos j with h0 | h0
    · subst h0
      rw [List.take_add_one, hx]; simp [compF, compC]
    · have hy : l[j - 1]? = some l[j - 1] := List.getElem?_eq_getElem (by omega)
      rw [compF_take key h0 hx hy, if_neg (h j _ _ h0 (by omega) hx hy), ih (by omega) (fun i x y h1 h2 => h i x y h1 (by omega)), List.take_add_one, hx]
      rfl
theorem compF_sub {t : α} (l : List α) (h : t ∈ compF key l) : t ∈ l := by
  have hc : ∀ (l : List α) prev, t ∈ compC key prev l → t ∈ l := by
    intro l
    induction l with
    | nil => intro _ h; exact h
    | cons p r ih =>
      intro prev h
      unfold compC at h
      split at h
      · exact .tail _ (ih _ h)
      · rcases List.mem_cons.1 h with rfl | h
        · exact .head _
        · exact .tail _ (ih _ h)
  cases l with
  | nil => exact h
  | cons p r =>
    rcases List.mem_cons.1 h with rfl | h
    · exact .head _
    · exact .tail _ (hc r _ h)
end

theorem compC_of : ∀ (l : List Tv) (x : Tv), (x :: l).Pairwise (fun a b => ¬ ltT b a) → SortOf (x :: compC id x l) (x :: l)
  | [], x, _ => ⟨by simp [compC], fun _ => Iff.rfl⟩
  | y :: r, x, h => by
    rw [List.pairwise_cons] at h
    unfold compC
    split
    · rename_i e
      have e : y = x := e
      subst e
      have ih := compC_of r y h.2
      exact ⟨ih.up, fun t => by rw [ih.mem]; simp⟩
    · rename_i e
      have e : y ≠ x := e
      have ih := compC_of r y h.2
      refine ⟨?_, fun t => by rw [List.mem_cons, List.mem_cons (a := t) (b := x) (l := y :: r)]; exact or_congr_right (ih.mem t)⟩
      rw [List.pairwise_cons]
      refine ⟨fun t ht => ?_, ih.up⟩
      have ht' := (ih.mem t).1 ht
      have hxy : ltT x y := by
        rcases ltT_total (Ne.symm e) with h' | h'
        · exact h'
        · exact absurd h' (h.1 y (by simp))
      rcases List.mem_cons.1 ht' with rfl | h'
      · exact hxy
      · have h2 := h.2
        rw [List.pairwise_cons] at h2
        have h3 := h2.1 t h'
        by_cases e : y = t
        · rw [← e]; exact hxy
        · rcases ltT_total e with h4 | h4
          · exact ltT_trans hxy h4
          · exact absurd h4 h3
theorem compF_of (l : List Tv) (h : l.Pairwise (fun a b => ¬ ltT b a)) : SortOf (compF id l) l := by
  cases l with
  | nil => exact ⟨List.Pairwise.nil, fun _ => Iff.rfl⟩
  | cons x l => exact compC_of l x h

theorem swoT {α : Type} (p : α → Tv) : Go.Sort.SWO (fun a b => decide (cmpT (p a) (p b) < 0)) where
  irrefl x := decide_eq_false (ltT_irrefl (p x))
  trans x y z h1 h2 := decide_eq_true (ltT_trans (of_decide_eq_true h1) (of_decide_eq_true h2))
  ntrans x y z h1 h2 := by
    have h1 := of_decide_eq_false h1
    have h2 := of_decide_eq_false h2
    refine decide_eq_false fun h3 => ?_
    by_cases e : p x = p y
    · rw [e] at h3; exact h2 h3
    · rcases ltT_total e with h | h
      · exact h1 h
      · exact h2 (ltT_trans h h3)
end Go.Idl
