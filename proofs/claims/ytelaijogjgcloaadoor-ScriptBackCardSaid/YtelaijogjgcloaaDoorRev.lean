/- reader.event, its plain part. No condition. -/
import Derived.Test.YtelaijogjgcloaaDoorRby2
import Derived.Lib.SlicesS
set_option linter.unusedVariables false
set_option linter.unusedSimpArgs false
namespace Go.Proofs.YtelaijogjgcloaaDoor
open Go.RowKit Go.Ice Go.Scr

/-- A word's kind, as the program finds it. -/
def kindOf (s : Txt) : Int :=
  if s = [] then 0 else if s = word 1 then 1 else if s = word 2 then 2 else if s = word 3 then 3 else if s = word 4 then 4 else if s = word 5 then 5 else if s = word 6 then 6 else if s = word 7 then 7 else if s = word 8 then 8 else -1
def wordsB : List ByteArray := [⟨([] : Txt).toArray⟩, ⟨(word 1).toArray⟩, ⟨(word 2).toArray⟩, ⟨(word 3).toArray⟩, ⟨(word 4).toArray⟩, ⟨(word 5).toArray⟩, ⟨(word 6).toArray⟩, ⟨(word 7).toArray⟩, ⟨(word 8).toArray⟩]
theorem ba_eq (a s : Txt) : ((⟨a.toArray⟩ : ByteArray) = ⟨s.toArray⟩) ↔ s = a := by
  constructor
  · intro h
    injection h with h
    simpa using (congrArg Array.toList h).symm
  · rintro rfl; rfl
theorem idx_words (s : Txt) : Lib.idxOfS (wordsB.take 9) ⟨s.toArray⟩ = kindOf s := by
  show Lib.idxOfS wordsB _ = _
  unfold Lib.idxOfS wordsB
  simp only [Lib.idxFromS, ba_eq]
  rfl
theorem kindOf_cases (s : Txt) : (kindOf s = 1 ∧ s = word 1) ∨ (kindOf s = 2 ∧ s = word 2) ∨ (kindOf s = 3 ∧ s = word 3) ∨ (kindOf s = 4 ∧ s = word 4) ∨ (kindOf s = 5 ∧ s = word 5) ∨ (kindOf s = 6 ∧ s = word 6) ∨ (kindOf s = 7 ∧ s = word 7) ∨ (kindOf s = 8 ∧ s = word 8) ∨
    ((kindOf s = 0 ∨ kindOf s = -1) ∧ s ≠ word 1 ∧ s ≠ word 2 ∧ s ≠ word 3 ∧ s ≠ word 4 ∧ s ≠ word 5 ∧ s ≠ word 6 ∧ s ≠ word 7 ∧ s ≠ word 8) := by
  unfold kindOf
  split
  · rename_i h; subst h; right; right; right; right; right; right; right; right; refine ⟨.inl rfl, ?_⟩; decide
  · repeat' split
    all_goals simp_all
/-- What a reader makes of an event's line. -/
def EvOut (L : List Txt) (x : Ev) (bad : Bool) (rest : List Txt) : Prop :=
  (evP L = some x ∧ bad = false ∧ rest = []) ∨ (evP L = none ∧ (bad = true ∨ rest ≠ [] ∨ ¬ (1 ≤ x.kind ∧ x.kind ≤ 8)))
theorem numP_nil : numP [] = none := by decide
theorem rawP_nil : rawP [] = none := by decide
theorem keepP_nil : keepP [] = none := by decide
theorem evOut1 (l : List Txt) (b : List UInt8) (hb : ∀ r, rawP (l.tail.headD []) = some r → b = r) : EvOut (word 1 :: l) ⟨1, (numP (l.headD [])).getD 0, 0, b, []⟩ ((numP (l.headD [])).isNone || (rawP (l.tail.headD [])).isNone) l.tail.tail := by
  cases l with
  | nil => right; exact ⟨by decide, .inl (by decide)⟩
  | cons a l => cases l with
    | nil => right; exact ⟨by unfold evP; simp [word], .inl (by simp [rawP_nil])⟩
    | cons c l => cases l with
      | nil =>
        simp only [List.headD_cons, List.tail_cons] at hb ⊢
        unfold EvOut
        simp only [evP, if_true]
        cases numP a with
        | none => right; simp
        | some n => cases h : rawP c with
          | none => right; simp
          | some r => left; rw [hb r h]; simp
      | cons d l => right; exact ⟨rfl, .inr (.inl (by simp))⟩
theorem evOutN (k : Int) (hk : k = 2 ∨ k = 5 ∨ k = 6) (l : List Txt) : EvOut (word k :: l) ⟨k, 0, (numP (l.headD [])).getD 0, [], []⟩ (numP (l.headD [])).isNone l.tail := by
  cases l with
  | nil => right; rcases hk with rfl | rfl | rfl <;> exact ⟨by decide, .inl (by decide)⟩
  | cons a l => cases l with
    | nil =>
      simp only [List.headD_cons, List.tail_cons]
      unfold EvOut
      rcases hk with rfl | rfl | rfl
      all_goals
        simp only [evP, word]
        cases numP a with
        | none => right; simp
        | some n => left; simp
    | cons d l => right; refine ⟨?_, .inr (.inl (by simp))⟩; cases l with
      | nil => unfold evP; rcases hk with rfl | rfl | rfl <;> simp [word]
      | cons e l => rfl
theorem evOut7 (l : List Txt) (kp : List Bool) (hb : ∀ r, keepP (l.headD []) = some r → kp = r) : EvOut (word 7 :: l) ⟨7, 0, 0, [], kp⟩ (keepP (l.headD [])).isNone l.tail := by
  cases l with
  | nil => right; exact ⟨by decide, .inl (by decide)⟩
  | cons a l => cases l with
    | nil =>
      simp only [List.headD_cons, List.tail_cons] at hb ⊢
      unfold EvOut
      simp only [evP, word]
      cases h : keepP a with
      | none => right; simp
      | some n => left; rw [hb n h]; simp
    | cons d l => right; refine ⟨?_, .inr (.inl (by simp))⟩; cases l with
      | nil => unfold evP; simp [word]
      | cons e l => rfl
theorem evOut8 (l : List Txt) : EvOut (word 8 :: l) ⟨8, (numP (l.headD [])).getD 0, 0, [], []⟩ (numP (l.headD [])).isNone l.tail := by
  cases l with
  | nil => right; exact ⟨by decide, .inl (by decide)⟩
  | cons a l => cases l with
    | nil =>
      simp only [List.headD_cons, List.tail_cons]
      unfold EvOut
      simp only [evP, word]
      cases h : numP a with
      | none => right; simp
      | some n => left; simp
    | cons d l => right; refine ⟨?_, .inr (.inl (by simp))⟩; cases l with
      | nil => unfold evP; simp [word]
      | cons e l => rfl
theorem evOut0 (k : Int) (hk : k = 3 ∨ k = 4) (l : List Txt) : EvOut (word k :: l) ⟨k, 0, 0, [], []⟩ false l := by
  cases l with
  | nil => left; rcases hk with rfl | rfl <;> exact ⟨by decide, rfl, rfl⟩
  | cons a l => right; refine ⟨?_, .inr (.inl (by simp))⟩; cases l with
    | nil => unfold evP; rcases hk with rfl | rfl <;> simp [word]
    | cons e l => cases l with
      | nil => unfold evP; rcases hk with rfl | rfl <;> simp [word]
      | cons _ _ => rfl
theorem evOutX (s : Txt) (k : Int) (hk : k = 0 ∨ k = -1) (l : List Txt) (h : s ≠ word 1 ∧ s ≠ word 2 ∧ s ≠ word 3 ∧ s ≠ word 4 ∧ s ≠ word 5 ∧ s ≠ word 6 ∧ s ≠ word 7 ∧ s ≠ word 8) : EvOut (s :: l) ⟨k, 0, 0, [], []⟩ false l := by
  obtain ⟨h1, h2, h3, h4, h5, h6, h7, h8⟩ := h
  right
  refine ⟨?_, .inr (.inr (by rcases hk with rfl | rfl <;> decide))⟩
  cases l with
  | nil => simp [evP, h3, h4]
  | cons a l => cases l with
    | nil => simp [evP, h2, h5, h6, h7, h8]
    | cons b l => cases l with
      | nil => simp [evP, h1]
      | cons _ _ => rfl
/-- What a reader makes of a plan's line. -/
def PlOut (L : List Txt) (p : Plan) (bad : Bool) (rest : List Txt) : Prop :=
  (planP L = some p ∧ bad = false ∧ rest = []) ∨ (planP L = none ∧ (bad = true ∨ rest ≠ []))
def numO (l : List Txt) : Option Int := numP (l.headD [])
def numV (l : List Txt) : Int := (numO l).getD 0
theorem plOut (L : List Txt) (hL : L ≠ []) : PlOut L ⟨numV L.tail, numV L.tail.tail, numV L.tail.tail.tail, numV L.tail.tail.tail.tail, numV L.tail.tail.tail.tail.tail⟩
    (decide (L.headD [] ≠ wPlan) || (numO L.tail).isNone || (numO L.tail.tail).isNone || (numO L.tail.tail.tail).isNone || (numO L.tail.tail.tail.tail).isNone || (numO L.tail.tail.tail.tail.tail).isNone) L.tail.tail.tail.tail.tail.tail := by
  have hn : ∀ (A B C D E : Bool), (A || B || C || D || E || true) = true := fun A B C D E => by simp
  match L, hL with
  | [w], _ => right; exact ⟨rfl, .inl (hn ..)⟩
  | [w, a], _ => right; exact ⟨rfl, .inl (hn ..)⟩
  | [w, a, b], _ => right; exact ⟨rfl, .inl (hn ..)⟩
  | [w, a, b, c], _ => right; exact ⟨rfl, .inl (hn ..)⟩
  | [w, a, b, c, d], _ => right; exact ⟨rfl, .inl (hn ..)⟩
  | w :: a :: b :: c :: d :: e :: f :: l, _ => right; exact ⟨rfl, .inr (by simp)⟩
  | [w, a, b, c, d, e], _ =>
    unfold PlOut
    simp only [planP, numV, numO, List.headD_cons, List.tail_cons]
    by_cases hw : w = wPlan
    · rw [if_pos hw]
      cases numP a <;> cases numP b <;> cases numP c <;> cases numP d <;> cases numP e <;> simp [hw]
    · rw [if_neg hw]
      right; exact ⟨rfl, .inl (by simp [hw])⟩
end Go.Proofs.YtelaijogjgcloaaDoor
