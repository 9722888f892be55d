/- script.Parse, its plain part: a line further. No condition. -/
import Derived.Test.YtelaijogjgcloaaDoorSpl
set_option linter.unusedVariables false
set_option linter.unusedSimpArgs false
namespace Go.Proofs.YtelaijogjgcloaaDoor
open Go.RowKit Go.Ice Go.Scr

def plan0 : Plan := ⟨0, 0, 0, 0, 0⟩
/-- What a parse has come to at a place. -/
def ParS (t : Txt) (a : Nat) (p : Plan) (evs : List Ev) : Prop :=
  (a = 0 ∧ t ≠ [] ∧ p = plan0 ∧ evs = []) ∨
  (0 < a ∧ a ≤ t.length ∧ planB p = true ∧ evs.length ≤ 200 ∧ ∃ f, (t.drop a).length ≤ f ∧ parseP t = match evsP p f evs a (t.drop a) with
    | .error k => .error k
    | .ok e => .ok ⟨p, e⟩)
/-- A line is read: what it makes of the parse. -/
def ParN (t : Txt) (a : Nat) (line : Txt) (p : Plan) (evs : List Ev) (wrong bad : Bool) (rest : List Txt) : Prop :=
  if wrong || bad || decide (0 < rest.length) then parseP t = .error a else ParS t (a + line.length + 1) p evs
theorem par_end {t : Txt} {a : Nat} {p : Plan} {evs : List Ev} (h : ParS t a p evs) (ha : t.length ≤ a) : parseP t = .ok ⟨p, evs⟩ := by
  rcases h with ⟨rfl, h, _, _⟩ | ⟨h0, _, _, _, f, hf, h⟩
  · exact absurd (List.length_eq_zero_iff.1 (by omega)) h
  · have e : t.drop a = [] := List.drop_eq_nil_of_le ha
    rw [h, e]
    cases f with
    | zero => rfl
    | succ f => rfl
theorem cutL_drop {s l r : Txt} (h : cutL s = some (l, r)) : r = s.drop (l.length + 1) ∧ l.length + 1 ≤ s.length := by
  obtain ⟨rfl, _⟩ := cutL_some.1 h
  refine ⟨?_, by simp⟩
  rw [show l ++ 10 :: r = (l ++ [10]) ++ r by simp, List.drop_left' (by simp)]
theorem par_plan_no {t : Txt} {line : Txt} {p : Plan} {evs : List Ev} {wrong bad : Bool} {rest : List Txt} (hc : cutL t = none) (hw : wrong = true) : ParN t 0 line p evs wrong bad rest := by
  unfold ParN
  rw [hw, if_pos (by simp)]
  unfold parseP
  rw [hc]
theorem par_plan {t line r : Txt} {p : Plan} {wrong bad : Bool} {rest : List Txt} (hc : cutL t = some (line, r)) (hp : PlOut (splitC 32 line) p bad rest) (hw : wrong = !planB p) : ParN t 0 line p [] wrong bad rest := by
  unfold ParN
  rcases hp with ⟨h1, rfl, rfl⟩ | ⟨h1, h2⟩
  · cases hb : planB p with
    | false =>
      rw [hw, hb, if_pos (by rfl)]
      unfold parseP
      rw [hc]
      simp only [h1, hb]
      rfl
    | true =>
      rw [hw, hb, if_neg (by simp)]
      obtain ⟨e1, e2⟩ := cutL_drop hc
      right
      refine ⟨by omega, by omega, hb, by simp, r.length, ?_, ?_⟩
      · rw [Nat.zero_add, ← e1]; exact Nat.le_refl _
      · rw [Nat.zero_add, ← e1]
        unfold parseP
        rw [hc]
        simp only [h1, hb, if_true]
        cases evsP p r.length [] (line.length + 1) r <;> rfl
  · have : (wrong || bad || decide (0 < rest.length)) = true := by
      rcases h2 with rfl | h2
      · simp
      · have : decide (0 < rest.length) = true := by simpa using List.length_pos_iff.2 h2
        rw [this]; simp
    rw [if_pos this]
    unfold parseP
    rw [hc]
    simp only [h1]
theorem par_ev_no {t : Txt} {a : Nat} {line : Txt} {p p' : Plan} {evs evs' : List Ev} {wrong bad : Bool} {rest : List Txt} (h : ParS t a p evs) (ha : 0 < a) (hl : a < t.length) (hc : cutL (t.drop a) = none) (hw : wrong = true) : ParN t a line p' evs' wrong bad rest := by
  unfold ParN
  rw [hw, if_pos (by simp)]
  rcases h with ⟨h0, _⟩ | ⟨h0, _, _, _, f, hf, h⟩
  · omega
  · have hne : t.drop a ≠ [] := fun e => by have := congrArg List.length e; rw [List.length_drop] at this; simp at this; omega
    cases f with
    | zero => rw [List.length_drop] at hf; omega
    | succ f =>
      rw [h, evsP, if_neg hne, hc]
theorem par_ev {t line r : Txt} {a : Nat} {p : Plan} {evs : List Ev} {x : Ev} {wrong bad : Bool} {rest : List Txt} (h : ParS t a p evs) (ha : 0 < a) (hl : a < t.length) (hc : cutL (t.drop a) = some (line, r)) (hx : EvOut (splitC 32 line) x bad rest)
    (hw : wrong = (!rightE p x || decide (evs.length = 200))) : ParN t a line p (evs ++ [x]) wrong bad rest := by
  unfold ParN
  rcases h with ⟨h0, _⟩ | ⟨h0, h00, hpb, h200, f, hf, h⟩
  · omega
  · have hne : t.drop a ≠ [] := fun e => by have := congrArg List.length e; rw [List.length_drop] at this; simp at this; omega
    obtain ⟨e1, e2⟩ := cutL_drop hc
    cases f with
    | zero => rw [List.length_drop] at hf; omega
    | succ f =>
      rw [evsP, if_neg hne, hc] at h
      rcases hx with ⟨g1, rfl, rfl⟩ | ⟨g1, g2⟩
      · simp only [g1] at h
        by_cases hr : rightE p x = true ∧ evs.length < 200
        · have hd : (rightE p x && decide (evs.length < 200)) = true := by simp [hr.1, hr.2]
          have hwf : wrong = false := by rw [hw, hr.1]; simp; omega
          rw [hd, if_pos rfl] at h
          rw [hwf, if_neg (by simp)]
          rw [List.drop_drop] at e1
          rw [List.length_drop] at e2
          have e3 : a + line.length + 1 = a + (line.length + 1) := by omega
          right
          refine ⟨by omega, by omega, hpb, by rw [List.length_append]; simp; omega, f, ?_, ?_⟩
          · rw [e3, List.length_drop]; rw [List.length_drop] at hf; omega
          · rw [e3, ← e1, ← e3]; exact h
        · have hd : (rightE p x && decide (evs.length < 200)) = false := by
            cases hq : rightE p x with
            | false => rfl
            | true => simp; exact Nat.le_of_not_lt fun e => hr ⟨hq, e⟩
          have hwt : wrong = true := by
            rw [hw]
            cases hq : rightE p x with
            | false => rfl
            | true => simp; have : ¬ evs.length < 200 := fun e => hr ⟨hq, e⟩; omega
          rw [hd, if_neg (by simp)] at h
          rw [hwt, if_pos (by simp)]
          exact h
      · simp only [g1] at h
        have : (wrong || bad || decide (0 < rest.length)) = true := by
          rcases g2 with rfl | g2 | g2
          · simp
          · have : decide (0 < rest.length) = true := by simpa using List.length_pos_iff.2 g2
            rw [this]; simp
          · have hq : rightE p x = false := by
              unfold rightE
              rw [decide_eq_false (fun e => g2 e.1)]; rfl
            rw [hw, hq]; simp
        rw [if_pos this]
        exact h
end Go.Proofs.YtelaijogjgcloaaDoor
