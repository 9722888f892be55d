/- Plain lemmas for the document's Parse: lines, plans, events. No condition. -/
import Derived.Test.YtelaijogjgcloaaDoorRnm
import Derived.Test.YtelaijogjgcloaaDoorSpl
import Derived.Test.YtelaijogjgcloaaDoorPnt
set_option linter.unusedVariables false
set_option linter.unusedSimpArgs false
namespace Go.Proofs.YtelaijogjgcloaaDoor
open Go.RowKit Go.Ice Go.Scr

theorem lineP_len {p : Plan} (hp : planB p = true) : (lineP p).length ≤ 100 := by
  have h := plan_facts hp
  rw [lineP_rest]
  have h2 := restT_len (planN5 p) (fun n hn => by have := h n hn; omega)
  have h3 : (planN5 p).length = 5 := rfl
  have h4 : wPlan.length = 4 := rfl
  rw [List.length_append]; omega
/-- What the document's plan says of a line. -/
def PlR (line : Txt) (p : Plan) (b : Bool) : Prop := (b = true ∧ planP (splitC 32 line) = some p) ∨ (b = false ∧ (planP (splitC 32 line) = none ∨ 100 < line.length))
/-- What the document's event says of a line. -/
def EvR (line : Txt) (x : Ev) (b : Bool) : Prop := (b = true ∧ evP (splitC 32 line) = some x) ∨ (b = false ∧ (evP (splitC 32 line) = none ∨ 10000 < line.length))
theorem planP_line {line : Txt} {p : Plan} (h : planP (splitC 32 line) = some p) : lineP p = line := by
  have h1 := line_plan h
  unfold lineP
  rw [h1, join_split]
theorem evP_line {line : Txt} {x : Ev} (h : evP (splitC 32 line) = some x) : lineE x = line := by
  have h1 := (line_ev h).1
  unfold lineE
  rw [h1, join_split]
theorem rpar_plan {t line r : Txt} {p : Plan} {b : Bool} (hc : cutL t = some (line, r)) (hp : PlR line p b) :
    if b && planB p then ParS t (line.length + 1) p [] else parseP t = .error 0 := by
  obtain ⟨e1, e2⟩ := cutL_drop hc
  rcases hp with ⟨rfl, h1⟩ | ⟨rfl, h1⟩
  · cases hb : planB p with
    | false =>
      simp only [Bool.and_false]
      unfold parseP
      rw [hc]
      simp only [h1, hb]
      rfl
    | true =>
      simp only [Bool.and_true, if_true]
      right
      refine ⟨by omega, by omega, hb, by simp, r.length, ?_, ?_⟩
      · rw [← e1]; exact Nat.le_refl _
      · rw [← e1]
        unfold parseP
        rw [hc]
        simp only [h1, hb, if_true]
        cases evsP p r.length [] (line.length + 1) r <;> rfl
  · simp only [Bool.false_and]
    unfold parseP
    rw [hc]
    rcases h1 with h1 | h1
    · simp [h1]
    · cases hpp : planP (splitC 32 line) with
      | none => simp [hpp]
      | some q =>
        have h2 := planP_line hpp
        cases hb : planB q with
        | true => have := lineP_len hb; rw [h2] at this; omega
        | false => simp [hpp, hb]
theorem rpar_no0 {t : Txt} (hc : cutL t = none) : parseP t = .error 0 := by unfold parseP; rw [hc]
theorem rpar_no {t : Txt} {a : Nat} {p : Plan} {evs : List Ev} (h : ParS t a p evs) (ha : 0 < a) (hl : a < t.length) (hc : cutL (t.drop a) = none) : parseP t = .error a := by
  have := par_ev_no (line := []) (p' := p) (evs' := evs) (wrong := true) (bad := true) (rest := []) h ha hl hc rfl
  unfold ParN at this
  simpa using this
theorem rpar_ev {t line r : Txt} {a : Nat} {p : Plan} {evs : List Ev} {x : Ev} {b : Bool} (h : ParS t a p evs) (ha : 0 < a) (hl : a < t.length) (hc : cutL (t.drop a) = some (line, r)) (hx : EvR line x b) :
    if b && rightE p x && decide (evs.length < 200) then ParS t (a + line.length + 1) p (evs ++ [x]) else parseP t = .error a := by
  rcases h with ⟨h0, _⟩ | ⟨h0, h00, hpb, h200, f, hf, h⟩
  · omega
  have hne : t.drop a ≠ [] := fun e => by have := congrArg List.length e; rw [List.length_drop] at this; simp at this; omega
  obtain ⟨e1, e2⟩ := cutL_drop hc
  cases f with
  | zero => rw [List.length_drop] at hf; omega
  | succ f =>
    rw [evsP, if_neg hne, hc] at h
    rcases hx with ⟨rfl, g1⟩ | ⟨rfl, g1⟩
    · simp only [g1] at h
      rw [Bool.true_and]
      by_cases hr : (rightE p x && decide (evs.length < 200)) = true
      · rw [if_pos hr] at h ⊢
        simp only [Bool.and_eq_true, decide_eq_true_eq] at hr
        rw [List.drop_drop] at e1
        rw [List.length_drop] at e2
        have e3 : a + line.length + 1 = a + (line.length + 1) := by omega
        right
        refine ⟨by omega, by omega, hpb, by rw [List.length_append]; simp; omega, f, ?_, ?_⟩
        · rw [e3, List.length_drop]; rw [List.length_drop] at hf; omega
        · rw [e3, ← e1, ← e3]; exact h
      · rw [if_neg hr] at h ⊢
        exact h
    · rw [Bool.false_and, Bool.false_and, if_neg (by simp)]
      rcases g1 with g1 | g1
      · simp only [g1] at h; exact h
      · cases hpp : evP (splitC 32 line) with
        | none => simp only [hpp] at h; exact h
        | some q =>
          have h2 := evP_line hpp
          cases hq : rightE p q with
          | true => have := lineE_len hpb hq; rw [h2] at this; omega
          | false =>
            simp only [hpp, hq] at h
            simpa using h
theorem cut_at {t : Txt} {a e : Nat} (hae : a ≤ e) (h10 : t[e]? = some 10) (hno : (10 : UInt8) ∉ (t.drop a).take (e - a)) : cutL (t.drop a) = some ((t.drop a).take (e - a), t.drop (e + 1)) := by
  apply cutL_some.2
  refine ⟨?_, hno⟩
  have hlt := (List.getElem?_eq_some_iff.1 h10).1
  have hd : t.drop e = 10 :: t.drop (e + 1) := by
    rw [List.drop_eq_getElem_cons hlt]
    congr 1
    exact (List.getElem?_eq_some_iff.1 h10).2
  rw [← hd]
  have : t.drop e = (t.drop a).drop (e - a) := by rw [List.drop_drop]; congr 1; omega
  rw [this, List.take_append_drop]
theorem cut_end {t : Txt} {a e : Nat} (he : t.length ≤ e) (hno : (10 : UInt8) ∉ (t.drop a).take (e - a)) : cutL (t.drop a) = none := by
  apply cutL_none.2
  rw [List.take_of_length_le (by rw [List.length_drop]; omega)] at hno
  exact hno
theorem no10_step {t : Txt} {a e : Nat} {c : UInt8} (hae : a ≤ e) (hc : t[e]? = some c) (hne : c ≠ 10) (hno : (10 : UInt8) ∉ (t.drop a).take (e - a)) : (10 : UInt8) ∉ (t.drop a).take (e + 1 - a) := by
  have : e + 1 - a = (e - a) + 1 := by omega
  rw [this, List.take_add_one, List.getElem?_drop, show a + (e - a) = e by omega, hc]
  rw [List.mem_append]
  rintro (h | h)
  · exact hno h
  · simp at h; exact hne h.symm
end Go.Proofs.YtelaijogjgcloaaDoor
