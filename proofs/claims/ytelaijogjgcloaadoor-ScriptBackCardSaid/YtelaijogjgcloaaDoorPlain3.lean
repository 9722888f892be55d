/- A script's text is read as the script, and a text that is read is the script's text; a text that is wrong from a line on is wrong there. Plain Lean. -/
import Derived.Test.YtelaijogjgcloaaDoorPlain2
namespace Go.Scr

theorem plan_line {p : Plan} (h : planB p = true) : planP (planL p) = some p := by
  unfold planB at h
  rw [Bool.and_eq_true] at h
  have h1 := of_decide_eq_true h.1
  have h2 := of_decide_eq_true h.2
  obtain ⟨g, s, l, q, c⟩ := p
  simp only at h1 h2
  simp [planL, planP, num_text (n := g) (by omega) (by omega), num_text (n := s) (by omega) (by omega), num_text (n := l) (by omega) (by omega), num_text (n := q) (by omega) (by omega), num_text (n := c) (by omega) (by omega)]
theorem line_plan {l : List Txt} {p : Plan} (h : planP l = some p) : planL p = l := by
  unfold planP at h
  split at h
  · split at h
    · split at h
      · rename_i h1 _ _ _ _ _ _ _ _ _ _ h2 h3 h4 h5 h6
        injection h with h
        subst h
        have e1 := (text_num h2).1
        have e2 := (text_num h3).1
        have e3 := (text_num h4).1
        have e4 := (text_num h5).1
        have e5 := (text_num h6).1
        simp [planL, e1, e2, e3, e4, e5, h1]
      · cases h
    · cases h
  · cases h
theorem clean_planL {p : Plan} (h : planB p = true) : ∀ a ∈ planL p, Clean a := by
  unfold planB at h
  rw [Bool.and_eq_true] at h
  have h1 := of_decide_eq_true h.1
  have h2 := of_decide_eq_true h.2
  intro a ha
  simp only [planL, List.mem_cons, List.mem_nil_iff, or_false] at ha
  rcases ha with rfl | rfl | rfl | rfl | rfl | rfl
  · exact clean_plan
  all_goals exact clean_num _ (by omega)
theorem line_no10 {l : List Txt} (h : ∀ a ∈ l, Clean a) : (10 : UInt8) ∉ joinC 32 l := by
  intro hc
  rcases mem_joinC hc with h1 | ⟨a, h1, h2⟩
  · exact absurd h1 (by decide)
  · exact (h a h1).2 h2
theorem split_line {l : List Txt} (hl : l ≠ []) (h : ∀ a ∈ l, Clean a) : splitC 32 (joinC 32 l) = l := split_join 32 l hl fun a ha => (h a ha).1

/-- Printed, then read. -/
theorem evs_text {p : Plan} (hp : planB p = true) : ∀ (evs acc : List Ev) (fuel at_ : Nat), (∀ x ∈ evs, rightE p x = true) → acc.length + evs.length ≤ 200 → (evs.flatMap fun x => lineE x ++ [10]).length ≤ fuel →
    evsP p fuel acc at_ (evs.flatMap fun x => lineE x ++ [10]) = .ok (acc ++ evs)
  | [], acc, fuel, at_, _, _, _ => by
    cases fuel with
    | zero => simp [evsP]
    | succ f => simp [evsP]
  | x :: evs, acc, fuel, at_, hr, hl, hf => by
    have hx := hr x (.head _)
    have hc := clean_evL hx
    rw [List.flatMap_cons] at hf ⊢
    have hne : lineE x ++ [10] ++ (evs.flatMap fun x => lineE x ++ [10]) ≠ [] := by simp
    cases fuel with
    | zero => simp at hf
    | succ f =>
      unfold evsP
      rw [if_neg hne]
      have hcut : cutL (lineE x ++ [10] ++ (evs.flatMap fun x => lineE x ++ [10])) = some (lineE x, evs.flatMap fun x => lineE x ++ [10]) := cutL_some.2 ⟨by simp, line_no10 hc⟩
      rw [hcut]
      simp only
      rw [show splitC 32 (lineE x) = evL x from split_line (evL_ne x) hc, ev_line hp hx]
      simp only
      rw [hx, Bool.true_and, if_pos (by simp only [List.length_cons] at hl; simp; omega)]
      rw [evs_text hp evs (acc ++ [x]) f _ (fun y hy => hr y (.tail _ hy)) (by simp only [List.length_append, List.length_cons, List.length_nil] at hl ⊢; omega) (by simp only [List.length_append, List.length_cons, List.length_nil] at hf ⊢; omega)]
      simp
theorem parse_text {s : Scr} (h : checkS s = true) : parseP (textS s) = .ok s := by
  unfold checkS at h
  rw [Bool.and_eq_true, Bool.and_eq_true] at h
  obtain ⟨⟨h1, h2⟩, h3⟩ := h
  have hc := clean_planL h1
  unfold parseP textS
  have hcut : cutL (lineP s.plan ++ 10 :: s.evs.flatMap fun x => lineE x ++ [10]) = some (lineP s.plan, s.evs.flatMap fun x => lineE x ++ [10]) := cutL_some.2 ⟨rfl, line_no10 hc⟩
  rw [hcut]
  simp only
  rw [show splitC 32 (lineP s.plan) = planL s.plan from split_line (by simp [planL]) hc, plan_line h1]
  simp only
  rw [if_pos h1, evs_text h1 s.evs [] _ _ (List.all_eq_true.1 h3) (by simpa using of_decide_eq_true h2) (Nat.le_refl _)]
  rfl

/-- Read, then printed. -/
theorem text_evs {p : Plan} : ∀ (fuel : Nat) (acc : List Ev) (at_ : Nat) (rest : Txt) (evs : List Ev), evsP p fuel acc at_ rest = .ok evs → rest.length ≤ fuel → acc.length ≤ 200 →
    ∃ more, evs = acc ++ more ∧ rest = (more.flatMap fun x => lineE x ++ [10]) ∧ (∀ x ∈ more, rightE p x = true) ∧ evs.length ≤ 200
  | 0, acc, at_, rest, evs, h, hf, ha => by
    simp only [evsP, Except.ok.injEq] at h
    subst h
    obtain rfl : rest = [] := List.length_eq_zero_iff.1 (by omega)
    exact ⟨[], by simp, rfl, (fun x hx => by cases hx), ha⟩
  | f + 1, acc, at_, rest, evs, h, hf, ha => by
    unfold evsP at h
    split at h
    · rename_i h0
      injection h with h
      subst h h0
      exact ⟨[], by simp, rfl, (fun x hx => by cases hx), ha⟩
    · split at h
      · cases h
      · rename_i line rest' hcut
        split at h
        · cases h
        · rename_i x hev
          split at h
          · rename_i hok
            rw [Bool.and_eq_true] at hok
            have hlen := of_decide_eq_true hok.2
            obtain ⟨hr, hn⟩ := cutL_some.1 hcut
            obtain ⟨h1, h2⟩ := line_ev hev
            obtain ⟨more, g1, g2, g3, g4⟩ := text_evs f (acc ++ [x]) _ rest' evs h (by rw [hr] at hf; simp at hf; omega) (by simp; omega)
            have hline : lineE x = line := by unfold lineE; rw [h1, join_split]
            refine ⟨x :: more, by rw [g1]; simp, ?_, fun y hy => ?_, g4⟩
            · rw [List.flatMap_cons, hline, hr, ← g2]; simp
            · rcases List.mem_cons.1 hy with rfl | hy
              · exact hok.1
              · exact g3 y hy
          · cases h
theorem text_parse {t : Txt} {s : Scr} (h : parseP t = .ok s) : textS s = t ∧ checkS s = true := by
  unfold parseP at h
  split at h
  · cases h
  · rename_i line rest hcut
    split at h
    · cases h
    · rename_i p hp
      split at h
      · rename_i hpb
        split at h
        · cases h
        · rename_i evs hev
          injection h with h
          subst h
          obtain ⟨hr, hn⟩ := cutL_some.1 hcut
          obtain ⟨more, g1, g2, g3, g4⟩ := text_evs _ _ _ _ _ hev (Nat.le_refl _) (by simp)
          rw [List.nil_append] at g1
          subst g1
          refine ⟨?_, ?_⟩
          · unfold textS lineP
            simp only
            rw [line_plan hp, join_split, ← g2, hr]
          · unfold checkS
            simp only
            rw [hpb, decide_eq_true g4, Bool.true_and, Bool.true_and, List.all_eq_true]
            exact g3
      · cases h

/-! Where a text is wrong -/
theorem evs_err {p : Plan} : ∀ (fuel : Nat) (acc : List Ev) (at_ : Nat) (rest : Txt) (k : Nat), evsP p fuel acc at_ rest = .error k → rest.length ≤ fuel →
    at_ ≤ k ∧ k - at_ ≤ rest.length ∧ (k = at_ ∨ (rest.take (k - at_)).getLast? = some 10) ∧
    ∀ line tl more fuel', rest.drop (k - at_) = line ++ 10 :: tl → (10 : UInt8) ∉ line → (rest.take (k - at_) ++ line ++ 10 :: more).length ≤ fuel' → evsP p fuel' acc at_ (rest.take (k - at_) ++ line ++ 10 :: more) = .error k
  | 0, acc, at_, rest, k, h, hf => by simp [evsP] at h
  | f + 1, acc, at_, rest, k, h, hf => by
    unfold evsP at h
    split at h
    · cases h
    · rename_i hne
      split at h
      · rename_i hcut
        injection h with h
        subst h
        refine ⟨Nat.le_refl _, by omega, .inl rfl, fun line tl more fuel' h1 h2 h3 => ?_⟩
        rw [Nat.sub_self, List.drop_zero] at h1
        exact absurd (cutL_none.1 hcut) (by rw [h1]; simp)
      · rename_i line0 rest0 hcut
        obtain ⟨hr, hn⟩ := cutL_some.1 hcut
        have fail : ∀ (line : Txt) (tl more : Txt) (fuel' : Nat), rest.drop (at_ - at_) = line ++ 10 :: tl → (10 : UInt8) ∉ line → (rest.take (at_ - at_) ++ line ++ 10 :: more).length ≤ fuel' →
            line = line0 ∧ ∃ f', fuel' = f' + 1 ∧ rest.take (at_ - at_) ++ line ++ 10 :: more = line0 ++ 10 :: more := by
          intro line tl more fuel' h1 h2 h3
          rw [Nat.sub_self, List.drop_zero] at h1
          have h4 := cutL_some.2 ⟨h1, h2⟩
          rw [hcut] at h4
          injection h4 with h4
          simp only [Prod.mk.injEq] at h4
          obtain ⟨rfl, _⟩ := h4
          refine ⟨rfl, fuel' - 1, ?_, by simp⟩
          simp at h3
          omega
        split at h
        · rename_i hev
          injection h with h
          subst h
          refine ⟨Nat.le_refl _, by omega, .inl rfl, fun line tl more fuel' h1 h2 h3 => ?_⟩
          obtain ⟨rfl, f', rfl, h4⟩ := fail line tl more fuel' h1 h2 h3
          rw [h4]
          unfold evsP
          rw [if_neg (by simp), cutL_some.2 ⟨rfl, hn⟩]
          simp only [hev]
        · rename_i x hev
          split at h
          · rename_i hok
            obtain ⟨g1, g2, g3, g4⟩ := evs_err f (acc ++ [x]) _ rest0 k h (by rw [hr] at hf; simp at hf; omega)
            have hk : k - at_ = line0.length + 1 + (k - (at_ + line0.length + 1)) := by omega
            have htake : rest.take (k - at_) = line0 ++ 10 :: rest0.take (k - (at_ + line0.length + 1)) := by
              rw [hk, hr, Nat.add_assoc, List.take_length_add_append, Nat.add_comm 1, List.take_succ_cons]
            have hdrop : rest.drop (k - at_) = rest0.drop (k - (at_ + line0.length + 1)) := by
              rw [hk, hr, Nat.add_assoc, List.drop_length_add_append, Nat.add_comm 1, List.drop_succ_cons]
            refine ⟨by omega, by rw [hk, hr]; simp; omega, ?_, fun line tl more fuel' h1 h2 h3 => ?_⟩
            · right
              rw [htake]
              rcases g3 with g3 | g3
              · rw [g3, Nat.sub_self]; simp
              · rw [List.getLast?_append, List.getLast?_cons, g3]; rfl
            · rw [hdrop] at h1
              rw [htake] at h3 ⊢
              cases fuel' with
              | zero => simp at h3
              | succ f' =>
                have e : line0 ++ 10 :: rest0.take (k - (at_ + line0.length + 1)) ++ line ++ 10 :: more = line0 ++ 10 :: (rest0.take (k - (at_ + line0.length + 1)) ++ line ++ 10 :: more) := by simp
                rw [e]
                unfold evsP
                rw [if_neg (by simp), cutL_some.2 ⟨rfl, hn⟩]
                simp only [hev, hok, if_true]
                exact g4 line tl more f' h1 h2 (by rw [e] at h3; simp at h3 ⊢; omega)
          · rename_i hok
            injection h with h
            subst h
            refine ⟨Nat.le_refl _, by omega, .inl rfl, fun line tl more fuel' h1 h2 h3 => ?_⟩
            obtain ⟨rfl, f', rfl, h4⟩ := fail line tl more fuel' h1 h2 h3
            rw [h4]
            unfold evsP
            rw [if_neg (by simp), cutL_some.2 ⟨rfl, hn⟩]
            simp only [hev]
            rw [if_neg hok]
theorem parse_err {t : Txt} {k : Nat} (h : parseP t = .error k) : k ≤ t.length ∧ (k = 0 ∨ (t.take k).getLast? = some 10) ∧
    ∀ line tl more, t.drop k = line ++ 10 :: tl → (10 : UInt8) ∉ line → parseP (t.take k ++ line ++ 10 :: more) = .error k := by
  unfold parseP at h
  split at h
  · rename_i hcut
    injection h with h
    subst h
    refine ⟨Nat.zero_le _, .inl rfl, fun line tl more h1 h2 => ?_⟩
    rw [List.drop_zero] at h1
    exact absurd (cutL_none.1 hcut) (by rw [h1]; simp)
  · rename_i line0 rest0 hcut
    obtain ⟨hr, hn⟩ := cutL_some.1 hcut
    have fail : ∀ (line tl more : Txt), t.drop 0 = line ++ 10 :: tl → (10 : UInt8) ∉ line → t.take 0 ++ line ++ 10 :: more = line0 ++ 10 :: more := by
      intro line tl more h1 h2
      rw [List.drop_zero] at h1
      have h4 := cutL_some.2 ⟨h1, h2⟩
      rw [hcut] at h4
      injection h4 with h4
      simp only [Prod.mk.injEq] at h4
      obtain ⟨rfl, _⟩ := h4
      simp
    split at h
    · rename_i hp
      injection h with h
      subst h
      refine ⟨Nat.zero_le _, .inl rfl, fun line tl more h1 h2 => ?_⟩
      rw [fail line tl more h1 h2]
      unfold parseP
      rw [cutL_some.2 ⟨rfl, hn⟩]
      simp only [hp]
    · rename_i p hp
      split at h
      · rename_i hpb
        split at h
        · rename_i k' hev
          injection h with h
          subst h
          obtain ⟨g1, g2, g3, g4⟩ := evs_err _ _ _ _ _ hev (Nat.le_refl _)
          have hk : k' = line0.length + 1 + (k' - (line0.length + 1)) := by omega
          have htake : t.take k' = line0 ++ 10 :: rest0.take (k' - (line0.length + 1)) := by
            conv => lhs; rw [hk, hr, Nat.add_assoc, List.take_length_add_append, Nat.add_comm 1, List.take_succ_cons]
          have hdrop : t.drop k' = rest0.drop (k' - (line0.length + 1)) := by
            conv => lhs; rw [hk, hr, Nat.add_assoc, List.drop_length_add_append, Nat.add_comm 1, List.drop_succ_cons]
          refine ⟨by rw [hr]; simp; omega, ?_, fun line tl more h1 h2 => ?_⟩
          · right
            rw [htake]
            rcases g3 with g3 | g3
            · rw [g3, Nat.sub_self]; simp
            · rw [List.getLast?_append, List.getLast?_cons, g3]; rfl
          · rw [hdrop] at h1
            have e : t.take k' ++ line ++ 10 :: more = line0 ++ 10 :: (rest0.take (k' - (line0.length + 1)) ++ line ++ 10 :: more) := by rw [htake]; simp
            rw [e]
            unfold parseP
            rw [cutL_some.2 ⟨rfl, hn⟩]
            simp only [hp, hpb, if_true]
            rw [g4 line tl more _ h1 h2 (Nat.le_refl _)]
        · cases h
      · rename_i hpb
        injection h with h
        subst h
        refine ⟨Nat.zero_le _, .inl rfl, fun line tl more h1 h2 => ?_⟩
        rw [fail line tl more h1 h2]
        unfold parseP
        rw [cutL_some.2 ⟨rfl, hn⟩]
        simp only [hp]
        rw [if_neg hpb]
end Go.Scr
