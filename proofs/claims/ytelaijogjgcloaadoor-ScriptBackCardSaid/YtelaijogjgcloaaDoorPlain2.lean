/- What is printed is read as it was, and what is read is printed as it was. Plain Lean. -/
import Derived.Test.YtelaijogjgcloaaDoorPlain
namespace Go.Scr

/-! Digits of bytes -/
theorem hexD_nat {x : Nat} (h : x < 16) : (hexD x).toNat = if x < 10 then 48 + x else 87 + x := by
  unfold hexD
  split
  · rw [UInt8.toNat_ofNat']; omega
  · rw [UInt8.toNat_ofNat']; omega
theorem half_hex {x : Nat} (h : x < 16) : halfP (hexD x) = some x := by
  unfold halfP
  rw [hexD_nat h]
  by_cases h10 : x < 10
  · rw [if_pos h10, if_pos (by omega)]; congr 1; omega
  · rw [if_neg h10, if_neg (by omega), if_pos (by omega)]; congr 1; omega
theorem hex_half {c : UInt8} {x : Nat} (h : halfP c = some x) : hexD x = c ∧ x < 16 := by
  unfold halfP at h
  have hc := c.toNat_lt
  split at h
  · injection h with h
    subst h
    refine ⟨UInt8.toNat_inj.1 ?_, by omega⟩
    rw [hexD_nat (by omega), if_pos (by omega)]; omega
  · split at h
    · injection h with h
      subst h
      refine ⟨UInt8.toNat_inj.1 ?_, by omega⟩
      rw [hexD_nat (by omega), if_neg (by omega)]; omega
    · cases h
theorem pairs_raw : ∀ (b : List UInt8), pairsP (b.flatMap fun x => [hexD (x.toNat / 16), hexD (x.toNat % 16)]) = some b
  | [] => rfl
  | x :: b => by
    have hx := x.toNat_lt
    rw [List.flatMap_cons]
    simp only [List.cons_append, List.nil_append]
    unfold pairsP
    rw [half_hex (by omega), half_hex (by omega), pairs_raw b]
    simp only
    congr 2
    apply UInt8.toNat_inj.1
    rw [UInt8.toNat_ofNat']; omega
theorem raw_pairs : ∀ (s : Txt) (b : List UInt8), pairsP s = some b → (b.flatMap fun x => [hexD (x.toNat / 16), hexD (x.toNat % 16)]) = s
  | [], b, h => by simp only [pairsP, Option.some.injEq] at h; subst h; rfl
  | [_], b, h => by simp [pairsP] at h
  | a :: c :: l, b, h => by
    unfold pairsP at h
    split at h
    · rename_i x y r h1 h2 h3
      injection h with h
      subst h
      obtain ⟨rfl, hx⟩ := hex_half h1
      obtain ⟨rfl, hy⟩ := hex_half h2
      rw [List.flatMap_cons, raw_pairs l r h3]
      have e : (UInt8.ofNat (16 * x + y)).toNat = 16 * x + y := by rw [UInt8.toNat_ofNat']; omega
      rw [e, show (16 * x + y) / 16 = x by omega, show (16 * x + y) % 16 = y by omega]
      rfl
    · cases h
theorem rawT_ne (b : List UInt8) : rawT b ≠ [] := by
  unfold rawT
  cases b with
  | nil => simp
  | cons x b => simp
theorem rawT_dash {b : List UInt8} (h : b ≠ []) : rawT b ≠ [45] := by
  unfold rawT
  rw [if_neg h]
  cases b with
  | nil => exact absurd rfl h
  | cons x b => simp
theorem raw_text (b : List UInt8) : rawP (rawT b) = some b := by
  unfold rawP
  by_cases h : b = []
  · subst h; rfl
  · rw [if_neg (rawT_dash h), if_neg (rawT_ne b)]
    unfold rawT
    rw [if_neg h]
    exact pairs_raw b
theorem text_raw {s : Txt} {b : List UInt8} (h : rawP s = some b) : rawT b = s := by
  unfold rawP at h
  split at h
  · rename_i h1; injection h with h; subst h h1; rfl
  · split at h
    · cases h
    · rename_i h1 h2
      have := raw_pairs s b h
      unfold rawT
      rw [if_neg, this]
      rintro rfl
      exact h2 this.symm
theorem keep_text (l : List Bool) : keepP (keepT l) = some l := by
  unfold keepP keepT
  by_cases h : l = []
  · subst h; rfl
  · rw [if_neg h]
    have h1 : (l.map fun x => if x = true then (49 : UInt8) else 48) ≠ [45] := by
      cases l with
      | nil => exact absurd rfl h
      | cons x l => cases x <;> simp
    rw [if_neg h1, if_neg (by simpa using h), if_pos]
    · congr 1
      rw [List.map_map]
      induction l with
      | nil => rfl
      | cons x l ih =>
        cases l with
        | nil => cases x <;> rfl
        | cons y l => 
          rw [List.map_cons, ih (by simp)]
          · cases x <;> rfl
          · cases y <;> simp
    · rw [List.all_eq_true]
      intro c hc
      obtain ⟨x, _, rfl⟩ := List.mem_map.1 hc
      cases x <;> rfl
theorem text_keep {s : Txt} {l : List Bool} (h : keepP s = some l) : keepT l = s := by
  unfold keepP at h
  split at h
  · rename_i h1; injection h with h; subst h h1; rfl
  · split at h
    · cases h
    · split at h
      · rename_i h1 h2 h3
        injection h with h
        subst h
        unfold keepT
        rw [if_neg (by simpa using h2), List.map_map]
        rw [List.all_eq_true] at h3
        have : ∀ (s : Txt), (∀ c ∈ s, decide (c = 48 ∨ c = 49) = true) → s.map ((fun x => if x = true then (49 : UInt8) else 48) ∘ fun c => decide (c = 49)) = s := by
          intro s
          induction s with
          | nil => intro _; rfl
          | cons c s ih =>
            intro hs
            rw [List.map_cons, ih (fun c hc => hs c (.tail _ hc))]
            congr 1
            have := of_decide_eq_true (hs c (.head _))
            rcases this with rfl | rfl <;> rfl
        exact this s h3
      · cases h

/-! No blanks and no line feeds within the parts -/
def Clean (s : Txt) : Prop := (32 : UInt8) ∉ s ∧ (10 : UInt8) ∉ s
theorem clean_of {s : Txt} (h : ∀ c ∈ s, 33 ≤ c.toNat) : Clean s := ⟨fun e => by have := h _ e; revert this; decide, fun e => by have := h _ e; revert this; decide⟩
theorem clean_num (n : Int) (h : 0 ≤ n) : Clean (numT n) := by
  apply clean_of
  intro c hc
  unfold numT Go.Lib.itoa at hc
  rw [if_neg (by omega)] at hc
  have := List.all_eq_true.1 (dec_digs n.toNat) c hc
  have := of_decide_eq_true this
  omega
theorem clean_raw (b : List UInt8) : Clean (rawT b) := by
  apply clean_of
  intro c hc
  unfold rawT at hc
  split at hc
  · simp at hc; subst hc; decide
  · rw [List.mem_flatMap] at hc
    obtain ⟨x, _, hx⟩ := hc
    have hxl := x.toNat_lt
    simp only [List.mem_cons, List.mem_nil_iff, or_false] at hx
    rcases hx with rfl | rfl
    · rw [hexD_nat (by omega)]; split <;> omega
    · rw [hexD_nat (by omega)]; split <;> omega
theorem clean_keep (l : List Bool) : Clean (keepT l) := by
  apply clean_of
  intro c hc
  unfold keepT at hc
  split at hc
  · simp at hc; subst hc; decide
  · obtain ⟨x, _, rfl⟩ := List.mem_map.1 hc
    cases x <;> decide
theorem clean_word (k : Int) : Clean (word k) := by
  apply clean_of
  intro c hc
  unfold word at hc
  repeat' split at hc
  all_goals revert c; decide
theorem clean_plan : Clean wPlan := by constructor <;> decide

/-! Lines -/
theorem evL_ne (x : Ev) : evL x ≠ [] := by
  unfold evL
  by_cases h1 : x.kind = 1
  · simp [h1]
  · by_cases h2 : x.kind = 2 ∨ x.kind = 5 ∨ x.kind = 6
    · simp [h1, h2]
    · by_cases h3 : x.kind = 7
      · simp [h3]
      · by_cases h4 : x.kind = 8
        · simp [h4]
        · simp [h1, h2, h3, h4]
theorem clean_evL {p : Plan} {x : Ev} (h : rightE p x = true) : ∀ a ∈ evL x, Clean a := by
  unfold rightE at h
  rw [Bool.and_eq_true] at h
  obtain ⟨_, h1, h2, _⟩ := of_decide_eq_true h.1
  intro a ha
  unfold evL at ha
  repeat' split at ha
  all_goals
    simp only [List.mem_cons, List.mem_nil_iff, or_false] at ha
  · rcases ha with rfl | rfl | rfl
    · exact clean_word _
    · exact clean_num _ h1.1
    · exact clean_raw _
  · rcases ha with rfl | rfl
    · exact clean_word _
    · exact clean_num _ h2.1
  · rcases ha with rfl | rfl
    · exact clean_word _
    · exact clean_keep _
  · rcases ha with rfl | rfl
    · exact clean_word _
    · exact clean_num _ h1.1
  · subst ha; exact clean_word _
theorem ev_line {p : Plan} {x : Ev} (hp : planB p = true) (h : rightE p x = true) : evP (evL x) = some x := by
  unfold rightE at h
  rw [Bool.and_eq_true] at h
  obtain ⟨⟨hk1, hk2⟩, h1, h2, _⟩ := of_decide_eq_true h.1
  have ho := of_decide_eq_true h.2
  have hpc : p.c ≤ 4 := by
    unfold planB at hp
    rw [Bool.and_eq_true] at hp
    have := of_decide_eq_true hp.2
    omega
  obtain ⟨k, conn, n, bytes, keep⟩ := x
  simp only at hk1 hk2 h1 h2
  have hn1 := num_text h1.1 (by omega : conn < 10000000000)
  have hn2 := num_text h2.1 (by omega : n < 10000000000)
  have hk : k = 1 ∨ k = 2 ∨ k = 3 ∨ k = 4 ∨ k = 5 ∨ k = 6 ∨ k = 7 ∨ k = 8 := by omega
  rcases hk with rfl | rfl | rfl | rfl | rfl | rfl | rfl | rfl
  all_goals
    simp [only] at ho
    simp [evL, evP, word, hn1, hn2, raw_text, keep_text, ho]
theorem word_inj {k : Int} (h1 : 1 ≤ k) (h2 : k ≤ 8) {j : Int} (h3 : 1 ≤ j) (h4 : j ≤ 8) (h : word k = word j) : k = j := by
  have hk : k = 1 ∨ k = 2 ∨ k = 3 ∨ k = 4 ∨ k = 5 ∨ k = 6 ∨ k = 7 ∨ k = 8 := by omega
  have hj : j = 1 ∨ j = 2 ∨ j = 3 ∨ j = 4 ∨ j = 5 ∨ j = 6 ∨ j = 7 ∨ j = 8 := by omega
  rcases hk with rfl | rfl | rfl | rfl | rfl | rfl | rfl | rfl <;> rcases hj with rfl | rfl | rfl | rfl | rfl | rfl | rfl | rfl <;> first | rfl | (exfalso; revert h; decide)
theorem line_ev {l : List Txt} {x : Ev} (h : evP l = some x) : evL x = l ∧ x = only x := by
  unfold evP at h
  split at h
  · repeat' split at h
    all_goals first
      | (injection h with h; subst h; simp_all [evL, only, word]; done)
      | cases h
  · repeat' split at h
    all_goals first
      | (cases h; done)
      | (rw [Option.map_eq_some_iff] at h
         obtain ⟨y, hy, rfl⟩ := h
         first
         | (have := (text_num hy).1; simp_all [evL, only, word]; done)
         | (have := text_keep hy; simp_all [evL, only, word]; done))
  · repeat' split at h
    all_goals first
      | (cases h; done)
      | (injection h with h
         subst h
         rename_i h1 _ _ _ _ h2 h3
         have := (text_num h2).1
         have := text_raw h3
         simp_all [evL, only, word]
         done)
  · cases h
end Go.Scr
