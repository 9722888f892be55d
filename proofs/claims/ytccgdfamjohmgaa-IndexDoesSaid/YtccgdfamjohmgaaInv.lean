/- Plain: what an index keeps, as lists of places. No program. -/
import Derived.Test.YtccgdfamjohmgaaNew
set_option linter.unusedVariables false
namespace Go.Proofs.Ytccgdfamjohmgaa
open Go.RowKit Go.Ice

/-! ### Links -/

theorem links_congr {nx nx' : Nat → Int} {s : Int} {l : List Nat} (h : Links nx s l) (he : ∀ k ∈ l, nx' k = nx k) : Links nx' s l := by
  induction l generalizing s with
  | nil => exact h
  | cons k l ih =>
    obtain ⟨h1, h2⟩ := h
    refine ⟨h1, ?_⟩
    rw [he k (by simp)]
    exact ih h2 fun j hj => he j (by simp [hj])

theorem links_upd {nx : Nat → Int} {s : Int} {l : List Nat} {i : Nat} {v : Int} (h : Links nx s l) (hi : i ∉ l) : Links (upd nx i v) s l :=
  links_congr h fun k hk => by unfold upd; rw [if_neg (fun e : k = i => hi (e ▸ hk))]

theorem links_start {nx : Nat → Int} {s s' : Int} {l : List Nat} (h : Links nx s l) (h' : Links nx s' l) : s = s' := by
  cases l with
  | nil => exact h.trans h'.symm
  | cons k l => exact h.1.trans h'.1.symm

theorem links_cut {nx : Nat → Int} {s : Int} {l : List Nat} {j : Nat} {m : List Nat} (h : Links nx s (l ++ j :: m)) : Links nx (nx j) m ∧ ∀ (nx' : Nat → Int) (m' : List Nat), (∀ k ∈ l, nx' k = nx k) → Links nx' (nx' j) m' → Links nx' s (l ++ j :: m') := by
  induction l generalizing s with
  | nil => exact ⟨h.2, fun nx' m' _ h' => ⟨h.1, h'⟩⟩
  | cons k l ih =>
    obtain ⟨h1, h2⟩ := h
    obtain ⟨h3, h4⟩ := ih h2
    refine ⟨h3, fun nx' m' he h' => ⟨h1, ?_⟩⟩
    rw [he k (by simp)]
    exact h4 nx' m' (fun i hi => he i (by simp [hi])) h'

theorem links_lt {nx : Nat → Int} {s : Int} {l : List Nat} (h : Links nx s l) : s = -1 ∨ ∃ j : Nat, s = j ∧ j ∈ l := by
  cases l with
  | nil => exact .inl h
  | cons k l => exact .inr ⟨k, h.1, by simp⟩

/-! ### locate -/

abbrev hit (S : IdxS) (f : Nat) (a : Adr) (k : Nat) : Prop := S.fng k = f ∧ S.adr k = a

theorem locate_none {S : IdxS} {f : Nat} {a : Adr} {l : List Nat} (hno : ∀ k ∈ l, ¬ hit S f a k) : ∀ {q : Loc}, Links S.chain (q.val S) l → (locate S f a q l).val S = -1 := by
  induction l with
  | nil => intro q h; exact h
  | cons k l ih =>
    intro q h
    show (if S.fng k = f ∧ S.adr k = a then q else locate S f a (false, k) l).val S = -1
    rw [if_neg (hno k (by simp))]
    exact ih (fun j hj => hno j (by simp [hj])) h.2

theorem locate_hit {S : IdxS} {f : Nat} {a : Adr} {l1 l2 : List Nat} {i : Nat} (hi : hit S f a i) (hno : ∀ k ∈ l1, ¬ hit S f a k) : ∀ {q : Loc}, Links S.chain (q.val S) (l1 ++ i :: l2) →
    (locate S f a q (l1 ++ i :: l2)).val S = i ∧ ((l1 = [] ∧ locate S f a q (l1 ++ i :: l2) = q) ∨ ∃ l3 j, l1 = l3 ++ [j] ∧ locate S f a q (l1 ++ i :: l2) = (false, j)) := by
  induction l1 with
  | nil =>
    intro q h
    have e : locate S f a q ([] ++ i :: l2) = q := by
      show (if S.fng i = f ∧ S.adr i = a then q else _) = q
      rw [if_pos hi]
    rw [e]
    exact ⟨h.1, .inl ⟨rfl, rfl⟩⟩
  | cons k l1 ih =>
    intro q h
    have e : locate S f a q (k :: l1 ++ i :: l2) = locate S f a (false, k) (l1 ++ i :: l2) := by
      show (if S.fng k = f ∧ S.adr k = a then q else _) = _
      rw [if_neg (hno k (by simp))]
      rfl
    rw [e]
    obtain ⟨h1, h2⟩ := ih (fun j hj => hno j (by simp [hj])) (q := (false, k)) h.2
    refine ⟨h1, .inr ?_⟩
    rcases h2 with ⟨rfl, h2⟩ | ⟨l3, j, rfl, h2⟩
    · exact ⟨[], k, rfl, h2⟩
    · exact ⟨k :: l3, j, rfl, h2⟩

theorem locate_fits {S : IdxS} {f : Nat} {a : Adr} {N : Nat} {l : List Nat} (hl : ∀ k ∈ l, k < N) : ∀ {q : Loc}, q.fits N → (locate S f a q l).fits N := by
  induction l with
  | nil => intro q h; exact h
  | cons k l ih =>
    intro q h
    show (if S.fng k = f ∧ S.adr k = a then q else locate S f a (false, k) l).fits N
    split
    · exact h
    · exact ih (fun j hj => hl j (by simp [hj])) (show Loc.fits N (false, k) from hl k (by simp))

/-! ### What an index keeps -/

def bucket (fng : Nat → Nat) (N h : Nat) (E : List Nat) : List Nat := E.reverse.filter fun k => fng k % N == h

structure Inv (S : IdxS) (N : Nat) (E F : List Nat) : Prop where
  hN : 1 ≤ N ∧ N ≤ 1024
  nodup : (E ++ F).Nodup
  lt : ∀ k ∈ E ++ F, k < N
  len : E.length + F.length = N
  n : S.n = E.length
  row : Links S.next S.first E
  back : Links S.ahead S.last E.reverse
  free : Links S.chain S.free F
  chains : ∀ h, h < N → Links S.chain (S.heads h) (bucket S.fng N h E)
  fits : ∀ k ∈ E, S.fng k ≤ 4294967295

/-- The entries, the oldest first. -/
def ents (S : IdxS) (E : List Nat) : List (Nat × Adr) := E.map fun k => (S.fng k, S.adr k)

section
variable {S : IdxS} {N : Nat} {E F : List Nat}

theorem Inv.disj (h : Inv S N E F) : E.Nodup ∧ F.Nodup ∧ ∀ k ∈ E, k ∉ F := by
  have := List.nodup_append.1 h.nodup
  exact ⟨this.1, this.2.1, fun k hk hf => this.2.2 k hk k hf rfl⟩

theorem bucket_mem {fng : Nat → Nat} {h k : Nat} (hk : k ∈ bucket fng N h E) : k ∈ E ∧ fng k % N = h := by
  unfold bucket at hk
  rw [List.mem_filter, List.mem_reverse] at hk
  exact ⟨hk.1, by simpa using hk.2⟩

theorem Inv.bucket_lt (h : Inv S N E F) {b : Nat} : ∀ k ∈ bucket S.fng N b E, k < N := fun k hk => h.lt k (List.mem_append_left _ (bucket_mem hk).1)

theorem bucket_len (fng : Nat → Nat) (b : Nat) (E : List Nat) : (bucket fng N b E).length ≤ E.length := by
  unfold bucket
  exact Nat.le_trans (List.length_filter_le _ _) (by simp)

/-- What Find tells, of the entries. -/
theorem findL_eq (S : IdxS) (f : Nat) (l : List Nat) : findL S f l = ((l.filter fun k => S.fng k == f).map S.adr) := by
  induction l with
  | nil => rfl
  | cons k l ih =>
    unfold findL
    by_cases h : S.fng k = f
    · rw [if_pos h, List.filter_cons_of_pos (by simpa using h), List.map_cons, ih]
    · rw [if_neg h, List.filter_cons_of_neg (by simpa using h), ih]

theorem findL_bucket (S : IdxS) (f : Nat) (E : List Nat) : findL S f (bucket S.fng N (f % N) E) = ((ents S E).reverse.filter fun e => e.1 == f).map (·.2) := by
  rw [findL_eq]
  unfold bucket ents
  rw [List.filter_filter, ← List.map_reverse, List.filter_map, List.map_map]
  congr 1
  apply List.filter_congr
  intro k _
  by_cases h : S.fng k = f
  · simp [h]
  · simp [h]

/-- The empty index. -/
theorem inv_new (h1 : 1 ≤ N) (h2 : N ≤ 1024) : Inv (newS N) N [] (List.range N) := by
  refine ⟨⟨h1, h2⟩, by simpa using List.nodup_range, by simp, by simp, rfl, rfl, rfl, ?_, fun h _ => rfl, by simp⟩
  have key : ∀ m k, m + k = N → 0 < m → Links (newS N).chain k (List.range' k m) := by
    intro m
    induction m with
    | zero => intro k _ h; omega
    | succ m ih =>
      intro k hk _
      rw [List.range'_succ]
      refine ⟨rfl, ?_⟩
      rcases Nat.eq_zero_or_pos m with h | h
      · subst h
        show (if k = N - 1 then (-1 : Int) else (k : Int) + 1) = -1
        rw [if_pos (by omega)]
      · have e : (newS N).chain k = ((k + 1 : Nat) : Int) := by
          show (if k = N - 1 then (-1 : Int) else (k : Int) + 1) = _
          rw [if_neg (by omega)]; rfl
        rw [e]
        exact ih (k + 1) (by omega) h
  rw [List.range_eq_range']
  exact key N 0 (by omega) (by omega)

theorem bucket_snoc (fng : Nat → Nat) (b i : Nat) (E : List Nat) : bucket fng N b (E ++ [i]) = (if fng i % N = b then [i] else []) ++ bucket fng N b E := by
  unfold bucket
  rw [List.reverse_append, List.reverse_singleton, List.singleton_append, List.filter_cons]
  by_cases h : fng i % N = b
  · simp [h]
  · simp [h]
theorem bucket_congr {fng fng' : Nat → Nat} {b : Nat} {E : List Nat} (h : ∀ k ∈ E, fng' k = fng k) : bucket fng' N b E = bucket fng N b E := by
  unfold bucket
  apply List.filter_congr
  intro k hk
  rw [h k (List.mem_reverse.1 hk)]

/-- An entry is added at the first free place. -/
theorem Inv.add {i f : Nat} {a : Adr} (h : Inv S N E (i :: F)) (hf : f ≤ 4294967295) : Inv (addS S N f a i) N (E ++ [i]) F ∧ ents (addS S N f a i) (E ++ [i]) = ents S E ++ [(f, a)] ∧ S.free = i ∧ i < N := by
  obtain ⟨hE, hiF, hd⟩ := h.disj
  have hiE : i ∉ E := fun hi => hd i hi (by simp)
  have hF : i ∉ F := (List.nodup_cons.1 hiF).1
  obtain ⟨hfree, hch⟩ := h.free
  have hiN : i < N := h.lt i (by simp)
  have hfN : f % N < N := Nat.mod_lt _ (by have := h.hN.1; omega)
  have hEf : ∀ k ∈ E, (upd S.fng i f) k = S.fng k := fun k hk => by unfold upd; rw [if_neg (fun e : k = i => hiE (e ▸ hk))]
  refine ⟨⟨h.hN, ?_, ?_, ?_, ?_, ?_, ?_, ?_, ?_, ?_⟩, ?_, hfree, hiN⟩
  · rw [List.append_assoc]; exact h.nodup
  · intro k hk; exact h.lt k (by simpa [List.append_assoc] using hk)
  · have := h.len; simp at this ⊢; omega
  · show S.n + 1 = _; rw [h.n]; simp
  · -- the row
    rcases List.eq_nil_or_concat E with rfl | ⟨E', j, rfl⟩
    · have hl : S.last = -1 := h.back
      show Links (if S.last = -1 then upd S.next i (-1) else _) (if S.last = -1 then (i : Int) else S.first) [i]
      rw [if_pos hl, if_pos hl]
      exact ⟨rfl, by simp [Links, upd]⟩
    · rw [List.concat_eq_append] at *
      have hb := h.back
      rw [List.reverse_append] at hb
      have hl : S.last = j := hb.1
      have hl1 : S.last ≠ -1 := by rw [hl]; omega
      have hj : j ≠ i := fun e => hiE (by rw [e]; simp)
      show Links (if S.last = -1 then _ else upd (upd S.next i (-1)) S.last.toNat i) (if S.last = -1 then (i : Int) else S.first) (E' ++ [j] ++ [i])
      rw [if_neg hl1, if_neg hl1, hl, show ((j : Int)).toNat = j from rfl, List.append_assoc]
      refine (links_cut h.row).2 _ _ (fun k hk => ?_) ?_
      · have h1 : k ≠ j := fun e => by
          have := List.nodup_append.1 hE
          exact this.2.2 k hk j (by simp) e
        have h2 : k ≠ i := fun e => hiE (by rw [← e]; simp [hk])
        unfold upd; rw [if_neg h1, if_neg h2]
      · refine ⟨by unfold upd; rw [if_pos rfl], ?_⟩
        show upd (upd S.next i (-1)) j i i = -1
        unfold upd; rw [if_neg (Ne.symm hj), if_pos rfl]
  · -- the row, backwards
    show Links (upd S.ahead i S.last) i (E ++ [i]).reverse
    rw [List.reverse_append]
    refine ⟨rfl, ?_⟩
    have e : upd S.ahead i S.last i = S.last := by unfold upd; rw [if_pos rfl]
    rw [e]
    exact links_upd h.back (by simpa using hiE)
  · -- the free places
    show Links (upd S.chain i (S.heads (f % N))) (S.chain i) F
    exact links_upd hch hF
  · -- the chains
    intro b hb
    show Links (upd S.chain i (S.heads (f % N))) (upd S.heads (f % N) i b) (bucket (upd S.fng i f) N b (E ++ [i]))
    rw [bucket_snoc, bucket_congr hEf]
    have hib : i ∉ bucket S.fng N b E := fun hi => hiE (bucket_mem hi).1
    have e : upd S.fng i f i = f := by unfold upd; rw [if_pos rfl]
    rw [e]
    by_cases hfb : f % N = b
    · subst hfb
      rw [if_pos rfl]
      refine ⟨by unfold upd; rw [if_pos rfl], ?_⟩
      have e2 : upd S.chain i (S.heads (f % N)) i = S.heads (f % N) := by unfold upd; rw [if_pos rfl]
      rw [e2]
      exact links_upd (h.chains _ hb) hib
    · rw [if_neg hfb]
      have e2 : upd S.heads (f % N) i b = S.heads b := by unfold upd; rw [if_neg (Ne.symm hfb)]
      rw [e2]
      exact links_upd (h.chains _ hb) hib
  · intro k hk
    show upd S.fng i f k ≤ _
    unfold upd
    split
    · exact hf
    · rename_i hki
      rcases List.mem_append.1 hk with hk | hk
      · exact h.fits k hk
      · exact absurd (List.mem_singleton.1 hk) hki
  · unfold ents
    rw [List.map_append]
    congr 1
    · apply List.map_congr_left
      intro k hk
      have : k ≠ i := fun e => hiE (e ▸ hk)
      show (upd S.fng i f k, upd S.adr i a k) = _
      unfold upd; rw [if_neg this, if_neg this]
    · show [(upd S.fng i f i, upd S.adr i a i)] = _
      unfold upd; rw [if_pos rfl, if_pos rfl]
end
end Go.Proofs.Ytccgdfamjohmgaa
