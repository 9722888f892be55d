/- Plain: an entry is taken out of an index. No program. -/
import Derived.Test.YtccgdfamjohmgaaInv
set_option linter.unusedVariables false
namespace Go.Proofs.Ytccgdfamjohmgaa
open Go.RowKit Go.Ice
section
variable {S : IdxS} {N : Nat} {E F : List Nat}

theorem bucket_mid (fng : Nat → Nat) (b i : Nat) (E1 E2 : List Nat) : bucket fng N b (E1 ++ i :: E2) = bucket fng N b E2 ++ ((if fng i % N = b then [i] else []) ++ bucket fng N b E1) := by
  unfold bucket
  rw [List.reverse_append, List.reverse_cons, List.append_assoc, List.filter_append, List.singleton_append, List.filter_cons]
  by_cases h : fng i % N = b
  · simp [h]
  · simp [h]
theorem bucket_two (fng : Nat → Nat) (b : Nat) (E1 E2 : List Nat) : bucket fng N b (E1 ++ E2) = bucket fng N b E2 ++ bucket fng N b E1 := by
  unfold bucket
  rw [List.reverse_append, List.filter_append]

theorem nodup_rev {l : List Nat} (h : l.Nodup) : l.reverse.Nodup := (List.reverse_perm l).nodup_iff.2 h

/-- A row with one place taken out: the links that lead on. -/
theorem row_out {nx : Nat → Int} {s : Int} {E1 E2 : List Nat} {i : Nat} (h : Links nx s (E1 ++ i :: E2)) (hnd : (E1 ++ i :: E2).Nodup) (pr : Int) (hpr : (E1 = [] ∧ pr = -1) ∨ ∃ E' j, E1 = E' ++ [j] ∧ pr = (j : Nat)) :
    Links (if pr = -1 then nx else upd nx pr.toNat (nx i)) (if pr = -1 then nx i else s) (E1 ++ E2) := by
  have hc := (links_cut h).1
  rcases hpr with ⟨rfl, rfl⟩ | ⟨E', j, rfl, rfl⟩
  · rw [if_pos rfl, if_pos rfl]
    exact hc
  · have h1 : (j : Int) ≠ -1 := by omega
    rw [if_neg h1, if_neg h1, show ((j : Int)).toNat = j from rfl, List.append_assoc]
    rw [List.append_assoc] at h hnd
    have hnd2 := List.nodup_append.1 hnd
    refine (links_cut h).2 _ _ (fun k hk => ?_) ?_
    · have : k ≠ j := fun e => hnd2.2.2 k hk j (by simp) e
      unfold upd; rw [if_neg this]
    · have e : upd nx j (nx i) j = nx i := by unfold upd; rw [if_pos rfl]
      rw [e]
      refine links_upd hc ?_
      have := (List.nodup_cons.1 hnd2.2.1).1
      intro hj; exact this (List.mem_cons_of_mem _ hj)

theorem last_cases (E1 : List Nat) : E1 = [] ∨ ∃ E' j, E1 = E' ++ [j] := by
  rcases List.eq_nil_or_concat E1 with h | ⟨E', j, h⟩
  · exact .inl h
  · exact .inr ⟨E', j, by rw [h, List.concat_eq_append]⟩

theorem Inv.take {E1 E2 : List Nat} {i : Nat} {p : Loc} (h : Inv S N (E1 ++ i :: E2) F) (hno : ∀ k ∈ E1 ++ E2, ¬ hit S (S.fng i) (S.adr i) k)
    (hp : locate S (S.fng i) (S.adr i) (true, S.fng i % N) (bucket S.fng N (S.fng i % N) (E1 ++ i :: E2)) = p) :
    (p.fits N ∧ p.val S = i ∧ i < N ∧ p ≠ (false, i) ∧ (S.ahead i = -1 ∨ ∃ j : Nat, S.ahead i = j ∧ j < N ∧ j ≠ i) ∧ (S.next i = -1 ∨ ∃ j : Nat, S.next i = j ∧ j < N ∧ j ≠ i) ∧ 1 ≤ S.n) ∧
    Inv (takeS S p i) N (E1 ++ E2) (i :: F) ∧ ents (takeS S p i) (E1 ++ E2) = ents S (E1 ++ E2) := by
  obtain ⟨hE, hF, hd⟩ := h.disj
  have hN := h.hN
  have hE' := List.nodup_append.1 hE
  have hi1 : i ∉ E1 := fun hi => hE'.2.2 i hi i (by simp) rfl
  have hi2 : i ∉ E2 := (List.nodup_cons.1 hE'.2.1).1
  have hiF : i ∉ F := hd i (by simp)
  have hiN : i < N := h.lt i (by simp)
  have hbN : S.fng i % N < N := Nat.mod_lt _ (by omega)
  have hch := h.chains _ hbN
  rw [bucket_mid, if_pos rfl, List.singleton_append] at hch hp
  have hno1 : ∀ k ∈ bucket S.fng N (S.fng i % N) E2, ¬ hit S (S.fng i) (S.adr i) k := fun k hk => hno k (List.mem_append_right _ (bucket_mem hk).1)
  obtain ⟨hval, hpc⟩ := locate_hit (q := (true, S.fng i % N)) (l1 := bucket S.fng N (S.fng i % N) E2) (l2 := bucket S.fng N (S.fng i % N) E1) ⟨rfl, rfl⟩ hno1 hch
  rw [hp] at hval hpc
  have hfit : p.fits N := by
    rw [← hp]
    refine locate_fits (fun k hk => ?_) (show Loc.fits N (true, S.fng i % N) from hbN)
    rcases List.mem_append.1 hk with hk | hk
    · exact h.lt k (by have := (bucket_mem hk).1; simp [this])
    · rcases List.mem_cons.1 hk with rfl | hk
      · exact hiN
      · exact h.lt k (by have := (bucket_mem hk).1; simp [this])
  have hback := h.back
  rw [List.reverse_append, List.reverse_cons, List.append_assoc, List.singleton_append] at hback
  have hA := (links_cut hback).1
  have hX := (links_cut h.row).1
  have hrev : (E2.reverse ++ i :: E1.reverse).Nodup := by
    have : (E1 ++ i :: E2).reverse.Nodup := nodup_rev hE
    rw [List.reverse_append, List.reverse_cons, List.append_assoc, List.singleton_append] at this
    exact this
  have hpi : p ≠ (false, i) := by
    rcases hpc with ⟨_, e⟩ | ⟨l3, j, e1, e2⟩
    · rw [e]; intro e; cases e
    · rw [e2]
      intro e
      have : j = i := by injection e
      subst this
      have : j ∈ bucket S.fng N (S.fng j % N) E2 := by rw [e1]; simp
      exact hi2 (bucket_mem this).1
  have hAc : (E1 = [] ∧ S.ahead i = -1) ∨ ∃ E' j, E1 = E' ++ [j] ∧ S.ahead i = (j : Nat) := by
    rcases last_cases E1 with rfl | ⟨E', j, rfl⟩
    · exact .inl ⟨rfl, hA⟩
    · rw [List.reverse_append] at hA
      exact .inr ⟨E', j, rfl, hA.1⟩
  have hXc : (E2 = [] ∧ S.next i = -1) ∨ ∃ j E', E2 = j :: E' ∧ S.next i = (j : Nat) := by
    cases E2 with
    | nil => exact .inl ⟨rfl, hX⟩
    | cons j E' => exact .inr ⟨j, E', rfl, hX.1⟩
  refine ⟨⟨hfit, hval, hiN, hpi, ?_, ?_, ?_⟩, ⟨hN, ?_, ?_, ?_, ?_, ?_, ?_, ?_, ?_, ?_⟩, rfl⟩
  · rcases hAc with ⟨_, e⟩ | ⟨E', j, e1, e2⟩
    · exact .inl e
    · exact .inr ⟨j, e2, h.lt j (by rw [e1]; simp), fun e => hi1 (by rw [e1, ← e]; simp)⟩
  · rcases hXc with ⟨_, e⟩ | ⟨j, E', e1, e2⟩
    · exact .inl e
    · exact .inr ⟨j, e2, h.lt j (by rw [e1]; simp), fun e => hi2 (by rw [e1, ← e]; simp)⟩
  · rw [h.n]; simp; omega
  · have hperm : ((E1 ++ i :: E2) ++ F).Perm ((E1 ++ E2) ++ i :: F) := by
      have p1 : (E1 ++ i :: E2).Perm (i :: (E1 ++ E2)) := List.perm_middle
      exact (p1.append_right F).trans (List.perm_middle (l₁ := E1 ++ E2) (l₂ := F) (a := i)).symm
    exact (hperm.nodup_iff).1 h.nodup
  · intro k hk
    refine h.lt k ?_
    simp only [List.mem_append, List.mem_cons] at hk ⊢
    rcases hk with (hk | hk) | hk | hk
    · exact .inl (.inl hk)
    · exact .inl (.inr (.inr hk))
    · exact .inl (.inr (.inl hk))
    · exact .inr hk
  · have := h.len; simp at this ⊢; omega
  · show S.n - 1 = _; rw [h.n]; simp
  · -- the row
    exact row_out h.row hE (S.ahead i) hAc
  · -- the row, backwards
    show Links (if S.next i = -1 then S.ahead else upd S.ahead (S.next i).toNat (S.ahead i)) (if S.next i = -1 then S.ahead i else S.last) (E1 ++ E2).reverse
    rw [List.reverse_append]
    refine row_out hback hrev (S.next i) ?_
    rcases hXc with ⟨rfl, e⟩ | ⟨j, E', rfl, e⟩
    · exact .inl ⟨rfl, e⟩
    · exact .inr ⟨E'.reverse, j, by simp, e⟩
  · -- the free places
    show Links (upd (if p.1 then S.chain else upd S.chain p.2 (S.chain i)) i S.free) i (i :: F)
    refine ⟨rfl, ?_⟩
    have e : upd (if p.1 then S.chain else upd S.chain p.2 (S.chain i)) i S.free i = S.free := by unfold upd; rw [if_pos rfl]
    rw [e]
    refine links_upd ?_ hiF
    rcases hpc with ⟨_, e⟩ | ⟨l3, j, e1, e2⟩
    · rw [e]; exact h.free
    · rw [e2]
      refine links_upd h.free (hd j ?_)
      have : j ∈ bucket S.fng N (S.fng i % N) E2 := by rw [e1]; simp
      have := (bucket_mem this).1
      simp [this]
  · -- the chains
    intro b hb
    show Links (upd (if p.1 then S.chain else upd S.chain p.2 (S.chain i)) i S.free) ((if p.1 then upd S.heads p.2 (S.chain i) else S.heads) b) (bucket S.fng N b (E1 ++ E2))
    rw [bucket_two]
    have hib : i ∉ bucket S.fng N b E2 ++ bucket S.fng N b E1 := by
      intro hi
      rcases List.mem_append.1 hi with hi | hi
      · exact hi2 (bucket_mem hi).1
      · exact hi1 (bucket_mem hi).1
    refine links_upd ?_ hib
    have hcb := h.chains b hb
    rw [bucket_mid] at hcb
    by_cases hbi : S.fng i % N = b
    · subst hbi
      rcases hpc with ⟨e1, e⟩ | ⟨l3, j, e1, e2⟩
      · rw [e, e1]
        show Links S.chain (upd S.heads (S.fng i % N) (S.chain i) (S.fng i % N)) _
        have e3 : upd S.heads (S.fng i % N) (S.chain i) (S.fng i % N) = S.chain i := by unfold upd; rw [if_pos rfl]
        rw [e3]
        rw [e1] at hch
        exact hch.2
      · rw [e2]
        show Links (upd S.chain j (S.chain i)) (S.heads (S.fng i % N)) _
        have hnd : (bucket S.fng N (S.fng i % N) E2 ++ i :: bucket S.fng N (S.fng i % N) E1).Nodup := by
          have hs : (bucket S.fng N (S.fng i % N) (E1 ++ i :: E2)).Nodup := List.Nodup.sublist List.filter_sublist (nodup_rev hE)
          rw [bucket_mid, if_pos rfl, List.singleton_append] at hs
          exact hs
        have := row_out hch hnd (j : Int) (.inr ⟨l3, j, e1, rfl⟩)
        have hj1 : (j : Int) ≠ -1 := by omega
        rw [if_neg hj1, if_neg hj1] at this
        exact this
    · rw [if_neg hbi, List.nil_append] at hcb
      rcases hpc with ⟨_, e⟩ | ⟨l3, j, e1, e2⟩
      · rw [e]
        show Links S.chain (upd S.heads (S.fng i % N) (S.chain i) b) _
        have e3 : upd S.heads (S.fng i % N) (S.chain i) b = S.heads b := by unfold upd; rw [if_neg (Ne.symm hbi)]
        rw [e3]
        exact hcb
      · rw [e2]
        show Links (upd S.chain j (S.chain i)) (S.heads b) _
        refine links_upd hcb ?_
        have hj : S.fng j % N = S.fng i % N := by
          have : j ∈ bucket S.fng N (S.fng i % N) E2 := by rw [e1]; simp
          exact (bucket_mem this).2
        intro hj2
        rcases List.mem_append.1 hj2 with hj2 | hj2
        · exact hbi (hj.symm.trans (bucket_mem hj2).2)
        · exact hbi (hj.symm.trans (bucket_mem hj2).2)
  · intro k hk
    exact h.fits k (by
      rcases List.mem_append.1 hk with hk | hk
      · simp [hk]
      · simp [hk])
end
end Go.Proofs.Ytccgdfamjohmgaa
