/- The index as a list of entries: what its functions do to it. Conditions: fingers fit 32 bits. -/
import Derived.Test.YtccgdfamjohmgaaInv2
set_option linter.unusedVariables false
namespace Go.Proofs.Ytccgdfamjohmgaa
open Go.RowKit Go.Ice

/-- The index in the blocks L has N slots and the entries A, the oldest first. -/
def IdxAt (w : World) (L : Lay) (N : Nat) (A : List (Nat × Adr)) : Prop := ∃ S E F, Rep w L N S ∧ Inv S N E F ∧ ents S E = A ∧ A.Nodup

theorem IdxAt.frm {w w' : World} {L : Lay} {N : Nat} {A : List (Nat × Adr)} {T : Nat → Prop} (h : IdxAt w L N A) (hf : Frm T w w') (ht : ∀ k, L.owns k → ¬ T k) : IdxAt w' L N A := by
  obtain ⟨S, E, F, h1, h2⟩ := h
  exact ⟨S, E, F, h1.frm hf ht, h2⟩
theorem IdxAt.below {w w' : World} {L : Lay} {N : Nat} {A : List (Nat × Adr)} (h : IdxAt w L N A) (hb : Below w.heap.size w w') : IdxAt w' L N A := by
  obtain ⟨S, E, F, h1, h2⟩ := h
  exact ⟨S, E, F, h1.below hb, h2⟩
theorem IdxAt.lt {w : World} {L : Lay} {N : Nat} {A : List (Nat × Adr)} (h : IdxAt w L N A) : ∀ k, L.owns k → k < w.heap.size := by
  obtain ⟨S, E, F, h1, h2⟩ := h
  exact h1.lt
theorem IdxAt.le {w : World} {L : Lay} {N : Nat} {A : List (Nat × Adr)} (h : IdxAt w L N A) : A.length ≤ N ∧ 1 ≤ N ∧ N ≤ 1024 := by
  obtain ⟨S, E, F, h1, h2, h3, h4⟩ := h
  have := h2.len
  refine ⟨?_, h2.hN⟩
  rw [← h3]; unfold ents; rw [List.length_map]; omega

def findA (A : List (Nat × Adr)) (f : Nat) : List Adr := (A.reverse.filter fun e => e.1 == f).map (·.2)

theorem find_at (w : World) (L : Lay) (N : Nat) (A : List (Nat × Adr)) (f : Nat) (hf : f ≤ 4294967295) (h : IdxAt w L N A) :
    Calls Try.prog 16 #[.pointer (some ⟨L.bx, 0, none⟩), .int .u32 f] w fun e w' => ∃ v, e = .returned v ∧ w'.ownsRow w.heap.size 32 3 v (findA A f).length (adrCells (findA A f)) ∧ Below w.heap.size w w' := by
  obtain ⟨S, E, F, hR, hI, rfl, hnd⟩ := h
  have hN := hI.hN
  have hfN : f % N < N := Nat.mod_lt _ (by omega)
  have := findAll w L N S f (bucket S.fng N (f % N) E) hf hR (hI.chains _ hfN) hI.bucket_lt (by have := bucket_len (N := N) S.fng (f % N) E; have := hI.len; omega)
  rw [findL_bucket] at this
  exact this

theorem len_at (w : World) (L : Lay) (N : Nat) (A : List (Nat × Adr)) (h : IdxAt w L N A) :
    Calls Try.prog 17 #[.pointer (some ⟨L.bx, 0, none⟩)] w fun e w' => e = .returned (.int .i64 A.length) ∧ w = w' := by
  obtain ⟨S, E, F, hR, hI, rfl, hnd⟩ := h
  have := len w L N S hR
  rw [hI.n] at this
  unfold ents
  rw [List.length_map]
  exact this
theorem left_at (w : World) (L : Lay) (N : Nat) (A : List (Nat × Adr)) (h : IdxAt w L N A) :
    Calls Try.prog 18 #[.pointer (some ⟨L.bx, 0, none⟩)] w fun e w' => e = .returned (.int .i64 ((N - A.length : Nat) : Int)) ∧ ∃ m, w' = w.drewN m := by
  obtain ⟨S, E, F, hR, hI, rfl, hnd⟩ := h
  have := left w L N S hR (by rw [hI.n]; have := hI.len; omega)
  rw [hI.n] at this
  unfold ents
  rw [List.length_map]
  exact this

theorem mem_ents {S : IdxS} {E : List Nat} {f : Nat} {a : Adr} : (f, a) ∈ ents S E ↔ ∃ k ∈ E, hit S f a k := by
  unfold ents hit
  rw [List.mem_map]
  constructor
  · rintro ⟨k, hk, e⟩; injection e with e1 e2; exact ⟨k, hk, e1, e2⟩
  · rintro ⟨k, hk, e1, e2⟩; exact ⟨k, hk, by rw [e1, e2]⟩

/-- An entry that is there is at one place, which no other place's entry equals. -/
theorem split_ents {S : IdxS} {E : List Nat} {f : Nat} {a : Adr} (hnd : (ents S E).Nodup) (h : (f, a) ∈ ents S E) :
    ∃ E1 i E2, E = E1 ++ i :: E2 ∧ S.fng i = f ∧ S.adr i = a ∧ (∀ k ∈ E1 ++ E2, ¬ hit S f a k) ∧ ents S (E1 ++ E2) = (ents S E).filter (fun e => !decide (e = (f, a))) := by
  obtain ⟨i, hi, e1, e2⟩ := mem_ents.1 h
  obtain ⟨E1, E2, rfl⟩ := List.append_of_mem hi
  have hno : ∀ k ∈ E1 ++ E2, ¬ hit S f a k := by
    intro k hk hh
    unfold ents at hnd
    rw [List.map_append, List.map_cons] at hnd
    have hp : (List.map (fun k => (S.fng k, S.adr k)) E1 ++ (S.fng i, S.adr i) :: List.map (fun k => (S.fng k, S.adr k)) E2).Perm ((S.fng i, S.adr i) :: (List.map (fun k => (S.fng k, S.adr k)) E1 ++ List.map (fun k => (S.fng k, S.adr k)) E2)) := List.perm_middle
    have h2 := (List.nodup_cons.1 (hp.nodup_iff.1 hnd)).1
    apply h2
    rw [← List.map_append, List.mem_map]
    exact ⟨k, hk, by rw [hh.1, hh.2, e1, e2]⟩
  refine ⟨E1, i, E2, rfl, e1, e2, hno, ?_⟩
  have key : ∀ l : List Nat, (∀ k ∈ l, ¬ hit S f a k) → (ents S l).filter (fun e => !decide (e = (f, a))) = ents S l := by
    intro l hl
    rw [List.filter_eq_self]
    intro e he
    unfold ents at he
    obtain ⟨k, hk, rfl⟩ := List.mem_map.1 he
    have := hl k hk
    simp only [Bool.not_eq_true', decide_eq_false_iff_not]
    intro e; injection e with e1 e2; exact this ⟨e1, e2⟩
  have s : ∀ l1 l2 : List Nat, ents S (l1 ++ l2) = ents S l1 ++ ents S l2 := fun l1 l2 => by unfold ents; rw [List.map_append]
  rw [s, s, List.filter_append, key E1 (fun k hk => hno k (List.mem_append_left _ hk))]
  congr 1
  show _ = ((S.fng i, S.adr i) :: ents S E2).filter _
  rw [e1, e2, List.filter_cons_of_neg (by simp), key E2 (fun k hk => hno k (List.mem_append_right _ hk))]

def addA (A : List (Nat × Adr)) (N f : Nat) (a : Adr) : Int × List (Nat × Adr) := if (f, a) ∈ A then (5, A) else if A.length = N then (6, A) else (0, A ++ [(f, a)])

theorem add_at (w : World) (L : Lay) (N : Nat) (A : List (Nat × Adr)) (f : Nat) (a : Adr) (hf : f ≤ 4294967295) (h : IdxAt w L N A) :
    Calls Try.prog 13 #[.pointer (some ⟨L.bx, 0, none⟩), .int .u32 f, adrV a] w fun e w' => e = .returned (.int .i64 (addA A N f a).1) ∧ IdxAt w' L N (addA A N f a).2 ∧ Frm L.owns w w' := by
  have hA := h
  obtain ⟨S, E, F, hR, hI, rfl, hnd⟩ := h
  have hN := hI.hN
  have hfN : f % N < N := Nat.mod_lt _ (by omega)
  have hch := hI.chains _ hfN
  have hfit := locate_fits (S := S) (f := f) (a := a) (hI.bucket_lt (b := f % N)) (q := (true, f % N)) hfN
  unfold addA
  by_cases hm : (f, a) ∈ ents S E
  · rw [if_pos hm]
    obtain ⟨E1, i, E2, rfl, rfl, rfl, hno, _⟩ := split_ents hnd hm
    have ht := (hI.take hno rfl).1
    refine (add_there w L N S _ _ _ hf hR hch hI.bucket_lt hfit ?_).mono fun e w' ⟨h1, h2⟩ => ⟨h1, hA.below h2, frm_below h2⟩
    rw [ht.2.1]; omega
  · rw [if_neg hm]
    have hno : ∀ k ∈ bucket S.fng N (f % N) E, ¬ hit S f a k := fun k hk hh => hm (mem_ents.2 ⟨k, (bucket_mem hk).1, hh⟩)
    have hv := locate_none hno (q := (true, f % N)) hch
    by_cases hl : (ents S E).length = N
    · rw [if_pos hl]
      have hF : F = [] := by
        have := hI.len
        unfold ents at hl
        rw [List.length_map] at hl
        exact List.length_eq_zero_iff.1 (by omega)
      subst hF
      exact (add_full w L N S _ _ _ hf hR hch hI.bucket_lt hfit hv hI.free).mono fun e w' ⟨h1, h2⟩ => ⟨h1, hA.below h2, frm_below h2⟩
    · rw [if_neg hl]
      cases F with
      | nil =>
        exfalso
        have := hI.len
        unfold ents at hl
        rw [List.length_map] at hl
        simp at this; omega
      | cons i F =>
        obtain ⟨hI', he, hfree, hiN⟩ := hI.add (a := a) hf
        refine (add_ok w L N S f a _ i hf hR hch hI.bucket_lt hfit hv hfree hiN ?_ ?_).mono fun e w' ⟨h1, h2, h3⟩ => ⟨h1, ⟨_, _, _, h2, hI', he, ?_⟩, h3⟩
        · rcases links_lt hI.back with h | ⟨j, h1, h2⟩
          · exact .inl h
          · exact .inr ⟨j, h1, hI.lt j (by simp [List.mem_reverse.1 h2])⟩
        · rw [hI.n]; have := hI.len; omega
        · rw [List.nodup_append]
          exact ⟨hnd, by simp, fun x hx y hy => by rw [List.mem_singleton.1 hy]; exact fun e => hm (e ▸ hx)⟩

def remA (A : List (Nat × Adr)) (f : Nat) (a : Adr) : Int × List (Nat × Adr) := if (f, a) ∈ A then (0, A.filter fun e => !decide (e = (f, a))) else (4, A)

theorem remove_at (w : World) (L : Lay) (N : Nat) (A : List (Nat × Adr)) (f : Nat) (a : Adr) (hf : f ≤ 4294967295) (h : IdxAt w L N A) :
    Calls Try.prog 14 #[.pointer (some ⟨L.bx, 0, none⟩), .int .u32 f, adrV a] w fun e w' => e = .returned (.int .i64 (remA A f a).1) ∧ IdxAt w' L N (remA A f a).2 ∧ Frm L.owns w w' := by
  have hA := h
  obtain ⟨S, E, F, hR, hI, rfl, hnd⟩ := h
  have hN := hI.hN
  have hfN : f % N < N := Nat.mod_lt _ (by omega)
  have hch := hI.chains _ hfN
  have hfit := locate_fits (S := S) (f := f) (a := a) (hI.bucket_lt (b := f % N)) (q := (true, f % N)) hfN
  unfold remA
  by_cases hm : (f, a) ∈ ents S E
  · rw [if_pos hm]
    obtain ⟨E1, i, E2, rfl, rfl, rfl, hno, hfl⟩ := split_ents hnd hm
    obtain ⟨⟨t1, t2, t3, t4, t5, t6, t7⟩, hI', he⟩ := hI.take hno rfl
    refine (remove_ok w L N S _ _ _ _ i hf hR hch hI.bucket_lt rfl t1 t2 t3 t4 t5 t6 t7 ?_).mono fun e w' ⟨h1, h2, h3⟩ => ⟨h1, ⟨_, _, _, h2, hI', he.trans hfl, ?_⟩, h3⟩
    · rw [hI.n]; have := hI.len; omega
    · exact List.Nodup.sublist List.filter_sublist hnd
  · rw [if_neg hm]
    have hno : ∀ k ∈ bucket S.fng N (f % N) E, ¬ hit S f a k := fun k hk hh => hm (mem_ents.2 ⟨k, (bucket_mem hk).1, hh⟩)
    have hv := locate_none hno (q := (true, f % N)) hch
    exact (remove_none w L N S _ _ _ hf hR hch hI.bucket_lt hfit hv).mono fun e w' ⟨h1, h2⟩ => ⟨h1, hA.below h2, frm_below h2⟩

theorem new_at (w : World) (N : Nat) (h1 : 1 ≤ N) (h2 : N ≤ 1024) :
    Calls Try.prog 9 #[.int .i64 N] w fun e w' => ∃ L, e = .returned (.tuple #[.pointer (some ⟨L.bx, 0, none⟩), .int .i64 0]) ∧ IdxAt w' L N [] ∧ (∀ k, L.owns k → w.heap.size ≤ k) ∧ Below w.heap.size w w' :=
  (new_ok w N h1 h2).mono fun e w' ⟨L, h3, h4, h5, h6⟩ => ⟨L, h3, ⟨_, _, _, h4, inv_new h1 h2, rfl, List.nodup_nil⟩, h5, h6⟩
end Go.Proofs.Ytccgdfamjohmgaa
