/- Whatever one does with a ring, in order: the sealed segments stand side by side. Plain Lean. -/
import Derived.Test.YtlcdadnfcdjglaaPlain4
namespace Go.Ring

/-- How many of the first i segments are sealed. -/
def cntS (l : List Seg) (i : Nat) : Nat := ((List.range i).filter fun i => decide ((at' l i).st = 2)).length
theorem cntS_succ (l : List Seg) (i : Nat) : cntS l (i + 1) = cntS l i + if (at' l i).st = 2 then 1 else 0 := by
  unfold cntS
  rw [List.range_succ, List.filter_append, List.length_append]
  by_cases h : (at' l i).st = 2 <;> simp [h]
theorem cntS_le (l : List Seg) (i : Nat) : cntS l i ≤ i := by
  unfold cntS
  have := List.length_filter_le (fun i => decide ((at' l i).st = 2)) (List.range i)
  simpa using this
theorem filter_range_all {m : Nat} {p : Nat → Bool} (h : ∀ j, j < m → p j = true) : (List.range m).filter p = List.range m :=
  List.filter_eq_self.2 fun a ha => h a (List.mem_range.1 ha)
theorem Side.cnt {sec : Int} {l : List Seg} {s m : Nat} {o : Bool} (h : Side sec l s m o) : cntS l l.length = sealedN m o := by
  have h1 : ((List.range l.length).filter fun i => decide ((at' l i).st = 2)) = (nonfree l).filter fun i => decide ((at' l i).st = 2) := by
    unfold nonfree
    rw [List.filter_filter]
    congr 1
    funext i
    by_cases h : (at' l i).st = 2 <;> simp [h]
  have h2 : ((Go.Ring.order l).filter fun i => decide ((at' l i).st = 2)).length = ((nonfree l).filter fun i => decide ((at' l i).st = 2)).length := ((sortR_perm _ _).filter _).length_eq
  unfold cntS
  rw [h1, ← h2, h.order, List.filter_map, List.length_map]
  cases o with
  | false =>
    rw [filter_range_all fun j hj => by simp [(h.used j hj).1]]
    simp [sealedN]
  | true =>
    have hm := h.ho rfl
    obtain ⟨k, rfl⟩ : ∃ k, m = k + 1 := ⟨m - 1, by omega⟩
    rw [List.range_succ, List.filter_append, filter_range_all fun j hj => by
      have := (h.used j (by omega)).1
      rw [if_neg (by omega)] at this
      simp [this]]
    have hl := (h.used k (by omega)).1
    rw [if_pos ⟨rfl, rfl⟩] at hl
    simp [hl, sealedN]

/-- The count behind which the k-th sealed one comes. -/
def lastAt (l : List Seg) (s k : Nat) : Nat := if k = 0 then 0 else gen l ((s + (k - 1)) % l.length)
theorem Side.round {sec : Int} {l : List Seg} {s m : Nat} {o : Bool} (h : Side sec l s m o) {k : Nat} (hk : k < sealedN m o) : (at' l ((s + k) % l.length)).st = 2 ∧ lastAt l s k < gen l ((s + k) % l.length) := by
  have hkm : k < m := by unfold sealedN at hk; split at hk <;> omega
  refine ⟨?_, ?_⟩
  · rw [(h.used k hkm).1, if_neg]
    rintro ⟨ho, hm⟩
    unfold sealedN at hk
    rw [if_pos ho] at hk
    omega
  · unfold lastAt
    split
    · exact (h.used k hkm).2.2.2
    · exact h.rise _ _ (by omega) hkm

/-- The ring behind any row of steps. -/
structure Any (sec : Int) (G : Nat) (l : List Seg) : Prop where
  side : ∃ s m o, Side sec l s m o
  last : lastGen l ≤ G
theorem Any.check {sec : Int} {G : Nat} {l : List Seg} (h : Any sec G l) : checkB sec l = true := by obtain ⟨s, m, o, hs⟩ := h.side; exact hs.check
theorem Any.new {n : Nat} {sec : Int} (hn : sizedB n sec = true) : Any sec 0 (List.replicate n zero) := by
  have hs := Side.new (sec := sec) hn
  refine ⟨⟨_, _, _, hs⟩, ?_⟩
  have := hs.lastGen_eq
  rw [if_pos rfl] at this
  omega
theorem Any.mono {sec : Int} {G G' : Nat} {l : List Seg} (h : Any sec G l) (hG : G ≤ G') : Any sec G' l := ⟨h.side, Nat.le_trans h.last hG⟩
/-- Opened. -/
theorem Any.open {sec : Int} {G g : Nat} {l l2 : List Seg} {i : Nat} (h : Any sec G l) (hg : openF sec l g = (0, some (l2, i))) : Any sec g l2 ∧ l2.length = l.length := by
  obtain ⟨s, m, o, hs⟩ := h.side
  unfold openF at hg
  rw [hs.check, if_neg (by simp)] at hg
  by_cases h1 : openedP l = none
  · rw [if_neg (by simp [h1])] at hg
    by_cases h2 : g ≤ lastGen l
    · rw [if_pos h2] at hg; simp at hg
    · rw [if_neg h2] at hg
      cases o with
      | true => rw [hs.opened, if_pos rfl] at h1; cases h1
      | false =>
        have hnx := hs.next
        by_cases hm : m = l.length
        · rw [if_pos hm] at hnx; rw [hnx] at hg; simp at hg
        · rw [if_neg hm] at hnx
          rw [hnx] at hg
          simp only [Prod.mk.injEq, Option.some.injEq, true_and] at hg
          obtain ⟨rfl, _⟩ := hg
          have hop := hs.open (by have := hs.hm; omega) (g := g) (by omega)
          refine ⟨⟨⟨_, _, _, hop⟩, ?_⟩, by simp⟩
          have := hop.lastGen_eq
          rw [if_neg (by omega)] at this
          rw [this]
          have hn := hs.pos
          have e : (startAt s m + (m + 1 - 1)) % (l.set (nextAt l.length s m) ⟨1, g, 1⟩).length = nextAt l.length s m := by
            rw [List.length_set]
            unfold startAt nextAt
            split
            · rename_i e; subst e; simp
            · simp
          rw [e, gen_set, if_pos rfl]
          · exact Nat.le_refl _
          · unfold nextAt; split
            · exact hn
            · exact Nat.mod_lt _ hn
  · rw [if_pos h1] at hg; simp at hg
/-- Used, or sealed. -/
theorem Any.turn {sec : Int} {G : Nat} {l : List Seg} {x : Seg} {i : Nat} {o' : Bool} (h : Any sec G l) (ho : openedP l = some i) (hx : x.gen = gen l i) (hst : x.st = if o' = true then 1 else 2) (hu : 1 ≤ x.used ∧ x.used ≤ sec) : Any sec G (l.set i x) ∧ (l.set i x).length = l.length := by
  obtain ⟨s, m, o, hs⟩ := h.side
  cases o with
  | false => rw [hs.opened, if_neg (by simp)] at ho; cases ho
  | true =>
    rw [hs.opened, if_pos rfl] at ho
    injection ho with ho
    subst ho
    have hc := hs.change hx hst hu
    refine ⟨⟨⟨_, _, _, hc⟩, ?_⟩, by simp⟩
    have hm := hs.ho rfl
    have h1 := hc.lastGen_eq
    have h2 := hs.lastGen_eq
    rw [if_neg (by omega)] at h1 h2
    have hn := hs.pos
    rw [h1, List.length_set, gen_set (Nat.mod_lt _ hn), if_pos rfl, hx, ← h2]
    exact h.last
theorem Any.opened_used {sec : Int} {G : Nat} {l : List Seg} {i : Nat} (h : Any sec G l) (ho : openedP l = some i) : 1 ≤ (at' l i).used ∧ (at' l i).used ≤ sec ∧ (at' l i).st = 1 ∧ i < l.length := by
  obtain ⟨s, m, o, hs⟩ := h.side
  cases o with
  | false => rw [hs.opened, if_neg (by simp)] at ho; cases ho
  | true =>
    rw [hs.opened, if_pos rfl] at ho
    injection ho with ho
    subst ho
    have hm := hs.ho rfl
    have hu := hs.used (m - 1) (by omega)
    rw [if_pos ⟨rfl, by omega⟩] at hu
    exact ⟨hu.2.1, hu.2.2.1, hu.1, Nat.mod_lt _ hs.pos⟩
theorem Any.use {sec : Int} {G : Nat} {l l2 : List Seg} {n : Int} (h : Any sec G l) (hu : useF sec l n = (0, some l2)) : Any sec G l2 ∧ l2.length = l.length := by
  unfold useF at hu
  rw [h.check, if_neg (by simp)] at hu
  cases ho : openedP l with
  | none => rw [ho] at hu; simp at hu
  | some i =>
    rw [ho] at hu
    simp only at hu
    by_cases h1 : n < 0
    · rw [if_pos h1] at hu; simp at hu
    · rw [if_neg h1] at hu
      by_cases h2 : leftP sec l < n
      · rw [if_pos h2] at hu; simp at hu
      · rw [if_neg h2] at hu
        simp only [Prod.mk.injEq, Option.some.injEq, true_and] at hu
        subst hu
        obtain ⟨u1, u2, u3, _⟩ := h.opened_used ho
        unfold leftP at h2
        rw [ho] at h2
        simp only at h2
        exact h.turn (o' := true) ho rfl (by simp [u3]) ⟨by simp only; omega, by simp only; omega⟩
theorem Any.seal {sec : Int} {G : Nat} {l l2 : List Seg} (h : Any sec G l) (hu : sealF sec l = (0, some l2)) : Any sec G l2 ∧ l2.length = l.length := by
  unfold sealF at hu
  rw [h.check, if_neg (by simp)] at hu
  cases ho : openedP l with
  | none => rw [ho] at hu; simp at hu
  | some i =>
    rw [ho] at hu
    simp only [Prod.mk.injEq, Option.some.injEq, true_and] at hu
    subst hu
    obtain ⟨u1, u2, u3, _⟩ := h.opened_used ho
    exact h.turn (o' := false) ho rfl (by simp) ⟨by simp only; omega, by simp only; omega⟩
theorem Any.free {sec : Int} {G : Nat} {l l2 : List Seg} {i : Nat} (h : Any sec G l) (hi : oldestP l = some i) (hu : freeF sec l i = (0, some l2)) : Any sec G l2 ∧ l2.length = l.length := by
  obtain ⟨s, m, o, hs⟩ := h.side
  have ho := hs.oldest
  rw [hi] at ho
  by_cases h0 : sealedN m o = 0
  · rw [if_pos h0] at ho; cases ho
  · rw [if_neg h0] at ho
    injection ho with ho
    subst ho
    unfold freeF at hu
    rw [hs.check, if_neg (by simp)] at hu
    by_cases h1 : (i : Int) < 0 ∨ (l.length : Int) ≤ i
    · rw [if_pos h1] at hu; simp at hu
    · rw [if_neg h1] at hu
      by_cases h2 : (at' l (i : Int).toNat).st ≠ 2
      · rw [if_pos h2] at hu; simp at hu
      · rw [if_neg h2] at hu
        simp only [Prod.mk.injEq, Option.some.injEq, true_and, Int.toNat_natCast] at hu
        subst hu
        have hf := hs.freed (by omega)
        refine ⟨⟨⟨_, _, _, hf⟩, ?_⟩, by simp⟩
        have h1 := hf.lastGen_eq
        have h2 := hs.lastGen_eq
        have hn := hs.pos
        rw [h1]
        by_cases hm1 : m - 1 = 0
        · rw [if_pos hm1]; omega
        · rw [if_neg hm1, List.length_set]
          rw [if_neg (by omega)] at h2
          have hx := hs.hm
          have e : ((i + 1) % l.length + (m - 1 - 1)) % l.length = (i + (m - 1)) % l.length := by
            rw [Nat.mod_add_mod]; congr 1; omega
          rw [e, gen_set hs.hs]
          have hne : (i + (m - 1)) % l.length ≠ i := by
            intro e2
            have := mod_inj (n := l.length) (s := i) (i := m - 1) (j := 0) (by omega) (by omega) (by rw [e2, Nat.add_zero, Nat.mod_eq_of_lt hs.hs])
            omega
          rw [if_neg hne, ← h2]
          exact h.last
theorem Any.olen {sec : Int} {G : Nat} {l : List Seg} (h : Any sec G l) : (order l).length ≤ l.length := by
  obtain ⟨s, m, o, hs⟩ := h.side
  rw [hs.order]
  simpa using hs.hm
end Go.Ring
