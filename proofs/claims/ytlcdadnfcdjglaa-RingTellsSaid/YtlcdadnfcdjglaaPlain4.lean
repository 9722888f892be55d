/- A ring whose segments in use stand side by side: which is open, next, the oldest; it stays so when one is opened, used, sealed, or the oldest freed. No condition. -/
import Derived.Test.YtlcdadnfcdjglaaPlain3
namespace Go.Ring
section
variable {sec : Int} {l : List Seg} {s m : Nat} {o : Bool}

theorem Side.latest (h : Side sec l s m o) : latestP l = if m = 0 then none else some ((s + (m - 1)) % l.length) := by
  unfold latestP
  rw [h.order, List.getLast?_map]
  cases m with
  | zero => rfl
  | succ k => rw [List.range_succ, List.getLast?_concat, if_neg (by omega)]; rfl

theorem find_map_range {n : Nat} {f : Nat → Nat} {p : Nat → Bool} {k : Nat} (hk : k < n) (h1 : p (f k) = true) (h2 : ∀ j, j < k → p (f j) = false) : ((List.range n).map f).find? p = some (f k) := by
  induction n generalizing k with
  | zero => omega
  | succ n ih =>
    rw [List.range_succ, List.map_append, List.find?_append]
    by_cases hkn : k < n
    · rw [ih hkn h1 h2]; rfl
    · obtain rfl : k = n := by omega
      have : ((List.range k).map f).find? p = none := by
        rw [List.find?_eq_none]
        intro x hx
        obtain ⟨j, hj, rfl⟩ := List.mem_map.1 hx
        rw [h2 j (List.mem_range.1 hj)]; decide
      rw [this]
      simp [h1]
theorem find_map_none {n : Nat} {f : Nat → Nat} {p : Nat → Bool} (h : ∀ j, j < n → p (f j) = false) : ((List.range n).map f).find? p = none := by
  rw [List.find?_eq_none]
  intro x hx
  obtain ⟨j, hj, rfl⟩ := List.mem_map.1 hx
  rw [h j (List.mem_range.1 hj)]; decide

theorem Side.opened (h : Side sec l s m o) : openedP l = if o = true then some ((s + (m - 1)) % l.length) else none := by
  unfold openedP
  rw [h.order]
  cases o with
  | true =>
    have hm := h.ho rfl
    rw [if_pos rfl]
    refine find_map_range (k := m - 1) (by omega) ?_ (fun j hj => ?_)
    · unfold openB
      rw [(h.used (m - 1) (by omega)).1, if_pos ⟨rfl, by omega⟩]; rfl
    · unfold openB
      rw [(h.used j (by omega)).1, if_neg (fun hc => by omega)]; rfl
  | false =>
    rw [if_neg (by decide)]
    refine find_map_none (fun j hj => ?_)
    unfold openB
    rw [(h.used j hj).1, if_neg (fun hc => by cases hc.1)]; rfl

/-- How many are sealed. -/
def sealedN (m : Nat) (o : Bool) : Nat := if o = true then m - 1 else m
theorem Side.oldest (h : Side sec l s m o) : oldestP l = if sealedN m o = 0 then none else some s := by
  unfold oldestP
  rw [h.order]
  have hp := h.hs
  by_cases h0 : sealedN m o = 0
  · rw [if_pos h0]
    refine find_map_none (fun j hj => ?_)
    unfold sealedB
    unfold sealedN at h0
    cases o with
    | true =>
      rw [if_pos rfl] at h0
      rw [(h.used j hj).1, if_pos ⟨rfl, by omega⟩]; rfl
    | false => rw [if_neg (by decide)] at h0; omega
  · rw [if_neg h0]
    have hm : 0 < m := by unfold sealedN at h0; split at h0 <;> omega
    have e : (s + 0) % l.length = s := by rw [Nat.add_zero, Nat.mod_eq_of_lt hp]
    have := find_map_range (n := m) (f := fun j => (s + j) % l.length) (p := sealedB l) (k := 0) hm (by
      unfold sealedB
      rw [(h.used 0 hm).1, if_neg (fun hc => by unfold sealedN at h0; rw [if_pos hc.1] at h0; omega)]; rfl) (fun j hj => by omega)
    rw [this]
    simp only [e]

/-- Where the next one is. -/
def nextAt (n s m : Nat) : Nat := if m = 0 then 0 else (s + m) % n
theorem Side.used_st (h : Side sec l s m o) {j : Nat} (hj : j < m) : freeB l ((s + j) % l.length) = false := by
  unfold freeB
  rw [(h.used j hj).1]; split <;> rfl
theorem Side.free_st (h : Side sec l s m o) {j : Nat} (hj : m ≤ j) (hn : j < l.length) : at' l ((s + j) % l.length) = zero :=
  h.free _ (Nat.mod_lt _ h.pos) (fun i hi e => by have := mod_inj (by omega) hn e; omega)
theorem Side.next (h : Side sec l s m o) : nextP l = if m = l.length then none else some (nextAt l.length s m) := by
  have hp := h.pos
  have hm := h.hm
  unfold nextP behind
  rw [h.latest]
  by_cases h0 : m = 0
  · subst h0
    rw [if_pos rfl, if_neg (by omega)]
    unfold startOf nextAt
    rw [if_pos rfl]
    have := find_map_range (n := l.length) (f := fun k => (0 + k) % l.length) (p := freeB l) (k := 0) hp (by
      unfold freeB
      rw [h.free _ (Nat.mod_lt _ hp) (fun j hj => by omega)]; rfl) (fun j hj => by omega)
    rw [this]; simp
  · rw [if_neg h0]
    unfold startOf
    simp only
    by_cases hfull : m = l.length
    · rw [if_pos hfull]
      refine find_map_none (fun j hj => ?_)
      have e : ((s + (m - 1)) % l.length + 1 + j) % l.length = (s + (if j = 0 then 0 else j) ) % l.length := by
        have : (s + (m - 1)) % l.length + 1 + j = (s + (m - 1)) % l.length + (1 + j) := by omega
        rw [this, Nat.mod_add_mod]
        have h2 : s + (m - 1) + (1 + j) = (s + j) + l.length := by omega
        rw [h2, Nat.add_mod_right]
        split <;> simp [*]
      rw [e]
      exact h.used_st (by split <;> omega)
    · rw [if_neg hfull]
      have e : ∀ k, ((s + (m - 1)) % l.length + 1 + k) % l.length = (s + (m + k)) % l.length := fun k => by
        have : (s + (m - 1)) % l.length + 1 + k = (s + (m - 1)) % l.length + (1 + k) := by omega
        rw [this, Nat.mod_add_mod]
        congr 1; omega
      have e0 : ((s + (m - 1)) % l.length + 1) % l.length = (s + m) % l.length := e 0
      have := find_map_range (n := l.length) (f := fun k => ((s + (m - 1)) % l.length + 1 + k) % l.length) (p := freeB l) (k := 0) hp (by
        simp only [Nat.add_zero]
        rw [e0]
        unfold freeB
        rw [h.free_st (Nat.le_refl _) (by omega)]; rfl) (fun j hj => by omega)
      rw [this]
      unfold nextAt
      rw [if_neg h0]
      simp only [Nat.add_zero]
      rw [e0]

theorem Side.lastGen_eq (h : Side sec l s m o) : lastGen l = if m = 0 then 0 else gen l ((s + (m - 1)) % l.length) := by
  unfold lastGen
  rw [h.latest]
  by_cases h0 : m = 0
  · rw [if_pos h0, if_pos h0]
  · rw [if_neg h0, if_neg h0]

/-- The start behind an opening. -/
def startAt (s m : Nat) : Nat := if m = 0 then 0 else s

theorem gen_set {l : List Seg} {i k : Nat} {x : Seg} (h : i < l.length) : gen (l.set i x) k = if k = i then x.gen else gen l k := by
  unfold gen; rw [at_set h]; split <;> rfl

theorem Side.open (h : Side sec l s m false) (hm : m < l.length) {g : Nat} (hg : lastGen l < g) : Side sec (l.set (nextAt l.length s m) ⟨1, g, 1⟩) (startAt s m) (m + 1) true := by
  have hp := h.pos
  have hlt : nextAt l.length s m < l.length := by unfold nextAt; split; · exact hp
                                                  · exact Nat.mod_lt _ hp
  have hsec : 24 ≤ sec := by
    have := h.size
    unfold sizedB at this
    rw [Bool.and_eq_true] at this
    exact (of_decide_eq_true this.2).1
  have hnew : (startAt s m + m) % l.length = nextAt l.length s m := by
    unfold startAt nextAt
    split
    · rename_i h0; subst h0; simp
    · rfl
  have hold : ∀ j, j < m → (startAt s m + j) % l.length = (s + j) % l.length ∧ (startAt s m + j) % l.length ≠ nextAt l.length s m := by
    intro j hj
    have h0 : m ≠ 0 := by omega
    unfold startAt nextAt
    rw [if_neg h0, if_neg h0]
    refine ⟨rfl, fun e => ?_⟩
    have := mod_inj (by omega) hm e
    omega
  have hlg : ∀ j, j < m → gen l ((s + j) % l.length) < g := by
    intro j hj
    rw [h.lastGen_eq, if_neg (by omega)] at hg
    rcases Nat.lt_or_ge j (m - 1) with hj2 | hj2
    · have := h.rise j (m - 1) hj2 (by omega); omega
    · obtain rfl : j = m - 1 := by omega
      exact hg
  have hst : startAt s m < l.length := by
    unfold startAt
    split
    · exact hp
    · exact h.hs
  refine ⟨by rw [List.length_set]; exact h.size, by rw [List.length_set]; exact hst, by rw [List.length_set]; omega, fun _ => by omega, fun j hj => ?_, fun i j hij hj => ?_, fun k hk hno => ?_⟩
  · rw [List.length_set, at_set hlt, gen_set hlt]
    rcases Nat.lt_or_ge j m with hjm | hjm
    · obtain ⟨e1, e2⟩ := hold j hjm
      rw [if_neg e2, if_neg e2, e1, if_neg (fun hc => by omega)]
      obtain ⟨u1, u2⟩ := h.used j hjm
      rw [if_neg (fun hc => by cases hc.1)] at u1
      exact ⟨u1, u2⟩
    · obtain rfl : j = m := by omega
      rw [hnew, if_pos rfl, if_pos rfl, if_pos ⟨rfl, rfl⟩]
      exact ⟨rfl, Int.le_refl _, by show (1 : Int) ≤ sec; omega, by simp only; omega⟩
  · rw [List.length_set, gen_set hlt, gen_set hlt]
    obtain ⟨e1, e2⟩ := hold i (by omega)
    rw [if_neg e2, e1]
    rcases Nat.lt_or_ge j m with hjm | hjm
    · obtain ⟨e3, e4⟩ := hold j hjm
      rw [if_neg e4, e3]
      exact h.rise i j hij hjm
    · obtain rfl : j = m := by omega
      rw [hnew, if_pos rfl]
      exact hlg i hij
  · rw [List.length_set] at hk hno
    rw [at_set hlt]
    have hk2 : k ≠ nextAt l.length s m := fun e => hno m (by omega) (by rw [hnew, e])
    rw [if_neg hk2]
    refine h.free k hk (fun j hj e => ?_)
    exact hno j (by omega) (by rw [(hold j hj).1]; exact e)

/-- The last one of those in use is changed, its generation not. -/
theorem Side.change (h : Side sec l s m true) {x : Seg} {o' : Bool} (hx : x.gen = gen l ((s + (m - 1)) % l.length)) (hst : x.st = if o' = true then 1 else 2) (hu : 1 ≤ x.used ∧ x.used ≤ sec) : Side sec (l.set ((s + (m - 1)) % l.length) x) s m o' := by
  have hp := h.pos
  have hm0 := h.ho rfl
  have hml := h.hm
  have hlt : (s + (m - 1)) % l.length < l.length := Nat.mod_lt _ hp
  have hne : ∀ j, j < m → j ≠ m - 1 → (s + j) % l.length ≠ (s + (m - 1)) % l.length := fun j hj hj2 e => hj2 (mod_inj (by omega) (by omega) e)
  have hgen : ∀ k, gen (l.set ((s + (m - 1)) % l.length) x) k = gen l k := fun k => by
    rw [gen_set hlt]
    split
    · rename_i e; rw [hx, e]
    · rfl
  refine ⟨by rw [List.length_set]; exact h.size, by rw [List.length_set]; exact h.hs, by rw [List.length_set]; exact hml, fun _ => hm0, fun j hj => ?_, fun i j hij hj => ?_, fun k hk hno => ?_⟩
  · rw [List.length_set, at_set hlt, hgen]
    by_cases hj2 : j = m - 1
    · subst hj2
      rw [if_pos rfl]
      refine ⟨?_, hu.1, hu.2, (h.used _ hj).2.2.2⟩
      rw [hst]
      by_cases ho : o' = true
      · rw [if_pos ho, if_pos ⟨ho, by omega⟩]
      · rw [if_neg ho, if_neg (fun hc => ho hc.1)]
    · rw [if_neg (hne j hj hj2), if_neg (fun hc => hj2 (by omega))]
      obtain ⟨u1, u2⟩ := h.used j hj
      rw [if_neg (fun hc => hj2 (by omega))] at u1
      exact ⟨u1, u2⟩
  · rw [List.length_set, hgen, hgen]; exact h.rise i j hij hj
  · rw [List.length_set] at hk hno
    rw [at_set hlt, if_neg (fun e => hno (m - 1) (by omega) e.symm)]
    exact h.free k hk hno

theorem Side.freed (h : Side sec l s m o) (hm : 0 < sealedN m o) : Side sec (l.set s zero) ((s + 1) % l.length) (m - 1) o := by
  have hp := h.pos
  have hs := h.hs
  have hml := h.hm
  have hm1 : 0 < m := by unfold sealedN at hm; split at hm <;> omega
  have e : ∀ j, ((s + 1) % l.length + j) % l.length = (s + (j + 1)) % l.length := fun j => by rw [Nat.mod_add_mod]; congr 1; omega
  have e0 : (s + 0) % l.length = s := by rw [Nat.add_zero, Nat.mod_eq_of_lt hs]
  have hne : ∀ j, j < m - 1 → (s + (j + 1)) % l.length ≠ s := fun j hj e1 => by
    have := mod_inj (n := l.length) (s := s) (i := j + 1) (j := 0) (by omega) hp (by rw [e1, e0])
    omega
  refine ⟨by rw [List.length_set]; exact h.size, by rw [List.length_set]; exact Nat.mod_lt _ hp, by rw [List.length_set]; omega, fun ho => by unfold sealedN at hm; rw [if_pos ho] at hm; omega, fun j hj => ?_, fun i j hij hj => ?_, fun k hk hno => ?_⟩
  · rw [List.length_set, at_set hs, gen_set hs, e, if_neg (hne j hj), if_neg (hne j hj)]
    obtain ⟨u1, u2⟩ := h.used (j + 1) (by omega)
    refine ⟨?_, u2⟩
    rw [u1]
    by_cases hc : o = true ∧ j + 1 + 1 = m
    · rw [if_pos hc, if_pos ⟨hc.1, by omega⟩]
    · rw [if_neg hc, if_neg (fun h2 => hc ⟨h2.1, by omega⟩)]
  · rw [List.length_set, gen_set hs, gen_set hs, e, e, if_neg (hne i (by omega)), if_neg (hne j hj)]
    exact h.rise (i + 1) (j + 1) (by omega) (by omega)
  · rw [List.length_set] at hk hno
    rw [at_set hs]
    split
    · rfl
    · rename_i hks
      refine h.free k hk (fun j hj e1 => ?_)
      cases j with
      | zero => exact hks (by rw [← e1, e0])
      | succ j => exact hno j (by omega) (by rw [e, e1])

theorem Side.new {n : Nat} (hn : sizedB n sec = true) : Side sec (List.replicate n zero) 0 0 false := by
  have h4 : 4 ≤ n := by
    unfold sizedB at hn
    rw [Bool.and_eq_true] at hn
    exact (of_decide_eq_true hn.1).1
  refine ⟨by rw [List.length_replicate]; exact hn, by rw [List.length_replicate]; omega, Nat.zero_le _, fun h => (by cases h), fun j hj => by omega, fun i j _ hj => by omega, fun k hk _ => ?_⟩
  rw [List.length_replicate] at hk
  unfold at'
  rw [List.getD_eq_getElem?_getD, List.getElem?_replicate, if_pos hk]; rfl
end
end Go.Ring
