/- Rings in plain terms: what becomes of a ring; a ring whose segments in use stand side by side. No condition. -/
import Derived.Test.YtlcdadnfcdjglaaPlain2
namespace Go.Ring

def freeB (l : List Seg) (i : Nat) : Bool := decide ((at' l i).st = 0)
/-- The places behind one, round and round. -/
def behind (n a : Nat) : List Nat := (List.range n).map fun k => (a + k) % n
def startOf (o : Option Nat) : Nat := match o with | none => 0 | some a => a + 1
def nextP (l : List Seg) : Option Nat := (behind l.length (startOf (latestP l))).find? (freeB l)
def lastGen (l : List Seg) : Nat := match latestP l with | none => 0 | some a => gen l a
def leftP (sec : Int) (l : List Seg) : Int := match openedP l with | none => 0 | some i => sec - (at' l i).used

/-- What Open, Use, Seal and Free answer: an error's number, the segments, the number. -/
def openF (sec : Int) (l : List Seg) (g : Nat) : Int × Option (List Seg × Nat) :=
  if checkB sec l = false then (180, none) else if openedP l ≠ none then (181, none) else if g ≤ lastGen l then (2, none) else
    match nextP l with | none => (6, none) | some i => (0, some (l.set i ⟨1, g, 1⟩, i))
def useF (sec : Int) (l : List Seg) (n : Int) : Int × Option (List Seg) :=
  if checkB sec l = false then (180, none) else match openedP l with
    | none => (181, none)
    | some i => if n < 0 then (2, none) else if leftP sec l < n then (6, none) else (0, some (l.set i { at' l i with used := (at' l i).used + n }))
def sealF (sec : Int) (l : List Seg) : Int × Option (List Seg) :=
  if checkB sec l = false then (180, none) else match openedP l with
    | none => (181, none)
    | some i => (0, some (l.set i { at' l i with st := 2 }))
def freeF (sec : Int) (l : List Seg) (i : Int) : Int × Option (List Seg) :=
  if checkB sec l = false then (180, none) else if i < 0 ∨ (l.length : Int) ≤ i then (2, none) else if (at' l i.toNat).st ≠ 2 then (181, none) else (0, some (l.set i.toNat zero))

theorem at_set {l : List Seg} {i k : Nat} {s : Seg} (h : i < l.length) : at' (l.set i s) k = if k = i then s else at' l k := by
  unfold at'
  rw [List.getD_eq_getElem?_getD, List.getD_eq_getElem?_getD, List.getElem?_set]
  by_cases e : i = k
  · subst e; simp [h]
  · rw [if_neg e, if_neg (fun h => e h.symm)]

/-- m segments from s on are in use, side by side, round and round; the last of them is open, if o; their generations rise. -/
structure Side (sec : Int) (l : List Seg) (s m : Nat) (o : Bool) : Prop where
  size : sizedB l.length sec = true
  hs : s < l.length
  hm : m ≤ l.length
  ho : o = true → 0 < m
  used : ∀ j, j < m → (at' l ((s + j) % l.length)).st = (if o = true ∧ j + 1 = m then 1 else 2) ∧ 1 ≤ (at' l ((s + j) % l.length)).used ∧ (at' l ((s + j) % l.length)).used ≤ sec ∧ 0 < gen l ((s + j) % l.length)
  rise : ∀ i j, i < j → j < m → gen l ((s + i) % l.length) < gen l ((s + j) % l.length)
  free : ∀ k, k < l.length → (∀ j, j < m → (s + j) % l.length ≠ k) → at' l k = zero

theorem mod_inj {n s i j : Nat} (hi : i < n) (hj : j < n) (h : (s + i) % n = (s + j) % n) : i = j := by
  have h1 : (s + i) % n = (s % n + i) % n := by rw [Nat.mod_add_mod]
  have h2 : (s + j) % n = (s % n + j) % n := by rw [Nat.mod_add_mod]
  rw [h1, h2] at h
  have hs : s % n < n := Nat.mod_lt _ (by omega)
  generalize s % n = t at h hs
  have e1 : (t + i) % n = if t + i < n then t + i else t + i - n := by
    split
    · exact Nat.mod_eq_of_lt ‹_›
    · rw [Nat.mod_eq_sub_mod (by omega), Nat.mod_eq_of_lt (by omega)]
  have e2 : (t + j) % n = if t + j < n then t + j else t + j - n := by
    split
    · exact Nat.mod_eq_of_lt ‹_›
    · rw [Nat.mod_eq_sub_mod (by omega), Nat.mod_eq_of_lt (by omega)]
  rw [e1, e2] at h
  split at h <;> split at h <;> omega

section
variable {sec : Int} {l : List Seg} {s m : Nat} {o : Bool}
theorem Side.pos (h : Side sec l s m o) : 0 < l.length := by have := h.hs; omega
theorem Side.order (h : Side sec l s m o) : order l = (List.range m).map fun j => (s + j) % l.length := by
  have hp := h.pos
  have hm' := h.hm
  have hnd2 : ((List.range m).map fun j => (s + j) % l.length).Nodup := by
    rw [List.nodup_iff_pairwise_ne, List.pairwise_map]
    refine List.Pairwise.imp_of_mem ?_ (List.nodup_iff_pairwise_ne.1 (List.nodup_range (n := m)))
    intro a b ha hb hne e
    rw [List.mem_range] at ha hb
    exact hne (mod_inj (by omega) (by omega) e)
  have hmem : ∀ k, k ∈ Ring.order l ↔ k ∈ (List.range m).map fun j => (s + j) % l.length := by
    intro k
    rw [mem_order, List.mem_map]
    constructor
    · rintro ⟨h1, h2⟩
      rcases Classical.em (∃ j, j < m ∧ (s + j) % l.length = k) with ⟨j, hj, e⟩ | hn
      · exact ⟨j, List.mem_range.2 hj, e⟩
      · exfalso
        have := h.free k h1 (fun j hj e => hn ⟨j, hj, e⟩)
        rw [this] at h2
        exact h2 rfl
    · rintro ⟨j, hj, rfl⟩
      rw [List.mem_range] at hj
      refine ⟨Nat.mod_lt _ hp, ?_⟩
      rw [(h.used j hj).1]
      split <;> decide
  have hperm : (Ring.order l).Perm ((List.range m).map fun j => (s + j) % l.length) := (List.perm_ext_iff_of_nodup (order_nodup l) hnd2).2 hmem
  have hr2 : ((List.range m).map fun j => (s + j) % l.length).Pairwise (fun a b => gen l a < gen l b) := by
    rw [List.pairwise_map]
    refine List.Pairwise.imp_of_mem ?_ (List.pairwise_lt_range (n := m))
    intro a b ha hb hlt
    exact h.rise a b hlt (List.mem_range.1 hb)
  have hso := order_sorted l
  have hr1 : (Ring.order l).Pairwise (fun a b => gen l a < gen l b) := by
    have hinj : ∀ x ∈ Ring.order l, ∀ y ∈ Ring.order l, x ≠ y → gen l x ≠ gen l y := by
      intro x hx y hy hne e
      obtain ⟨i, hi, rfl⟩ := List.mem_map.1 ((hmem x).1 hx)
      obtain ⟨j, hj, rfl⟩ := List.mem_map.1 ((hmem y).1 hy)
      rw [List.mem_range] at hi hj
      rcases Nat.lt_trichotomy i j with hij | rfl | hij
      · have := h.rise i j hij hj; omega
      · exact hne rfl
      · have := h.rise j i hij hi; omega
    refine List.Pairwise.imp_of_mem ?_ ((List.nodup_iff_pairwise_ne.1 (order_nodup l)).and hso)
    intro a b ha hb ⟨h1, h2⟩
    have := hinj a ha b hb h1
    omega
  exact rising_unique hr1 hr2 hperm

theorem Side.check (h : Side sec l s m o) : checkB sec l = true := by
  have hp := h.pos
  unfold checkB
  rw [Bool.and_eq_true, Bool.and_eq_true, chain_iff, List.all_eq_true]
  refine ⟨⟨h.size, fun x hx => ?_⟩, fun i hi => ?_, ?_, fun p i r hq hst => ?_⟩
  · obtain ⟨k, hk, rfl⟩ := mem_at hx
    unfold segOk
    rcases Classical.em (∃ j, j < m ∧ (s + j) % l.length = k) with ⟨j, hj, rfl⟩ | hn
    · obtain ⟨h1, h2, h3, h4⟩ := h.used j hj
      rw [if_neg (by rw [h1]; split <;> decide), Bool.and_eq_true]
      refine ⟨?_, decide_eq_true ⟨h2, h3⟩⟩
      rw [h1]; split <;> decide
    · rw [h.free k hk (fun j hj e => hn ⟨j, hj, e⟩)]; rfl
  · rw [h.order] at hi
    obtain ⟨j, hj, rfl⟩ := List.mem_map.1 hi
    exact (h.used j (List.mem_range.1 hj)).2.2.2
  · rw [h.order, List.pairwise_map]
    refine List.Pairwise.imp_of_mem ?_ (List.pairwise_lt_range (n := m))
    intro a b ha hb hlt
    exact h.rise a b hlt (List.mem_range.1 hb)
  · rw [h.order] at hq
    have hlen := congrArg List.length hq
    simp only [List.length_map, List.length_range, List.length_append, List.length_cons] at hlen
    have hi : (s + p.length) % l.length = i := by
      have := congrArg (fun q => q[p.length]?) hq
      rw [List.getElem?_map, List.getElem?_range (by omega)] at this
      simpa using this
    have hu := (h.used p.length (by omega)).1
    rw [hi, hst] at hu
    by_cases hc : o = true ∧ p.length + 1 = m
    · exact List.length_eq_zero_iff.1 (by omega)
    · rw [if_neg hc] at hu; cases hu
end
end Go.Ring
