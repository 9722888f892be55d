/- Laps round a ring: what each step answers. Plain Lean. -/
import Derived.Test.YtlcdadnfcdjglaaPlain4
namespace Go.Ring

theorem Side.order_len {sec : Int} {l : List Seg} {s m : Nat} {o : Bool} (h : Side sec l s m o) : (Go.Ring.order l).length = m := by rw [h.order]; simp

/-- Behind k segments, taken one behind the other. -/
structure GoI (n k : Nat) (l : List Seg) : Prop where
  len : l.length = n
  hn : 4 ≤ n ∧ n ≤ 16
  side : ∃ s m, Side 64 l s m false ∧ m = min k n ∧ (k < n → s = 0) ∧ (n ≤ k → s = k % n)
  last : lastGen l = k

theorem GoI.check {n k : Nat} {l : List Seg} (h : GoI n k l) : checkB 64 l = true := by
  obtain ⟨s, m, hs, _⟩ := h.side
  exact hs.check
theorem GoI.olen {n k : Nat} {l : List Seg} (h : GoI n k l) : (order l).length = min k n := by
  obtain ⟨s, m, hs, hm, _⟩ := h.side
  rw [hs.order_len, hm]

/-- What stands ahead of an opening. -/
structure GoA (n k : Nat) (l : List Seg) : Prop where
  len : l.length = n
  hn : 4 ≤ n ∧ n ≤ 16
  side : ∃ s m, Side 64 l s m false ∧ m < n ∧ nextAt n s m = k % n ∧ m + 1 = min (k + 1) n ∧ (k + 1 < n → startAt s m = 0) ∧ (n ≤ k + 1 → startAt s m = (k + 1) % n)
  last : lastGen l ≤ k

theorem GoI.full {n k : Nat} {l : List Seg} (h : GoI n k l) (hk : n ≤ k) : oldestP l = some (k % n) ∧ freeF 64 l (k % n : Nat) = (0, some (l.set (k % n) zero)) ∧ GoA n k (l.set (k % n) zero) := by
  obtain ⟨s, m, hs, hm, _, h2⟩ := h.side
  have hl := h.len
  have hn := h.hn
  have hmn : m = n := by omega
  subst hmn
  have hss := h2 hk
  have hold : oldestP l = some (k % m) := by
    rw [hs.oldest, if_neg (by unfold sealedN; simp; omega), hss]
  have hst : (at' l (k % m)).st = 2 := by
    unfold oldestP at hold
    have := List.find?_some hold
    simpa [sealedB] using this
  have hkm : k % m < m := Nat.mod_lt _ (by omega)
  have hfr := hs.freed (by unfold sealedN; simp; omega)
  rw [hss] at hfr
  refine ⟨hold, ?_, by simp [hl], hn, ⟨(k % m + 1) % m, m - 1, by rw [hl] at hfr; exact hfr, by omega, ?_, by omega, fun h => by omega, fun _ => ?_⟩, ?_⟩
  · unfold freeF
    rw [hs.check, if_neg (by simp), if_neg (by rw [hl]; omega), Int.toNat_natCast, if_neg (by simp [hst])]
  · unfold nextAt
    rw [if_neg (by omega)]
    have e : (k % m + 1) % m + (m - 1) = if k % m + 1 = m then m - 1 else k % m + 1 + (m - 1) := by
      split
      · rename_i h; rw [h, Nat.mod_self]; omega
      · rename_i h; rw [Nat.mod_eq_of_lt (by omega)]
    rw [e]
    split
    · rename_i h; rw [Nat.mod_eq_of_lt (by omega)]; omega
    · rename_i h
      rw [show k % m + 1 + (m - 1) = k % m + m by omega, Nat.add_mod_right, Nat.mod_eq_of_lt hkm]
  · unfold startAt
    rw [if_neg (by omega), Nat.add_mod k 1 m, Nat.mod_eq_of_lt (show 1 < m by omega)]
  · have hg := hfr.lastGen_eq
    rw [if_neg (by omega)] at hg
    rw [hg]
    have hll : (l.set (k % m) zero).length = m := by simp [hl]
    rw [hll]
    have hidx : ((k % m + 1) % l.length + (m - 1 - 1)) % m ≠ k % m := by
      rw [hl]
      intro e
      have h1 : ((k % m + 1) % m + (m - 1 - 1)) % m = (k % m + (m - 1)) % m := by
        rw [Nat.add_mod ((k % m + 1) % m), Nat.mod_mod, ← Nat.add_mod]
        congr 1; omega
      rw [h1] at e
      have := mod_inj (n := m) (s := k % m) (i := m - 1) (j := 0) (by omega) (by omega) (by rw [e, Nat.add_zero, Nat.mod_mod])
      omega
    rw [hl] at hidx ⊢
    rw [gen_set (by rw [hl]; exact hkm), if_neg hidx]
    have h1 : ((k % m + 1) % m + (m - 1 - 1)) % m = (s + (m - 1)) % m := by
      rw [hss, Nat.add_mod ((k % m + 1) % m), Nat.mod_mod, ← Nat.add_mod]
      congr 1; omega
    rw [h1]
    have hlg := hs.lastGen_eq
    rw [if_neg (by omega), hl] at hlg
    rw [← hlg, h.last]
    exact Nat.le_refl _

theorem GoI.room {n k : Nat} {l : List Seg} (h : GoI n k l) (hk : k < n) : GoA n k l := by
  obtain ⟨s, m, hs, hm, h1, _⟩ := h.side
  have hs0 := h1 hk
  subst hs0
  have hmk : m = k := by omega
  subst hmk
  refine ⟨h.len, h.hn, ⟨0, m, hs, hk, ?_, by omega, fun _ => by unfold startAt; simp, fun h => ?_⟩, by rw [h.last]; exact Nat.le_refl _⟩
  · unfold nextAt
    split
    · rename_i e; rw [e]; simp
    · simp
  · have : m + 1 = n := by omega
    unfold startAt
    rw [this, Nat.mod_self]; simp

/-- A segment is opened, filled, and sealed. -/
theorem GoA.step {n k : Nat} {l : List Seg} (h : GoA n k l) : ∃ l2 l3 l4, openF 64 l (k + 1) = (0, some (l2, k % n)) ∧ checkB 64 l2 = true ∧ leftP 64 l2 = 63 ∧ useF 64 l2 63 = (0, some l3) ∧ checkB 64 l3 = true ∧ leftP 64 l3 = 0 ∧ sealF 64 l3 = (0, some l4) ∧ GoI n (k + 1) l4 := by
  obtain ⟨s, m, hs, hm, hnx, hm1, hst0, hst1⟩ := h.side
  have hl := h.len
  have hn := h.hn
  have hkm : k % n < n := Nat.mod_lt _ (by omega)
  have hnext : nextP l = some (k % n) := by rw [hs.next, if_neg (by omega), hl, hnx]
  have hop := hs.open (by omega) (g := k + 1) (by have := h.last; omega)
  rw [hl, hnx] at hop
  have hlast : (startAt s m + (m + 1 - 1)) % n = k % n := by
    rw [← hnx]
    unfold startAt nextAt
    split
    · rename_i e; subst e; simp
    · simp
  have hli : ∀ x : Seg, (l.set (k % n) x).length = n := fun x => by simp [hl]
  have hopd := hop.opened
  rw [if_pos rfl, hli, hlast] at hopd
  have hat : at' (l.set (k % n) ⟨1, k + 1, 1⟩) (k % n) = ⟨1, k + 1, 1⟩ := by rw [at_set (by rw [hl]; exact hkm), if_pos rfl]
  have hleft : leftP 64 (l.set (k % n) ⟨1, k + 1, 1⟩) = 63 := by unfold leftP; rw [hopd]; simp only [hat]; rfl
  have hgn : gen (l.set (k % n) ⟨1, k + 1, 1⟩) (k % n) = k + 1 := by unfold gen; rw [hat]
  have h3 := hop.change (x := ⟨1, k + 1, 64⟩) (o' := true) (by rw [hli, hlast, hgn]) rfl (by simp)
  rw [hli, hlast] at h3
  have hll3 : ((l.set (k % n) ⟨1, k + 1, 1⟩).set (k % n) ⟨1, k + 1, 64⟩).length = n := by simp [hl]
  have hat3 : at' ((l.set (k % n) ⟨1, k + 1, 1⟩).set (k % n) ⟨1, k + 1, 64⟩) (k % n) = ⟨1, k + 1, 64⟩ := by rw [at_set (by rw [hli]; exact hkm), if_pos rfl]
  have hopd3 := h3.opened
  rw [if_pos rfl, hll3, hlast] at hopd3
  have h4 := h3.change (x := ⟨2, k + 1, 64⟩) (o' := false) (by rw [hll3, hlast]; unfold gen; rw [hat3]) (by simp) (by simp)
  rw [hll3, hlast] at h4
  refine ⟨_, (l.set (k % n) ⟨1, k + 1, 1⟩).set (k % n) ⟨1, k + 1, 64⟩, ((l.set (k % n) ⟨1, k + 1, 1⟩).set (k % n) ⟨1, k + 1, 64⟩).set (k % n) ⟨2, k + 1, 64⟩, ?_, hop.check, hleft, ?_, h3.check, ?_, ?_, by simp [hl], hn, ⟨startAt s m, m + 1, h4, by omega, hst0, hst1⟩, ?_⟩
  · unfold openF
    have hopn := hs.opened
    rw [hs.check, if_neg (by simp), if_neg (by rw [hopn]; simp), if_neg (by have := h.last; omega), hnext]
  · unfold useF
    rw [hop.check, if_neg (by simp), hopd]
    simp only
    rw [if_neg (by omega), hleft, if_neg (by omega), hat]
    rfl
  · unfold leftP; rw [hopd3]; simp only [hat3]; rfl
  · unfold sealF
    rw [h3.check, if_neg (by simp), hopd3]
    simp only [hat3]
  · have := h4.lastGen_eq
    rw [if_neg (by omega)] at this
    rw [this]
    have hl4 : (((l.set (k % n) ⟨1, k + 1, 1⟩).set (k % n) ⟨1, k + 1, 64⟩).set (k % n) ⟨2, k + 1, 64⟩).length = n := by simp [hl]
    rw [hl4, hlast]
    unfold gen
    rw [at_set (by rw [hll3]; exact hkm), if_pos rfl]

theorem GoI.new {n : Nat} (hn : 4 ≤ n ∧ n ≤ 16) : GoI n 0 (List.replicate n zero) := by
  have hs : Side 64 (List.replicate n zero) 0 0 false := Side.new (by unfold sizedB; simp; omega)
  refine ⟨by simp, hn, ⟨0, 0, hs, by omega, fun _ => rfl, fun h => by omega⟩, ?_⟩
  have := hs.lastGen_eq
  rw [if_pos rfl] at this
  exact this
end Go.Ring
