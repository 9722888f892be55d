/- reader.bytes, its plain part: a text's pairs of digits. No condition. -/
import Derived.Test.YtelaijogjgcloaaDoorRkp3
import Derived.Lib.Bytealg
set_option linter.unusedVariables false
set_option linter.unusedSimpArgs false
namespace Go.Proofs.YtelaijogjgcloaaDoor
open Go.RowKit Go.Ice Go.Scr

def hexL : List UInt8 := [48, 49, 50, 51, 52, 53, 54, 55, 56, 57, 97, 98, 99, 100, 101, 102]
/-- A digit's number, as IndexByte says it. -/
def hxI (c : UInt8) : Int := match halfP c with
  | some x => (x : Int)
  | none => -1
theorem idx_hex (c : UInt8) : Lib.indexByte hexL c = hxI c := by
  have h : ∀ n, n < 256 → Lib.indexByte hexL (UInt8.ofNat n) = hxI (UInt8.ofNat n) := by decide +kernel
  have := h c.toNat c.toNat_lt
  rwa [UInt8.ofNat_toNat] at this
theorem hxI_lt (c : UInt8) : -1 ≤ hxI c ∧ hxI c < 16 := by
  unfold hxI halfP
  split
  · rename_i x h
    split at h
    · injection h with h; omega
    · split at h
      · injection h with h; omega
      · cases h
  · omega
theorem hxI_some {c : UInt8} (h : 0 ≤ hxI c) : halfP c = some (hxI c).toNat := by
  unfold hxI at h ⊢
  cases e : halfP c with
  | none => rw [e] at h; simp at h
  | some x => simp
theorem hxI_none {c : UInt8} (h : hxI c < 0) : halfP c = none := by
  unfold hxI at h
  cases e : halfP c with
  | none => rfl
  | some x => rw [e] at h; simp at h; omega
/-- The byte of the j-th pair. -/
def rbB (s : Txt) (j : Nat) : UInt8 := UInt8.ofNat (16 * (hxI (s.getD (2 * j) 0)).toNat + (hxI (s.getD (2 * j + 1) 0)).toNat)
def rbOk (s : Txt) (j : Nat) : Prop := 0 ≤ hxI (s.getD (2 * j) 0) ∧ 0 ≤ hxI (s.getD (2 * j + 1) 0)
theorem rbB_succ (a b : UInt8) (l : Txt) (j : Nat) : rbB (a :: b :: l) (j + 1) = rbB l j := by
  unfold rbB; rw [show 2 * (j + 1) = 2 * j + 1 + 1 by omega]; simp
theorem rbOk_succ (a b : UInt8) (l : Txt) (j : Nat) : rbOk (a :: b :: l) (j + 1) ↔ rbOk l j := by
  unfold rbOk; rw [show 2 * (j + 1) = 2 * j + 1 + 1 by omega]; simp
theorem range_cons {α : Type} (f : Nat → α) (n : Nat) : (List.range (n + 1)).map f = f 0 :: (List.range n).map fun j => f (j + 1) := by
  rw [List.range_succ_eq_map, List.map_cons, List.map_map]; rfl
theorem pairsP_ok : ∀ (s : Txt), s.length % 2 = 0 → (∀ j, j < s.length / 2 → rbOk s j) → pairsP s = some ((List.range (s.length / 2)).map (rbB s))
  | [], _, _ => rfl
  | [_], h, _ => by simp at h
  | a :: b :: l, h, hk => by
    have h2 : (a :: b :: l).length / 2 = l.length / 2 + 1 := by simp only [List.length_cons]; omega
    have ih := pairsP_ok l (by simp only [List.length_cons] at h; omega) (fun j hj => (rbOk_succ a b l j).1 (hk (j + 1) (by omega)))
    have h0 := hk 0 (by omega)
    unfold rbOk at h0
    simp only [Nat.mul_zero, Nat.zero_add, List.getD_cons_zero, List.getD_cons_succ] at h0
    rw [pairsP, hxI_some h0.1, hxI_some h0.2, ih, h2, range_cons]
    simp only [rbB_succ]
    rfl
theorem pairsP_no : ∀ (s : Txt) (j : Nat), 2 * j + 1 < s.length → ¬ rbOk s j → pairsP s = none
  | [], _, h, _ => by simp at h
  | [_], _, h, _ => by simp at h
  | a :: b :: l, 0, h, hk => by
    unfold rbOk at hk
    simp only [Nat.mul_zero, Nat.zero_add, List.getD_cons_zero, List.getD_cons_succ] at hk
    rw [pairsP]
    by_cases h1 : 0 ≤ hxI a
    · rw [hxI_none (c := b) (by omega)]; cases halfP a <;> rfl
    · rw [hxI_none (c := a) (by omega)]
  | a :: b :: l, j + 1, h, hk => by
    rw [rbOk_succ] at hk
    rw [pairsP, pairsP_no l j (by simp only [List.length_cons] at h; omega) hk]
    cases halfP a <;> cases halfP b <;> rfl
theorem pairsP_odd : ∀ (s : Txt), s.length % 2 = 1 → pairsP s = none
  | [], h => by simp at h
  | [_], _ => rfl
  | a :: b :: l, h => by
    rw [pairsP, pairsP_odd l (by simp only [List.length_cons] at h; omega)]
    cases halfP a <;> cases halfP b <;> rfl
/-- What stands in the bytes' row when k are read. -/
def rbX (s : Txt) (n k : Nat) : List Value := ((List.range k).map fun j => u8v (rbB s j)) ++ List.replicate (n - k) (.int .u8 0)
theorem rbX_set {s : Txt} {n k : Nat} (hk : k < n) : (rbX s n k).set k (u8v (rbB s k)) = rbX s n (k + 1) := by
  unfold rbX
  obtain ⟨m, hm⟩ : ∃ m, n - k = m + 1 := ⟨n - k - 1, by omega⟩
  rw [hm, show n - (k + 1) = m by omega, List.replicate_succ, List.set_append_right _ _ (by simp), List.range_succ]
  simp
theorem rbX_all (s : Txt) (n : Nat) : rbX s n n = ((List.range n).map (rbB s)).map u8v := by unfold rbX; simp
theorem rbX_len (s : Txt) (n k : Nat) (h : k ≤ n) : (rbX s n k).length = n := by unfold rbX; simp; omega
theorem rawP_eq {s : Txt} (h : s ≠ [45]) (hok : ∀ j, j < s.length / 2 → rbOk s j) : rawP s = if decide (s = []) || decide (s.length % 2 ≠ 0) then none else some ((List.range (s.length / 2)).map (rbB s)) := by
  unfold rawP
  rw [if_neg h]
  by_cases h0 : s = []
  · simp [h0]
  · rw [if_neg h0]
    by_cases h2 : s.length % 2 = 0
    · rw [pairsP_ok s h2 hok]; simp [h0, h2]
    · rw [pairsP_odd s (by omega)]; simp [h2]
theorem rawP_bad {s : Txt} (h : s ≠ [45]) {j : Nat} (hj : j < s.length / 2) (hk : ¬ rbOk s j) : rawP s = none := by
  unfold rawP
  rw [if_neg h]
  split
  · rfl
  · exact pairsP_no s j (by omega) hk
end Go.Proofs.YtelaijogjgcloaaDoor
