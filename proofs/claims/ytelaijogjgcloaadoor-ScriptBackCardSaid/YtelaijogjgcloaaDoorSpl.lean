/- strings.Cut and strings.Split at one byte, in plain words. No condition. -/
import Derived.Test.YtelaijogjgcloaaDoorRpl
import Derived.Lib.SplitLaws
import Derived.Lib.IndexBytes
set_option linter.unusedVariables false
set_option linter.unusedSimpArgs false
namespace Go.Proofs.YtelaijogjgcloaaDoor
open Go.RowKit Go.Ice Go.Scr

theorem ib_none {c : UInt8} : ∀ {s : Txt}, c ∉ s → Lib.indexByte s c = -1
  | [], _ => rfl
  | b :: l, h => by
    have h1 : (b == c) = false := by simp; intro e; exact h (by rw [e]; exact .head _)
    have h2 := ib_none (s := l) (fun e => h (.tail _ e))
    unfold Lib.indexByte
    rw [h1, h2]; rfl
theorem ib_some {c : UInt8} : ∀ {a : Txt} (t : Txt), c ∉ a → Lib.indexByte (a ++ c :: t) c = (a.length : Int)
  | [], t, _ => by simp [Lib.indexByte]
  | b :: l, t, h => by
    have h1 : (b == c) = false := by simp; intro e; exact h (by rw [e]; exact .head _)
    have h2 := ib_some t (a := l) (fun e => h (.tail _ e))
    rw [List.cons_append]
    unfold Lib.indexByte
    rw [h1, h2]
    have : (((l.length : Nat) : Int) == -1) = false := beq_eq_false_iff_ne.2 (by omega)
    rw [this]
    simp
theorem cut_none {s : Txt} (h : cutL s = none) : Lib.cut s [10] = (s, [], false) := by
  unfold Lib.cut
  rw [Lib.index_one, ib_none (cutL_none.1 h)]; rfl
theorem cut_some {s l r : Txt} (h : cutL s = some (l, r)) : Lib.cut s [10] = (l, r, true) := by
  obtain ⟨rfl, h2⟩ := cutL_some.1 h
  unfold Lib.cut
  rw [Lib.index_one, ib_some r h2, if_pos (by omega)]
  simp
theorem splitC_len (c : UInt8) : ∀ s : Txt, (splitC c s).length = s.count c + 1
  | [] => rfl
  | x :: l => by
    have ih := splitC_len c l
    unfold splitC
    split
    · rename_i h; subst h; simp [ih]
    · rename_i h
      rw [List.count_cons_of_ne h]
      split
      · rename_i h2; exact absurd h2 (splitC_ne c l)
      · rename_i h2 t2 h3; rw [h3] at ih; simpa using ih
theorem splitK_eq (c : UInt8) : ∀ (n : Nat) (s : Txt), s.length ≤ n → Lib.splitK [c] 0 (s.count c) s = splitC c s := by
  intro n
  induction n with
  | zero =>
    intro s h
    obtain rfl := List.length_eq_zero_iff.1 (Nat.le_zero.1 h)
    rfl
  | succ n ih =>
    intro s h
    by_cases hc : c ∈ s
    · obtain ⟨a, t, rfl, ha⟩ := List.eq_append_cons_of_mem hc
      have e : (a ++ c :: t).count c = t.count c + 1 := by rw [List.count_append, List.count_cons_self, List.count_eq_zero_of_not_mem ha, Nat.zero_add]
      rw [e, split_append c a t ha, Lib.splitK, Lib.index_one, ib_some t ha, if_neg (by simp)]
      have h1 : ((a.length : Int).toNat + 0) = a.length := by omega
      have h2 : ((a.length : Int).toNat + [c].length) = a.length + 1 := by simp
      rw [h1, h2, List.take_left', ← ih t (by rw [List.length_append, List.length_cons] at h; omega)]
      · congr 1
        rw [show a ++ c :: t = (a ++ [c]) ++ t by simp, List.drop_left' (by simp)]
      · rfl
    · rw [List.count_eq_zero_of_not_mem hc, split_one c s hc]; rfl
theorem count_txt (s : Txt) : Lib.countB ⟨s.toArray⟩ ⟨#[32]⟩ = s.count 32 := by
  show Lib.count _ _ = _
  exact Lib.count_one 32 s
theorem split_bytes (s : Txt) : (Lib.splitB ⟨#[32]⟩ 0 (Lib.countB ⟨s.toArray⟩ ⟨#[32]⟩) ⟨s.toArray⟩).map Value.string = (splitC 32 s).map strV := by
  have h := Lib.splitB_data ⟨#[32]⟩ 0 (Lib.countB ⟨s.toArray⟩ ⟨#[32]⟩) ⟨s.toArray⟩
  rw [count_txt] at h ⊢
  have h2 : Lib.splitK (⟨#[32]⟩ : ByteArray).data.toList 0 (s.count 32) (⟨s.toArray⟩ : ByteArray).data.toList = splitC 32 s := splitK_eq 32 s.length s (Nat.le_refl _)
  rw [h2] at h
  rw [← h, List.map_map]
  rfl
theorem split_short (c : UInt8) : ∀ (s : Txt), ∀ a ∈ splitC c s, a.length ≤ s.length
  | [], a, h => by simp [splitC] at h; subst h; exact Nat.le_refl _
  | x :: l, a, h => by
    have ih := split_short c l
    unfold splitC at h
    split at h
    · rcases List.mem_cons.1 h with rfl | h
      · simp
      · have := ih a h; simp; omega
    · split at h
      · rename_i h2; exact absurd h2 (splitC_ne c l)
      · rename_i h2 t2 h3
        rcases List.mem_cons.1 h with rfl | h
        · have := ih h2 (by rw [h3]; exact .head _); simp; omega
        · have := ih a (by rw [h3]; exact .tail _ h); simp; omega
end Go.Proofs.YtelaijogjgcloaaDoor
