/- reader.keep. Conditions: the reader's parts lie in memory, beside it; the part is not too long. -/
import Derived.Test.YtelaijogjgcloaaDoorNum2
set_option linter.unusedVariables false
set_option linter.unusedSimpArgs false
namespace Go.Proofs.YtelaijogjgcloaaDoor
open Go.RowKit Go.Ice Go.Scr

theorem elemBool : Elem Tryd.prog 39 4 1 1 (.bool false) :=
  ⟨Tryd.underlying39, by
    obtain ⟨i0, hi, hz0, hz1, hz2⟩ := info_parts (show (Tryd.prog.info? 4).map (fun i => (i.zero, i.size, i.bytes)) = some (some (.bool false), 1, 1) by kernel_rfl)
    exact ⟨i0, hi, hz0, hz1, hz2⟩, rfl, by decide⟩
def isOne (c : UInt8) : Bool := decide (c = 49)
def badC (c : UInt8) : Bool := !decide (c = 48 ∨ c = 49)
/-- What stands in the keep's row when k are read. -/
def rkpX (s : Txt) (k : Nat) : List Value := ((s.take k).map fun c => Value.bool (isOne c)) ++ List.replicate (s.length - k) (.bool false)
theorem rkpX_set {s : Txt} {k : Nat} {c : UInt8} (hc : s[k]? = some c) : (rkpX s k).set k (.bool (isOne c)) = rkpX s (k + 1) := by
  have hk : k < s.length := (List.getElem?_eq_some_iff.1 hc).1
  unfold rkpX
  obtain ⟨m, hm⟩ : ∃ m, s.length - k = m + 1 := ⟨s.length - k - 1, by omega⟩
  rw [hm, show s.length - (k + 1) = m by omega, List.replicate_succ, List.set_append_right _ _ (by simp; omega), List.take_add_one, hc]
  simp [Nat.min_eq_left (Nat.le_of_lt hk)]
theorem rkpX_all (s : Txt) : rkpX s s.length = (s.map isOne).map Value.bool := by unfold rkpX; simp
theorem keepP_eq {s : Txt} (h : s ≠ [45]) : keepP s = if s.any badC || decide (s = []) then none else some (s.map isOne) := by
  unfold keepP
  rw [if_neg h]
  by_cases h0 : s = []
  · simp [h0]
  · rw [if_neg h0]
    have e : s.all (fun c => decide (c = 48 ∨ c = 49)) = !s.any badC := by
      rw [List.all_eq_not_any_not]; rfl
    rw [e]
    cases s.any badC <;> simp [h0, isOne]
end Go.Proofs.YtelaijogjgcloaaDoor
