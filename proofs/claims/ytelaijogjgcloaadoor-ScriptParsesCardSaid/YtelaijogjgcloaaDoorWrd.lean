/- script.words. No condition. -/
import Derived.Test.YtelaijogjgcloaaDoorRaw
set_option linter.unusedVariables false
set_option linter.unusedSimpArgs false
namespace Go.Proofs.YtelaijogjgcloaaDoor
open Go.RowKit Go.Ice Go.Scr

def strV (t : Txt) : Value := .string ⟨t.toArray⟩
/-- The words' row. -/
def wordsO : Obj := .cells #[strV [], strV (word 1), strV (word 2), strV (word 3), strV (word 4), strV (word 5), strV (word 6), strV (word 7), strV (word 8)] 9
set_option maxHeartbeats 8000000 in
set_option maxRecDepth 20000 in
theorem words23 (w : World) : Calls Tryd.prog 23 #[] w fun e w' => e = .returned (.slice (some ⟨w.heap.size, 0, none⟩) 9 9) ∧ w'.heap[w.heap.size]? = some wordsO ∧ Below w.heap.size w w' := by
  have HK : Hid (Kp w [(w.heap.size, wordsO)] (w.alloc wordsO)) := (Kp.nil w).alloc _
  go_enter Tryd.func23, Tryd.ntmps23
  go_wp2_with fail
  go_ret
  exact ⟨rfl, HK.out.b0, HK.out.below⟩
theorem words_at {W : World} {G : Nat} (h : W.heap[G]? = some wordsO) {k : Int} (hk : 1 ≤ k ∧ k ≤ 8) : W.cell? ⟨G, k.toNat, none⟩ = some (strV (word k)) := by
  unfold wordsO at h
  rw [blk_cell h]
  obtain rfl | rfl | rfl | rfl | rfl | rfl | rfl | rfl : k = 1 ∨ k = 2 ∨ k = 3 ∨ k = 4 ∨ k = 5 ∨ k = 6 ∨ k = 7 ∨ k = 8 := by omega
  all_goals rfl
end Go.Proofs.YtelaijogjgcloaaDoor
