/- A region of open order whose world is told by what is done: stores, appends. No condition. -/
import Derived.Test.YtngpffmgkponfaaRegT
set_option linter.unusedVariables false
namespace Go.Ice
open Go.RowKit
section
variable {P : Program} {ops : Array Oper} {Q : Exit → Act → World → Prop} {i : Nat} {o : Oper} {b : Act} {W : World} {tbl : List (Nat × Nat × Value)} {J : World → Prop}
theorem skipT {W' : World} (ho : ops[i]? = some o) (hg : o.guard = none) (hd : o.dst = none) (hrun : (execOp b.eval o).run P W = .ok .skip W') (hJ : J W') :
    ∃ v, (∀ d, o.dst = some d → (i, d, v) ∈ tbl) ∧ wpOp P ops Q i (fun a' W' => a' = b.put o.dst v ∧ J W') b W :=
  ⟨undef, fun d h => (by rw [hd] at h; cases h), wpOp_skip ho hg hrun ⟨rfl, hJ⟩⟩
theorem appT {W' : World} {v vx v' : Value} (ho : ops[i]? = some o) (hg : o.guard = none) (s x : Operand) (t : TypeId) (hop : o.op = .call { callee := .builtin .append, args := #[s, x], argTypes := #[t, t] }) (hs : b.eval s = v) (hx : b.eval x = vx)
    (hrun : (Builtin.append_ #[t, t] o.type #[v, vx]).run P W = .ok v' W') (hm : ∀ d, o.dst = some d → (i, d, v') ∈ tbl) (hJ : J W') :
    ∃ v, (∀ d, o.dst = some d → (i, d, v) ∈ tbl) ∧ wpOp P ops Q i (fun a' W' => a' = b.put o.dst v ∧ J W') b W :=
  ⟨v', hm, wpOp_append ho hg s x t hop hs hx hrun ⟨rfl, hJ⟩⟩
end
end Go.Ice
