/- The law LogReads returns true at every input, and leaves its arguments as they were. No condition. -/
import Derived.Test.YtjmocjcjiiopnaaLogReads34

section
set_option linter.unusedVariables false
namespace Go.Proofs.Ytjmocjcjiiopnaa.logReadsW
open Go.ChangeShapes Go.WideShapes Go.RowKit Go.Ice Go.Lg
set_option maxRecDepth 100000 in
theorem walk {H : Type} {enc : TypeId × Value → H} {base : Nat} {spare : Nat → Bool} {held : Bool} {b0 : Nat} {d0 : DataW H} {p0 : List MemPlace} {r0 : Reach} (v0 : Value) (w : World) (hv0 : Value.okWide Try.prog w r0 b0 22 v0) (h0 : DataW.Trod enc Try.prog w base spare held 22 v0 d0 p0) :
    Calls Try.prog 3 #[v0] w fun e w' => e = .returned (.bool true) ∧ Below w.heap.size w w' := by
  obtain ⟨l, a, c, rfl, hlen, hfits, hS⟩ := open_recs hv0 h0
  refine (logReads l a c hlen hfits w _ (St.init w _ hS)).mono ?_
  rintro e w' ⟨v, L, rfl, ⟨rfl, rfl⟩, h⟩
  exact ⟨rfl, h.done⟩
end Go.Proofs.Ytjmocjcjiiopnaa.logReadsW
namespace Go.Proofs.Ytjmocjcjiiopnaa.logReads
open Go.ChangeShapes Go.WideShapes Go.ChangeAt Go.RowKit Go.Ice
set_option linter.unusedVariables false

set_option maxRecDepth 100000 in
theorem lifted (os : Os) (started : os.Started) (H : Type) (enc : TypeId × Value → H) :
    ReturnsInHanded {} Try.checked os 3 .any (Rows.logReadsSpec.pre6 enc Try.prog Try.f3 Rows.logReadsRow.domain false) (Rows.logReadsSpec.post enc Try.prog Try.f3 false true false false) := by
  refine returnsInHanded_of_change_sized (C := Try.checked) (by kernel_rfl) started (by kernel_rfl) Try.func3
    (ChangeSpec.witness6 (enc := enc) (C := Try.checked) false ⟨#[], #[.slice none 0 0], []⟩ 8 (by kernel_rfl) (by kernel_rfl) (by kernel_rfl) (by kernel_rfl)) ?_
  intro W base args ds gs before hval0 hW hcnd hsz _
  have hval : ∀ (j : Nat) t v, Try.f3.params[j]? = some t → args[j]? = some v → Value.okWide Try.prog W .any base t v := hval0
  have hW' := hW
  have hlt := hW.lt
  obtain ⟨p, q, hA0, hV, rfl, hfz, hnd⟩ := hW
  have hA : DataW.TrodAll enc Try.prog W 0 (fun _ => true) true Try.f3.params.toList args.toList ds p := hA0
  rw [Try.params3] at hA hval
  have hAk := hA
  obtain ⟨rfl, rfl⟩ := trodVars_none hV
  simp only [List.append_nil] at hW' hlt
  obtain ⟨v0, vs0, d0, ds0, p0, q0, hargs, rfl, rfl, h0, r0⟩ := trodAll_cons hA
  obtain ⟨rfl, rfl, rfl⟩ := trodAll_nil r0
  obtain rfl : args = #[v0] := by cases args; simp_all
  refine (logReadsW.walk v0 W (hval 0 22 v0 rfl rfl) h0).mono fun e W' ⟨he, bel⟩ => ?_
  subst he
  have hB := trodAll_below (by kernel_rfl) bel _ _ _ _ (fun t ht => by
    simp only [List.mem_cons, List.mem_nil_iff, or_false] at ht
    rcases ht with rfl <;> exact ⟨by kernel_rfl, of_decide_eq_true (by kernel_rfl)⟩) hAk hlt
  exact ⟨_, rfl, _, _, _, [], _, [], hW', trodAll_mk1 (shut_bool Try.underlying4 _), hB, rfl, bel.frame _, fun h => by cases h⟩

theorem over : Rows.logReadsRow.holds Try.pinned (OpenSpec.ofChange Rows.logReadsSpec) :=
  OpenClaim.holds_of_wide 3 Try.f3 rfl rfl rfl rfl rfl rfl rfl ⟨rfl, rfl, rfl, rfl, rfl⟩ rfl rfl rfl rfl rfl (by kernel_rfl) Try.func3 (by kernel_rfl)
    (of_decide_eq_true (by kernel_rfl)) (by unfold Func.isWrapper; first | (rw [if_pos (by decide +kernel)]; kernel_rfl) | (rw [if_neg (by decide +kernel)]; exact ⟨rfl, rfl⟩))
    (fun os started H enc _ => lifted os started H enc)

/-- The statement. -/
theorem proved : Rows.LogReadsSaid := over
#print axioms proved
end Go.Proofs.Ytjmocjcjiiopnaa.logReads
end
