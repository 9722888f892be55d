/- The law IdealRefuses returns true at every input, and leaves its arguments as they were. No condition. -/
import Derived.Test.YtngpffmgkponfaaRfn
set_option linter.unusedVariables false
namespace Go.Proofs.Ytngpffmgkponfaa
open Go.ChangeShapes Go.WideShapes Go.RowKit Go.Ice Go.Idl
set_option maxRecDepth 100000 in
theorem open_bytesR {H : Type} {enc : TypeId × Value → H} {base : Nat} {spare : Nat → Bool} {held : Bool} {b0 : Nat} {dd : DataW H} {ps : List MemPlace} {r : Reach} {v : Value} {w : World} (hv : Value.okWide Try.prog w r b0 23 v) (h : DataW.Trod enc Try.prog w base spare held 23 v dd ps) : ∃ l a c, v = .slice a l.length c ∧ BytesAt w (.slice a l.length c) l := by
  obtain ⟨a, len, cap, rfl⟩ := okWide_slice Try.underlying23 hv
  obtain ⟨n, hn⟩ := h
  exact leaf_bytes' (w := w) (enc := enc) (base := base) (spare := spare) (held := held) ⟨n, _, hn⟩
end Go.Proofs.Ytngpffmgkponfaa
namespace Go.Proofs.Ytngpffmgkponfaa.idealRefusesW
open Go.ChangeShapes Go.WideShapes Go.RowKit Go.Ice Go.Idl
set_option maxRecDepth 100000 in
theorem walk {H : Type} {enc : TypeId × Value → H} {base : Nat} {spare : Nat → Bool} {held : Bool} {b0 b1 : Nat} {d0 d1 : DataW H} {p0 p1 : List MemPlace} {r0 r1 : Reach} (v0 v1 : Value) (a2 : Int) (w : World) (hv0 : Value.okWide Try.prog w r0 b0 22 v0) (h0 : DataW.Trod enc Try.prog w base spare held 22 v0 d0 p0) (hv1 : Value.okWide Try.prog w r1 b1 23 v1) (h1 : DataW.Trod enc Try.prog w base spare held 23 v1 d1 p1) (w2 : (Lit.int .u8 a2).wf = true) :
    Calls Try.prog 4 #[v0, v1, .int .u8 a2] w fun e w' => e = .returned (.bool true) ∧ Below w.heap.size w w' := by
  obtain ⟨n, S, R, hrow, hS⟩ := open_saids (F := Try.f4) (ds := []) Try.underlying22 hv0 h0
  obtain ⟨fl, fa, fc, rfl, hf⟩ := open_bytesR hv1 h1
  have hb := bounds_u8 w2
  have h := refuses4 w n S R v0 hrow hS fa fc fl hf (UInt8.ofNat a2.toNat)
  rw [show (((UInt8.ofNat a2.toNat).toNat : Nat) : Int) = a2 from by rw [UInt8.toNat_ofNat']; omega] at h
  exact h
end Go.Proofs.Ytngpffmgkponfaa.idealRefusesW
namespace Go.Proofs.Ytngpffmgkponfaa.idealRefuses
open Go.ChangeShapes Go.WideShapes Go.ChangeAt Go.RowKit Go.Ice
set_option linter.unusedVariables false

set_option maxRecDepth 100000 in
theorem lifted (os : Os) (started : os.Started) (H : Type) (enc : TypeId × Value → H) :
    ReturnsInHanded {} Try.checked os 4 .any (Rows.idealRefusesSpec.pre6 enc Try.prog Try.f4 Rows.idealRefusesRow.domain false) (Rows.idealRefusesSpec.post enc Try.prog Try.f4 false true false false) := by
  refine returnsInHanded_of_change_sized (C := Try.checked) (by kernel_rfl) started (by kernel_rfl) Try.func4
    (ChangeSpec.witness6 (enc := enc) (C := Try.checked) false ⟨#[], #[.slice none 0 0, .slice none 0 0, .int .u8 0], []⟩ 8 (by kernel_rfl) (by kernel_rfl) (by kernel_rfl) (by kernel_rfl)) ?_
  intro W base args ds gs before hval0 hW hcnd hsz _
  have hval : ∀ (j : Nat) t v, Try.f4.params[j]? = some t → args[j]? = some v → Value.okWide Try.prog W .any base t v := hval0
  have hW' := hW
  have hlt := hW.lt
  obtain ⟨p, q, hA0, hV, rfl, hfz, hnd⟩ := hW
  have hA : DataW.TrodAll enc Try.prog W 0 (fun _ => true) true Try.f4.params.toList args.toList ds p := hA0
  rw [Try.params4] at hA hval
  have hAk := hA
  obtain ⟨rfl, rfl⟩ := trodVars_none hV
  simp only [List.append_nil] at hW' hlt
  obtain ⟨v0, vs0, d0, ds0, p0, q0, hargs, rfl, rfl, h0, r0⟩ := trodAll_cons hA
  obtain ⟨v1, vs1, d1, ds1, p1, q1, rfl, rfl, rfl, h1, r1⟩ := trodAll_cons r0
  obtain ⟨v2, vs2, d2, ds2, p2, q2, rfl, rfl, rfl, h2, r2⟩ := trodAll_cons r1
  obtain ⟨rfl, rfl, rfl⟩ := trodAll_nil r2
  obtain rfl : args = #[v0, v1, v2] := by cases args; simp_all
  obtain ⟨a2, rfl, rfl, rfl, w2⟩ := open_int Try.underlying5 (hval 2 5 v2 rfl rfl) h2
  refine (idealRefusesW.walk v0 v1 a2 W (hval 0 22 v0 rfl rfl) h0 (hval 1 23 v1 rfl rfl) h1 w2).mono fun e W' ⟨he, bel⟩ => ?_
  subst he
  have hB := trodAll_below (by kernel_rfl) bel _ _ _ _ (fun t ht => by
    simp only [List.mem_cons, List.mem_nil_iff, or_false] at ht
    rcases ht with rfl | rfl | rfl <;> exact ⟨by kernel_rfl, of_decide_eq_true (by kernel_rfl)⟩) hAk hlt
  exact ⟨_, rfl, _, _, _, [], _, [], hW', trodAll_mk1 (shut_bool Try.underlying4 _), hB, rfl, bel.frame _, fun h => by cases h⟩

theorem over : Rows.idealRefusesRow.holds Try.pinned (OpenSpec.ofChange Rows.idealRefusesSpec) :=
  OpenClaim.holds_of_wide 4 Try.f4 rfl rfl rfl rfl rfl rfl rfl ⟨rfl, rfl, rfl, rfl, rfl⟩ rfl rfl rfl rfl rfl (by kernel_rfl) Try.func4 (by kernel_rfl)
    (of_decide_eq_true (by kernel_rfl)) (by unfold Func.isWrapper; first | (rw [if_pos (by decide +kernel)]; kernel_rfl) | (rw [if_neg (by decide +kernel)]; exact ⟨rfl, rfl⟩))
    (fun os started H enc _ => lifted os started H enc)

/-- The statement. -/
theorem proved : Rows.IdealRefusesSaid := over
#print axioms proved
end Go.Proofs.Ytngpffmgkponfaa.idealRefuses
