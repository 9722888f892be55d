/- A ring that came in: how many segments it has at most. No condition. The law LogOpens returns true at every input, and leaves its arguments as they were. No condition. -/
import Derived.Test.YtjmocjcjiiopnaaGreatLogOpens32
import Derived.ChangeSame
import Derived.Test.YtjmocjcjiiopnaaGreatLogOpens34

section
set_option linter.unusedVariables false
set_option linter.unusedSimpArgs false
namespace Go.Proofs.YtjmocjcjiiopnaaGreat
open Go.ChangeShapes Go.WideShapes Go.Deep Go.RowKit Go.Ice Go.Ring
section
variable {H : Type} {enc : TypeId × Value → H} {w : World} {base : Nat} {spare : Nat → Bool} {held : Bool}
set_option maxRecDepth 100000 in
theorem ring_len {sec : Int} {a : Option Addr} {n c : Nat} {dd : DataW H} {ps : List MemPlace} (h : DataW.Trod enc Tryz.prog w base spare held 54 (.agg #[.int .i64 sec, .slice a n c]) dd ps) : ∃ p0 p1 : DataW H, dd = .agg [p0, p1] ∧ (n = 0 ∨ ∃ el sp, p1 = .slice el sp ∧ n ≤ el.length + sp.length) := by
  obtain ⟨k, hn⟩ := h
  obtain ⟨y0, y1, m, hx, hl, t0, t1⟩ := trod_struct2 Tryz.underlying54 hn
  have e1 : Tryz.prog.cellsOf 52 = 1 := by kernel_rfl
  dsimp only at t1
  rw [e1] at t1
  have t1 : DataW.trod enc Tryz.prog w base spare held m 52 [.slice a n c] = some y1 := t1
  have hx' : dd = .agg [y0.1, y1.1] := congrArg Prod.fst hx
  refine ⟨_, _, hx', ?_⟩
  rcases open_slice Tryz.underlying52 t1 with ⟨q1, q2⟩ | ⟨aa, len, cap, mm, nn, D, Pl, q1, _, _, _, _, q5, _⟩
  · left
    have q3 : (Value.slice a n c) = .slice none 0 0 := (List.cons.inj q1).1
    injection q3
  · right
    have q6 : (Value.slice a n c) = .slice (some aa) len cap := (List.cons.inj q1).1
    have q7 : n = len := by injection q6
    refine ⟨_, _, by rw [q5], ?_⟩
    rw [q7, List.length_map, List.length_range]
    omega
theorem sized_ring {ts : List TypeId} {ds : List (DataW H)} (h : (DataW.weightsEach Tryz.checked.prog ts ds).all (· ≤ reachBytes) = true) {j : Nat} {p0 : DataW H} {el sp : List (DataW H)} (ht : ts[j]? = some 54) (hd : ds[j]? = some (.agg [p0, .slice el sp])) : (el.length + sp.length) * 24 ≤ reachBytes := by
  have key : (el.length + sp.length) * Tryz.checked.prog.bytesOf 135 ≤ reachBytes := by
    refine of_decide_eq_true (List.all_eq_true.1 h _ (DataW.weights_mem_each ht hd _ ?_))
    have hu : Tryz.checked.prog.underlying 54 = _ := Tryz.underlying54
    have hu2 : Tryz.checked.prog.underlying 52 = _ := Tryz.underlying52
    simp only [DataW.weights, hu]
    refine DataW.weights_mem_each (j := 1) (t := 52) rfl rfl _ ?_
    simp only [DataW.weights, hu2]
    exact List.mem_cons_self
  rw [show Tryz.checked.prog.bytesOf 135 = 24 by kernel_rfl] at key
  exact key
end
end Go.Proofs.YtjmocjcjiiopnaaGreat
end

section
set_option linter.unusedVariables false
namespace Go.Proofs.YtjmocjcjiiopnaaGreat.logOpensW
open Go.ChangeShapes Go.WideShapes Go.RowKit Go.Ice Go.Lg
set_option maxRecDepth 100000 in
theorem walk {H : Type} {enc : TypeId × Value → H} {base : Nat} {spare : Nat → Bool} {held : Bool} {b0 b1 b2 : Nat} {d0 d1 d2 : DataW H} {p0 p1 p2 : List MemPlace} {r0 r1 r2 : Reach} (v0 v1 v2 : Value) (w : World) (hv0 : Value.okWide Tryz.prog w r0 b0 54 v0) (h0 : DataW.Trod enc Tryz.prog w base spare held 54 v0 d0 p0) (hv1 : Value.okWide Tryz.prog w r1 b1 3 v1) (h1 : DataW.Trod enc Tryz.prog w base spare held 3 v1 d1 p1) (hv2 : Value.okWide Tryz.prog w r2 b2 3 v2) (h2 : DataW.Trod enc Tryz.prog w base spare held 3 v2 d2 p2) (hb : ∀ q0 el sp, d0 = .agg [q0, .slice el sp] → (el.length + sp.length) * 24 ≤ reachBytes) :
    Calls Tryz.prog 5 #[v0, v1, v2] w fun e w' => e = .returned (.bool true) ∧ Below w.heap.size w w' := by
  obtain ⟨sec, u, l, rfl, hs⟩ := Rg.open_ring hv0 h0
  obtain ⟨a, rfl, _, _, _⟩ := open_int Tryz.underlying3 hv1 h1
  obtain ⟨b, rfl, _, _, _⟩ := open_int Tryz.underlying3 hv2 h2
  have hl : l.length * 24 ≤ 140737488355328 := by
    obtain ⟨ua, uc, rfl, _⟩ := RowAt.form hs
    obtain ⟨q0, q1, hd, hk⟩ := ring_len h0
    rcases hk with hk | ⟨el, sp, rfl, hk⟩
    · omega
    · have := hb q0 el sp hd
      unfold reachBytes at this
      omega
  refine (logOpens sec u l a b hl w _ (St.init w _ (segs_share hs))).mono ?_
  rintro e w' ⟨v, L, rfl, ⟨rfl, rfl⟩, h⟩
  exact ⟨rfl, h.done⟩
end Go.Proofs.YtjmocjcjiiopnaaGreat.logOpensW
namespace Go.Proofs.YtjmocjcjiiopnaaGreat.logOpens
open Go.ChangeShapes Go.WideShapes Go.ChangeAt Go.RowKit Go.Ice
set_option linter.unusedVariables false

set_option maxRecDepth 100000 in
theorem lifted (os : Os) (started : os.Started) (H : Type) (enc : TypeId × Value → H) :
    ReturnsInHanded {} Tryz.checked os 5 .any (Rows.logOpensSpec.pre6 enc Tryz.prog Tryz.f5 Rows.logOpensRow.domain false) (Rows.logOpensSpec.post enc Tryz.prog Tryz.f5 false true false false) := by
  refine returnsInHanded_of_change_sized (C := Tryz.checked) (by kernel_rfl) started (by kernel_rfl) Tryz.func5
    (ChangeSpec.witness6 (enc := enc) (C := Tryz.checked) false ⟨#[], #[.agg #[.int .i64 0, .slice none 0 0], .int .i64 0, .int .i64 0], []⟩ 8 (by kernel_rfl) (by kernel_rfl) (by kernel_rfl) (by kernel_rfl)) ?_
  intro W base args ds gs before hval0 hW hcnd hsz _
  have hval : ∀ (j : Nat) t v, Tryz.f5.params[j]? = some t → args[j]? = some v → Value.okWide Tryz.prog W .any base t v := hval0
  have hW' := hW
  have hlt := hW.lt
  obtain ⟨p, q, hA0, hV, rfl, hfz, hnd⟩ := hW
  have hA : DataW.TrodAll enc Tryz.prog W 0 (fun _ => true) true Tryz.f5.params.toList args.toList ds p := hA0
  rw [Tryz.params5] at hA hval
  have hAk := hA
  obtain ⟨rfl, rfl⟩ := trodVars_none hV
  simp only [List.append_nil] at hW' hlt
  obtain ⟨v0, vs0, d0, ds0, p0, q0, hargs, rfl, rfl, h0, r0⟩ := trodAll_cons hA
  obtain ⟨v1, vs1, d1, ds1, p1, q1, rfl, rfl, rfl, h1, r1⟩ := trodAll_cons r0
  obtain ⟨v2, vs2, d2, ds2, p2, q2, rfl, rfl, rfl, h2, r2⟩ := trodAll_cons r1
  obtain ⟨rfl, rfl, rfl⟩ := trodAll_nil r2
  obtain rfl : args = #[v0, v1, v2] := by cases args; simp_all
  refine (logOpensW.walk v0 v1 v2 W (hval 0 54 v0 rfl rfl) h0 (hval 1 3 v1 rfl rfl) h1 (hval 2 3 v2 rfl rfl) h2 (fun q0 el sp hd => sized_ring hsz (j := 0) (by rw [Tryz.params5]; rfl) (congrArg some hd))).mono fun e W' ⟨he, bel⟩ => ?_
  subst he
  have hB := trodAll_below (by kernel_rfl) bel _ _ _ _ (fun t ht => by
    simp only [List.mem_cons, List.mem_nil_iff, or_false] at ht
    rcases ht with rfl | rfl | rfl <;> exact ⟨by kernel_rfl, of_decide_eq_true (by kernel_rfl)⟩) hAk hlt
  exact ⟨_, rfl, _, _, _, [], _, [], hW', trodAll_mk1 (shut_bool Tryz.underlying4 _), hB, rfl, bel.frame _, fun h => by cases h⟩

theorem over : Rows.logOpensRow.holds Tryz.pinned (OpenSpec.ofChange Rows.logOpensSpec) :=
  OpenClaim.holds_of_wide 5 Tryz.f5 rfl rfl rfl rfl rfl rfl rfl ⟨rfl, rfl, rfl, rfl, rfl⟩ rfl rfl rfl rfl rfl (by kernel_rfl) Tryz.func5 (by kernel_rfl)
    (of_decide_eq_true (by kernel_rfl)) (by unfold Func.isWrapper; first | (rw [if_pos (by decide +kernel)]; kernel_rfl) | (rw [if_neg (by decide +kernel)]; exact ⟨rfl, rfl⟩))
    (fun os started H enc _ => lifted os started H enc)

/-- The statement. -/
theorem proved : Rows.LogOpensSaid := over
#print axioms proved
end Go.Proofs.YtjmocjcjiiopnaaGreat.logOpens
end
