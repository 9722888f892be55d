/- Bools and a cut that came in, read off the arguments. No condition. The law LogCuts returns true at every input, and leaves its arguments as they were. No condition. -/
import Derived.Test.YtjmocjcjiiopnaaLogCuts36
import Derived.Deep.Strs
import Derived.Deep.Grids
import Derived.Test.YtjmocjcjiiopnaaLogCuts37

section
set_option linter.unusedVariables false
set_option linter.unusedSimpArgs false
namespace Go.Proofs.Ytjmocjcjiiopnaa
open Go.ChangeShapes Go.WideShapes Go.Deep Go.RowKit Go.Ice Go.Oct
section
variable {H : Type} {enc : TypeId × Value → H} {w : World} {base : Nat} {spare : Nat → Bool} {held : Bool}
theorem leaf_bools {v : Value} (h : LeafAt enc Try.prog w base spare held 52 v) : ∃ (l : List Bool) (a : Option Addr) (c : Nat), v = .slice a l.length c ∧ IsSlK w 1 l.length (.slice a l.length c) (l.map .bool) := by
  rcases h.structs Try.underlying52 1 [4] (by kernel_rfl) (by kernel_rfl) (by decide) with rfl | ⟨x, len, cap, rfl, k1, k2, k3⟩
  · exact ⟨[], none, 0, rfl, rfl, .inl ⟨rfl, .inl rfl⟩⟩
  · rcases Nat.eq_zero_or_pos len with rfl | hpos
    · exact ⟨[], some x, cap, rfl, rfl, .inl ⟨rfl, .inr ⟨_, _, rfl⟩⟩⟩
    · obtain ⟨b, off, rfl, hb, hcell⟩ := k3 hpos
      have key : ∀ i, ∃ c : Bool, i < len → w.cell? ⟨b, off + i, none⟩ = some (.bool c) := fun i => by
        by_cases hi : i < len
        · obtain ⟨u, c0, m, y, hm⟩ := hcell i hi 0 4 rfl
          obtain ⟨z, h1, h2⟩ := DataW.trod_bool Try.underlying4 hm
          have hu : u = .bool z := by simpa using h1
          refine ⟨z, fun _ => ?_⟩
          have e : off + (i * [4].length + 0) = off + i := by simp
          rw [e, hu] at c0
          exact c0
        · exact ⟨false, fun h => absurd h hi⟩
      obtain ⟨f, hf⟩ := Classical.axiomOfChoice key
      have hlen : ((List.range len).map f).length = len := by simp
      refine ⟨(List.range len).map f, some ⟨b, off, none⟩, cap, by rw [hlen], ?_⟩
      rw [hlen]
      refine ⟨by simp, .inr ⟨hpos, b, off, cap, rfl, k1, k2, hb, fun j hj => ?_⟩⟩
      have hj' : j < len := by simpa using hj
      rw [hf j hj']
      simp [hj']
theorem sl_share {v : Value} {n : Nat} {cs : List Value} (h : IsSlK w 1 n v cs) : ∃ F, (slA 1 v n cs).p F w ∧ ∀ b, F b → (fun _ => True) b ∧ b < w.heap.size :=
  ⟨fun b => cs ≠ [] ∧ v.ownBlock = some b, ⟨fun _ => Iff.rfl, by decide, h⟩, fun b hb => ⟨trivial, (slA 1 v n cs).inn _ w ⟨fun _ => Iff.rfl, by decide, h⟩ b hb⟩⟩
set_option maxRecDepth 100000 in
theorem open_boolS {v : Value} {dd : DataW H} {ps : List MemPlace} {b0 : Nat} {r : Reach} (hv : Value.okWide Try.prog w r b0 52 v) (h : DataW.Trod enc Try.prog w base spare held 52 v dd ps) : ∃ (l : List Bool) (a : Option Addr) (c : Nat), v = .slice a l.length c ∧ IsSlK w 1 l.length (.slice a l.length c) (l.map .bool) := by
  obtain ⟨a, len, cap, rfl⟩ := okWide_slice Try.underlying52 hv
  obtain ⟨n, hn⟩ := h
  exact leaf_bools (enc := enc) (base := base) (spare := spare) (held := held) ⟨n, _, hn⟩
set_option maxRecDepth 100000 in
/-- A cut that came in. -/
theorem open_cut {v : Value} {dd : DataW H} {ps : List MemPlace} {b0 : Nat} {r : Reach} (hv : Value.okWide Try.prog w r b0 54 v) (h : DataW.Trod enc Try.prog w base (fun _ => true) held 54 v dd ps) : ∃ (at_ : Int) (fl : Bool) (keep : List Bool) (a : Option Addr) (c : Nat), v = .agg #[.int .i64 at_, .bool fl, .slice a keep.length c] ∧ at_ ≤ 9223372036854775807 ∧ IsSlK w 1 keep.length (.slice a keep.length c) (keep.map .bool) ∧ ∃ p0 p1 p2 : DataW H, dd = .agg [p0, p1, p2] ∧ (keep.length = 0 ∨ ∃ el sp, p2 = .slice el sp ∧ keep.length ≤ el.length + sp.length) := by
  obtain ⟨cs, rfl, hsz⟩ := okWide_struct Try.underlying54 hv
  obtain ⟨n, hn⟩ := h
  obtain ⟨y0, y1, y2, m, hx, hl, t0, t1, t2⟩ := trod_struct3 Try.underlying54 hn
  have h3 : cs.size = 3 := by rw [hsz]; kernel_rfl
  obtain ⟨l3⟩ := cs
  match l3, h3 with
  | [c0, c1, c2], _ =>
    have e0 : Try.prog.cellsOf 3 = 1 := by kernel_rfl
    have e1 : Try.prog.cellsOf 4 = 1 := by kernel_rfl
    have e2 : Try.prog.cellsOf 52 = 1 := by kernel_rfl
    dsimp only at t0 t1 t2
    rw [e0] at t0
    rw [e1] at t1
    rw [e2] at t2
    have t0 : DataW.trod enc Try.prog w base (fun _ => true) held m 3 [c0] = some y0 := t0
    have t1 : DataW.trod enc Try.prog w base (fun _ => true) held m 4 [c1] = some y1 := t1
    have t2 : DataW.trod enc Try.prog w base (fun _ => true) held m 52 [c2] = some y2 := t2
    obtain ⟨z0, g1, g2, g3⟩ := DataW.trod_int Try.underlying3 t0
    obtain ⟨z1, k1, k2⟩ := DataW.trod_bool Try.underlying4 t1
    obtain ⟨keep, a, c, hk, hK⟩ := leaf_bools (enc := enc) (base := base) (spare := fun _ => true) (held := held) ⟨m, y2, t2⟩
    have hz := bounds_i64 g3
    have hx' : dd = .agg [y0.1, y1.1, y2.1] := congrArg Prod.fst hx
    have hc0 : c0 = .int .i64 z0 := by simpa using g1
    have hc1 : c1 = .bool z1 := by simpa using k1
    subst hc0 hc1 hk
    refine ⟨z0, z1, keep, a, c, rfl, by omega, hK, _, _, _, hx', ?_⟩
    rcases open_bools Try.underlying52 Try.underlying4 e1 t2 with ⟨q1, q2⟩ | ⟨aa, len, cap, B, q1, _, q3, _, q5, _⟩
    · left
      have q3 : (Value.slice a keep.length c) = .slice none 0 0 := (List.cons.inj q1).1
      injection q3
    · right
      have q6 : (Value.slice a keep.length c) = .slice (some aa) len cap := (List.cons.inj q1).1
      have q7 : keep.length = len := by injection q6
      refine ⟨_, _, by rw [q5]; rfl, ?_⟩
      rw [q7, List.length_map, List.length_range]
      omega
end
end Go.Proofs.Ytjmocjcjiiopnaa
end

section
set_option linter.unusedVariables false
namespace Go.Proofs.Ytjmocjcjiiopnaa.logCutsW
open Go.ChangeShapes Go.WideShapes Go.RowKit Go.Ice Go.Lg
theorem sized_cut {H : Type} {ts : List TypeId} {ds : List (DataW H)} (h : (DataW.weightsEach Try.checked.prog ts ds).all (· ≤ reachBytes) = true) {j : Nat} {p0 p1 : DataW H} {el sp : List (DataW H)} (ht : ts[j]? = some 54) (hd : ds[j]? = some (.agg [p0, p1, .slice el sp])) : el.length + sp.length ≤ reachBytes := by
  have key : (el.length + sp.length) * Try.checked.prog.bytesOf 4 ≤ reachBytes := by
    refine of_decide_eq_true (List.all_eq_true.1 h _ (DataW.weights_mem_each ht hd _ ?_))
    have hu : Try.checked.prog.underlying 54 = _ := Try.underlying54
    have hu2 : Try.checked.prog.underlying 52 = _ := Try.underlying52
    simp only [DataW.weights, hu]
    refine DataW.weights_mem_each (j := 2) (t := 52) rfl rfl _ ?_
    simp only [DataW.weights, hu2]
    exact List.mem_cons_self
  rw [show Try.checked.prog.bytesOf 4 = 1 by kernel_rfl, Nat.mul_one] at key
  exact key
set_option maxRecDepth 100000 in
theorem walk {H : Type} {enc : TypeId × Value → H} {base : Nat} {held : Bool} {b0 b1 b2 : Nat} {d0 d1 d2 : DataW H} {p0 p1 p2 : List MemPlace} {r0 r1 r2 : Reach} (v0 v1 v2 : Value) (w : World) (hv0 : Value.okWide Try.prog w r0 b0 22 v0) (h0 : DataW.Trod enc Try.prog w base (fun _ => true) held 22 v0 d0 p0) (hv1 : Value.okWide Try.prog w r1 b1 52 v1) (h1 : DataW.Trod enc Try.prog w base (fun _ => true) held 52 v1 d1 p1) (hv2 : Value.okWide Try.prog w r2 b2 54 v2) (h2 : DataW.Trod enc Try.prog w base (fun _ => true) held 54 v2 d2 p2) (hb : ∀ q0 q1 el sp, d2 = .agg [q0, q1, .slice el sp] → el.length + sp.length ≤ reachBytes) :
    Calls Try.prog 4 #[v0, v1, v2] w fun e w' => e = .returned (.bool true) ∧ Below w.heap.size w w' := by
  obtain ⟨l, a, c, rfl, hlen, hfits, hS⟩ := open_recs hv0 h0
  obtain ⟨sy, sa, sc, rfl, hsy⟩ := open_boolS hv1 h1
  obtain ⟨at_, fl, keep, ka, kc, rfl, hat, hK, q0, q1, q2, hd, hk⟩ := open_cut hv2 h2
  have hkl : keep.length ≤ 140737488355328 := by
    rcases hk with hk | ⟨el, sp, rfl, hk⟩
    · omega
    · have := hb q0 q1 el sp hd
      unfold reachBytes at this
      omega
  have hS2 : Shares (slA 6 (.slice a l.length c) l.length (l.flatMap rinC) :: slA 1 (.slice sa sy.length sc) sy.length (sy.map .bool) :: slA 1 (.slice ka keep.length kc) keep.length (keep.map .bool) :: rinS l) (fun _ => True) w := fun A hA => by
    rcases List.mem_cons.1 hA with rfl | hA
    · exact hS _ List.mem_cons_self
    rcases List.mem_cons.1 hA with rfl | hA
    · exact sl_share hsy
    rcases List.mem_cons.1 hA with rfl | hA
    · exact sl_share hK
    · exact hS _ (List.mem_cons_of_mem _ hA)
  refine (logCuts l a c hlen hfits sy sa sc at_ hat fl keep ka kc hkl w _ (St.init w _ hS2)).mono ?_
  rintro e w' ⟨v, L, rfl, ⟨rfl, rfl⟩, h⟩
  exact ⟨rfl, h.done⟩
end Go.Proofs.Ytjmocjcjiiopnaa.logCutsW
namespace Go.Proofs.Ytjmocjcjiiopnaa.logCuts
open Go.ChangeShapes Go.WideShapes Go.ChangeAt Go.RowKit Go.Ice
set_option linter.unusedVariables false

set_option maxRecDepth 100000 in
theorem lifted (os : Os) (started : os.Started) (H : Type) (enc : TypeId × Value → H) :
    ReturnsInHanded {} Try.checked os 4 .any (Rows.logCutsSpec.pre6 enc Try.prog Try.f4 Rows.logCutsRow.domain false) (Rows.logCutsSpec.post enc Try.prog Try.f4 false true false false) := by
  refine returnsInHanded_of_change_sized (C := Try.checked) (by kernel_rfl) started (by kernel_rfl) Try.func4
    (ChangeSpec.witness6 (enc := enc) (C := Try.checked) false ⟨#[], #[.slice none 0 0, .slice none 0 0, .agg #[.int .i64 0, .bool false, .slice none 0 0]], []⟩ 8 (by kernel_rfl) (by kernel_rfl) (by kernel_rfl) (by kernel_rfl)) ?_
  intro W base args ds gs before hval0 hW hcnd hsz _
  have hval : ∀ (j : Nat) t v, Try.f4.params[j]? = some t → args[j]? = some v → Value.okWide Try.prog W .any base t v := hval0
  have hW' := hW
  have hlt := hW.lt
  obtain ⟨p, q, hA0, hV, rfl, hfz, hnd⟩ := hW
  have hA : DataW.TrodAll enc Try.prog W 0 (fun _ => true) true Try.f4.params.toList args.toList ds p := hA0
  rw [Try.params4] at hA hval
  have hAk := hA
  obtain ⟨rfl, rfl⟩ := trodVars_none hV
  simp only [List.append_nil] at hW' hlt
  obtain ⟨v0, vs0, d0, ds0, p0, q0, hargs, rfl, rfl, h0, r0⟩ := trodAll_cons hA
  obtain ⟨v1, vs1, d1, ds1, p1, q1, rfl, rfl, rfl, h1, r1⟩ := trodAll_cons r0
  obtain ⟨v2, vs2, d2, ds2, p2, q2, rfl, rfl, rfl, h2, r2⟩ := trodAll_cons r1
  obtain ⟨rfl, rfl, rfl⟩ := trodAll_nil r2
  obtain rfl : args = #[v0, v1, v2] := by cases args; simp_all
  refine (logCutsW.walk v0 v1 v2 W (hval 0 22 v0 rfl rfl) h0 (hval 1 52 v1 rfl rfl) h1 (hval 2 54 v2 rfl rfl) h2 (fun q0 q1 el sp hd => logCutsW.sized_cut hsz (j := 2) (by rw [Try.params4]; rfl) (congrArg some hd))).mono fun e W' ⟨he, bel⟩ => ?_
  subst he
  have hB := trodAll_below (by kernel_rfl) bel _ _ _ _ (fun t ht => by
    simp only [List.mem_cons, List.mem_nil_iff, or_false] at ht
    rcases ht with rfl | rfl | rfl <;> exact ⟨by kernel_rfl, of_decide_eq_true (by kernel_rfl)⟩) hAk hlt
  exact ⟨_, rfl, _, _, _, [], _, [], hW', trodAll_mk1 (shut_bool Try.underlying4 _), hB, rfl, bel.frame _, fun h => by cases h⟩

theorem over : Rows.logCutsRow.holds Try.pinned (OpenSpec.ofChange Rows.logCutsSpec) :=
  OpenClaim.holds_of_wide 4 Try.f4 rfl rfl rfl rfl rfl rfl rfl ⟨rfl, rfl, rfl, rfl, rfl⟩ rfl rfl rfl rfl rfl (by kernel_rfl) Try.func4 (by kernel_rfl)
    (of_decide_eq_true (by kernel_rfl)) (by unfold Func.isWrapper; first | (rw [if_pos (by decide +kernel)]; kernel_rfl) | (rw [if_neg (by decide +kernel)]; exact ⟨rfl, rfl⟩))
    (fun os started H enc _ => lifted os started H enc)

/-- The statement. -/
theorem proved : Rows.LogCutsSaid := over
#print axioms proved
end Go.Proofs.Ytjmocjcjiiopnaa.logCuts
end
