/- Regions of open order, by a table of values with a ghost: what a call yields (new memory) is a value of the ghost, chosen when the call is made. No condition. Regions of open order whose world is told by assertions. No condition. -/
import Derived.Test.YtjmocjcjiiopnaaGreatLogScans07
import Derived.Test.YtjmocjcjiiopnaaGreatLogScans04

section
set_option linter.unusedVariables false
namespace Go.Ice

/-- Two tables that differ in what is not done. -/
inductive Agree (done : Nat → Bool) : List (Nat × Nat × Value) → List (Nat × Nat × Value) → Prop
  | nil : Agree done [] []
  | cons {x y : Nat × Nat × Value} {l m : List (Nat × Nat × Value)} : (x = y ∨ (x.1 = y.1 ∧ done x.1 = false)) → Agree done l m → Agree done (x :: l) (y :: m)
theorem putT_agree {done : Nat → Bool} : ∀ {t t' : List (Nat × Nat × Value)} (a : Act), Agree done t t' → putT done t a = putT done t' a
  | _, _, a, .nil => rfl
  | (i, d, v) :: t, (i', d', v') :: t', a, .cons h r => by
    rcases h with h | ⟨h1, h2⟩
    · cases h
      unfold putT
      rw [putT_agree _ r, putT_agree _ r]
    · have h1 : i = i' := h1
      subst h1
      have h2 : done i = false := h2
      unfold putT
      rw [h2]
      exact putT_agree _ r

theorem wp_region_gh {Θ : Type} {P : Program} {ops : Array Oper} {Q : Exit → Act → World → Prop} {id : Nat} {a : Act} {w : World} (tbl : Θ → List (Nat × Nat × Value)) (J : Θ → (Nat → Bool) → World → Prop) (hm : P.follows .mixedOrders = true)
    (hord : ∀ (i : Nat) (o : Oper), ops[i]? = some o → ∀ e ∈ o.after, Region.binds .any e = true → e.on < i) (ht : ∀ θ, ((tbl θ).map fun x => (x.1, x.2.1)) = dstsOf ops) (ha : ∀ θ, apartT (tbl θ) = true) (hf : ∀ θ, fitsT (tbl θ) a.tmps.size = true) (h0 : ∃ θ, J θ (fun _ => false) w.drew)
    (hstep : ∀ (θ : Θ) (done : Nat → Bool) (b : Act) (W : World) (i : Nat) (o : Oper), ops[i]? = some o → done i = false → (∀ e ∈ o.after, Region.binds .any e = true → done e.on = true) → Closed ops done → AtT (tbl θ) done a b → J θ done W →
      wpOp P ops Q i (fun a' W' => ∃ v θ', a' = b.put o.dst v ∧ (∀ d, o.dst = some d → (i, d, v) ∈ tbl θ') ∧ (θ' = θ ∨ Agree done (tbl θ) (tbl θ')) ∧ J θ' (fun k => decide (k = i) || done k) W') b W)
    (hend : ∀ (θ : Θ) (done : Nat → Bool) (W : World), (∀ i, i < ops.size → done i = true) → J θ done W → Q .normal (putAll (tbl θ) a) W) : (Code.region id ops true).wp P Q a w := by
  refine wp_region_inv2 hm hord (fun done b W => ∃ θ, b = putT done (tbl θ) a ∧ J θ done W) ?_ ?_ ?_
  · obtain ⟨θ, h⟩ := h0
    exact ⟨θ, (putT_none (tbl θ) a).symm, h⟩
  · rintro done b W i o ho hd hdep hcl ⟨θ, rfl, hJ⟩
    refine wpOp_mono ?_ (hstep θ done _ W i o ho hd hdep hcl ⟨fun s => (putT_look done s (tbl θ) a (ha θ) (hf θ)).1, fun s => (putT_look done s (tbl θ) a (ha θ) (hf θ)).2⟩ hJ)
    rintro a' W' ⟨v, θ', rfl, hv, hag, hJ'⟩
    have hag' : putT done (tbl θ) a = putT done (tbl θ') a := by
      rcases hag with rfl | h
      · rfl
      · exact putT_agree a h
    refine ⟨θ', ?_, hJ'⟩
    rw [hag']
    cases hdst : o.dst with
    | none =>
      show putT done (tbl θ') a = _
      refine putT_congr (tbl θ') a fun x hx => ?_
      have hx' : (x.1, x.2.1) ∈ dstsOf ops := by rw [← ht θ']; exact List.mem_map.2 ⟨x, hx, rfl⟩
      have : x.1 ≠ i := by
        intro e
        rw [e] at hx'
        unfold dstsOf at hx'
        obtain ⟨⟨o', k⟩, hk, he⟩ := List.mem_filterMap.1 hx'
        rw [List.mem_zipIdx_iff_getElem?] at hk
        cases hdd : o'.dst with
        | none => simp [hdd] at he
        | some e' =>
          simp [hdd] at he
          obtain ⟨rfl, _⟩ := he
          have : o' = o := by
            have h1 : ops[k]? = some o' := by simpa using hk
            rw [ho] at h1; exact (Option.some.inj h1).symm
          rw [this, hdst] at hdd; cases hdd
      simp [this]
    | some d => exact putT_step (tbl θ') a (ha θ') (hv d hdst) hd
  · rintro done b W hall ⟨θ, rfl, hJ⟩
    have := hend θ done W hall hJ
    rw [← putT_all (done := done) (tbl θ) a fun x hx => hall x.1 (dstsOf_lt (by rw [← ht θ]; exact List.mem_map.2 ⟨x, hx, rfl⟩))] at this
    exact this

section
variable {Θ : Type} {P : Program} {ops : Array Oper} {Q : Exit → Act → World → Prop} {i : Nat} {o : Oper} {b : Act} {W : World} {tbl : Θ → List (Nat × Nat × Value)} {J : Θ → World → Prop} {θ : Θ} {done : Nat → Bool}
theorem valG {W' : World} (v : Value) (ho : ops[i]? = some o) (hg : Region.wanted o (yielded ops b.tmps) = true) (hrun : (execOp b.eval o).run P W = .ok (.value v) W') (hm : ∀ d, o.dst = some d → (i, d, v) ∈ tbl θ) (hJ : J θ W') :
    wpOp P ops Q i (fun a' W' => ∃ v θ', a' = b.put o.dst v ∧ (∀ d, o.dst = some d → (i, d, v) ∈ tbl θ') ∧ (θ' = θ ∨ Agree done (tbl θ) (tbl θ')) ∧ J θ' W') b W :=
  wpOp_valW ho hg hrun ⟨v, θ, rfl, hm, .inl rfl, hJ⟩
theorem passG (ho : ops[i]? = some o) (hg : Region.wanted o (yielded ops b.tmps) = false) (hm : ∀ d, o.dst = some d → (i, d, undef) ∈ tbl θ) (hJ : J θ W) :
    wpOp P ops Q i (fun a' W' => ∃ v θ', a' = b.put o.dst v ∧ (∀ d, o.dst = some d → (i, d, v) ∈ tbl θ') ∧ (θ' = θ ∨ Agree done (tbl θ) (tbl θ')) ∧ J θ' W') b W :=
  wpOp_pass ho hg ⟨undef, θ, rfl, hm, .inl rfl, hJ⟩
theorem skipG {W' : World} (ho : ops[i]? = some o) (hg : o.guard = none) (hd : o.dst = none) (hrun : (execOp b.eval o).run P W = .ok .skip W') (hJ : J θ W') :
    wpOp P ops Q i (fun a' W' => ∃ v θ', a' = b.put o.dst v ∧ (∀ d, o.dst = some d → (i, d, v) ∈ tbl θ') ∧ (θ' = θ ∨ Agree done (tbl θ) (tbl θ')) ∧ J θ' W') b W :=
  wpOp_skip ho hg hrun ⟨undef, θ, rfl, fun d h => (by rw [hd] at h; cases h), .inl rfl, hJ⟩
/-- A load whose run is known. -/
theorem loadG {v p : Value} (ty : TypeId) (x : Operand) (ho : ops[i]? = some o) (hg : Region.wanted o (yielded ops b.tmps) = true) (hop : o.op = .load ty x) (hx : b.eval x = p) (hrun : (Instr.loadAt ty p).run P W = .ok v W) (hm : ∀ d, o.dst = some d → (i, d, v) ∈ tbl θ) (hJ : J θ W) :
    wpOp P ops Q i (fun a' W' => ∃ v θ', a' = b.put o.dst v ∧ (∀ d, o.dst = some d → (i, d, v) ∈ tbl θ') ∧ (θ' = θ ∨ Agree done (tbl θ) (tbl θ')) ∧ J θ' W') b W :=
  valG v ho hg (by unfold execOp; simp only [hop, hx, Sem.run_bind, Sem.run_pure, hrun, Result.andThen_ok]) hm hJ
/-- A store whose run is known. -/
theorem storeG {W' : World} {v p : Value} (ty : TypeId) (x y : Operand) (ho : ops[i]? = some o) (hg : o.guard = none) (hd : o.dst = none) (hop : o.op = .store ty x y) (hx : b.eval x = p) (hy : b.eval y = v) (hrun : (Instr.storeAt ty p v).run P W = .ok () W') (hJ : J θ W') :
    wpOp P ops Q i (fun a' W' => ∃ v θ', a' = b.put o.dst v ∧ (∀ d, o.dst = some d → (i, d, v) ∈ tbl θ') ∧ (θ' = θ ∨ Agree done (tbl θ) (tbl θ')) ∧ J θ' W') b W :=
  skipG ho hg hd (by unfold execOp; simp only [hop, hx, hy, Sem.run_bind, Sem.run_pure, hrun, Result.andThen_ok]) hJ
theorem callG {f : FuncId} {args : Array Value} {R : Ending → World → Prop} (ho : ops[i]? = some o) (hg : Region.wanted o (yielded ops b.tmps) = true) (hrun : (execOp b.eval o).run P W = .ok (.enter f args) W) (hc : Calls P f args W R)
    (hR : ∀ e w', R e w' → ∃ v θ', e = .returned v ∧ (∀ d, o.dst = some d → (i, d, v) ∈ tbl θ') ∧ (θ' = θ ∨ Agree done (tbl θ) (tbl θ')) ∧ J θ' w') :
    wpOp P ops Q i (fun a' W' => ∃ v θ', a' = b.put o.dst v ∧ (∀ d, o.dst = some d → (i, d, v) ∈ tbl θ') ∧ (θ' = θ ∨ Agree done (tbl θ) (tbl θ')) ∧ J θ' W') b W :=
  wpOp_callW ho hg hrun hc fun e w' h => by
    obtain ⟨v, θ', he, h2⟩ := hR e w' h
    exact ⟨v, he, v, θ', rfl, h2⟩
end
end Go.Ice
end

section
set_option linter.unusedVariables false
namespace Go.Ice
open Go.RowKit
theorem St.cast {w0 : World} {B : Nat → Prop} {M M' S : List Asn} {w : World} (e : M = M') (h : St w0 B M S w) : St w0 B M' S w := e ▸ h
section
variable {Θ : Type} {P : Program} {ops : Array Oper} {Q : Exit → Act → World → Prop} {i : Nat} {o : Oper} {b : Act} {W : World} {tbl : Θ → List (Nat × Nat × Value)} {J : Θ → World → Prop} {θ : Θ} {done : Nat → Bool}
theorem valGG {W' : World} (θ' : Θ) (v : Value) (ho : ops[i]? = some o) (hg : Region.wanted o (yielded ops b.tmps) = true) (hrun : (execOp b.eval o).run P W = .ok (.value v) W') (hm : ∀ d, o.dst = some d → (i, d, v) ∈ tbl θ') (hag : θ' = θ ∨ Agree done (tbl θ) (tbl θ')) (hJ : J θ' W') :
    wpOp P ops Q i (fun a' W' => ∃ v θ', a' = b.put o.dst v ∧ (∀ d, o.dst = some d → (i, d, v) ∈ tbl θ') ∧ (θ' = θ ∨ Agree done (tbl θ) (tbl θ')) ∧ J θ' W') b W :=
  wpOp_valW ho hg hrun ⟨v, θ', rfl, hm, hag, hJ⟩
theorem appG {W' : World} (θ' : Θ) {v vx v' : Value} (s x : Operand) (t : TypeId) (ho : ops[i]? = some o) (hg : o.guard = none) (hop : o.op = .call { callee := .builtin .append, args := #[s, x], argTypes := #[t, t] }) (hs : b.eval s = v) (hx : b.eval x = vx)
    (hrun : (Builtin.append_ #[t, t] o.type #[v, vx]).run P W = .ok v' W') (hm : ∀ d, o.dst = some d → (i, d, v') ∈ tbl θ') (hag : θ' = θ ∨ Agree done (tbl θ) (tbl θ')) (hJ : J θ' W') :
    wpOp P ops Q i (fun a' W' => ∃ v θ', a' = b.put o.dst v ∧ (∀ d, o.dst = some d → (i, d, v) ∈ tbl θ') ∧ (θ' = θ ∨ Agree done (tbl θ) (tbl θ')) ∧ J θ' W') b W :=
  wpOp_append ho hg s x t hop hs hx hrun ⟨v', θ', rfl, hm, hag, hJ⟩
/-- A struct literal whose run is known. -/
theorem buildG {vals : Array (Nat × Value)} {v : Value} (t : TypeId) (parts : Array (Nat × Operand)) (ho : ops[i]? = some o) (hg : Region.wanted o (yielded ops b.tmps) = true) (hop : o.op = .build t parts) (hp : (parts.map fun x => (x.1, b.eval x.2)) = vals) (hrun : (Instr.build t vals).run P W = .ok v W)
    (hm : ∀ d, o.dst = some d → (i, d, v) ∈ tbl θ) (hJ : J θ W) :
    wpOp P ops Q i (fun a' W' => ∃ v θ', a' = b.put o.dst v ∧ (∀ d, o.dst = some d → (i, d, v) ∈ tbl θ') ∧ (θ' = θ ∨ Agree done (tbl θ) (tbl θ')) ∧ J θ' W') b W :=
  wpOp_valW ho hg (by unfold execOp; simp only [hop, Sem.run_bind]; rw [hp, hrun]; rfl) ⟨v, θ, rfl, hm, .inl rfl, hJ⟩
/-- A slice literal whose run is known. -/
theorem buildSliceG {W' : World} (θ' : Θ) {vals : Array (Nat × Value)} {v : Value} (t : TypeId) (n : Nat) (parts : Array (Nat × Operand)) (ho : ops[i]? = some o) (hg : Region.wanted o (yielded ops b.tmps) = true) (hop : o.op = .buildSlice t n parts) (hp : (parts.map fun x => (x.1, b.eval x.2)) = vals) (hrun : (Instr.buildSlice t n vals).run P W = .ok v W')
    (hm : ∀ d, o.dst = some d → (i, d, v) ∈ tbl θ') (hag : θ' = θ ∨ Agree done (tbl θ) (tbl θ')) (hJ : J θ' W') :
    wpOp P ops Q i (fun a' W' => ∃ v θ', a' = b.put o.dst v ∧ (∀ d, o.dst = some d → (i, d, v) ∈ tbl θ') ∧ (θ' = θ ∨ Agree done (tbl θ) (tbl θ')) ∧ J θ' W') b W :=
  wpOp_valW ho hg (by unfold execOp; simp only [hop, Sem.run_bind]; rw [hp, hrun]; rfl) ⟨v, θ', rfl, hm, hag, hJ⟩
end
end Go.Ice
end
