/- A region whose order is open, by an invariant on which operations are done. Condition: every operation waits for earlier ones alone. -/
import Derived.Test.YtngpffmgkponfaaBase
namespace Go.Ice
open Go.RowKit

def unlisted (n : Nat) (done : Nat → Bool) : Nat := ((List.range n).filter fun i => !done i).length

theorem unlisted_step (n i : Nat) (done : Nat → Bool) (hi : i < n) (hd : done i = false) : unlisted n (fun k => decide (k = i) || done k) < unlisted n done := by
  unfold unlisted
  induction n with
  | zero => omega
  | succ n ih =>
    rw [List.range_succ, List.filter_append, List.filter_append, List.length_append, List.length_append]
    by_cases h : i = n
    · subst h
      have h1 : ((List.range i).filter fun k => !(decide (k = i) || done k)) = (List.range i).filter fun k => !done k := by
        apply List.filter_congr
        intro k hk
        have : k ≠ i := by have := List.mem_range.1 hk; omega
        simp [this]
      rw [h1]
      simp [hd]
    · have h1 := ih (by omega)
      have h2 : (([n].filter fun k => !(decide (k = i) || done k))) = [n].filter fun k => !done k := by
        apply List.filter_congr
        intro k hk
        have : k ≠ i := by rw [List.mem_singleton.1 hk]; exact fun e => h e.symm
        simp [this]
      rw [h2]
      exact Nat.add_lt_add_right h1 _

theorem unlisted_zero (n : Nat) (done : Nat → Bool) (h : unlisted n done = 0) : ∀ i, i < n → done i = true := by
  intro i hi
  unfold unlisted at h
  rw [List.length_eq_zero_iff, List.filter_eq_nil_iff] at h
  have := h i (List.mem_range.2 hi)
  simpa using this

/-- What is done has all done that it waits for. -/
def Closed (ops : Array Oper) (done : Nat → Bool) : Prop := ∀ (i : Nat) (o : Oper), ops[i]? = some o → done i = true → ∀ e ∈ o.after, Region.binds .any e = true → done e.on = true

theorem wp_region_inv {P : Program} {ops : Array Oper} {Q : Exit → Act → World → Prop} {id : Nat} {a : Act} {w : World} (hm : P.follows .mixedOrders = true)
    (hord : ∀ (i : Nat) (o : Oper), ops[i]? = some o → ∀ e ∈ o.after, e.on < i) (I : (Nat → Bool) → Act → World → Prop) (h0 : I (fun _ => false) a w.drew)
    (hstep : ∀ (done : Nat → Bool) (a : Act) (w : World) (i : Nat) (o : Oper), ops[i]? = some o → done i = false → (∀ e ∈ o.after, Region.binds .any e = true → done e.on = true) → Closed ops done → I done a w →
      wpOp P ops Q i (I (fun k => decide (k = i) || done k)) a w)
    (hend : ∀ (done : Nat → Bool) (a : Act) (w : World), (∀ i, i < ops.size → done i = true) → I done a w → Q .normal a w) : (Code.region id ops true).wp P Q a w := by
  refine wp_region_any hm ?_
  have hall : ∀ (listed : Array Bool) (done : Nat → Bool), listed.size = ops.size → (∀ i, i < ops.size → listed.getD i true = done i) → Region.ready .any ops listed = [] → ∀ i, i < ops.size → done i = true := by
    intro listed done hs hl hr
    intro i
    induction i using Nat.strongRecOn with
    | _ i ih =>
      intro hi
      cases hd : done i with
      | true => rfl
      | false =>
        exfalso
        have hmem : i ∈ Region.ready .any ops listed := by
          rw [mem_ready]
          refine ⟨by rw [hl i hi, hd], ops[i], Array.getElem?_eq_getElem hi, fun e he _ => ?_⟩
          have hlt := hord i _ (Array.getElem?_eq_getElem hi) e he
          have h1 := ih e.on hlt (by omega)
          have h2 := hl e.on (by omega)
          rw [h1] at h2
          have h3 : e.on < listed.size := by omega
          simp only [Array.getD, h3, dite_true] at h2 ⊢
          exact h2
        rw [hr] at hmem
        cases hmem
  have key : ∀ (fuel : Nat) (listed : Array Bool) (done : Nat → Bool) (a : Act) (w : World), listed.size = ops.size → (∀ i, i < ops.size → listed.getD i true = done i) → unlisted ops.size done ≤ fuel → Closed ops done → I done a w → wpAny P .any ops Q fuel listed a w := by
    intro fuel
    induction fuel with
    | zero =>
      intro listed done a w hs hl hu hcl hI
      have hd := unlisted_zero ops.size done (by omega)
      refine ⟨?_, hend done a w hd hI⟩
      rw [List.eq_nil_iff_forall_not_mem]
      intro j hj
      obtain ⟨h1, o, ho, _⟩ := mem_ready.1 hj
      have hlt : j < ops.size := (Array.getElem?_eq_some_iff.1 ho).1
      rw [hl j hlt, hd j hlt] at h1
      cases h1
    | succ fuel ih =>
      intro listed done a w hs hl hu hcl hI
      refine ⟨fun hr => hend done a w (hall listed done hs hl hr) hI, fun i hi => ?_⟩
      obtain ⟨h1, o, ho, h2⟩ := mem_ready.1 hi
      have hlt : i < ops.size := (Array.getElem?_eq_some_iff.1 ho).1
      have hd : done i = false := by rw [← hl i hlt]; exact h1
      refine wpOp_mono ?_ (hstep done a w i o ho hd (fun e he hb => ?_) hcl hI)
      · intro a' w' hI'
        refine ih _ _ a' w' (by rw [Array.size_setIfInBounds]; exact hs) (fun k hk => ?_) ?_ ?_ hI'
        · by_cases hk' : k = i
          · subst hk'
            simp [Array.getD, hs, hk]
          · have := hl k hk
            rw [getD_set_ne true (Ne.symm hk')]
            simp [hk', this]
        · have := unlisted_step ops.size i done hlt hd
          omega
        · intro k ok hok hdk e he hb
          by_cases hk' : k = i
          · subst hk'
            rw [ho] at hok
            cases hok
            have hlt2 := hord k o ho e he
            have h3 := h2 e he hb
            have h4 := hl e.on (by omega)
            have h5 : e.on < listed.size := by omega
            simp only [Array.getD, h5, dite_true] at h3 h4
            have : done e.on = true := by rw [← h4]; exact h3
            simp [this]
          · have := hcl k ok hok (by simpa [hk'] using hdk) e he hb
            simp [this]
      · have hlt2 := hord i o ho e he
        have h3 := h2 e he hb
        have h4 := hl e.on (by omega)
        have h5 : e.on < listed.size := by omega
        simp only [Array.getD, h5, dite_true] at h3 h4
        rw [← h4]
        exact h3
  refine key _ _ (fun _ => false) a _ (by simp) (fun i hi => ?_) ?_ (fun i o _ h => by cases h) h0
  · simp [Array.getD, hi]
  · unfold unlisted; exact Nat.le_trans (List.length_filter_le _ _) (by simp)

theorem wp_region_inv2 {P : Program} {ops : Array Oper} {Q : Exit → Act → World → Prop} {id : Nat} {a : Act} {w : World} (hm : P.follows .mixedOrders = true)
    (hord : ∀ (i : Nat) (o : Oper), ops[i]? = some o → ∀ e ∈ o.after, Region.binds .any e = true → e.on < i) (I : (Nat → Bool) → Act → World → Prop) (h0 : I (fun _ => false) a w.drew)
    (hstep : ∀ (done : Nat → Bool) (a : Act) (w : World) (i : Nat) (o : Oper), ops[i]? = some o → done i = false → (∀ e ∈ o.after, Region.binds .any e = true → done e.on = true) → Closed ops done → I done a w →
      wpOp P ops Q i (I (fun k => decide (k = i) || done k)) a w)
    (hend : ∀ (done : Nat → Bool) (a : Act) (w : World), (∀ i, i < ops.size → done i = true) → I done a w → Q .normal a w) : (Code.region id ops true).wp P Q a w := by
  refine wp_region_any hm ?_
  have hall : ∀ (listed : Array Bool) (done : Nat → Bool), listed.size = ops.size → (∀ i, i < ops.size → listed.getD i true = done i) → Region.ready .any ops listed = [] → ∀ i, i < ops.size → done i = true := by
    intro listed done hs hl hr
    intro i
    induction i using Nat.strongRecOn with
    | _ i ih =>
      intro hi
      cases hd : done i with
      | true => rfl
      | false =>
        exfalso
        have hmem : i ∈ Region.ready .any ops listed := by
          rw [mem_ready]
          refine ⟨by rw [hl i hi, hd], ops[i], Array.getElem?_eq_getElem hi, fun e he hb => ?_⟩
          have hlt := hord i _ (Array.getElem?_eq_getElem hi) e he hb
          have h1 := ih e.on hlt (by omega)
          have h2 := hl e.on (by omega)
          rw [h1] at h2
          have h3 : e.on < listed.size := by omega
          simp only [Array.getD, h3, dite_true] at h2 ⊢
          exact h2
        rw [hr] at hmem
        cases hmem
  have key : ∀ (fuel : Nat) (listed : Array Bool) (done : Nat → Bool) (a : Act) (w : World), listed.size = ops.size → (∀ i, i < ops.size → listed.getD i true = done i) → unlisted ops.size done ≤ fuel → Closed ops done → I done a w → wpAny P .any ops Q fuel listed a w := by
    intro fuel
    induction fuel with
    | zero =>
      intro listed done a w hs hl hu hcl hI
      have hd := unlisted_zero ops.size done (by omega)
      refine ⟨?_, hend done a w hd hI⟩
      rw [List.eq_nil_iff_forall_not_mem]
      intro j hj
      obtain ⟨h1, o, ho, _⟩ := mem_ready.1 hj
      have hlt : j < ops.size := (Array.getElem?_eq_some_iff.1 ho).1
      rw [hl j hlt, hd j hlt] at h1
      cases h1
    | succ fuel ih =>
      intro listed done a w hs hl hu hcl hI
      refine ⟨fun hr => hend done a w (hall listed done hs hl hr) hI, fun i hi => ?_⟩
      obtain ⟨h1, o, ho, h2⟩ := mem_ready.1 hi
      have hlt : i < ops.size := (Array.getElem?_eq_some_iff.1 ho).1
      have hd : done i = false := by rw [← hl i hlt]; exact h1
      refine wpOp_mono ?_ (hstep done a w i o ho hd (fun e he hb => ?_) hcl hI)
      · intro a' w' hI'
        refine ih _ _ a' w' (by rw [Array.size_setIfInBounds]; exact hs) (fun k hk => ?_) ?_ ?_ hI'
        · by_cases hk' : k = i
          · subst hk'
            simp [Array.getD, hs, hk]
          · have := hl k hk
            rw [getD_set_ne true (Ne.symm hk')]
            simp [hk', this]
        · have := unlisted_step ops.size i done hlt hd
          omega
        · intro k ok hok hdk e he hb
          by_cases hk' : k = i
          · subst hk'
            rw [ho] at hok
            cases hok
            have hlt2 := hord k o ho e he hb
            have h3 := h2 e he hb
            have h4 := hl e.on (by omega)
            have h5 : e.on < listed.size := by omega
            simp only [Array.getD, h5, dite_true] at h3 h4
            have : done e.on = true := by rw [← h4]; exact h3
            simp [this]
          · have := hcl k ok hok (by simpa [hk'] using hdk) e he hb
            simp [this]
      · have hlt2 := hord i o ho e he hb
        have h3 := h2 e he hb
        have h4 := hl e.on (by omega)
        have h5 : e.on < listed.size := by omega
        simp only [Array.getD, h5, dite_true] at h3 h4
        rw [← h4]
        exact h3
  refine key _ _ (fun _ => false) a _ (by simp) (fun i hi => ?_) ?_ (fun i o _ h => by cases h) h0
  · simp [Array.getD, hi]
  · unfold unlisted; exact Nat.le_trans (List.length_filter_le _ _) (by simp)

theorem hord_of2 {ops : Array Oper} (h : (ops.toList.zipIdx.all fun x => x.1.after.all fun e => !Region.binds .any e || decide (e.on < x.2)) = true) : ∀ (i : Nat) (o : Oper), ops[i]? = some o → ∀ e ∈ o.after, Region.binds .any e = true → e.on < i := by
  intro i o ho e he hb
  rw [List.all_eq_true] at h
  have hm : (o, i) ∈ ops.toList.zipIdx := by
    rw [List.mem_zipIdx_iff_getElem?]
    simpa using ho
  have h2 := h _ hm
  rw [Array.all_eq_true_iff_forall_mem] at h2
  have h3 := h2 e he
  rw [hb] at h3
  simpa using h3

/-- One operation of a region whose order is open, its run known. -/
theorem wpOp_val {P : Program} {ops : Array Oper} {Q : Exit → Act → World → Prop} {i : Nat} {o : Oper} {K : Act → World → Prop} {a : Act} {w w' : World} {v : Value} (ho : ops[i]? = some o) (hg : o.guard = none)
    (hrun : (execOp a.eval o).run P w = .ok (.value v) w') (hK : K (a.put o.dst v) w') : wpOp P ops Q i K a w := by
  unfold wpOp
  rw [ho]
  simp only [Region.wanted, hg, if_true]
  left
  unfold Oper.wp
  rw [hrun]
  exact hK

/-- One operation without a value in a region whose order is open, its run known. -/
theorem wpOp_skip {P : Program} {ops : Array Oper} {Q : Exit → Act → World → Prop} {i : Nat} {o : Oper} {K : Act → World → Prop} {a : Act} {w w' : World} (ho : ops[i]? = some o) (hg : o.guard = none)
    (hrun : (execOp a.eval o).run P w = .ok .skip w') (hK : K (a.put o.dst undef) w') : wpOp P ops Q i K a w := by
  unfold wpOp
  rw [ho]
  simp only [Region.wanted, hg, if_true]
  left
  unfold Oper.wp
  rw [hrun]
  exact hK

/-- An append in a region whose order is open, its run known. -/
theorem wpOp_append {P : Program} {ops : Array Oper} {Q : Exit → Act → World → Prop} {i : Nat} {o : Oper} {K : Act → World → Prop} {a : Act} {w w' : World} {v vx v' : Value} (ho : ops[i]? = some o) (hg : o.guard = none) (s x : Operand) (t : TypeId)
    (hop : o.op = .call { callee := .builtin .append, args := #[s, x], argTypes := #[t, t] }) (hs : a.eval s = v) (hx : a.eval x = vx) (hrun : (Builtin.append_ #[t, t] o.type #[v, vx]).run P w = .ok v' w') (hK : K (a.put o.dst v') w') : wpOp P ops Q i K a w := by
  refine wpOp_val ho hg ?_ hK
  unfold execOp
  simp only [hop, resolve, invoke, builtin, Sem.run_bind, Sem.run_pure, Result.andThen_ok, List.map_toArray, List.map_cons, List.map_nil, hs, hx, hrun]

/-- A call in a region whose order is open, by its contract. -/
theorem wpOp_call {P : Program} {ops : Array Oper} {Q : Exit → Act → World → Prop} {i : Nat} {o : Oper} {K : Act → World → Prop} {a : Act} {w : World} (ho : ops[i]? = some o) (hg : o.guard = none) {f : FuncId} {args : Array Value}
    (hrun : (execOp a.eval o).run P w = .ok (.enter f args) w) {R : Ending → World → Prop} (hc : Calls P f args w R) (hR : ∀ e w', R e w' → ∃ v, e = .returned v ∧ K (a.put o.dst v) w') : wpOp P ops Q i K a w := by
  unfold wpOp
  rw [ho]
  simp only [Region.wanted, hg, if_true]
  left
  unfold Oper.wp
  rw [hrun]
  refine hc.mono ?_
  intro e w' h
  obtain ⟨v, rfl, hk⟩ := hR e w' h
  exact hk

/-- One operation, its guard says that it runs, its run known. -/
theorem wpOp_valW {P : Program} {ops : Array Oper} {Q : Exit → Act → World → Prop} {i : Nat} {o : Oper} {K : Act → World → Prop} {a : Act} {w w' : World} {v : Value} (ho : ops[i]? = some o) (hg : Region.wanted o (yielded ops a.tmps) = true)
    (hrun : (execOp a.eval o).run P w = .ok (.value v) w') (hK : K (a.put o.dst v) w') : wpOp P ops Q i K a w := by
  unfold wpOp
  rw [ho]
  simp only [hg, if_true]
  left
  unfold Oper.wp
  rw [hrun]
  exact hK

/-- One operation whose guard says that it does not run. -/
theorem wpOp_pass {P : Program} {ops : Array Oper} {Q : Exit → Act → World → Prop} {i : Nat} {o : Oper} {K : Act → World → Prop} {a : Act} {w : World} (ho : ops[i]? = some o) (hg : Region.wanted o (yielded ops a.tmps) = false)
    (hK : K (a.put o.dst undef) w) : wpOp P ops Q i K a w := by
  unfold wpOp
  rw [ho]
  simp only [hg, Bool.false_eq_true, if_false]
  exact hK

/-- A call, its guard says that it runs, by its contract. -/
theorem wpOp_callW {P : Program} {ops : Array Oper} {Q : Exit → Act → World → Prop} {i : Nat} {o : Oper} {K : Act → World → Prop} {a : Act} {w : World} (ho : ops[i]? = some o) (hg : Region.wanted o (yielded ops a.tmps) = true) {f : FuncId} {args : Array Value}
    (hrun : (execOp a.eval o).run P w = .ok (.enter f args) w) {R : Ending → World → Prop} (hc : Calls P f args w R) (hR : ∀ e w', R e w' → ∃ v, e = .returned v ∧ K (a.put o.dst v) w') : wpOp P ops Q i K a w := by
  unfold wpOp
  rw [ho]
  simp only [hg, if_true]
  left
  unfold Oper.wp
  rw [hrun]
  refine hc.mono ?_
  intro e w' h
  obtain ⟨v, rfl, hk⟩ := hR e w' h
  exact hk

end Go.Ice
