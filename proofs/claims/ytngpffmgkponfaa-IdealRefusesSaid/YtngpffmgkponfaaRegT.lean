/- Regions of open order, by a table of the values that the operations yield: no frame is written out. No condition. -/
import Derived.Test.YtngpffmgkponfaaReg
set_option linter.unusedVariables false
namespace Go.Ice

/-- A frame in which some of the table's values are put. -/
def putT (done : Nat → Bool) : List (Nat × Nat × Value) → Act → Act
  | [], a => a
  | (i, d, v) :: r, a => if done i then putT done r (a.put (some d) v) else putT done r a
/-- What a slot holds then. -/
def lookT (done : Nat → Bool) (s : Nat) (x : Value) : List (Nat × Nat × Value) → Value
  | [] => x
  | (i, d, v) :: r => if d = s then (if done i then v else x) else lookT done s x r
/-- All are put. -/
def putAll : List (Nat × Nat × Value) → Act → Act
  | [], a => a
  | (_, d, v) :: r, a => putAll r (a.put (some d) v)
def dstsOf (ops : Array Oper) : List (Nat × Nat) := ops.toList.zipIdx.filterMap fun x => x.1.dst.map fun d => (x.2, d)
def fitsT (tbl : List (Nat × Nat × Value)) (n : Nat) : Bool := tbl.all fun x => decide (x.2.1 < n)
def apartT : List (Nat × Nat × Value) → Bool
  | [] => true
  | x :: r => (r.all fun y => decide (y.2.1 ≠ x.2.1) && decide (y.1 ≠ x.1)) && apartT r

theorem size_put (a : Act) (d : Option Tmp) (v : Value) : (a.put d v).tmps.size = a.tmps.size := by cases d <;> simp [Act.put]
theorem eval_put_self {a : Act} {d : Nat} {v : Value} (h : d < a.tmps.size) : (a.put (some d) v).eval (.tmp d) = v := by simp [Act.eval, Act.put, h]
theorem eval_put_ne {a : Act} {d s : Nat} {v : Value} (h : d ≠ s) : (a.put (some d) v).eval (.tmp s) = a.eval (.tmp s) := Act.eval_put fun d' e => by cases e; intro q; cases q; exact h rfl
theorem tmps_put_self {a : Act} {d : Nat} {v : Value} (h : d < a.tmps.size) : (a.put (some d) v).tmps[d]? = some v := by simp [Act.put, h]
theorem tmps_put_ne {a : Act} {d s : Nat} {v : Value} (h : d ≠ s) : (a.put (some d) v).tmps[s]? = a.tmps[s]? := by simp [Act.put, Array.getElem?_setIfInBounds_ne h]

theorem putT_keep (done : Nat → Bool) (s : Nat) : ∀ (tbl : List (Nat × Nat × Value)) (a : Act), (∀ x ∈ tbl, x.2.1 ≠ s) → (putT done tbl a).eval (.tmp s) = a.eval (.tmp s) ∧ (putT done tbl a).tmps[s]? = a.tmps[s]?
  | [], a, _ => ⟨rfl, rfl⟩
  | (i, d, v) :: r, a, h => by
    have h1 : d ≠ s := h (i, d, v) (by simp)
    unfold putT
    split
    · rw [(putT_keep done s r _ fun x hx => h x (by simp [hx])).1, (putT_keep done s r _ fun x hx => h x (by simp [hx])).2]
      exact ⟨eval_put_ne h1, tmps_put_ne h1⟩
    · exact putT_keep done s r _ fun x hx => h x (by simp [hx])
theorem putT_look (done : Nat → Bool) (s : Nat) : ∀ (tbl : List (Nat × Nat × Value)) (a : Act), apartT tbl = true → fitsT tbl a.tmps.size = true →
    (putT done tbl a).eval (.tmp s) = lookT done s (a.eval (.tmp s)) tbl ∧ (putT done tbl a).tmps[s]? = (a.tmps[s]?).map fun x => lookT done s x tbl
  | [], a, _, _ => ⟨rfl, by simp [putT, lookT]⟩
  | (i, d, v) :: r, a, ha, hf => by
    simp only [apartT, Bool.and_eq_true] at ha
    simp only [fitsT, List.all_cons, Bool.and_eq_true, decide_eq_true_eq] at hf
    have hf' : ∀ b : Act, b.tmps.size = a.tmps.size → fitsT r b.tmps.size = true := fun b hb => by rw [hb]; exact hf.2
    have hne : ∀ x ∈ r, x.2.1 ≠ d := fun x hx => by have := List.all_eq_true.1 ha.1 x hx; simp only [Bool.and_eq_true, decide_eq_true_eq] at this; exact this.1
    unfold putT lookT
    by_cases hs : d = s
    · subst hs
      simp only [if_true]
      split
      · rw [(putT_keep done d r _ hne).1, (putT_keep done d r _ hne).2]
        refine ⟨eval_put_self hf.1, ?_⟩
        rw [tmps_put_self hf.1, Array.getElem?_eq_getElem hf.1]; rfl
      · rw [(putT_keep done d r _ hne).1, (putT_keep done d r _ hne).2]
        exact ⟨rfl, by simp⟩
    · simp only [if_neg hs]
      split
      · rw [(putT_look done s r _ ha.2 (hf' _ (size_put _ _ _))).1, (putT_look done s r _ ha.2 (hf' _ (size_put _ _ _))).2, eval_put_ne hs, tmps_put_ne hs]
        exact ⟨rfl, rfl⟩
      · exact putT_look done s r a ha.2 (hf' _ rfl)
theorem putT_comm (done : Nat → Bool) (s : Nat) (u : Value) : ∀ (tbl : List (Nat × Nat × Value)) (a : Act), (∀ x ∈ tbl, x.2.1 ≠ s) → putT done tbl (a.put (some s) u) = (putT done tbl a).put (some s) u
  | [], a, _ => rfl
  | (i, d, v) :: r, a, h => by
    have h1 : d ≠ s := h (i, d, v) (by simp)
    unfold putT
    split
    · rw [← putT_comm done s u r _ fun x hx => h x (by simp [hx]), Act.put_comm a v u (x := some d) (y := some s) (by intro e he q; cases he; cases q; exact h1 rfl)]
    · exact putT_comm done s u r _ fun x hx => h x (by simp [hx])
theorem putT_congr {f g : Nat → Bool} : ∀ (tbl : List (Nat × Nat × Value)) (a : Act), (∀ x ∈ tbl, f x.1 = g x.1) → putT f tbl a = putT g tbl a
  | [], a, _ => rfl
  | (i, d, v) :: r, a, h => by
    unfold putT
    rw [h (i, d, v) (by simp), putT_congr r _ fun x hx => h x (by simp [hx]), putT_congr r _ fun x hx => h x (by simp [hx])]
theorem putT_step {done : Nat → Bool} {j s : Nat} {u : Value} : ∀ (tbl : List (Nat × Nat × Value)) (a : Act), apartT tbl = true → (j, s, u) ∈ tbl → done j = false →
    (putT done tbl a).put (some s) u = putT (fun k => decide (k = j) || done k) tbl a
  | (i, d, v) :: r, a, ha, hm, hd => by
    simp only [apartT, Bool.and_eq_true] at ha
    have hne : ∀ x ∈ r, x.2.1 ≠ d ∧ x.1 ≠ i := fun x hx => by have := List.all_eq_true.1 ha.1 x hx; simpa only [Bool.and_eq_true, decide_eq_true_eq] using this
    rcases List.mem_cons.1 hm with e | hm
    · cases e
      unfold putT
      simp only [hd, decide_true, Bool.true_or, if_true, Bool.false_eq_true, if_false]
      rw [← putT_comm done s u r a fun x hx => (hne x hx).1]
      exact putT_congr r _ fun x hx => by simp [(hne x hx).2]
    · have hji : i ≠ j := fun e => (hne _ hm).2 e.symm
      unfold putT
      have e2 : (decide (i = j) || done i) = done i := by simp [hji]
      simp only [e2]
      split
      · exact putT_step r _ ha.2 hm hd
      · exact putT_step r _ ha.2 hm hd
theorem putT_none (tbl : List (Nat × Nat × Value)) (a : Act) : putT (fun _ => false) tbl a = a := by
  induction tbl generalizing a with
  | nil => rfl
  | cons x r ih => obtain ⟨i, d, v⟩ := x; unfold putT; simp only [Bool.false_eq_true, if_false]; exact ih a
theorem putT_all {done : Nat → Bool} : ∀ (tbl : List (Nat × Nat × Value)) (a : Act), (∀ x ∈ tbl, done x.1 = true) → putT done tbl a = putAll tbl a
  | [], a, _ => rfl
  | (i, d, v) :: r, a, h => by
    unfold putT putAll
    rw [h (i, d, v) (by simp), if_pos rfl]
    exact putT_all r _ fun x hx => h x (by simp [hx])

theorem dstsOf_mem {ops : Array Oper} {i : Nat} {o : Oper} {d : Nat} (ho : ops[i]? = some o) (hd : o.dst = some d) : (i, d) ∈ dstsOf ops := by
  unfold dstsOf
  refine List.mem_filterMap.2 ⟨(o, i), ?_, by simp [hd]⟩
  rw [List.mem_zipIdx_iff_getElem?]
  simpa using ho
theorem dstsOf_lt {ops : Array Oper} {i d : Nat} (h : (i, d) ∈ dstsOf ops) : i < ops.size := by
  unfold dstsOf at h
  obtain ⟨⟨o, k⟩, hk, he⟩ := List.mem_filterMap.1 h
  rw [List.mem_zipIdx_iff_getElem?] at hk
  cases hdd : o.dst with
  | none => simp [hdd] at he
  | some e =>
    simp [hdd] at he
    obtain ⟨rfl, _⟩ := he
    have := (List.getElem?_eq_some_iff.1 hk).1
    simpa using this

/-- What one operation has to show: its run, in whatever frame that holds what it needs. -/
structure AtT (tbl : List (Nat × Nat × Value)) (done : Nat → Bool) (a b : Act) : Prop where
  ev : ∀ s, b.eval (.tmp s) = lookT done s (a.eval (.tmp s)) tbl
  tm : ∀ s, b.tmps[s]? = (a.tmps[s]?).map fun x => lookT done s x tbl

theorem wp_region_tbl {P : Program} {ops : Array Oper} {Q : Exit → Act → World → Prop} {id : Nat} {a : Act} {w : World} (tbl : List (Nat × Nat × Value)) (J : (Nat → Bool) → World → Prop) (hm : P.follows .mixedOrders = true)
    (hord : ∀ (i : Nat) (o : Oper), ops[i]? = some o → ∀ e ∈ o.after, Region.binds .any e = true → e.on < i) (ht : (tbl.map fun x => (x.1, x.2.1)) = dstsOf ops) (ha : apartT tbl = true) (hf : fitsT tbl a.tmps.size = true) (h0 : J (fun _ => false) w.drew)
    (hstep : ∀ (done : Nat → Bool) (b : Act) (W : World) (i : Nat) (o : Oper), ops[i]? = some o → done i = false → (∀ e ∈ o.after, Region.binds .any e = true → done e.on = true) → Closed ops done → AtT tbl done a b → J done W →
      ∃ v, (∀ d, o.dst = some d → (i, d, v) ∈ tbl) ∧ wpOp P ops Q i (fun a' W' => a' = b.put o.dst v ∧ J (fun k => decide (k = i) || done k) W') b W)
    (hend : ∀ (done : Nat → Bool) (W : World), (∀ i, i < ops.size → done i = true) → J done W → Q .normal (putAll tbl a) W) : (Code.region id ops true).wp P Q a w := by
  refine wp_region_inv2 hm hord (fun done b W => b = putT done tbl a ∧ J done W) ⟨(putT_none tbl a).symm, h0⟩ ?_ ?_
  · rintro done b W i o ho hd hdep hcl ⟨rfl, hJ⟩
    obtain ⟨v, hv, hw⟩ := hstep done _ W i o ho hd hdep hcl ⟨fun s => (putT_look done s tbl a ha hf).1, fun s => (putT_look done s tbl a ha hf).2⟩ hJ
    refine wpOp_mono ?_ hw
    rintro a' W' ⟨rfl, hJ'⟩
    refine ⟨?_, hJ'⟩
    cases hdst : o.dst with
    | none =>
      show putT done tbl a = _
      refine putT_congr tbl a fun x hx => ?_
      have hx' : (x.1, x.2.1) ∈ dstsOf ops := by rw [← ht]; exact List.mem_map.2 ⟨x, hx, rfl⟩
      have : x.1 ≠ i := by
        intro e
        rw [e] at hx'
        unfold dstsOf at hx'
        obtain ⟨⟨o', k⟩, hk, he⟩ := List.mem_filterMap.1 hx'
        rw [List.mem_zipIdx_iff_getElem?] at hk
        cases hdd : o'.dst with
        | none => simp [hdd] at he
        | some e' =>
          simp [hdd] at he
          obtain ⟨rfl, _⟩ := he
          have : o' = o := by
            have h1 : ops[k]? = some o' := by simpa using hk
            rw [ho] at h1; exact (Option.some.inj h1).symm
          rw [this, hdst] at hdd; cases hdd
      simp [this]
    | some d => exact putT_step tbl a ha (hv d hdst) hd
  · rintro done b W hall ⟨rfl, hJ⟩
    have := hend done W hall hJ
    rw [← putT_all (done := done) tbl a fun x hx => hall x.1 (dstsOf_lt (by rw [← ht]; exact List.mem_map.2 ⟨x, hx, rfl⟩))] at this
    exact this

section
variable {P : Program} {ops : Array Oper} {Q : Exit → Act → World → Prop} {i : Nat} {o : Oper} {b : Act} {W : World} {tbl : List (Nat × Nat × Value)} {J : World → Prop}
theorem valT {W' : World} (v : Value) (ho : ops[i]? = some o) (hg : Region.wanted o (yielded ops b.tmps) = true) (hrun : (execOp b.eval o).run P W = .ok (.value v) W') (hm : ∀ d, o.dst = some d → (i, d, v) ∈ tbl) (hJ : J W') :
    ∃ v, (∀ d, o.dst = some d → (i, d, v) ∈ tbl) ∧ wpOp P ops Q i (fun a' W' => a' = b.put o.dst v ∧ J W') b W :=
  ⟨v, hm, wpOp_valW ho hg hrun ⟨rfl, hJ⟩⟩
theorem passT (ho : ops[i]? = some o) (hg : Region.wanted o (yielded ops b.tmps) = false) (hm : ∀ d, o.dst = some d → (i, d, undef) ∈ tbl) (hJ : J W) :
    ∃ v, (∀ d, o.dst = some d → (i, d, v) ∈ tbl) ∧ wpOp P ops Q i (fun a' W' => a' = b.put o.dst v ∧ J W') b W :=
  ⟨undef, hm, wpOp_pass ho hg ⟨rfl, hJ⟩⟩
theorem callT {f : FuncId} {args : Array Value} {R : Ending → World → Prop} (v : Value) (ho : ops[i]? = some o) (hg : Region.wanted o (yielded ops b.tmps) = true) (hrun : (execOp b.eval o).run P W = .ok (.enter f args) W) (hc : Calls P f args W R) (hm : ∀ d, o.dst = some d → (i, d, v) ∈ tbl)
    (hR : ∀ e w', R e w' → e = .returned v ∧ J w') : ∃ v, (∀ d, o.dst = some d → (i, d, v) ∈ tbl) ∧ wpOp P ops Q i (fun a' W' => a' = b.put o.dst v ∧ J W') b W :=
  ⟨v, hm, wpOp_callW ho hg hrun hc fun e w' h => ⟨v, (hR e w' h).1, rfl, (hR e w' h).2⟩⟩
end
/-- An append in a region whose order is open, as an arm of the kit's region tactics: its run known. -/
theorem step_append_eq {P : Program} {ops : Array Oper} {o : Oper} {a : Act} {w : World} {K : Act → World → Prop} {Q : Exit → Act → World → Prop} {E : Prop} (hgd : o.guard = none) (s x : Operand) (t : TypeId)
    (ho : o.op = .call { callee := .builtin .append, args := #[s, x], argTypes := #[t, t] }) {v vx v' : Value} {w' : World} (hs : a.eval s = v) (hx : a.eval x = vx) (hrun : (Builtin.append_ #[t, t] o.type #[v, vx]).run P w = .ok v' w') (hK : K (a.put o.dst v') w') :
    if Region.wanted o (yielded ops a.tmps) = true then Oper.wp P o a w K Q else E := by
  have hw : Region.wanted o (yielded ops a.tmps) = true := by simp [Region.wanted, hgd]
  rw [if_pos hw]
  unfold Oper.wp execOp
  simp only [ho, resolve, invoke, builtin, Sem.run_bind, Sem.run_pure, Result.andThen_ok, List.map_toArray, List.map_cons, List.map_nil, hs, hx, hrun]
  exact hK
end Go.Ice
