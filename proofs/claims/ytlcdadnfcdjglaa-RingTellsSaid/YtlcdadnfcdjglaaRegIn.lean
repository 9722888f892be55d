/- A region of open order inside a fence, by an invariant on which operations are done. Condition: every operation waits for earlier ones alone. -/
import Derived.Test.YtlcdadnfcdjglaaReg
import Derived.OrdersIn
import Derived.TacticsIn
namespace Go.Ice
open Go.RowKit

theorem wpIn_region_inv {F : Fence} {fn : Nat} {P : Program} {ops : Array Oper} {Q : Exit → Act → World → Prop} {id : Nat} {a : Act} {w : World} (hm : P.follows .mixedOrders = true)
    (hord : ∀ (i : Nat) (o : Oper), ops[i]? = some o → ∀ e ∈ o.after, Region.binds .any e = true → e.on < i) (I : (Nat → Bool) → Act → World → Prop) (h0 : I (fun _ => false) a w.drew)
    (hstep : ∀ (done : Nat → Bool) (a : Act) (w : World) (i : Nat) (o : Oper), ops[i]? = some o → done i = false → (∀ e ∈ o.after, Region.binds .any e = true → done e.on = true) → Closed ops done → I done a w →
      wpOpIn F fn P ops Q i (I (fun k => decide (k = i) || done k)) a w)
    (hend : ∀ (done : Nat → Bool) (a : Act) (w : World), (∀ i, i < ops.size → done i = true) → I done a w → Q .normal a w) : (Code.region id ops true).wpIn F fn P Q a w := by
  refine wpIn_region_any hm ?_
  have hall : ∀ (listed : Array Bool) (done : Nat → Bool), listed.size = ops.size → (∀ i, i < ops.size → listed.getD i true = done i) → Region.ready .any ops listed = [] → ∀ i, i < ops.size → done i = true := by
    intro listed done hs hl hr
    intro i
    induction i using Nat.strongRecOn with
    | _ i ih =>
      intro hi
      cases hd : done i with
      | true => rfl
      | false =>
        exfalso
        have hmem : i ∈ Region.ready .any ops listed := by
          rw [mem_ready]
          refine ⟨by rw [hl i hi, hd], ops[i], Array.getElem?_eq_getElem hi, fun e he hb => ?_⟩
          have hlt := hord i _ (Array.getElem?_eq_getElem hi) e he hb
          have h1 := ih e.on hlt (by omega)
          have h2 := hl e.on (by omega)
          rw [h1] at h2
          have h3 : e.on < listed.size := by omega
          simp only [Array.getD, h3, dite_true] at h2 ⊢
          exact h2
        rw [hr] at hmem
        cases hmem
  have key : ∀ (fuel : Nat) (listed : Array Bool) (done : Nat → Bool) (a : Act) (w : World), listed.size = ops.size → (∀ i, i < ops.size → listed.getD i true = done i) → unlisted ops.size done ≤ fuel → Closed ops done → I done a w → wpAnyIn F fn P .any ops Q fuel listed a w := by
    intro fuel
    induction fuel with
    | zero =>
      intro listed done a w hs hl hu hcl hI
      have hd := unlisted_zero ops.size done (by omega)
      refine ⟨?_, hend done a w hd hI⟩
      rw [List.eq_nil_iff_forall_not_mem]
      intro j hj
      obtain ⟨h1, o, ho, _⟩ := mem_ready.1 hj
      have hlt : j < ops.size := (Array.getElem?_eq_some_iff.1 ho).1
      rw [hl j hlt, hd j hlt] at h1
      cases h1
    | succ fuel ih =>
      intro listed done a w hs hl hu hcl hI
      refine ⟨fun hr => hend done a w (hall listed done hs hl hr) hI, fun i hi => ?_⟩
      obtain ⟨h1, o, ho, h2⟩ := mem_ready.1 hi
      have hlt : i < ops.size := (Array.getElem?_eq_some_iff.1 ho).1
      have hd : done i = false := by rw [← hl i hlt]; exact h1
      refine wpOpIn_mono ?_ (hstep done a w i o ho hd (fun e he hb => ?_) hcl hI)
      · intro a' w' hI'
        refine ih _ _ a' w' (by rw [Array.size_setIfInBounds]; exact hs) (fun k hk => ?_) ?_ ?_ hI'
        · by_cases hk' : k = i
          · subst hk'
            simp [Array.getD, hs, hk]
          · have := hl k hk
            rw [getD_set_ne true (Ne.symm hk')]
            simp [hk', this]
        · have := unlisted_step ops.size i done hlt hd
          omega
        · intro k ok hok hdk e he hb
          by_cases hk' : k = i
          · subst hk'
            rw [ho] at hok
            cases hok
            have hlt2 := hord k o ho e he hb
            have h3 := h2 e he hb
            have h4 := hl e.on (by omega)
            have h5 : e.on < listed.size := by omega
            simp only [Array.getD, h5, dite_true] at h3 h4
            have : done e.on = true := by rw [← h4]; exact h3
            simp [this]
          · have := hcl k ok hok (by simpa [hk'] using hdk) e he hb
            simp [this]
      · have hlt2 := hord i o ho e he hb
        have h3 := h2 e he hb
        have h4 := hl e.on (by omega)
        have h5 : e.on < listed.size := by omega
        simp only [Array.getD, h5, dite_true] at h3 h4
        rw [← h4]
        exact h3
  refine key _ _ (fun _ => false) a _ (by simp) (fun i hi => ?_) ?_ (fun i o _ h => by cases h) h0
  · simp [Array.getD, hi]
  · unfold unlisted; exact Nat.le_trans (List.length_filter_le _ _) (by simp)


/-- One operation inside the fence, its run known; its guard says that it runs. -/
theorem wpOpIn_val {F : Fence} {fn : Nat} {P : Program} {ops : Array Oper} {Q : Exit → Act → World → Prop} {i : Nat} {o : Oper} {K : Act → World → Prop} {a : Act} {w w' : World} {v : Value} (ho : ops[i]? = some o) (hg : Region.wanted o (yielded ops a.tmps) = true)
    (hab : o.about P w a.eval = none) (hd : ∀ c, o.op ≠ .defer c) (hrun : (execOp a.eval o).run P w = .ok (.value v) w') (hK : K (a.put o.dst v) w') : wpOpIn F fn P ops Q i K a w := by
  unfold wpOpIn
  rw [ho]
  simp only [hg, if_true]
  refine ⟨fun f hf => (by rw [hab] at hf; cases hf), ?_⟩
  rw [Oper.semAt_eq _ _ _ hd, hrun]
  exact hK
/-- One operation inside the fence whose guard says that it does not run. -/
theorem wpOpIn_pass {F : Fence} {fn : Nat} {P : Program} {ops : Array Oper} {Q : Exit → Act → World → Prop} {i : Nat} {o : Oper} {K : Act → World → Prop} {a : Act} {w : World} (ho : ops[i]? = some o) (hg : Region.wanted o (yielded ops a.tmps) = false)
    (hab : o.about P w a.eval = none) (hK : K (a.put o.dst undef) w) : wpOpIn F fn P ops Q i K a w := by
  unfold wpOpIn
  rw [ho]
  simp only [hg, Bool.false_eq_true, if_false]
  exact ⟨fun f hf => (by rw [hab] at hf; cases hf), hK⟩
end Go.Ice
