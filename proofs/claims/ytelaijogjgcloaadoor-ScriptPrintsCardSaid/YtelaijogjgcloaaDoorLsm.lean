/- The law ScriptSame, its walk. Conditions: the scripts lie in memory; the variables are as laid. -/
import Derived.Test.YtelaijogjgcloaaDoorRss
import Derived.Test.YtelaijogjgcloaaDoorCpy
import Derived.Test.YtelaijogjgcloaaDoorWks
set_option linter.unusedVariables false
set_option linter.unusedSimpArgs false
namespace Go.Proofs.YtelaijogjgcloaaDoor
open Go.RowKit Go.Ice Go.Scr

/-- A row of events of one's own behind B, all of it as it lies. -/
def EvsG (B : Nat) (W : World) (v : Value) (l : List Ev) : Prop := ∃ X : Nat → Nat → Value, W.ownsRow B 41 5 v l.length (flat l.length 5 X) ∧ ∀ i x, l[i]? = some x → EvAt W (.agg #[X i 0, X i 1, X i 2, X i 3, X i 4]) x
theorem EvsR.g {B B' : Nat} {w W : World} {v : Value} {l : List Ev} (h : EvsR B w W v l) (hb : Below w.heap.size w W) (hB : B' ≤ B) : EvsG B' W v l := by
  obtain ⟨X, h1, h2⟩ := h
  exact ⟨X, own_base h1 hB, fun i x hi => (h2 i x hi).below hb (Nat.le_refl _)⟩
theorem EvsG.at {B : Nat} {W : World} {v : Value} {l : List Ev} (h : EvsG B W v l) : EvsAt W v l := by
  obtain ⟨X, h1, h2⟩ := h
  exact ⟨X, own_rowAt h1, h2⟩
theorem EvsG.form {B : Nat} {W : World} {v : Value} {l : List Ev} (h : EvsG B W v l) : ∃ a cap, v = .slice a l.length cap := by
  obtain ⟨X, h1, h2⟩ := h
  exact own_slice h1
theorem EvsG.below {B : Nat} {W W' : World} {v : Value} {l : List Ev} (h : EvsG B W v l) (hb : Below W.heap.size W W') : EvsG B W' v l := by
  obtain ⟨X, h1, h2⟩ := h
  exact ⟨X, own_below h1 hb, fun i x hi => (h2 i x hi).below hb (Nat.le_refl _)⟩
theorem EvsG.keepS {B S : Nat} {W W' : World} {v : Value} {l : List Ev} {p : Plan} {a : Option Addr} {n c : Nat} (h : EvsG B W v l) (hS : S < B) (hs : W.heap[S]? = some (.cells #[.int .i64 p.g, .int .i64 p.s, .int .i64 p.l, .int .i64 p.p, .int .i64 p.c, .slice a n c] 26 (0, 0))) (hf : Frm (fun k => k = S) W W') : EvsG B W' v l := by
  obtain ⟨X, h1, h2⟩ := h
  exact ⟨X, own_frm h1 hf (fun k hk => by omega), fun i x hi => (h2 i x hi).keepS hs hf⟩
theorem few_short (s : Scr) : (∀ x ∈ (fewS s).evs, x.bytes.length ≤ 10000 ∧ x.keep.length ≤ 10000) ∧ (fewS s).evs.length ≤ 10000 := by
  constructor
  · intro x hx
    obtain ⟨y, _, rfl⟩ := List.mem_map.1 hx
    unfold fewE
    simp only [List.length_take]
    omega
  · unfold fewS
    simp only [List.length_map, List.length_take]
    omega
/-- While two scripts are cut. -/
structure LmS (S T : Nat) (W0 : World) (p q : Plan) (a b : Option Addr) (na ca nb cb : Nat) (la lb : List Ev) (a3 a7 : Option Addr) (c3 c7 : Nat) (done : Nat → Bool) (W : World) : Prop where
  frm : Frm (fun k => k = S ∨ k = T) W0 W
  bel : done 4 = false → done 5 = false → Below W0.heap.size W0 W
  s : W.heap[S]? = some (.cells #[.int .i64 p.g, .int .i64 p.s, .int .i64 p.l, .int .i64 p.p, .int .i64 p.c, if done 4 then .slice a3 la.length c3 else .slice a na ca] 26 (0, 0))
  t : W.heap[T]? = some (.cells #[.int .i64 q.g, .int .i64 q.s, .int .i64 q.l, .int .i64 q.p, .int .i64 q.c, if done 5 then .slice a7 lb.length c7 else .slice b nb cb] 26 (0, 0))
  r1 : done 1 = true → EvsG W0.heap.size W (.slice a3 la.length c3) la
  r3 : done 3 = true → EvsG W0.heap.size W (.slice a7 lb.length c7) lb
section
variable {S T : Nat} {W0 : World} {p q : Plan} {a b : Option Addr} {na ca nb cb : Nat} {la lb : List Ev} {a3 a7 : Option Addr} {c3 c7 : Nat} {done : Nat → Bool} {W : World}
theorem LmS.quiet (h : LmS S T W0 p q a b na ca nb cb la lb a3 a7 c3 c7 done W) (j : Nat) (hj : j ≠ 1 ∧ j ≠ 3 ∧ j ≠ 4 ∧ j ≠ 5) : LmS S T W0 p q a b na ca nb cb la lb a3 a7 c3 c7 (fun k => decide (k = j) || done k) W := by
  obtain ⟨e1, e2, e3, e4⟩ := hj
  refine ⟨h.frm, ?_, ?_, ?_, ?_, ?_⟩ <;> simp only [decide_eq_false (Ne.symm e1), decide_eq_false (Ne.symm e2), decide_eq_false (Ne.symm e3), decide_eq_false (Ne.symm e4), Bool.false_or]
  · exact h.bel
  · exact h.s
  · exact h.t
  · exact h.r1
  · exact h.r3
theorem LmS.call1 (h : LmS S T W0 p q a b na ca nb cb la lb a3 a7 c3 c7 done W) (q4 : done 4 = false) (q5 : done 5 = false) {w' : World} {a3' : Option Addr} {c3' : Nat} (hb : Below W.heap.size W w') (hr : EvsR W.heap.size W w' (.slice a3' la.length c3') la) : LmS S T W0 p q a b na ca nb cb la lb a3' a7 c3' c7 (fun k => decide (k = 1) || done k) w' := by
  refine ⟨h.frm.trans (frm_below hb), fun _ _ => (h.bel q4 q5).trans (hb.mono h.frm.size), ?_, ?_, fun _ => hr.g hb h.frm.size, fun e => (h.r3 (by simpa using e)).below hb⟩
  · have e := (hb.block S (blk_lt h.s)).trans h.s
    simpa [q4] using e
  · have e := (hb.block T (blk_lt h.t)).trans h.t
    simpa [q5] using e
theorem LmS.call3 (h : LmS S T W0 p q a b na ca nb cb la lb a3 a7 c3 c7 done W) (q4 : done 4 = false) (q5 : done 5 = false) {w' : World} {a7' : Option Addr} {c7' : Nat} (hb : Below W.heap.size W w') (hr : EvsR W.heap.size W w' (.slice a7' lb.length c7') lb) : LmS S T W0 p q a b na ca nb cb la lb a3 a7' c3 c7' (fun k => decide (k = 3) || done k) w' := by
  refine ⟨h.frm.trans (frm_below hb), fun _ _ => (h.bel q4 q5).trans (hb.mono h.frm.size), ?_, ?_, fun e => (h.r1 (by simpa using e)).below hb, fun _ => hr.g hb h.frm.size⟩
  · have e := (hb.block S (blk_lt h.s)).trans h.s
    simpa [q4] using e
  · have e := (hb.block T (blk_lt h.t)).trans h.t
    simpa [q5] using e
theorem LmS.set4 (h : LmS S T W0 p q a b na ca nb cb la lb a3 a7 c3 c7 done W) (hS : S < W0.heap.size) (hST : S ≠ T) {W' : World} (hf : Frm (fun k => k = S) W W') (hs : W'.heap[S]? = some (.cells #[.int .i64 p.g, .int .i64 p.s, .int .i64 p.l, .int .i64 p.p, .int .i64 p.c, .slice a3 la.length c3] 26 (0, 0))) :
    LmS S T W0 p q a b na ca nb cb la lb a3 a7 c3 c7 (fun k => decide (k = 4) || done k) W' := by
  have hs0 : ∃ a' n' c', W.heap[S]? = some (.cells #[.int .i64 p.g, .int .i64 p.s, .int .i64 p.l, .int .i64 p.p, .int .i64 p.c, .slice a' n' c'] 26 (0, 0)) := by
    have e := h.s
    cases hd : done 4 with
    | true => exact ⟨a3, la.length, c3, by simpa [hd] using e⟩
    | false => exact ⟨a, na, ca, by simpa [hd] using e⟩
  obtain ⟨a', n', c', hs1⟩ := hs0
  refine ⟨h.frm.trans (hf.mono fun k _ e => .inl e), fun e => by simp at e, by simpa using hs, ?_, fun e => (h.r1 (by simpa using e)).keepS hS hs1 hf, fun e => (h.r3 (by simpa using e)).keepS hS hs1 hf⟩
  have e := (hf.block T (blk_lt h.t) (Ne.symm hST)).trans h.t
  simpa using e
theorem LmS.set5 (h : LmS S T W0 p q a b na ca nb cb la lb a3 a7 c3 c7 done W) (hT : T < W0.heap.size) (hST : S ≠ T) {W' : World} (hf : Frm (fun k => k = T) W W') (hs : W'.heap[T]? = some (.cells #[.int .i64 q.g, .int .i64 q.s, .int .i64 q.l, .int .i64 q.p, .int .i64 q.c, .slice a7 lb.length c7] 26 (0, 0))) :
    LmS S T W0 p q a b na ca nb cb la lb a3 a7 c3 c7 (fun k => decide (k = 5) || done k) W' := by
  have hs0 : ∃ a' n' c', W.heap[T]? = some (.cells #[.int .i64 q.g, .int .i64 q.s, .int .i64 q.l, .int .i64 q.p, .int .i64 q.c, .slice a' n' c'] 26 (0, 0)) := by
    have e := h.t
    cases hd : done 5 with
    | true => exact ⟨a7, lb.length, c7, by simpa [hd] using e⟩
    | false => exact ⟨b, nb, cb, by simpa [hd] using e⟩
  obtain ⟨a', n', c', hs1⟩ := hs0
  refine ⟨h.frm.trans (hf.mono fun k _ e => .inr e), fun _ e => by simp at e, ?_, by simpa using hs, fun e => (h.r1 (by simpa using e)).keepS hT hs1 hf, fun e => (h.r3 (by simpa using e)).keepS hT hs1 hf⟩
  have e := (hf.block S (blk_lt h.s) hST).trans h.s
  simpa using e
end

set_option maxHeartbeats 16000000 in
set_option maxRecDepth 100000 in
theorem lsame6 (w : World) (ua : Value) (x : Scr) (hx : ScrAt w ua x) (ub : Value) (y : Scr) (hy : ScrAt w ub y) (hl : Laid w) :
    Calls Tryd.prog 6 #[ua, ub] w fun e w' => e = .returned (.bool true) ∧ Below w.heap.size w w' := by
  obtain ⟨va, rfl, ha⟩ := hx
  obtain ⟨vb, rfl, hb⟩ := hy
  obtain ⟨p, evs⟩ := x
  obtain ⟨q, evs'⟩ := y
  dsimp only at ha hb
  have HL := Lib.hid hl
  obtain ⟨a, ca, rfl, hma⟩ := ha.form
  obtain ⟨b, cb, rfl, hmb⟩ := hb.form
  obtain ⟨na, hna⟩ : ∃ n, n = evs.length := ⟨_, rfl⟩
  obtain ⟨nb, hnb⟩ : ∃ n, n = evs'.length := ⟨_, rfl⟩
  rw [← hna] at ha hma ⊢
  rw [← hnb] at hb hmb ⊢
  unfold maxLen at hma hmb
  unfold scrV
  dsimp only
  obtain ⟨S, T, W0, HS, HT, HW, HK, HZ⟩ := boxed2 w #[.int .i64 p.g, .int .i64 p.s, .int .i64 p.l, .int .i64 p.p, .int .i64 p.c, .slice a na ca] 26 #[.int .i64 q.g, .int .i64 q.s, .int .i64 q.l, .int .i64 q.p, .int .i64 q.c, .slice b nb cb] 26
  have HA0 := ha.below HK.out.below (Nat.le_refl _)
  have HB0 := hb.below HK.out.below (Nat.le_refl _)
  have HWK := wakes8 W0 (HL.out.below HK.out.below)
  clear ha hb hl hna hnb
  go_enter Tryd.func6, Tryd.ntmps6
  go_upto_region 1 with fail
  rw [HW.out, HT.out, HS.out]
  go_wp2_with fail
  refine HWK.mono ?_
  rintro e w1 ⟨rfl, hb1⟩
  have HK1 := Lib.hid (HK.out.step hb1)
  have HA1 := Lib.hid (HA0.below hb1 (Nat.le_refl _))
  have HB1 := Lib.hid (HB0.below hb1 (Nat.le_refl _))
  have HST := Lib.hid (show S ≠ T by have := HS.out; have := HT.out; omega)
  have HSL := Lib.hid (blk_lt HK1.out.b0)
  have HTL := Lib.hid (blk_lt HK1.out.b1)
  have HBW := Lib.hid (show Below w.heap.size w w1 from HK1.out.below)
  have HLO := Lib.hid (show w.heap.size ≤ S ∧ w.heap.size ≤ T by have := HS.out; have := HT.out; omega)
  clear hb1 HWK HW HT HS HA0 HB0 HZ HK
  obtain ⟨la, hla⟩ : ∃ l, l = (fewS ⟨p, evs⟩).evs := ⟨_, rfl⟩
  obtain ⟨lb, hlb⟩ : ∃ l, l = (fewS ⟨q, evs'⟩).evs := ⟨_, rfl⟩
  have HFA : Hid (∀ W, Below w1.heap.size w1 W → Calls Tryd.prog 9 #[.agg #[.int .i64 p.g, .int .i64 p.s, .int .i64 p.l, .int .i64 p.p, .int .i64 p.c, .slice a na ca]] W fun e w' => ∃ v', e = .returned (scrV p v') ∧ EvsR W.heap.size W w' v' la ∧ Below W.heap.size W w') := fun W hW => by rw [hla]; exact few9 W _ ⟨p, evs⟩ ⟨_, rfl, HA1.out.below hW (Nat.le_refl _)⟩
  have HFB : Hid (∀ W, Below w1.heap.size w1 W → Calls Tryd.prog 9 #[.agg #[.int .i64 q.g, .int .i64 q.s, .int .i64 q.l, .int .i64 q.p, .int .i64 q.c, .slice b nb cb]] W fun e w' => ∃ v', e = .returned (scrV q v') ∧ EvsR W.heap.size W w' v' lb ∧ Below W.heap.size W w') := fun W hW => by rw [hlb]; exact few9 W _ ⟨q, evs'⟩ ⟨_, rfl, HB1.out.below hW (Nat.le_refl _)⟩
  have HSA : Hid ((∀ x ∈ la, x.bytes.length ≤ 10000 ∧ x.keep.length ≤ 10000) ∧ la.length ≤ 10000) := by show _ ∧ _; rw [hla]; exact few_short _
  have HSB : Hid ((∀ x ∈ lb, x.bytes.length ≤ 10000 ∧ x.keep.length ≤ 10000) ∧ lb.length ≤ 10000) := by show _ ∧ _; rw [hlb]; exact few_short _
  clear hla hlb HA1 HB1
  go_upto_region 3 with fail
  refine wp_region_inv2 (by kernel_rfl) (hord_of2 (by kernel_rfl)) (fun done ac W => ∃ (a3 a7 : Option Addr) (c3 c7 : Nat), ac = { tmps := #[(.agg #[.int .i64 p.g, .int .i64 p.s, .int .i64 p.l, .int .i64 p.p, .int .i64 p.c, .slice a na ca]), (.agg #[.int .i64 q.g, .int .i64 q.s, .int .i64 q.l, .int .i64 q.p, .int .i64 q.c, .slice b nb cb]), (.pointer (some ⟨S, 0, none⟩)), (.pointer (some ⟨T, 0, none⟩)), .bool false, .bool true, .bool false, if done 0 then (.agg #[.int .i64 p.g, .int .i64 p.s, .int .i64 p.l, .int .i64 p.p, .int .i64 p.c, .slice a na ca]) else undef, if done 1 then (.agg #[.int .i64 p.g, .int .i64 p.s, .int .i64 p.l, .int .i64 p.p, .int .i64 p.c, .slice a3 la.length c3]) else undef, if done 2 then (.agg #[.int .i64 q.g, .int .i64 q.s, .int .i64 q.l, .int .i64 q.p, .int .i64 q.c, .slice b nb cb]) else undef, if done 3 then (.agg #[.int .i64 q.g, .int .i64 q.s, .int .i64 q.l, .int .i64 q.p, .int .i64 q.c, .slice a7 lb.length c7]) else undef, undef, undef, undef, undef, undef, undef, undef, undef, undef, undef, undef, undef, undef], defers := [] } ∧ LmS S T w1 p q a b na ca nb cb la lb a3 a7 c3 c7 done W) ?_ ?_ ?_
  · exact ⟨none, none, 0, 0, by simp, ⟨⟨rfl, rfl, rfl, Nat.le_refl _, fun _ _ _ => rfl⟩, fun _ _ => (Below.refl _ w1).drew, HK1.out.b0, HK1.out.b1, fun h => by simp at h, fun h => by simp at h⟩⟩
  · intro done ac W j oq ho hd hdep hcl ⟨a3, a7, c3, c7, hlit, hI⟩
    have hj : j < 6 := (Array.getElem?_eq_some_iff.1 ho).1
    subst hlit
    obtain rfl | rfl | rfl | rfl | rfl | rfl : j = 0 ∨ j = 1 ∨ j = 2 ∨ j = 3 ∨ j = 4 ∨ j = 5 := by omega
    · have q4 : done 4 = false := by
        cases h : done 4 with
        | false => rfl
        | true =>
          have h0 := hcl 4 _ rfl h ⟨0, .phase⟩ (by simp) rfl
          rw [hd] at h0; cases h0
      have hs := hI.s
      simp [q4] at hs
      have x0 := blk_cell hs 0
      have x1 := blk_cell hs 1
      have x2 := blk_cell hs 2
      have x3 := blk_cell hs 3
      have x4 := blk_cell hs 4
      have x5 := blk_cell hs 5
      simp at x0 x1 x2 x3 x4 x5
      refine wpOp_val ho (by cases ho; rfl) (w' := W) (v := (.agg #[.int .i64 p.g, .int .i64 p.s, .int .i64 p.l, .int .i64 p.p, .int .i64 p.c, .slice a na ca])) (by cases ho; simp [execOp, go_sem, x0, x1, x2, x3, x4, x5]) ?_
      cases ho
      exact ⟨a3, a7, c3, c7, by simp [Act.put], hI.quiet 0 (by decide)⟩
    · have p0 : done 0 = true := by cases ho; exact hdep ⟨0, .data⟩ (by simp) rfl
      have q4 : done 4 = false := by
        cases h : done 4 with
        | false => rfl
        | true =>
          have h0 := hcl 4 _ rfl h ⟨1, .data⟩ (by simp) rfl
          rw [hd] at h0; cases h0
      have q5 : done 5 = false := by
        cases h : done 5 with
        | false => rfl
        | true =>
          have h0 := hcl 5 _ rfl h ⟨1, .phase⟩ (by simp) rfl
          rw [hd] at h0; cases h0
      refine wpOp_call ho (by cases ho; rfl) (f := 9) (args := #[(.agg #[.int .i64 p.g, .int .i64 p.s, .int .i64 p.l, .int .i64 p.p, .int .i64 p.c, .slice a na ca])]) (by cases ho; simp [execOp, go_sem, p0]) (HFA.out W (hI.bel q4 q5)) ?_
      rintro e w' ⟨v', rfl, hr, hb⟩
      obtain ⟨a3', c3', rfl⟩ := hr.form
      cases ho
      exact ⟨_, rfl, a3', a7, c3', c7, by simp [Act.put, scrV], hI.call1 q4 q5 hb hr⟩
    · have q5 : done 5 = false := by
        cases h : done 5 with
        | false => rfl
        | true =>
          have h0 := hcl 5 _ rfl h ⟨2, .phase⟩ (by simp) rfl
          rw [hd] at h0; cases h0
      have hs := hI.t
      simp [q5] at hs
      have x0 := blk_cell hs 0
      have x1 := blk_cell hs 1
      have x2 := blk_cell hs 2
      have x3 := blk_cell hs 3
      have x4 := blk_cell hs 4
      have x5 := blk_cell hs 5
      simp at x0 x1 x2 x3 x4 x5
      refine wpOp_val ho (by cases ho; rfl) (w' := W) (v := (.agg #[.int .i64 q.g, .int .i64 q.s, .int .i64 q.l, .int .i64 q.p, .int .i64 q.c, .slice b nb cb])) (by cases ho; simp [execOp, go_sem, x0, x1, x2, x3, x4, x5]) ?_
      cases ho
      exact ⟨a3, a7, c3, c7, by simp [Act.put], hI.quiet 2 (by decide)⟩
    · have p2 : done 2 = true := by cases ho; exact hdep ⟨2, .data⟩ (by simp) rfl
      have q4 : done 4 = false := by
        cases h : done 4 with
        | false => rfl
        | true =>
          have h0 := hcl 4 _ rfl h ⟨3, .chain⟩ (by simp) rfl
          rw [hd] at h0; cases h0
      have q5 : done 5 = false := by
        cases h : done 5 with
        | false => rfl
        | true =>
          have h0 := hcl 5 _ rfl h ⟨3, .data⟩ (by simp) rfl
          rw [hd] at h0; cases h0
      refine wpOp_call ho (by cases ho; rfl) (f := 9) (args := #[(.agg #[.int .i64 q.g, .int .i64 q.s, .int .i64 q.l, .int .i64 q.p, .int .i64 q.c, .slice b nb cb])]) (by cases ho; simp [execOp, go_sem, p2]) (HFB.out W (hI.bel q4 q5)) ?_
      rintro e w' ⟨v', rfl, hr, hb⟩
      obtain ⟨a7', c7', rfl⟩ := hr.form
      cases ho
      exact ⟨_, rfl, a3, a7', c3, c7', by simp [Act.put, scrV], hI.call3 q4 q5 hb hr⟩
    · have p1 : done 1 = true := by cases ho; exact hdep ⟨1, .data⟩ (by simp) rfl
      have hs := hI.s
      have x0 := blk_cell hs 0
      have x1 := blk_cell hs 1
      have x2 := blk_cell hs 2
      have x3 := blk_cell hs 3
      have x4 := blk_cell hs 4
      have x5 := blk_cell hs 5
      simp at x0 x1 x2 x3 x4 x5
      have hfz := fun r => blk_frozen hs r
      refine wpOp_skip ho (by cases ho; rfl) (w' := ((((((W.setCell ⟨S, 0, none⟩ (.int .i64 p.g)).setCell ⟨S, 1, none⟩ (.int .i64 p.s)).setCell ⟨S, 2, none⟩ (.int .i64 p.l)).setCell ⟨S, 3, none⟩ (.int .i64 p.p)).setCell ⟨S, 4, none⟩ (.int .i64 p.c)).setCell ⟨S, 5, none⟩ (.slice a3 la.length c3))) (by cases ho; simp [execOp, go_sem, p1, x0, x1, x2, x3, x4, x5, hfz]) ?_
      cases ho
      exact ⟨a3, a7, c3, c7, by simp [Act.put], hI.set4 HSL.out HST.out (frm_set6 S _ _ _ _ _ _) (set6 hs)⟩
    · have p3 : done 3 = true := by cases ho; exact hdep ⟨3, .data⟩ (by simp) rfl
      have hs := hI.t
      have x0 := blk_cell hs 0
      have x1 := blk_cell hs 1
      have x2 := blk_cell hs 2
      have x3 := blk_cell hs 3
      have x4 := blk_cell hs 4
      have x5 := blk_cell hs 5
      simp at x0 x1 x2 x3 x4 x5
      have hfz := fun r => blk_frozen hs r
      refine wpOp_skip ho (by cases ho; rfl) (w' := ((((((W.setCell ⟨T, 0, none⟩ (.int .i64 q.g)).setCell ⟨T, 1, none⟩ (.int .i64 q.s)).setCell ⟨T, 2, none⟩ (.int .i64 q.l)).setCell ⟨T, 3, none⟩ (.int .i64 q.p)).setCell ⟨T, 4, none⟩ (.int .i64 q.c)).setCell ⟨T, 5, none⟩ (.slice a7 lb.length c7))) (by cases ho; simp [execOp, go_sem, p3, x0, x1, x2, x3, x4, x5, hfz]) ?_
      cases ho
      exact ⟨a3, a7, c3, c7, by simp [Act.put], hI.set5 HTL.out HST.out (frm_set6 T _ _ _ _ _ _) (set6 hs)⟩
  · rintro done ac W hall ⟨a3, a7, c3, c7, rfl, hI⟩
    have hl := hall
    clear hall
    have e0 := hl 0 (by decide)
    have e1 := hl 1 (by decide)
    have e2 := hl 2 (by decide)
    have e3 := hl 3 (by decide)
    have e4 := hl 4 (by decide)
    have e5 := hl 5 (by decide)
    have hs := hI.s
    have ht := hI.t
    simp only [e4, e5, if_true] at hs ht
    have HSS := Lib.hid hs
    have HTT := Lib.hid ht
    have HR1 := Lib.hid (hI.r1 e1)
    have HR3 := Lib.hid (hI.r3 e3)
    have HF3 := Lib.hid hI.frm
    simp only [e0, e1, e2, e3, if_true]
    clear e0 e1 e2 e3 e4 e5 hl hI hs ht
    have HB3 := Lib.hid (show Below w.heap.size w W from HBW.out.trans (HF3.out.below (fun k hk e => by have := HLO.out; rcases e with e | e <;> omega) HBW.out.size))
    obtain ⟨zz, hzz⟩ : ∃ z, z = decide ((⟨p, la⟩ : Scr) = ⟨q, lb⟩) := ⟨_, rfl⟩
    have HZZ := Lib.hid hzz
    have HEA := Lib.hid HR1.out.at
    have HEB := Lib.hid HR3.out.at
    clear hzz HR1 HR3 HF3
    go_upto_region 4 with fail
    refine wp_region_inv2 (by kernel_rfl) (hord_of2 (by kernel_rfl)) (fun done ac W4 => ∃ (vc : Value), ac = { tmps := #[(.agg #[.int .i64 p.g, .int .i64 p.s, .int .i64 p.l, .int .i64 p.p, .int .i64 p.c, .slice a na ca]), (.agg #[.int .i64 q.g, .int .i64 q.s, .int .i64 q.l, .int .i64 q.p, .int .i64 q.c, .slice b nb cb]), (.pointer (some ⟨S, 0, none⟩)), (.pointer (some ⟨T, 0, none⟩)), if done 13 then (.bool true) else .bool false, .bool true, .bool false, (.agg #[.int .i64 p.g, .int .i64 p.s, .int .i64 p.l, .int .i64 p.p, .int .i64 p.c, .slice a na ca]), (.agg #[.int .i64 p.g, .int .i64 p.s, .int .i64 p.l, .int .i64 p.p, .int .i64 p.c, .slice a3 la.length c3]), (.agg #[.int .i64 q.g, .int .i64 q.s, .int .i64 q.l, .int .i64 q.p, .int .i64 q.c, .slice b nb cb]), (.agg #[.int .i64 q.g, .int .i64 q.s, .int .i64 q.l, .int .i64 q.p, .int .i64 q.c, .slice a7 lb.length c7]), if done 0 then (.agg #[.int .i64 p.g, .int .i64 p.s, .int .i64 p.l, .int .i64 p.p, .int .i64 p.c, .slice a3 la.length c3]) else undef, if done 1 then (.agg #[.int .i64 q.g, .int .i64 q.s, .int .i64 q.l, .int .i64 q.p, .int .i64 q.c, .slice a7 lb.length c7]) else undef, if done 2 then (.bool zz) else undef, if done 3 then (.agg #[.int .i64 p.g, .int .i64 p.s, .int .i64 p.l, .int .i64 p.p, .int .i64 p.c, .slice a3 la.length c3]) else undef, if done 4 then (.agg #[.int .i64 q.g, .int .i64 q.s, .int .i64 q.l, .int .i64 q.p, .int .i64 q.c, .slice a7 lb.length c7]) else undef, if done 5 then (.bool zz) else undef, if done 6 then (.bool true) else undef, if done 7 then (.bool true) else undef, if done 8 then (.agg #[.int .i64 p.g, .int .i64 p.s, .int .i64 p.l, .int .i64 p.p, .int .i64 p.c, .slice a3 la.length c3]) else undef, if done 9 then (.agg #[.int .i64 p.g, .int .i64 p.s, .int .i64 p.l, .int .i64 p.p, .int .i64 p.c, .slice a3 la.length c3]) else undef, if done 10 then (.agg #[.int .i64 p.g, .int .i64 p.s, .int .i64 p.l, .int .i64 p.p, .int .i64 p.c, vc]) else undef, if done 11 then (.bool true) else undef, if done 12 then (.bool true) else undef], defers := [] } ∧ Below W.heap.size W W4 ∧ (done 10 = true → EvsAt W4 vc la)) ?_ ?_ ?_
    · exact ⟨undef, by simp, (Below.refl _ W).drew, fun h => by simp at h⟩
    · intro done ac W4 j oq ho hd hdep hcl ⟨vc, hlit, hI⟩
      have hj : j < 14 := (Array.getElem?_eq_some_iff.1 ho).1
      subst hlit
      obtain rfl | rfl | rfl | rfl | rfl | rfl | rfl | rfl | rfl | rfl | rfl | rfl | rfl | rfl : j = 0 ∨ j = 1 ∨ j = 2 ∨ j = 3 ∨ j = 4 ∨ j = 5 ∨ j = 6 ∨ j = 7 ∨ j = 8 ∨ j = 9 ∨ j = 10 ∨ j = 11 ∨ j = 12 ∨ j = 13 := by omega
      · have hs := (hI.1.block S (blk_lt HSS.out)).trans HSS.out
        have x0 := blk_cell hs 0
        have x1 := blk_cell hs 1
        have x2 := blk_cell hs 2
        have x3 := blk_cell hs 3
        have x4 := blk_cell hs 4
        have x5 := blk_cell hs 5
        simp at x0 x1 x2 x3 x4 x5
        refine wpOp_val ho (by cases ho; rfl) (w' := W4) (v := (.agg #[.int .i64 p.g, .int .i64 p.s, .int .i64 p.l, .int .i64 p.p, .int .i64 p.c, .slice a3 la.length c3])) (by cases ho; simp [execOp, go_sem, x0, x1, x2, x3, x4, x5]) ?_
        cases ho
        exact ⟨vc, by simp [Act.put], hI.1, fun h => hI.2 (by simpa using h)⟩
      · have hs := (hI.1.block T (blk_lt HTT.out)).trans HTT.out
        have x0 := blk_cell hs 0
        have x1 := blk_cell hs 1
        have x2 := blk_cell hs 2
        have x3 := blk_cell hs 3
        have x4 := blk_cell hs 4
        have x5 := blk_cell hs 5
        simp at x0 x1 x2 x3 x4 x5
        refine wpOp_val ho (by cases ho; rfl) (w' := W4) (v := (.agg #[.int .i64 q.g, .int .i64 q.s, .int .i64 q.l, .int .i64 q.p, .int .i64 q.c, .slice a7 lb.length c7])) (by cases ho; simp [execOp, go_sem, x0, x1, x2, x3, x4, x5]) ?_
        cases ho
        exact ⟨vc, by simp [Act.put], hI.1, fun h => hI.2 (by simpa using h)⟩
      · have p0 : done 0 = true := by cases ho; exact hdep ⟨0, .data⟩ (by simp) rfl
        have p1 : done 1 = true := by cases ho; exact hdep ⟨1, .data⟩ (by simp) rfl
        refine wpOp_call ho (by cases ho; rfl) (f := 19) (args := #[(.agg #[.int .i64 p.g, .int .i64 p.s, .int .i64 p.l, .int .i64 p.p, .int .i64 p.c, .slice a3 la.length c3]), (.agg #[.int .i64 q.g, .int .i64 q.s, .int .i64 q.l, .int .i64 q.p, .int .i64 q.c, .slice a7 lb.length c7])]) (by cases ho; simp [execOp, go_sem, p0, p1]) ((by rw [HZZ.out]; exact same19 W4 (.agg #[.int .i64 p.g, .int .i64 p.s, .int .i64 p.l, .int .i64 p.p, .int .i64 p.c, .slice a3 la.length c3]) (.agg #[.int .i64 q.g, .int .i64 q.s, .int .i64 q.l, .int .i64 q.p, .int .i64 q.c, .slice a7 lb.length c7]) ⟨p, la⟩ ⟨q, lb⟩ ⟨_, rfl, (HEA.out.below hI.1 (Nat.le_refl _))⟩ ⟨_, rfl, (HEB.out.below hI.1 (Nat.le_refl _))⟩ : Calls Tryd.prog 19 #[(.agg #[.int .i64 p.g, .int .i64 p.s, .int .i64 p.l, .int .i64 p.p, .int .i64 p.c, .slice a3 la.length c3]), (.agg #[.int .i64 q.g, .int .i64 q.s, .int .i64 q.l, .int .i64 q.p, .int .i64 q.c, .slice a7 lb.length c7])] W4 fun e w' => e = .returned (.bool zz) ∧ Below W4.heap.size W4 w')) ?_
        rintro e w' ⟨rfl, hb⟩
        cases ho
        exact ⟨_, rfl, vc, by simp [Act.put], hI.1.trans (hb.mono hI.1.size), fun h => (hI.2 (by simpa using h)).below hb (Nat.le_refl _)⟩
      · have hs := (hI.1.block S (blk_lt HSS.out)).trans HSS.out
        have x0 := blk_cell hs 0
        have x1 := blk_cell hs 1
        have x2 := blk_cell hs 2
        have x3 := blk_cell hs 3
        have x4 := blk_cell hs 4
        have x5 := blk_cell hs 5
        simp at x0 x1 x2 x3 x4 x5
        refine wpOp_val ho (by cases ho; rfl) (w' := W4) (v := (.agg #[.int .i64 p.g, .int .i64 p.s, .int .i64 p.l, .int .i64 p.p, .int .i64 p.c, .slice a3 la.length c3])) (by cases ho; simp [execOp, go_sem, x0, x1, x2, x3, x4, x5]) ?_
        cases ho
        exact ⟨vc, by simp [Act.put], hI.1, fun h => hI.2 (by simpa using h)⟩
      · have hs := (hI.1.block T (blk_lt HTT.out)).trans HTT.out
        have x0 := blk_cell hs 0
        have x1 := blk_cell hs 1
        have x2 := blk_cell hs 2
        have x3 := blk_cell hs 3
        have x4 := blk_cell hs 4
        have x5 := blk_cell hs 5
        simp at x0 x1 x2 x3 x4 x5
        refine wpOp_val ho (by cases ho; rfl) (w' := W4) (v := (.agg #[.int .i64 q.g, .int .i64 q.s, .int .i64 q.l, .int .i64 q.p, .int .i64 q.c, .slice a7 lb.length c7])) (by cases ho; simp [execOp, go_sem, x0, x1, x2, x3, x4, x5]) ?_
        cases ho
        exact ⟨vc, by simp [Act.put], hI.1, fun h => hI.2 (by simpa using h)⟩
      · have p3 : done 3 = true := by cases ho; exact hdep ⟨3, .data⟩ (by simp) rfl
        have p4 : done 4 = true := by cases ho; exact hdep ⟨4, .data⟩ (by simp) rfl
        refine wpOp_call ho (by cases ho; rfl) (f := 13) (args := #[(.agg #[.int .i64 p.g, .int .i64 p.s, .int .i64 p.l, .int .i64 p.p, .int .i64 p.c, .slice a3 la.length c3]), (.agg #[.int .i64 q.g, .int .i64 q.s, .int .i64 q.l, .int .i64 q.p, .int .i64 q.c, .slice a7 lb.length c7])]) (by cases ho; simp [execOp, go_sem, p3, p4]) ((by rw [HZZ.out]; exact rsame13 W4 (.agg #[.int .i64 p.g, .int .i64 p.s, .int .i64 p.l, .int .i64 p.p, .int .i64 p.c, .slice a3 la.length c3]) (.agg #[.int .i64 q.g, .int .i64 q.s, .int .i64 q.l, .int .i64 q.p, .int .i64 q.c, .slice a7 lb.length c7]) ⟨p, la⟩ ⟨q, lb⟩ ⟨_, rfl, (HEA.out.below hI.1 (Nat.le_refl _))⟩ ⟨_, rfl, (HEB.out.below hI.1 (Nat.le_refl _))⟩ (fun e he => Nat.le_trans (HSA.out.1 e he).2 (by decide)) (fun e he => Nat.le_trans (HSB.out.1 e he).2 (by decide)) : Calls Tryd.prog 13 #[(.agg #[.int .i64 p.g, .int .i64 p.s, .int .i64 p.l, .int .i64 p.p, .int .i64 p.c, .slice a3 la.length c3]), (.agg #[.int .i64 q.g, .int .i64 q.s, .int .i64 q.l, .int .i64 q.p, .int .i64 q.c, .slice a7 lb.length c7])] W4 fun e w' => e = .returned (.bool zz) ∧ Below W4.heap.size W4 w')) ?_
        rintro e w' ⟨rfl, hb⟩
        cases ho
        exact ⟨_, rfl, vc, by simp [Act.put], hI.1.trans (hb.mono hI.1.size), fun h => (hI.2 (by simpa using h)).below hb (Nat.le_refl _)⟩
      · have p2 : done 2 = true := by cases ho; exact hdep ⟨2, .data⟩ (by simp) rfl
        have p5 : done 5 = true := by cases ho; exact hdep ⟨5, .data⟩ (by simp) rfl
        refine wpOp_val ho (by cases ho; rfl) (w' := W4) (v := (.bool true)) (by cases ho; simp [execOp, go_sem, p2, p5]) ?_
        cases ho
        exact ⟨vc, by simp [Act.put], hI.1, fun h => hI.2 (by simpa using h)⟩
      · have p6 : done 6 = true := by cases ho; exact hdep ⟨6, .data⟩ (by simp) rfl
        refine wpOp_val ho (by cases ho; rfl) (w' := W4) (v := (.bool true)) (by cases ho; simp [execOp, go_sem, p6]) ?_
        cases ho
        exact ⟨vc, by simp [Act.put], hI.1, fun h => hI.2 (by simpa using h)⟩
      · have p7 : done 7 = true := by cases ho; exact hdep ⟨7, .guard⟩ (by simp) rfl
        have hs := (hI.1.block S (blk_lt HSS.out)).trans HSS.out
        have x0 := blk_cell hs 0
        have x1 := blk_cell hs 1
        have x2 := blk_cell hs 2
        have x3 := blk_cell hs 3
        have x4 := blk_cell hs 4
        have x5 := blk_cell hs 5
        simp at x0 x1 x2 x3 x4 x5
        refine wpOp_valW ho (by cases ho; simp [Region.wanted, yielded, go_sem, p7]) (w' := W4) (v := (.agg #[.int .i64 p.g, .int .i64 p.s, .int .i64 p.l, .int .i64 p.p, .int .i64 p.c, .slice a3 la.length c3])) (by cases ho; simp [execOp, go_sem, p7, x0, x1, x2, x3, x4, x5]) ?_
        cases ho
        exact ⟨vc, by simp [Act.put], hI.1, fun h => hI.2 (by simpa using h)⟩
      · have p7 : done 7 = true := by cases ho; exact hdep ⟨7, .guard⟩ (by simp) rfl
        have hs := (hI.1.block S (blk_lt HSS.out)).trans HSS.out
        have x0 := blk_cell hs 0
        have x1 := blk_cell hs 1
        have x2 := blk_cell hs 2
        have x3 := blk_cell hs 3
        have x4 := blk_cell hs 4
        have x5 := blk_cell hs 5
        simp at x0 x1 x2 x3 x4 x5
        refine wpOp_valW ho (by cases ho; simp [Region.wanted, yielded, go_sem, p7]) (w' := W4) (v := (.agg #[.int .i64 p.g, .int .i64 p.s, .int .i64 p.l, .int .i64 p.p, .int .i64 p.c, .slice a3 la.length c3])) (by cases ho; simp [execOp, go_sem, p7, x0, x1, x2, x3, x4, x5]) ?_
        cases ho
        exact ⟨vc, by simp [Act.put], hI.1, fun h => hI.2 (by simpa using h)⟩
      · have p9 : done 9 = true := by cases ho; exact hdep ⟨9, .data⟩ (by simp) rfl
        have q11 : done 11 = false := by
          cases h : done 11 with
          | false => rfl
          | true =>
            have h0 := hcl 11 _ rfl h ⟨10, .data⟩ (by simp) rfl
            rw [hd] at h0; cases h0
        have p7 : done 7 = true := by cases ho; exact hdep ⟨7, .guard⟩ (by simp) rfl
        refine wpOp_callW ho (by cases ho; simp [Region.wanted, yielded, go_sem, p9, p7]) (f := 10) (args := #[(.agg #[.int .i64 p.g, .int .i64 p.s, .int .i64 p.l, .int .i64 p.p, .int .i64 p.c, .slice a3 la.length c3])]) (by cases ho; simp [execOp, go_sem, p9, p7]) (copied10 W4 (.agg #[.int .i64 p.g, .int .i64 p.s, .int .i64 p.l, .int .i64 p.p, .int .i64 p.c, .slice a3 la.length c3]) ⟨p, la⟩ ⟨_, rfl, (HEA.out.below hI.1 (Nat.le_refl _))⟩ HSA.out.1 HSA.out.2) ?_
        rintro e w' ⟨v', rfl, he, hb⟩
        cases ho
        exact ⟨_, rfl, v', by simp [Act.put, scrV], hI.1.trans (hb.mono hI.1.size), fun _ => he⟩
      · have p8 : done 8 = true := by cases ho; exact hdep ⟨8, .data⟩ (by simp) rfl
        have p10 : done 10 = true := by cases ho; exact hdep ⟨10, .data⟩ (by simp) rfl
        have p7 : done 7 = true := by cases ho; exact hdep ⟨7, .guard⟩ (by simp) rfl
        have p8 : done 8 = true := by cases ho; exact hdep ⟨8, .data⟩ (by simp) rfl
        have p10 : done 10 = true := by cases ho; exact hdep ⟨10, .data⟩ (by simp) rfl
        refine wpOp_callW ho (by cases ho; simp [Region.wanted, yielded, go_sem, p7]) (f := 19) (args := #[(.agg #[.int .i64 p.g, .int .i64 p.s, .int .i64 p.l, .int .i64 p.p, .int .i64 p.c, .slice a3 la.length c3]), (.agg #[.int .i64 p.g, .int .i64 p.s, .int .i64 p.l, .int .i64 p.p, .int .i64 p.c, vc])]) (by cases ho; simp [execOp, go_sem, p7, p8, p10]) (same19 W4 (.agg #[.int .i64 p.g, .int .i64 p.s, .int .i64 p.l, .int .i64 p.p, .int .i64 p.c, .slice a3 la.length c3]) (.agg #[.int .i64 p.g, .int .i64 p.s, .int .i64 p.l, .int .i64 p.p, .int .i64 p.c, vc]) ⟨p, la⟩ ⟨p, la⟩ ⟨_, rfl, (HEA.out.below hI.1 (Nat.le_refl _))⟩ ⟨_, rfl, hI.2 p10⟩) ?_
        rintro e w' ⟨rfl, hb⟩
        cases ho
        exact ⟨_, rfl, vc, by simp [Act.put], hI.1.trans (hb.mono hI.1.size), fun h => (hI.2 (by simpa using h)).below hb (Nat.le_refl _)⟩
      · have p7 : done 7 = true := by cases ho; exact hdep ⟨7, .data⟩ (by simp) rfl
        have p11 : done 11 = true := by cases ho; exact hdep ⟨11, .data⟩ (by simp) rfl
        refine wpOp_val ho (by cases ho; rfl) (w' := W4) (v := (.bool true)) (by cases ho; simp [execOp, go_sem, p7, p11]) ?_
        cases ho
        exact ⟨vc, by simp [Act.put], hI.1, fun h => hI.2 (by simpa using h)⟩
      · have p12 : done 12 = true := by cases ho; exact hdep ⟨12, .data⟩ (by simp) rfl
        refine wpOp_val ho (by cases ho; rfl) (w' := W4) (v := (.bool true)) (by cases ho; simp [execOp, go_sem, p12]) ?_
        cases ho
        exact ⟨vc, by simp [Act.put], hI.1, fun h => hI.2 (by simpa using h)⟩
    · rintro done ac W4 hall ⟨vc, rfl, hI⟩
      have hl := hall
      clear hall
      have e0 := hl 0 (by decide)
      have e1 := hl 1 (by decide)
      have e2 := hl 2 (by decide)
      have e3 := hl 3 (by decide)
      have e4 := hl 4 (by decide)
      have e5 := hl 5 (by decide)
      have e6 := hl 6 (by decide)
      have e7 := hl 7 (by decide)
      have e8 := hl 8 (by decide)
      have e9 := hl 9 (by decide)
      have e10 := hl 10 (by decide)
      have e11 := hl 11 (by decide)
      have e12 := hl 12 (by decide)
      have e13 := hl 13 (by decide)
      have HBI := Lib.hid hI.1
      simp only [e0, e1, e2, e3, e4, e5, e6, e7, e8, e9, e10, e11, e12, e13, if_true]
      clear e0 e1 e2 e3 e4 e5 e6 e7 e8 e9 e10 e11 e12 e13 hl hI
      go_wp2_with fail
      go_ret
      exact ⟨rfl, HB3.out.trans (HBI.out.mono HB3.out.size)⟩
end Go.Proofs.YtelaijogjgcloaaDoor
