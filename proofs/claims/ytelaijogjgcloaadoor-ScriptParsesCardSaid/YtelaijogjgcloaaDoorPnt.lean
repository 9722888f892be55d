/- script.Print, its plain part and its state. No condition. script.Print, its walk. Conditions: the events lie in memory; the variables are as laid. -/
import Derived.Test.YtelaijogjgcloaaDoorPrs

section
set_option linter.unusedVariables false
set_option linter.unusedSimpArgs false
namespace Go.Proofs.YtelaijogjgcloaaDoor
open Go.RowKit Go.Ice Go.Scr

theorem numT_len {n : Int} (h0 : 0 ≤ n) (h1 : n < 10000000000) : (numT n).length ≤ 10 := by
  obtain ⟨u, rfl⟩ := Int.eq_ofNat_of_zero_le h0
  have e : numT (u : Int) = Go.Lib.decDigits u := by
    unfold numT Go.Lib.itoa
    rw [if_neg (by omega)]
    rfl
  rw [e]
  exact dec_len 9 u (by omega)
def planN (p : Plan) : List Int := [p.g, p.s, p.l, p.p, p.c]
def numsT (l : List Int) : Txt := l.flatMap fun n => 32 :: numT n
theorem lineP_eq (p : Plan) : lineP p = wPlan ++ numsT (planN p) := by
  simp [lineP, planL, joinC, numsT, planN]
theorem lineE_1 (x : Ev) (h : x.kind = 1) : lineE x = (word 1 ++ 32 :: numT x.conn) ++ 32 :: rawT x.bytes := by
  unfold lineE evL; rw [if_pos h]; simp [joinC]
theorem lineE_n (x : Ev) (h : x.kind = 2 ∨ x.kind = 5 ∨ x.kind = 6) : lineE x = word x.kind ++ 32 :: numT x.n := by
  unfold lineE evL; rw [if_neg (by omega), if_pos h]; simp [joinC]
theorem lineE_7 (x : Ev) (h : x.kind = 7) : lineE x = word 7 ++ 32 :: keepT x.keep := by
  unfold lineE evL; rw [if_neg (by omega), if_neg (by omega), if_pos h]; simp [joinC]
theorem lineE_8 (x : Ev) (h : x.kind = 8) : lineE x = word 8 ++ 32 :: numT x.conn := by
  unfold lineE evL; rw [if_neg (by omega), if_neg (by omega), if_neg (by omega), if_pos h]; simp [joinC]
theorem lineE_0 (x : Ev) (h : x.kind = 3 ∨ x.kind = 4) : lineE x = word x.kind := by
  unfold lineE evL; rw [if_neg (by omega), if_neg (by omega), if_neg (by omega), if_neg (by omega)]; simp [joinC]
def evsT (l : List Ev) : Txt := l.flatMap fun x => 10 :: lineE x
theorem evsT_snoc (l : List Ev) (x : Ev) : evsT (l ++ [x]) = evsT l ++ 10 :: lineE x := by simp [evsT]
theorem evsT_end (l : List Ev) : 10 :: l.flatMap (fun x => lineE x ++ [10]) = evsT l ++ [10] := by
  induction l with
  | nil => rfl
  | cons x l ih =>
    rw [List.flatMap_cons, List.append_assoc, ← List.cons_append, List.singleton_append, ih]
    simp [evsT]
theorem textS_eq (s : Scr) : textS s = (lineP s.plan ++ evsT s.evs) ++ [10] := by
  unfold textS
  rw [evsT_end]
  simp
theorem rawT_len (b : List UInt8) : (rawT b).length ≤ 2 * b.length + 1 := by
  unfold rawT
  split
  · simp
  · have : ∀ l : List UInt8, (l.flatMap fun x => [hexD (x.toNat / 16), hexD (x.toNat % 16)]).length = 2 * l.length := by
      intro l
      induction l with
      | nil => rfl
      | cons x l ih => rw [List.flatMap_cons, List.length_append, ih]; simp; omega
    rw [this]; omega
theorem keepT_len (b : List Bool) : (keepT b).length ≤ b.length + 1 := by
  unfold keepT
  split
  · simp
  · simp
theorem word_len (k : Int) : (word k).length ≤ 5 := by
  unfold word
  repeat' split
  all_goals decide
/-- What right says of an event's numbers. -/
theorem right_facts {p : Plan} {x : Ev} (hp : planB p = true) (h : rightE p x = true) : (1 ≤ x.kind ∧ x.kind ≤ 8) ∧ (0 ≤ x.conn ∧ x.conn < 4) ∧ (0 ≤ x.n ∧ x.n < 4294967296) ∧ x.bytes.length ≤ 4096 ∧ x.keep.length ≤ 4096 := by
  unfold rightE at h
  rw [Bool.and_eq_true] at h
  obtain ⟨h1, h2, h3, h4, h5⟩ := of_decide_eq_true h.1
  have hpc : p.c ≤ 4 := by
    unfold planB at hp
    rw [Bool.and_eq_true] at hp
    have := of_decide_eq_true hp.2
    omega
  exact ⟨h1, ⟨h2.1, by omega⟩, h3, h4, h5⟩
theorem lineE_len {p : Plan} {x : Ev} (hp : planB p = true) (h : rightE p x = true) : (lineE x).length ≤ 8300 := by
  obtain ⟨⟨k1, k2⟩, ⟨c1, c2⟩, ⟨n1, n2⟩, hb, hk⟩ := right_facts hp h
  have a1 := numT_len c1 (by omega : x.conn < 10000000000)
  have a2 := numT_len n1 (by omega : x.n < 10000000000)
  have a3 := rawT_len x.bytes
  have a4 := keepT_len x.keep
  have a5 := word_len x.kind
  obtain e | e | e | e | e : x.kind = 1 ∨ (x.kind = 2 ∨ x.kind = 5 ∨ x.kind = 6) ∨ x.kind = 7 ∨ x.kind = 8 ∨ (x.kind = 3 ∨ x.kind = 4) := by omega
  · rw [lineE_1 x e, ← e]; simp only [List.length_append, List.length_cons]; omega
  · rw [lineE_n x e]; simp only [List.length_append, List.length_cons]; omega
  · rw [lineE_7 x e, ← e]; simp only [List.length_append, List.length_cons]; omega
  · rw [lineE_8 x e, ← e]; simp only [List.length_append, List.length_cons]; omega
  · rw [lineE_0 x e]; omega
theorem evsT_len {p : Plan} (hp : planB p = true) : ∀ (l : List Ev), (∀ x ∈ l, rightE p x = true) → (evsT l).length ≤ 8301 * l.length
  | [], _ => by simp [evsT]
  | x :: l, h => by
    have ih := evsT_len hp l (fun y hy => h y (.tail _ hy))
    have h1 := lineE_len hp (h x (.head _))
    have e : evsT (x :: l) = (10 :: lineE x) ++ evsT l := by simp [evsT]
    rw [e]; simp only [List.length_append, List.length_cons]; omega
theorem plan_facts {p : Plan} (hp : planB p = true) : ∀ n ∈ planN p, 0 ≤ n ∧ n ≤ 1024 := by
  unfold planB at hp
  rw [Bool.and_eq_true] at hp
  have h1 := of_decide_eq_true hp.1
  have h2 := of_decide_eq_true hp.2
  intro n hn
  simp only [planN, List.mem_cons, List.mem_nil_iff, or_false] at hn
  rcases hn with rfl | rfl | rfl | rfl | rfl <;> omega
theorem numsT_len : ∀ (l : List Int), (∀ n ∈ l, 0 ≤ n ∧ n ≤ 1024) → (numsT l).length ≤ 11 * l.length
  | [], _ => by simp [numsT]
  | n :: l, h => by
    have ih := numsT_len l (fun y hy => h y (.tail _ hy))
    have h0 := h n (.head _)
    have h1 := numT_len h0.1 (by omega : n < 10000000000)
    have e : numsT (n :: l) = (32 :: numT n) ++ numsT l := by simp [numsT]
    rw [e]; simp only [List.length_append, List.length_cons]; omega
theorem numsT_snoc (l : List Int) (n : Int) : numsT (l ++ [n]) = numsT l ++ 32 :: numT n := by simp [numsT]
theorem checkS_facts {p : Plan} {evs : List Ev} (h : checkS ⟨p, evs⟩ = true) : planB p = true ∧ evs.length ≤ 200 ∧ ∀ x ∈ evs, rightE p x = true := by
  unfold checkS at h
  rw [Bool.and_eq_true, Bool.and_eq_true] at h
  exact ⟨h.1.1, of_decide_eq_true h.1.2, List.all_eq_true.1 h.2⟩
/-- What Print answers: the text, the error. -/
def prT (s : Scr) : Txt := if checkS s then (if 262144 < (textS s).length then [] else textS s) else []
def prN (s : Scr) : Int := if checkS s then (if 262144 < (textS s).length then 3 else 0) else 2

/-- While a text is written: blocks of one's own, the builder. -/
structure PnS (w : World) (L : List (Nat × Obj)) (B b : Nat) (t : Txt) (W : World) : Prop where
  kp : Kp w L W
  bld : Lib.IsBuilder 48 5 B b (t.map u8v) W
  lo : w.heap.size ≤ B
  sz : B ≤ W.heap.size
  ok : ∀ p ∈ L, p.1 ≠ b ∧ ∃ cs t, p.2 = .cells cs t (0, 0) ∧ t ≠ 5
theorem PnS.step {w : World} {L : List (Nat × Obj)} {B b : Nat} {t : Txt} {W W' : World} (h : PnS w L B b t W) (hb : Below W.heap.size W W') : PnS w L B b t W' :=
  ⟨h.kp.step hb, isBuilder_below h.bld hb, h.lo, Nat.le_trans h.sz hb.size, h.ok⟩
theorem PnS.write {w : World} {L : List (Nat × Obj)} {B b : Nat} {t t' : Txt} {W W' : World} (h : PnS w L B b t W) (hi : Lib.IsBuilder 48 5 B b (t'.map u8v) W') (hf : Bfr B b W W') : PnS w L B b t' W' :=
  ⟨Kp.bfr h.kp hf h.lo h.ok, hi, h.lo, Nat.le_trans h.sz hf.below.size, h.ok⟩
theorem PnS.alloc {w : World} {L : List (Nat × Obj)} {B b : Nat} {t : Txt} {W : World} (h : PnS w L B b t W) (cs : Array Value) (e : TypeId) (he : e ≠ 5) : PnS w ((W.heap.size, .cells cs e) :: L) B b t (W.alloc (.cells cs e)) := by
  have hb : Below W.heap.size W (W.alloc (.cells cs e)) := (Below.refl _ W).alloc (Nat.le_refl _) _
  refine ⟨h.kp.alloc _, isBuilder_below h.bld hb, h.lo, Nat.le_trans h.sz hb.size, fun p hp => ?_⟩
  rcases List.mem_cons.1 hp with rfl | hp
  · refine ⟨fun e => ?_, cs, _, rfl, he⟩
    have hlt : b < W.heap.size := by rcases h.bld with h | h <;> exact h.lt
    have : W.heap.size = b := e
    omega
  · exact h.ok p hp
theorem PnS.tail {w : World} {q : Nat × Obj} {L : List (Nat × Obj)} {B b : Nat} {t : Txt} {W : World} (h : PnS w (q :: L) B b t W) : PnS w L B b t W := ⟨h.kp.tail, h.bld, h.lo, h.sz, fun p hp => h.ok p (.tail _ hp)⟩
theorem PnS.lt {w : World} {L : List (Nat × Obj)} {B b : Nat} {t : Txt} {W : World} (h : PnS w L B b t W) : b < W.heap.size := by
  rcases h.bld with h | h <;> exact h.lt
/-- A string is written. -/
theorem PnS.str {w : World} {L : List (Nat × Obj)} {B b : Nat} {t : Txt} {W : World} (h : PnS w L B b t W) (s : Txt) (hl : t.length + s.length ≤ 100000000) :
    Calls Tryd.prog 20 #[.pointer (some ⟨b, 0, none⟩), .string ⟨s.toArray⟩] W fun e w' => (∃ r, e = .returned r) ∧ PnS w L B b (t ++ s) w' := by
  refine (writeString20 B b _ ⟨s.toArray⟩ W h.bld (by rw [List.length_map]; show t.length + s.toArray.size ≤ _; simp; omega) h.sz).mono ?_
  rintro e w' ⟨h1, h2, h3⟩
  refine ⟨h1, h.write (.inr ?_) h3⟩
  rw [List.map_append, ← strCells_txt s]
  exact h2
/-- A number is written. -/
theorem PnS.num {w : World} {L : List (Nat × Obj)} {B b : Nat} {t : Txt} {W : World} (h : PnS w L B b t W) (hl : Laid w) (n : Int) (h0 : 0 ≤ n) (h1 : n < 10000000000) (ht : t.length ≤ 100000000) :
    Calls Tryd.prog 21 #[.int .i64 n, .pointer (some ⟨b, 0, none⟩)] W fun e w' => (∃ r, e = .returned r) ∧ PnS w L B b (t ++ 32 :: numT n) w' := by
  have := numT_len h0 h1
  refine (number21 B b t n W h.bld (by omega) h.sz (by omega) (by omega) (hl.below h.kp.below).pow (by omega)).mono ?_
  rintro e w' ⟨h2, h3, h4⟩
  exact ⟨h2, h.write h3 h4⟩
/-- A byte is written. -/
theorem PnS.byte {w : World} {L : List (Nat × Obj)} {B b : Nat} {t : Txt} {W : World} (h : PnS w L B b t W) (c : UInt8) (hl : t.length ≤ 100000000) :
    Calls Tryd.prog 26 #[.pointer (some ⟨b, 0, none⟩), .int .u8 (c.toNat : Nat)] W fun e w' => (∃ r, e = .returned r) ∧ PnS w L B b (t ++ [c]) w' := by
  refine (writeByte26 B b _ _ W h.bld (by rw [List.length_map]; omega) h.sz).mono ?_
  rintro e w' ⟨h1, h2, h3⟩
  refine ⟨h1, h.write (.inr ?_) h3⟩
  rw [List.map_append]
  exact h2
theorem PnS.len {w : World} {L : List (Nat × Obj)} {B b : Nat} {t : Txt} {W : World} (h : PnS w L B b t W) :
    Calls Tryd.prog 27 #[.pointer (some ⟨b, 0, none⟩)] W fun e w' => e = .returned (.int .i64 (t.length : Nat)) ∧ w' = W := by
  have h1 := Tryd.Builder_Len B b _ W h.bld
  rw [List.length_map] at h1
  exact h1
theorem PnS.text {w : World} {L : List (Nat × Obj)} {B b : Nat} {t : Txt} {W : World} (h : PnS w L B b t W) :
    Calls Tryd.prog 28 #[.pointer (some ⟨b, 0, none⟩)] W fun e w' => e = .returned (.string ⟨t.toArray⟩) ∧ Below B W w' := Tryd.Builder_String_any B b t W h.bld h.sz
end Go.Proofs.YtelaijogjgcloaaDoor
end

section
set_option linter.unusedVariables false
set_option linter.unusedSimpArgs false
namespace Go.Proofs.YtelaijogjgcloaaDoor
open Go.RowKit Go.Ice Go.Scr

set_option maxHeartbeats 16000000 in
set_option maxRecDepth 100000 in
theorem print11 (w : World) (u : Value) (sc : Scr) (hs : ScrAt w u sc) (hl : Laid w) :
    Calls Tryd.prog 11 #[u] w fun e w' => e = .returned (.tuple #[.string ⟨(prT sc).toArray⟩, .int .i64 (prN sc)]) ∧ Below w.heap.size w w' := by
  obtain ⟨v, rfl, hv⟩ := hs
  have HL := Lib.hid hl
  obtain ⟨rt, hrt⟩ : ∃ rt, rt = prT sc := ⟨_, rfl⟩
  obtain ⟨rn, hrn⟩ : ∃ rn, rn = prN sc := ⟨_, rfl⟩
  rw [← hrt, ← hrn]
  have HRT := Lib.hid hrt
  have HRN := Lib.hid hrn
  have HV := Lib.hid hv
  obtain ⟨a, cap, rfl, hm⟩ := hv.form
  obtain ⟨S, W0, HB, HW, HK, HZ⟩ := boxed1 w #[.int .i64 sc.plan.g, .int .i64 sc.plan.s, .int .i64 sc.plan.l, .int .i64 sc.plan.p, .int .i64 sc.plan.c, .slice a sc.evs.length cap] 26
  have HC := Lib.hid (check12 W0 (scrV sc.plan (.slice a sc.evs.length cap)) sc ⟨_, rfl, hv.below HK.out.below (Nat.le_refl _)⟩)
  clear hl hrt hrn hv
  unfold scrV at HC ⊢
  obtain ⟨ne, hne⟩ : ∃ ne, ne = sc.evs.length := ⟨_, rfl⟩
  rw [← hne] at HC HW HK HV hm ⊢
  have HNE := Lib.hid hne
  clear hne
  unfold maxLen at hm
  obtain ⟨cb, hcb⟩ : ∃ cb, cb = checkS sc := ⟨_, rfl⟩
  rw [← hcb] at HC
  have HCB := Lib.hid hcb
  clear hcb
  obtain ⟨p, evs⟩ := sc
  dsimp only at HC HW HK HV HNE ⊢
  have b0 : W0.cell? ⟨S, 0, none⟩ = some (.int .i64 p.g) := blk_cell HK.out.b0 0
  have b1 : W0.cell? ⟨S, 1, none⟩ = some (.int .i64 p.s) := blk_cell HK.out.b0 1
  have b2 : W0.cell? ⟨S, 2, none⟩ = some (.int .i64 p.l) := blk_cell HK.out.b0 2
  have b3 : W0.cell? ⟨S, 3, none⟩ = some (.int .i64 p.p) := blk_cell HK.out.b0 3
  have b4 : W0.cell? ⟨S, 4, none⟩ = some (.int .i64 p.c) := blk_cell HK.out.b0 4
  have b5 : W0.cell? ⟨S, 5, none⟩ = some (.slice a ne cap) := blk_cell HK.out.b0 5
  go_enter Tryd.func11, Tryd.ntmps11
  go_upto_region 1 with fail
  rw [HB.out, HW.out]
  go_wp2_with fail
  refine HC.out.mono ?_
  rintro e w1 ⟨rfl, hb⟩
  have HK1 := Lib.hid (HK.out.step hb)
  clear hb HC HW HB HZ HK b0 b1 b2 b3 b4 b5
  cases cb with
  | false =>
    go_wp2_with fail
    go_ret2
    have e1 : rt = [] := by rw [HRT.out]; unfold prT; rw [← HCB.out]; rfl
    have e2 : rn = 2 := by rw [HRN.out]; unfold prN; rw [← HCB.out]; rfl
    exact ⟨by rw [e1, e2]; rfl, HK1.out.below⟩
  | true =>
    have b0 : w1.cell? ⟨S, 0, none⟩ = some (.int .i64 p.g) := blk_cell HK1.out.b0 0
    have b1 : w1.cell? ⟨S, 1, none⟩ = some (.int .i64 p.s) := blk_cell HK1.out.b0 1
    have b2 : w1.cell? ⟨S, 2, none⟩ = some (.int .i64 p.l) := blk_cell HK1.out.b0 2
    have b3 : w1.cell? ⟨S, 3, none⟩ = some (.int .i64 p.p) := blk_cell HK1.out.b0 3
    have b4 : w1.cell? ⟨S, 4, none⟩ = some (.int .i64 p.c) := blk_cell HK1.out.b0 4
    go_upto_region 6 with fail
    obtain ⟨D, b, W2, HD, HBB, HW2, HK2, HZ2⟩ := boxed2 w1 #[.int .i64 p.g, .int .i64 p.s, .int .i64 p.l, .int .i64 p.p, .int .i64 p.c] 23 #[.pointer none, .slice none 0 0] 48
    rw [HW2.out, HBB.out, HD.out]
    have hSlt := blk_lt HK1.out.b0
    have HP2 : Hid (PnS w [(D, .cells #[.int .i64 p.g, .int .i64 p.s, .int .i64 p.l, .int .i64 p.p, .int .i64 p.c] 23), (S, .cells #[.int .i64 p.g, .int .i64 p.s, .int .i64 p.l, .int .i64 p.p, .int .i64 p.c, .slice a ne cap] 26)] b b [] W2) := by
      refine ⟨⟨HK1.out.below.trans (HK2.out.below.mono HK1.out.below.size), fun q hq => ?_⟩, .inl ⟨Nat.le_refl _, .slice none 0 0, HK2.out.b1, World.ownsRow_nil _ _ _ _, by simp [Value.ownBlock]⟩, ?_, ?_, fun q hq => ?_⟩
      · rcases List.mem_cons.1 hq with rfl | hq
        · exact HK2.out.b0
        · rcases List.mem_cons.1 hq with rfl | hq
          · exact (HK2.out.below.block S hSlt).trans HK1.out.b0
          · cases hq
      · have := HK1.out.below.size; have := HBB.out; omega
      · have := HZ2.out; have := HBB.out; have := HD.out; omega
      · rcases List.mem_cons.1 hq with rfl | hq
        · exact ⟨by have := HBB.out; have := HD.out; show D ≠ b; omega, _, _, rfl, by decide⟩
        · rcases List.mem_cons.1 hq with rfl | hq
          · exact ⟨by have := HBB.out; show S ≠ b; omega, _, _, rfl, by decide⟩
          · cases hq
    obtain ⟨cf1, cf2, cf3⟩ := checkS_facts HCB.out.symm
    have HPB : Hid (planB p = true) := cf1
    have HPR : Hid (∀ x ∈ evs, rightE p x = true) := cf3
    have HP2H : Hid (evs.length ≤ 200) := cf2
    clear cf1 cf2 cf3
    clear b0 b1 b2 b3 b4 HD HBB HW2 HK2 HZ2 hSlt HK1
    go_wp2_with fail
    refine (HP2.out.str wPlan (by decide)).mono ?_
    rintro e w3 ⟨⟨r, rfl⟩, hp3⟩
    have d0 : w3.cell? ⟨D, 0, none⟩ = some (.int .i64 p.g) := blk_cell hp3.kp.b0 0
    have d1 : w3.cell? ⟨D, 1, none⟩ = some (.int .i64 p.s) := blk_cell hp3.kp.b0 1
    have d2 : w3.cell? ⟨D, 2, none⟩ = some (.int .i64 p.l) := blk_cell hp3.kp.b0 2
    have d3 : w3.cell? ⟨D, 3, none⟩ = some (.int .i64 p.p) := blk_cell hp3.kp.b0 3
    have d4 : w3.cell? ⟨D, 4, none⟩ = some (.int .i64 p.c) := blk_cell hp3.kp.b0 4
    obtain ⟨I, W4, HI, HW4, _, _⟩ := boxed1 w3 #[.int .i64 p.g, .int .i64 p.s, .int .i64 p.l, .int .i64 p.p, .int .i64 p.c] 3
    have hp4 := hp3.alloc #[.int .i64 p.g, .int .i64 p.s, .int .i64 p.l, .int .i64 p.p, .int .i64 p.c] 3 (by decide)
    rw [HI.out, HW4.out] at hp4
    have HP4 := Lib.hid hp4
    clear hp3 hp4 HP2
    go_wp2_with fail
    rw [HW4.out, HI.out]
    clear d0 d1 d2 d3 d4 HW4 HI
    go_loopg [9, 33] 5 (fun g nv kv wr => ∃ k : Nat, g = 5 - k ∧ k ≤ 5 ∧ kv = .int .i64 k ∧ Hid (PnS w [(I, .cells #[.int .i64 p.g, .int .i64 p.s, .int .i64 p.l, .int .i64 p.p, .int .i64 p.c] 3), (D, .cells #[.int .i64 p.g, .int .i64 p.s, .int .i64 p.l, .int .i64 p.p, .int .i64 p.c] 23), (S, .cells #[.int .i64 p.g, .int .i64 p.s, .int .i64 p.l, .int .i64 p.p, .int .i64 p.c, .slice a ne cap] 26)] b b (wPlan ++ numsT ((planN p).take k)) wr))
    case atStart => exact ⟨0, rfl, by omega, rfl, HP4.out⟩
    case round =>
      obtain ⟨k, rfl, hk, rfl, HJ⟩ := hrel
      by_cases hlt : k < 5
      · obtain ⟨nk, hnk⟩ : ∃ nk, (planN p)[k]? = some nk := ⟨_, List.getElem?_eq_getElem (by show k < 5; exact hlt)⟩
        have i0 : wr.cell? ⟨I, k, none⟩ = some (.int .i64 nk) := by
          rw [blk_cell HJ.out.kp.b0 k]
          obtain rfl | rfl | rfl | rfl | rfl : k = 0 ∨ k = 1 ∨ k = 2 ∨ k = 3 ∨ k = 4 := by omega
          all_goals (simp [planN] at hnk; rw [← hnk]; rfl)
        have hb := plan_facts HPB.out nk (List.mem_of_getElem? hnk)
        have hl11 := numsT_len ((planN p).take k) (fun n hn => plan_facts HPB.out n (List.mem_of_mem_take hn))
        have HNX := Lib.hid (HJ.out.num HL.out nk hb.1 (by omega) (by rw [List.length_append]; rw [List.length_take] at hl11; have : wPlan.length = 4 := rfl; omega))
        have HTK : Hid ((wPlan ++ numsT ((planN p).take k)) ++ 32 :: numT nk = wPlan ++ numsT ((planN p).take (k + 1))) := by
          show _ = _
          rw [List.take_add_one, hnk]; simp [numsT]
        rw [HTK.out] at HNX
        clear hnk hb hl11 HTK
        go_wp2_with fail
        refine HNX.out.mono ?_
        rintro e w5 ⟨⟨r2, rfl⟩, hp5⟩
        have HP5 := Lib.hid hp5
        clear hp5 HNX i0
        go_wp2_with fail
        go_roundg (5 - (k + 1))
        case measure => omega
        case rel => exact ⟨k + 1, rfl, by omega, by go_num, HP5.out⟩
      · obtain rfl : k = 5 := by omega
        have HPX : Hid (PnS w [(S, .cells #[.int .i64 p.g, .int .i64 p.s, .int .i64 p.l, .int .i64 p.p, .int .i64 p.c, .slice a ne cap] 26)] b b (lineP p ++ evsT (evs.take 0)) wr) := by
          have h := HJ.out.tail.tail
          rw [show (planN p).take 5 = planN p from rfl, ← lineP_eq] at h
          have e : lineP p ++ evsT (evs.take 0) = lineP p := by simp [evsT]
          show PnS _ _ _ _ _ _
          rw [e]; exact h
        have b5 : wr.cell? ⟨S, 1 + 4, none⟩ = some (.slice a ne cap) := blk_cell HPX.out.kp.b0 5
        have b6 : wr.cell? ⟨S, 5, none⟩ = some (.slice a ne cap) := blk_cell HPX.out.kp.b0 5
        clear HJ HP4
        go_wp2_with fail
        go_loopg [11, 44] ne (fun g xv kv wq => ∃ k : Nat, g = ne - k ∧ k ≤ ne ∧ kv = .int .i64 k ∧ Hid (PnS w [(S, .cells #[.int .i64 p.g, .int .i64 p.s, .int .i64 p.l, .int .i64 p.p, .int .i64 p.c, .slice a ne cap] 26)] b b (lineP p ++ evsT (evs.take k)) wq))
        case atStart => exact ⟨0, rfl, by omega, rfl, HPX.out⟩
        case round =>
          clear b5 b6
          obtain ⟨k, rfl, hk, rfl, HJ⟩ := hrel
          by_cases hlt : k < ne
          · have hkl : k < evs.length := by rw [← HNE.out]; exact hlt
            obtain ⟨x, hx⟩ : ∃ x, evs[k]? = some x := ⟨evs[k], List.getElem?_eq_getElem hkl⟩
            have HX := Lib.hid hx
            obtain ⟨bs, off, cap', vb, vk, e1, e2, e3, e4, q0, q1, q2, q3, q4, hb, hk'⟩ := HV.out.at hx
            rw [← HJ.out.kp.below.cell (p := ⟨bs, _, none⟩) e4] at q0 q1 q2 q3 q4
            rw [← HNE.out] at e1 e2
            injection e1 with x1 x2 x3
            subst x1 x3
            obtain ⟨ab, cb, rfl, hmb⟩ := hb.form
            obtain ⟨ak, ck, rfl, hmk⟩ := hk'.form
            have HR := right_facts HPB.out (HPR.out x (List.mem_of_getElem? hx))
            have HBY := Lib.hid hb
            have HKE := Lib.hid hk'
            have HRF := Lib.hid HR
            clear hx hb hk' hmb hmk x2 HR e4
            unfold maxLen at e3
            obtain ⟨kind, conn, n, bytes, keep⟩ := x
            dsimp only at HRF HBY HKE q0 q1 q2 q3 q4
            obtain ⟨nb, hnb⟩ : ∃ nb, nb = bytes.length := ⟨_, rfl⟩
            obtain ⟨nk, hnk⟩ : ∃ nk, nk = keep.length := ⟨_, rfl⟩
            rw [← hnb] at HBY q3
            rw [← hnk] at HKE q4
            clear hnb hnk
            obtain ⟨wk, hwk⟩ : ∃ wk, wk = word kind := ⟨_, rfl⟩
            have hwl : wk.length ≤ 5 := by rw [hwk]; exact word_len kind
            have HWK := Lib.hid hwk
            have hq : ¬ 9223372036854775807 < 1 + wk.length := by omega
            have k1 : 1 ≤ kind := HRF.out.1.1
            have k8 : kind ≤ 8 := HRF.out.1.2
            have k0 : 0 ≤ kind := by omega
            have k9 : kind < 9 := by omega
            have kb : 0 ≤ kind ∧ kind < 9 := ⟨k0, k9⟩
            have hT := evsT_len HPB.out (evs.take k) (fun y hy => HPR.out y (List.mem_of_mem_take hy))
            have hTL : (lineP p ++ evsT (evs.take k)).length ≤ 2000000 := by
              have h1 := numsT_len (planN p) (plan_facts HPB.out)
              have h2 := HP2H.out
              rw [List.length_take] at hT
              rw [lineP_eq]
              simp only [List.length_append]
              have : wPlan.length = 4 := rfl
              have : (planN p).length = 5 := rfl
              omega
            clear hT hwk
            generalize hTT : lineP p ++ evsT (evs.take k) = T at HJ hTL
            have HTT := Lib.hid hTT
            clear hTT
            obtain ⟨X, W6, HXE, HW6, _, _⟩ := boxed1 wr #[.int .i64 kind, .int .i64 conn, .int .i64 n, .slice ab nb cb, .slice ak nk ck] 41
            have hp6 := HJ.out.alloc #[.int .i64 kind, .int .i64 conn, .int .i64 n, .slice ab nb cb, .slice ak nk ck] 41 (by decide)
            rw [HXE.out, HW6.out] at hp6
            have HP6 := Lib.hid hp6
            clear hp6
            go_upto_region 16 with fail
            rw [HW6.out, HXE.out]
            have x0 : W6.cell? ⟨X, 0, none⟩ = some (.int .i64 kind) := blk_cell HP6.out.kp.b0 0
            clear HW6 HXE q0 q1 q2 q3 q4 HJ
            have HCAT : Hid ((⟨#[10]⟩ : ByteArray) ++ ⟨wk.toArray⟩ = ⟨(10 :: wk).toArray⟩) := cat_txt [10] wk
            -- REGION
            refine wp_region_inv2 (by kernel_rfl) (hord_of2 (by kernel_rfl)) (fun done ac W => ∃ (G : Nat) (rv : Value), ac = { tmps := #[.agg #[.int .i64 p.g, .int .i64 p.s, .int .i64 p.l, .int .i64 p.p, .int .i64 p.c, .slice (some ⟨bs, off, none⟩) ne cap], (.pointer (some ⟨S, 0, none⟩)), .string ⟨#[]⟩, .int .i64 0, .int .i64 0, (.pointer (some ⟨D, 0, none⟩)), (.pointer (some ⟨b, 0, none⟩)), .func (.func 21) #[] #[.pointer (some ⟨b, 0, none⟩)], undef, u9, undef, (.pointer (some ⟨X, 0, none⟩)), .agg #[.int .i64 p.g, .int .i64 p.s, .int .i64 p.l, .int .i64 p.p, .int .i64 p.c, .slice (some ⟨bs, off, none⟩) ne cap], .int .i64 0, .int .i64 0, .bool false, undef, (.pointer (some ⟨S, 0, none⟩)), .agg #[.int .i64 p.g, .int .i64 p.s, .int .i64 p.l, .int .i64 p.p, .int .i64 p.c], r, .func (.func 21) #[] #[.pointer (some ⟨b, 0, none⟩)], (.pointer (some ⟨D, 0, none⟩)), .int .i64 p.g, (.pointer (some ⟨D, 1, none⟩)), .int .i64 p.s, (.pointer (some ⟨D, 2, none⟩)), .int .i64 p.l, (.pointer (some ⟨D, 3, none⟩)), .int .i64 p.p, (.pointer (some ⟨D, 4, none⟩)), .int .i64 p.c, .slice (some ⟨I, 0, none⟩) 5 5, .int .i64 5, .int .i64 ((5 : Nat) : Int), .bool false, u35, u36, u37, u38, u39, u40, (.pointer (some ⟨S, 5, none⟩)), .slice (some ⟨bs, off, none⟩) ne cap, .int .i64 (ne : Nat), .int .i64 (k : Nat), .bool true, .pointer (some ⟨bs, off + k * 5, none⟩), .agg #[.int .i64 kind, .int .i64 conn, .int .i64 n, .slice ab nb cb, .slice ak nk ck], if done 0 then (.slice (some ⟨G, 0, none⟩) 9 9) else u48, if done 1 then (.pointer (some ⟨X, 0, none⟩)) else u49, if done 2 then (.int .i64 kind) else u50, if done 3 then (.pointer (some ⟨G, kind.toNat, none⟩)) else u51, if done 4 then (.string ⟨wk.toArray⟩) else u52, if done 5 then (.string ⟨(10 :: wk).toArray⟩) else u53, if done 6 then rv else u54, u55, u56, u57, u58, u59, u60, u61, u62, u63, u64, u65, u66, u67, u68, u69, u70, u71, u72, u73, u74, u75, u76, u77, u78, u79, u80, u81, u82, u83, u84, u85, u86, u87, u88, u89, undef, undef, undef, undef], defers := [] } ∧ (done 6 = false → PnS w [(X, .cells #[.int .i64 kind, .int .i64 conn, .int .i64 n, .slice ab nb cb, .slice ak nk ck] 41), (S, .cells #[.int .i64 p.g, .int .i64 p.s, .int .i64 p.l, .int .i64 p.p, .int .i64 p.c, .slice (some ⟨bs, off, none⟩) ne cap] 26)] b b T W) ∧ (done 6 = true → PnS w [(X, .cells #[.int .i64 kind, .int .i64 conn, .int .i64 n, .slice ab nb cb, .slice ak nk ck] 41), (S, .cells #[.int .i64 p.g, .int .i64 p.s, .int .i64 p.l, .int .i64 p.p, .int .i64 p.c, .slice (some ⟨bs, off, none⟩) ne cap] 26)] b b (T ++ 10 :: wk) W) ∧ (done 0 = true → done 6 = false → W.heap[G]? = some wordsO)) ?_ ?_ ?_
            · exact ⟨0, undef, by simp, fun _ => HP6.out.step ((Below.refl _ W6).drew), fun h => absurd h (by simp), fun h => absurd h (by simp)⟩
            · intro done ac W j oq ho hd hdep hcl ⟨G, rv, hlit, hI⟩
              have hj : j < 7 := (Array.getElem?_eq_some_iff.1 ho).1
              subst hlit
              obtain rfl | rfl | rfl | rfl | rfl | rfl | rfl : j = 0 ∨ j = 1 ∨ j = 2 ∨ j = 3 ∨ j = 4 ∨ j = 5 ∨ j = 6 := by omega
              · have q3 : done 3 = false := by
                  cases h : done 3 with
                  | false => rfl
                  | true =>
                    have h0 := hcl 3 _ rfl h ⟨0, .data⟩ (by simp) rfl
                    rw [hd] at h0; cases h0
                have q6 : done 6 = false := by
                  cases h : done 6 with
                  | false => rfl
                  | true =>
                    have h0 := hcl 6 _ rfl h ⟨0, .chain⟩ (by simp) rfl
                    rw [hd] at h0; cases h0
                refine wpOp_call ho (by cases ho; rfl) (f := 23) (args := #[]) (by cases ho; simp [execOp, go_sem]) (words23 W) ?_
                rintro e w' ⟨rfl, hg, hb⟩
                cases ho
                exact ⟨_, rfl, W.heap.size, rv, by simp [Act.put, q3], fun _ => (hI.1 q6).step hb, fun h => by simp [q6] at h, fun _ _ => hg⟩
              · have q6 : done 6 = false := by
                  cases h : done 6 with
                  | false => rfl
                  | true =>
                    have h0 := hcl 6 _ rfl h ⟨5, .data⟩ (by simp) rfl
                    have h1 := hcl 5 _ rfl h0 ⟨4, .data⟩ (by simp) rfl
                    have h2 := hcl 4 _ rfl h1 ⟨3, .data⟩ (by simp) rfl
                    have h3 := hcl 3 _ rfl h2 ⟨2, .data⟩ (by simp) rfl
                    have h4 := hcl 2 _ rfl h3 ⟨1, .data⟩ (by simp) rfl
                    rw [hd] at h4; cases h4
                refine wpOp_val ho (by cases ho; rfl) (w' := W) (v := (.pointer (some ⟨X, 0, none⟩))) (by cases ho; simp [execOp, go_sem]) ?_
                cases ho
                exact ⟨G, rv, by simp [Act.put], fun _ => hI.1 q6, fun h => by simp [q6] at h, fun h _ => hI.2.2 (by simpa using h) q6⟩
              · have p1 : done 1 = true := by cases ho; exact hdep ⟨1, .data⟩ (by simp) rfl
                have q6 : done 6 = false := by
                  cases h : done 6 with
                  | false => rfl
                  | true =>
                    have h0 := hcl 6 _ rfl h ⟨5, .data⟩ (by simp) rfl
                    have h1 := hcl 5 _ rfl h0 ⟨4, .data⟩ (by simp) rfl
                    have h2 := hcl 4 _ rfl h1 ⟨3, .data⟩ (by simp) rfl
                    have h3 := hcl 3 _ rfl h2 ⟨2, .data⟩ (by simp) rfl
                    rw [hd] at h3; cases h3
                have x2 := blk_cell (hI.1 q6).kp.b0 0
                refine wpOp_val ho (by cases ho; rfl) (w' := W) (v := (.int .i64 kind)) (by cases ho; simp [execOp, go_sem, p1, x2]) ?_
                cases ho
                exact ⟨G, rv, by simp [Act.put], fun _ => hI.1 q6, fun h => by simp [q6] at h, fun h _ => hI.2.2 (by simpa using h) q6⟩
              · have p0 : done 0 = true := by cases ho; exact hdep ⟨0, .data⟩ (by simp) rfl
                have p2 : done 2 = true := by cases ho; exact hdep ⟨2, .data⟩ (by simp) rfl
                have q6 : done 6 = false := by
                  cases h : done 6 with
                  | false => rfl
                  | true =>
                    have h0 := hcl 6 _ rfl h ⟨5, .data⟩ (by simp) rfl
                    have h1 := hcl 5 _ rfl h0 ⟨4, .data⟩ (by simp) rfl
                    have h2 := hcl 4 _ rfl h1 ⟨3, .data⟩ (by simp) rfl
                    rw [hd] at h2; cases h2
                have p0 : done 0 = true := by cases ho; exact hdep ⟨0, .data⟩ (by simp) rfl
                refine wpOp_val ho (by cases ho; rfl) (w' := W) (v := (.pointer (some ⟨G, kind.toNat, none⟩))) (by cases ho; simp [execOp, go_sem, p0, p2, kb, k0, k9]) ?_
                cases ho
                exact ⟨G, rv, by simp [Act.put], fun _ => hI.1 q6, fun h => by simp [q6] at h, fun h _ => hI.2.2 (by simpa using h) q6⟩
              · have p3 : done 3 = true := by cases ho; exact hdep ⟨3, .data⟩ (by simp) rfl
                have q6 : done 6 = false := by
                  cases h : done 6 with
                  | false => rfl
                  | true =>
                    have h0 := hcl 6 _ rfl h ⟨5, .data⟩ (by simp) rfl
                    have h1 := hcl 5 _ rfl h0 ⟨4, .data⟩ (by simp) rfl
                    rw [hd] at h1; cases h1
                have p3 : done 3 = true := by cases ho; exact hdep ⟨3, .data⟩ (by simp) rfl
                have p0 : done 0 = true := hcl 3 _ rfl p3 ⟨0, .data⟩ (by simp) rfl
                have g4 := words_at (hI.2.2 p0 q6) (k := kind) ⟨k1, k8⟩
                rw [← HWK.out] at g4
                unfold strV at g4
                refine wpOp_val ho (by cases ho; rfl) (w' := W) (v := (.string ⟨wk.toArray⟩)) (by cases ho; simp [execOp, go_sem, p3, g4]) ?_
                cases ho
                exact ⟨G, rv, by simp [Act.put], fun _ => hI.1 q6, fun h => by simp [q6] at h, fun h _ => hI.2.2 (by simpa using h) q6⟩
              · have p4 : done 4 = true := by cases ho; exact hdep ⟨4, .data⟩ (by simp) rfl
                have q6 : done 6 = false := by
                  cases h : done 6 with
                  | false => rfl
                  | true =>
                    have h0 := hcl 6 _ rfl h ⟨5, .data⟩ (by simp) rfl
                    rw [hd] at h0; cases h0
                refine wpOp_val ho (by cases ho; rfl) (w' := W) (v := (.string ⟨(10 :: wk).toArray⟩)) (by cases ho; simp [execOp, go_sem, p4, hq]; exact HCAT.out) ?_
                cases ho
                exact ⟨G, rv, by simp [Act.put], fun _ => hI.1 q6, fun h => by simp [q6] at h, fun h _ => hI.2.2 (by simpa using h) q6⟩
              · have p5 : done 5 = true := by cases ho; exact hdep ⟨5, .data⟩ (by simp) rfl
                refine wpOp_call ho (by cases ho; rfl) (f := 20) (args := #[.pointer (some ⟨b, 0, none⟩), .string ⟨(10 :: wk).toArray⟩]) (by cases ho; simp [execOp, go_sem, p5]) ((hI.1 hd).str (10 :: wk) (by simp; omega)) ?_
                rintro e w' ⟨⟨rv', rfl⟩, hp⟩
                cases ho
                exact ⟨_, rfl, G, rv', by simp [Act.put], fun h => by simp at h, fun _ => hp, fun _ h => by simp at h⟩
            · rintro done ac W hall ⟨G, rv, rfl, hI⟩
              have hl := hall
              clear hall
              have e0 := hl 0 (by decide)
              have e1 := hl 1 (by decide)
              have e2 := hl 2 (by decide)
              have e3 := hl 3 (by decide)
              have e4 := hl 4 (by decide)
              have e5 := hl 5 (by decide)
              have e6 := hl 6 (by decide)
              have HP8 := Lib.hid (hI.2.1 e6)
              simp only [e0, e1, e2, e3, e4, e5, e6, if_true]
              clear e0 e1 e2 e3 e4 e5 e6 hl hI x0
              have x0 : W.cell? ⟨X, 0, none⟩ = some (.int .i64 kind) := blk_cell HP8.out.kp.b0 0
              have x1 : W.cell? ⟨X, 1, none⟩ = some (.int .i64 conn) := blk_cell HP8.out.kp.b0 1
              have x2 : W.cell? ⟨X, 2, none⟩ = some (.int .i64 n) := blk_cell HP8.out.kp.b0 2
              have x3 : W.cell? ⟨X, 3, none⟩ = some (.slice ab nb cb) := blk_cell HP8.out.kp.b0 3
              have x4 : W.cell? ⟨X, 4, none⟩ = some (.slice ak nk ck) := blk_cell HP8.out.kp.b0 4
              have hT8 : (T ++ 10 :: wk).length ≤ 3000000 := by simp only [List.length_append, List.length_cons]; omega
              have HTX : Hid (∀ t', t' = T ++ 10 :: lineE ⟨kind, conn, n, bytes, keep⟩ → lineP p ++ evsT (evs.take (k + 1)) = t') := fun t' ht' => by
                rw [List.take_add_one, HX.out, Option.toList_some, evsT_snoc, ← List.append_assoc, HTT.out, ht']
              clear kb k0 k9 hq HCAT HP6
              obtain rfl | rfl | rfl | rfl | rfl | rfl | rfl | rfl : kind = 1 ∨ kind = 2 ∨ kind = 3 ∨ kind = 4 ∨ kind = 5 ∨ kind = 6 ∨ kind = 7 ∨ kind = 8 := by omega
              · go_wp2_with fail
                refine (HP8.out.num HL.out conn HRF.out.2.1.1 (by have := HRF.out.2.1.2; omega) (by omega)).mono ?_
                rintro e w9 ⟨⟨r9, rfl⟩, hp9⟩
                have HP9 := Lib.hid hp9
                clear hp9
                have y3 : w9.cell? ⟨X, 3, none⟩ = some (.slice ab nb cb) := blk_cell HP9.out.kp.b0 3
                have hT9 : (T ++ 10 :: wk ++ 32 :: numT conn).length ≤ 4000000 := by have := numT_len HRF.out.2.1.1 (by have := HRF.out.2.1.2; omega : conn < 10000000000); rw [List.length_append, List.length_cons]; omega
                obtain ⟨tx, htx⟩ : ∃ tx, tx = rawT bytes := ⟨_, rfl⟩
                have htl : tx.length ≤ 10000 := by rw [htx]; have := rawT_len bytes; have := HRF.out.2.2.2; omega
                have HC := raw24 w9 (.slice ab nb cb) bytes (HBY.out.below HP9.out.kp.below (Nat.le_refl _)) (by have := HRF.out.2.2.2.1; omega)
                rw [← htx] at HC
                have HTXX := Lib.hid htx
                clear htx
                have hq1 : ¬ 9223372036854775807 < 1 + tx.length := by omega
                go_wp2_with fail
                refine HC.mono ?_
                rintro e w10 ⟨rfl, hb10⟩
                have HP10 := Lib.hid (HP9.out.step hb10)
                clear hb10
                go_wp2_with fail
                rw [show (⟨#[32]⟩ : ByteArray) ++ ⟨tx.toArray⟩ = ⟨(32 :: tx).toArray⟩ from cat_txt [32] _]
                refine (HP10.out.str (32 :: tx) (by simp only [List.length_cons]; omega)).mono ?_
                rintro e w11 ⟨⟨r11, rfl⟩, hp11⟩
                have HP12 := Lib.hid hp11
                clear hp11
                go_wp2_with fail
                go_roundg (ne - (k + 1))
                case measure => omega
                case rel => exact ⟨k + 1, rfl, by omega, by go_num, Lib.hid (by
                  rw [HTX.out _ rfl, lineE_1 _ rfl, ← HTXX.out]
                  have h := HP12.out.tail
                  rw [HWK.out] at h
                  simpa using h)⟩
              · go_wp2_with fail
                refine (HP8.out.num HL.out n HRF.out.2.2.1.1 (by have := HRF.out.2.2.1.2; omega) (by omega)).mono ?_
                rintro e w9 ⟨⟨r9, rfl⟩, hp9⟩
                have HP9 := Lib.hid hp9
                clear hp9
                go_wp2_with fail
                go_roundg (ne - (k + 1))
                case measure => omega
                case rel => exact ⟨k + 1, rfl, by omega, by go_num, Lib.hid (by
                  rw [HTX.out _ rfl, lineE_n _ (by simp)]
                  have h := HP9.out.tail
                  rw [HWK.out] at h
                  simpa using h)⟩
              · go_wp2_with fail
                go_roundg (ne - (k + 1))
                case measure => omega
                case rel => exact ⟨k + 1, rfl, by omega, by go_num, Lib.hid (by
                  rw [HTX.out _ rfl, lineE_0 _ (by simp)]
                  have h := HP8.out.tail
                  rw [HWK.out] at h
                  simpa using h)⟩
              · go_wp2_with fail
                go_roundg (ne - (k + 1))
                case measure => omega
                case rel => exact ⟨k + 1, rfl, by omega, by go_num, Lib.hid (by
                  rw [HTX.out _ rfl, lineE_0 _ (by simp)]
                  have h := HP8.out.tail
                  rw [HWK.out] at h
                  simpa using h)⟩
              · go_wp2_with fail
                refine (HP8.out.num HL.out n HRF.out.2.2.1.1 (by have := HRF.out.2.2.1.2; omega) (by omega)).mono ?_
                rintro e w9 ⟨⟨r9, rfl⟩, hp9⟩
                have HP9 := Lib.hid hp9
                clear hp9
                go_wp2_with fail
                go_roundg (ne - (k + 1))
                case measure => omega
                case rel => exact ⟨k + 1, rfl, by omega, by go_num, Lib.hid (by
                  rw [HTX.out _ rfl, lineE_n _ (by simp)]
                  have h := HP9.out.tail
                  rw [HWK.out] at h
                  simpa using h)⟩
              · go_wp2_with fail
                refine (HP8.out.num HL.out n HRF.out.2.2.1.1 (by have := HRF.out.2.2.1.2; omega) (by omega)).mono ?_
                rintro e w9 ⟨⟨r9, rfl⟩, hp9⟩
                have HP9 := Lib.hid hp9
                clear hp9
                go_wp2_with fail
                go_roundg (ne - (k + 1))
                case measure => omega
                case rel => exact ⟨k + 1, rfl, by omega, by go_num, Lib.hid (by
                  rw [HTX.out _ rfl, lineE_n _ (by simp)]
                  have h := HP9.out.tail
                  rw [HWK.out] at h
                  simpa using h)⟩
              · obtain ⟨tx, htx⟩ : ∃ tx, tx = keepT keep := ⟨_, rfl⟩
                have htl : tx.length ≤ 10000 := by rw [htx]; have := keepT_len keep; have := HRF.out.2.2.2; omega
                have HC := kept25 W (.slice ak nk ck) keep (HKE.out.below HP8.out.kp.below (Nat.le_refl _)) (by have := HRF.out.2.2.2.2; omega)
                rw [← htx] at HC
                have HTXX := Lib.hid htx
                clear htx
                have hq1 : ¬ 9223372036854775807 < 1 + tx.length := by omega
                go_wp2_with fail
                refine HC.mono ?_
                rintro e w10 ⟨rfl, hb10⟩
                have HP10 := Lib.hid (HP8.out.step hb10)
                clear hb10
                go_wp2_with fail
                rw [show (⟨#[32]⟩ : ByteArray) ++ ⟨tx.toArray⟩ = ⟨(32 :: tx).toArray⟩ from cat_txt [32] _]
                refine (HP10.out.str (32 :: tx) (by simp only [List.length_cons]; omega)).mono ?_
                rintro e w11 ⟨⟨r11, rfl⟩, hp11⟩
                have HP12 := Lib.hid hp11
                clear hp11
                go_wp2_with fail
                go_roundg (ne - (k + 1))
                case measure => omega
                case rel => exact ⟨k + 1, rfl, by omega, by go_num, Lib.hid (by
                  rw [HTX.out _ rfl, lineE_7 _ rfl, ← HTXX.out]
                  have h := HP12.out.tail
                  rw [HWK.out] at h
                  simpa using h)⟩
              · go_wp2_with fail
                refine (HP8.out.num HL.out conn HRF.out.2.1.1 (by have := HRF.out.2.1.2; omega) (by omega)).mono ?_
                rintro e w9 ⟨⟨r9, rfl⟩, hp9⟩
                have HP9 := Lib.hid hp9
                clear hp9
                go_wp2_with fail
                go_roundg (ne - (k + 1))
                case measure => omega
                case rel => exact ⟨k + 1, rfl, by omega, by go_num, Lib.hid (by
                  rw [HTX.out _ rfl, lineE_8 _ rfl]
                  have h := HP9.out.tail
                  rw [HWK.out] at h
                  simpa using h)⟩
            -- END
          · obtain rfl : k = ne := by omega
            have HPZ : Hid (PnS w [(S, .cells #[.int .i64 p.g, .int .i64 p.s, .int .i64 p.l, .int .i64 p.p, .int .i64 p.c, .slice a k cap] 26)] b b (lineP p ++ evsT evs) wr) := by
              have h := HJ.out
              rw [HNE.out, List.take_length] at h
              exact HNE.out ▸ h
            have hTL : (lineP p ++ evsT evs).length ≤ 2000000 := by
              have hT := evsT_len HPB.out evs HPR.out
              have h1 := numsT_len (planN p) (plan_facts HPB.out)
              have h2 := HP2H.out
              rw [lineP_eq]
              simp only [List.length_append]
              have : wPlan.length = 4 := rfl
              have : (planN p).length = 5 := rfl
              omega
            have HTE : Hid (textS ⟨p, evs⟩ = (lineP p ++ evsT evs) ++ [10]) := textS_eq _
            generalize lineP p ++ evsT evs = T at HPZ hTL HTE
            have HBY := HPZ.out.byte 10 (by omega)
            clear HJ hlt hk HPX
            go_wp2_with fail
            refine HBY.mono ?_
            rintro e w9 ⟨⟨r9, rfl⟩, hp9⟩
            have HP9 := Lib.hid hp9
            clear hp9 HBY
            rw [← HTE.out] at HP9
            have HC : Hid (true = checkS ⟨p, evs⟩) := HCB.out
            generalize hTT : textS ⟨p, evs⟩ = TT at HP9
            have HTT := Lib.hid hTT
            have htl : TT.length ≤ 3000000 := by rw [← hTT, HTE.out, List.length_append]; simp; omega
            clear hTT
            go_wp2_with fail
            refine HP9.out.len.mono ?_
            rintro e w10 ⟨rfl, rfl⟩
            by_cases hL : 262144 < TT.length
            · have hL' : (262144 : Int) < (TT.length : Nat) := by omega
              have e1 : rt = [] := by rw [HRT.out]; unfold prT; rw [← HC.out, HTT.out, if_pos rfl, if_pos hL]
              have e2 : rn = 3 := by rw [HRN.out]; unfold prN; rw [← HC.out, HTT.out, if_pos rfl, if_pos hL]
              have HE := Lib.hid (And.intro e1 e2)
              clear e1 e2
              go_wp2_with fail
              go_ret2
              exact ⟨by rw [HE.out.1, HE.out.2]; rfl, HP9.out.kp.below⟩
            · have hL' : ¬ (262144 : Int) < (TT.length : Nat) := by omega
              have e1 : rt = TT := by rw [HRT.out]; unfold prT; rw [← HC.out, HTT.out, if_pos rfl, if_neg hL]
              have e2 : rn = 0 := by rw [HRN.out]; unfold prN; rw [← HC.out, HTT.out, if_pos rfl, if_neg hL]
              have HE := Lib.hid (And.intro e1 e2)
              clear e1 e2
              go_wp2_with fail
              refine HP9.out.text.mono ?_
              rintro e w11 ⟨rfl, hb11⟩
              have HB11 := Lib.hid (HP9.out.kp.below.trans (hb11.mono HP9.out.lo))
              clear hb11
              go_wp2_with fail
              go_ret2
              exact ⟨by rw [HE.out.1, HE.out.2]; rfl, HB11.out⟩
end Go.Proofs.YtelaijogjgcloaaDoor
end
