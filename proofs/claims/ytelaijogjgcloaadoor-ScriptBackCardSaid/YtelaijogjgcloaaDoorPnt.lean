/- script.Print, its plain part and its state. No condition. -/
import Derived.Test.YtelaijogjgcloaaDoorPrs
set_option linter.unusedVariables false
set_option linter.unusedSimpArgs false
namespace Go.Proofs.YtelaijogjgcloaaDoor
open Go.RowKit Go.Ice Go.Scr

theorem numT_len {n : Int} (h0 : 0 ≤ n) (h1 : n < 10000000000) : (numT n).length ≤ 10 := by
  obtain ⟨u, rfl⟩ := Int.eq_ofNat_of_zero_le h0
  have e : numT (u : Int) = Go.Lib.decDigits u := by
    unfold numT Go.Lib.itoa
    rw [if_neg (by omega)]
    rfl
  rw [e]
  exact dec_len 9 u (by omega)
def planN (p : Plan) : List Int := [p.g, p.s, p.l, p.p, p.c]
def numsT (l : List Int) : Txt := l.flatMap fun n => 32 :: numT n
theorem lineP_eq (p : Plan) : lineP p = wPlan ++ numsT (planN p) := by
  simp [lineP, planL, joinC, numsT, planN]
theorem lineE_1 (x : Ev) (h : x.kind = 1) : lineE x = (word 1 ++ 32 :: numT x.conn) ++ 32 :: rawT x.bytes := by
  unfold lineE evL; rw [if_pos h]; simp [joinC]
theorem lineE_n (x : Ev) (h : x.kind = 2 ∨ x.kind = 5 ∨ x.kind = 6) : lineE x = word x.kind ++ 32 :: numT x.n := by
  unfold lineE evL; rw [if_neg (by omega), if_pos h]; simp [joinC]
theorem lineE_7 (x : Ev) (h : x.kind = 7) : lineE x = word 7 ++ 32 :: keepT x.keep := by
  unfold lineE evL; rw [if_neg (by omega), if_neg (by omega), if_pos h]; simp [joinC]
theorem lineE_8 (x : Ev) (h : x.kind = 8) : lineE x = word 8 ++ 32 :: numT x.conn := by
  unfold lineE evL; rw [if_neg (by omega), if_neg (by omega), if_neg (by omega), if_pos h]; simp [joinC]
theorem lineE_0 (x : Ev) (h : x.kind = 3 ∨ x.kind = 4) : lineE x = word x.kind := by
  unfold lineE evL; rw [if_neg (by omega), if_neg (by omega), if_neg (by omega), if_neg (by omega)]; simp [joinC]
def evsT (l : List Ev) : Txt := l.flatMap fun x => 10 :: lineE x
theorem evsT_snoc (l : List Ev) (x : Ev) : evsT (l ++ [x]) = evsT l ++ 10 :: lineE x := by simp [evsT]
theorem evsT_end (l : List Ev) : 10 :: l.flatMap (fun x => lineE x ++ [10]) = evsT l ++ [10] := by
  induction l with
  | nil => rfl
  | cons x l ih =>
    rw [List.flatMap_cons, List.append_assoc, ← List.cons_append, List.singleton_append, ih]
    simp [evsT]
theorem textS_eq (s : Scr) : textS s = (lineP s.plan ++ evsT s.evs) ++ [10] := by
  unfold textS
  rw [evsT_end]
  simp
theorem rawT_len (b : List UInt8) : (rawT b).length ≤ 2 * b.length + 1 := by
  unfold rawT
  split
  · simp
  · have : ∀ l : List UInt8, (l.flatMap fun x => [hexD (x.toNat / 16), hexD (x.toNat % 16)]).length = 2 * l.length := by
      intro l
      induction l with
      | nil => rfl
      | cons x l ih => rw [List.flatMap_cons, List.length_append, ih]; simp; omega
    rw [this]; omega
theorem keepT_len (b : List Bool) : (keepT b).length ≤ b.length + 1 := by
  unfold keepT
  split
  · simp
  · simp
theorem word_len (k : Int) : (word k).length ≤ 5 := by
  unfold word
  repeat' split
  all_goals decide
/-- What right says of an event's numbers. -/
theorem right_facts {p : Plan} {x : Ev} (hp : planB p = true) (h : rightE p x = true) : (1 ≤ x.kind ∧ x.kind ≤ 8) ∧ (0 ≤ x.conn ∧ x.conn < 4) ∧ (0 ≤ x.n ∧ x.n < 4294967296) ∧ x.bytes.length ≤ 4096 ∧ x.keep.length ≤ 4096 := by
  unfold rightE at h
  rw [Bool.and_eq_true] at h
  obtain ⟨h1, h2, h3, h4, h5⟩ := of_decide_eq_true h.1
  have hpc : p.c ≤ 4 := by
    unfold planB at hp
    rw [Bool.and_eq_true] at hp
    have := of_decide_eq_true hp.2
    omega
  exact ⟨h1, ⟨h2.1, by omega⟩, h3, h4, h5⟩
theorem lineE_len {p : Plan} {x : Ev} (hp : planB p = true) (h : rightE p x = true) : (lineE x).length ≤ 8300 := by
  obtain ⟨⟨k1, k2⟩, ⟨c1, c2⟩, ⟨n1, n2⟩, hb, hk⟩ := right_facts hp h
  have a1 := numT_len c1 (by omega : x.conn < 10000000000)
  have a2 := numT_len n1 (by omega : x.n < 10000000000)
  have a3 := rawT_len x.bytes
  have a4 := keepT_len x.keep
  have a5 := word_len x.kind
  obtain e | e | e | e | e : x.kind = 1 ∨ (x.kind = 2 ∨ x.kind = 5 ∨ x.kind = 6) ∨ x.kind = 7 ∨ x.kind = 8 ∨ (x.kind = 3 ∨ x.kind = 4) := by omega
  · rw [lineE_1 x e, ← e]; simp only [List.length_append, List.length_cons]; omega
  · rw [lineE_n x e]; simp only [List.length_append, List.length_cons]; omega
  · rw [lineE_7 x e, ← e]; simp only [List.length_append, List.length_cons]; omega
  · rw [lineE_8 x e, ← e]; simp only [List.length_append, List.length_cons]; omega
  · rw [lineE_0 x e]; omega
theorem evsT_len {p : Plan} (hp : planB p = true) : ∀ (l : List Ev), (∀ x ∈ l, rightE p x = true) → (evsT l).length ≤ 8301 * l.length
  | [], _ => by simp [evsT]
  | x :: l, h => by
    have ih := evsT_len hp l (fun y hy => h y (.tail _ hy))
    have h1 := lineE_len hp (h x (.head _))
    have e : evsT (x :: l) = (10 :: lineE x) ++ evsT l := by simp [evsT]
    rw [e]; simp only [List.length_append, List.length_cons]; omega
theorem plan_facts {p : Plan} (hp : planB p = true) : ∀ n ∈ planN p, 0 ≤ n ∧ n ≤ 1024 := by
  unfold planB at hp
  rw [Bool.and_eq_true] at hp
  have h1 := of_decide_eq_true hp.1
  have h2 := of_decide_eq_true hp.2
  intro n hn
  simp only [planN, List.mem_cons, List.mem_nil_iff, or_false] at hn
  rcases hn with rfl | rfl | rfl | rfl | rfl <;> omega
theorem numsT_len : ∀ (l : List Int), (∀ n ∈ l, 0 ≤ n ∧ n ≤ 1024) → (numsT l).length ≤ 11 * l.length
  | [], _ => by simp [numsT]
  | n :: l, h => by
    have ih := numsT_len l (fun y hy => h y (.tail _ hy))
    have h0 := h n (.head _)
    have h1 := numT_len h0.1 (by omega : n < 10000000000)
    have e : numsT (n :: l) = (32 :: numT n) ++ numsT l := by simp [numsT]
    rw [e]; simp only [List.length_append, List.length_cons]; omega
theorem numsT_snoc (l : List Int) (n : Int) : numsT (l ++ [n]) = numsT l ++ 32 :: numT n := by simp [numsT]
theorem checkS_facts {p : Plan} {evs : List Ev} (h : checkS ⟨p, evs⟩ = true) : planB p = true ∧ evs.length ≤ 200 ∧ ∀ x ∈ evs, rightE p x = true := by
  unfold checkS at h
  rw [Bool.and_eq_true, Bool.and_eq_true] at h
  exact ⟨h.1.1, of_decide_eq_true h.1.2, List.all_eq_true.1 h.2⟩
/-- What Print answers: the text, the error. -/
def prT (s : Scr) : Txt := if checkS s then (if 262144 < (textS s).length then [] else textS s) else []
def prN (s : Scr) : Int := if checkS s then (if 262144 < (textS s).length then 3 else 0) else 2

/-- While a text is written: blocks of one's own, the builder. -/
structure PnS (w : World) (L : List (Nat × Obj)) (B b : Nat) (t : Txt) (W : World) : Prop where
  kp : Kp w L W
  bld : Lib.IsBuilder 48 5 B b (t.map u8v) W
  lo : w.heap.size ≤ B
  sz : B ≤ W.heap.size
  ok : ∀ p ∈ L, p.1 ≠ b ∧ ∃ cs t, p.2 = .cells cs t (0, 0) ∧ t ≠ 5
theorem PnS.step {w : World} {L : List (Nat × Obj)} {B b : Nat} {t : Txt} {W W' : World} (h : PnS w L B b t W) (hb : Below W.heap.size W W') : PnS w L B b t W' :=
  ⟨h.kp.step hb, isBuilder_below h.bld hb, h.lo, Nat.le_trans h.sz hb.size, h.ok⟩
theorem PnS.write {w : World} {L : List (Nat × Obj)} {B b : Nat} {t t' : Txt} {W W' : World} (h : PnS w L B b t W) (hi : Lib.IsBuilder 48 5 B b (t'.map u8v) W') (hf : Bfr B b W W') : PnS w L B b t' W' :=
  ⟨Kp.bfr h.kp hf h.lo h.ok, hi, h.lo, Nat.le_trans h.sz hf.below.size, h.ok⟩
theorem PnS.alloc {w : World} {L : List (Nat × Obj)} {B b : Nat} {t : Txt} {W : World} (h : PnS w L B b t W) (cs : Array Value) (e : TypeId) (he : e ≠ 5) : PnS w ((W.heap.size, .cells cs e) :: L) B b t (W.alloc (.cells cs e)) := by
  have hb : Below W.heap.size W (W.alloc (.cells cs e)) := (Below.refl _ W).alloc (Nat.le_refl _) _
  refine ⟨h.kp.alloc _, isBuilder_below h.bld hb, h.lo, Nat.le_trans h.sz hb.size, fun p hp => ?_⟩
  rcases List.mem_cons.1 hp with rfl | hp
  · refine ⟨fun e => ?_, cs, _, rfl, he⟩
    have hlt : b < W.heap.size := by rcases h.bld with h | h <;> exact h.lt
    have : W.heap.size = b := e
    omega
  · exact h.ok p hp
theorem PnS.tail {w : World} {q : Nat × Obj} {L : List (Nat × Obj)} {B b : Nat} {t : Txt} {W : World} (h : PnS w (q :: L) B b t W) : PnS w L B b t W := ⟨h.kp.tail, h.bld, h.lo, h.sz, fun p hp => h.ok p (.tail _ hp)⟩
theorem PnS.lt {w : World} {L : List (Nat × Obj)} {B b : Nat} {t : Txt} {W : World} (h : PnS w L B b t W) : b < W.heap.size := by
  rcases h.bld with h | h <;> exact h.lt
/-- A string is written. -/
theorem PnS.str {w : World} {L : List (Nat × Obj)} {B b : Nat} {t : Txt} {W : World} (h : PnS w L B b t W) (s : Txt) (hl : t.length + s.length ≤ 100000000) :
    Calls Tryd.prog 20 #[.pointer (some ⟨b, 0, none⟩), .string ⟨s.toArray⟩] W fun e w' => (∃ r, e = .returned r) ∧ PnS w L B b (t ++ s) w' := by
  refine (writeString20 B b _ ⟨s.toArray⟩ W h.bld (by rw [List.length_map]; show t.length + s.toArray.size ≤ _; simp; omega) h.sz).mono ?_
  rintro e w' ⟨h1, h2, h3⟩
  refine ⟨h1, h.write (.inr ?_) h3⟩
  rw [List.map_append, ← strCells_txt s]
  exact h2
/-- A number is written. -/
theorem PnS.num {w : World} {L : List (Nat × Obj)} {B b : Nat} {t : Txt} {W : World} (h : PnS w L B b t W) (hl : Laid w) (n : Int) (h0 : 0 ≤ n) (h1 : n < 10000000000) (ht : t.length ≤ 100000000) :
    Calls Tryd.prog 21 #[.int .i64 n, .pointer (some ⟨b, 0, none⟩)] W fun e w' => (∃ r, e = .returned r) ∧ PnS w L B b (t ++ 32 :: numT n) w' := by
  have := numT_len h0 h1
  refine (number21 B b t n W h.bld (by omega) h.sz (by omega) (by omega) (hl.below h.kp.below).pow (by omega)).mono ?_
  rintro e w' ⟨h2, h3, h4⟩
  exact ⟨h2, h.write h3 h4⟩
/-- A byte is written. -/
theorem PnS.byte {w : World} {L : List (Nat × Obj)} {B b : Nat} {t : Txt} {W : World} (h : PnS w L B b t W) (c : UInt8) (hl : t.length ≤ 100000000) :
    Calls Tryd.prog 26 #[.pointer (some ⟨b, 0, none⟩), .int .u8 (c.toNat : Nat)] W fun e w' => (∃ r, e = .returned r) ∧ PnS w L B b (t ++ [c]) w' := by
  refine (writeByte26 B b _ _ W h.bld (by rw [List.length_map]; omega) h.sz).mono ?_
  rintro e w' ⟨h1, h2, h3⟩
  refine ⟨h1, h.write (.inr ?_) h3⟩
  rw [List.map_append]
  exact h2
theorem PnS.len {w : World} {L : List (Nat × Obj)} {B b : Nat} {t : Txt} {W : World} (h : PnS w L B b t W) :
    Calls Tryd.prog 27 #[.pointer (some ⟨b, 0, none⟩)] W fun e w' => e = .returned (.int .i64 (t.length : Nat)) ∧ w' = W := by
  have h1 := Tryd.Builder_Len B b _ W h.bld
  rw [List.length_map] at h1
  exact h1
theorem PnS.text {w : World} {L : List (Nat × Obj)} {B b : Nat} {t : Txt} {W : World} (h : PnS w L B b t W) :
    Calls Tryd.prog 28 #[.pointer (some ⟨b, 0, none⟩)] W fun e w' => e = .returned (.string ⟨t.toArray⟩) ∧ Below B W w' := Tryd.Builder_String_any B b t W h.bld h.sz
end Go.Proofs.YtelaijogjgcloaaDoor
