/- The plain law, further: time, forgetting, a flush, a crash, what was outdone. No condition. -/
import Derived.Test.YtngpffmgkponfaaLpl
set_option linter.unusedVariables false
set_option linter.unusedSimpArgs false
namespace Go.Idl
open Go.Proofs.Ytngpffmgkponfaa
def flushA (q : Rq) : An := if q.ex = 0 then okA 0 0 else failA 4
def Ca.none (c : Ca) : Ca := ⟨fun _ => .none, c.last⟩
def Ca.flush (c : Ca) (q : Rq) : Ca := if q.ex = 0 then c.none else c
def St.crash (Y : St) : St := ⟨Y.safe, Y.safe, Y.tok⟩
def getQ (key : List UInt8) : Rq := ⟨0, false, false, 0, 0, key, [], 0, 0, 0, 0, 0⟩
/-- Tokens of what was outdone: none of what a key has. -/
structure DInv (c : Ca) (D : Int → Bool) : Prop where
  le : ∀ k t, c.keys k = some t → t.cas ≤ c.last
  inj : ∀ k k' t t', c.keys k = some t → c.keys k' = some t' → t.cas = t'.cas → k = k'
  dl : ∀ x, D x = true → x ≤ c.last
  no : ∀ k t, c.keys k = some t → D t.cas = false
section
variable {Y : St} {c : Ca} {now now' : Int} {n m : Nat} {q : Rq} {k key : List UInt8} {t : Tv} {D : Int → Bool}
theorem expired_mono {x : Int} (h : now ≤ now') (he : expiredB now' x = false) : expiredB now x = false := by
  unfold expiredB at *
  simp only [decide_eq_false_iff_not] at *
  omega
theorem LInv.later (h : LInv Y c now n) (hn : now ≤ now') : LInv Y c now' n := ⟨h.tok, h.l0, h.l1, fun k t hk hx => h.has k t hk (expired_mono hn hx), h.len⟩
theorem LInv.more (h : LInv Y c now n) (hm : n ≤ m) : LInv Y c now m := ⟨h.tok, h.l0, by have := h.l1; omega, h.has, fun k => by have := h.len k; omega⟩
theorem LInv.forget (h : LInv Y c now n) (k : List UInt8) : LInv Y (c.del k) now n := ⟨h.tok, h.l0, h.l1, fun k' t hk hx => h.has k' t (by
  have hk : (if k' = k then Option.none else c.keys k') = some t := hk
  split at hk
  · cases hk
  · exact hk) hx, h.len⟩
theorem LInv.crash (h : LInv Y c now n) (hR : RInv Y c) : LInv Y.crash c now n := ⟨h.tok, h.l0, h.l1, fun k t hk _ => (hR.som k t hk).2.2, fun k => ⟨(h.len k).2, (h.len k).2⟩⟩
theorem RInv.crash (hR : RInv Y c) : RInv Y.crash c := ⟨fun k hk => ⟨(hR.non k hk).2, (hR.non k hk).2⟩, fun k t hk => ⟨(hR.som k t hk).2.1, (hR.som k t hk).2.1, (hR.som k t hk).2.2⟩⟩
theorem flush_goes (h : LInv Y c now n) (h8 : q.op = 8) (hb : q.bad = 0) : ∃ Y', lookF Y q (flushA q) now = some Y' ∧ LInv Y' (c.flush q) now (n + 1) := by
  have hr : refusedF q = 0 := by unfold refusedF keyedB valuedB plainB; rw [h8, hb]; simp
  unfold lookF takeF
  rw [if_neg (by rw [hr]; simp), if_neg (by unfold flushA; split <;> simp [okA, failA]), if_pos h8]
  unfold flushF flushA Ca.flush
  by_cases hx : q.ex = 0
  · rw [if_pos hx, if_pos hx, if_neg (by omega), if_neg (by simp [okA, anBare, bareB])]
    exact ⟨_, rfl, ⟨h.tok, h.l0, by have := h.l1; show c.last ≤ _; omega, fun k t hk => (by cases hk), fun k => ⟨by simp, by simp⟩⟩⟩
  · rw [if_neg hx, if_neg hx, if_pos hx, if_pos (by simp [failA, anBare, bareB])]
    exact ⟨Y, rfl, h.more (by omega)⟩
theorem getQ_ref (hk : 1 ≤ key.length ∧ key.length ≤ 250) : refusedF (getQ key) = 0 := by
  unfold refusedF keyedB valuedB plainB getQ
  simp only [beq_iff_eq]
  rw [if_neg (by simp), if_neg (by simp), if_neg (by rintro ⟨_, h | h⟩ <;> omega), if_neg (by simp)]
theorem none_ok (hk : 1 ≤ key.length ∧ key.length ≤ 250) : (lookF Y (getQ key) (failA 1) now).isSome = true := by
  rw [fail_look (getQ_ref hk) (by show (0 : Int) ≠ 8; decide) (by decide) (by decide), show missedB (getQ key) 1 = true from rfl, if_pos rfl]
  rfl
theorem get_look (hk : 1 ≤ key.length ∧ key.length ≤ 250) (v : List UInt8) (fl cas : Int) : (lookF Y (getQ key) ⟨0, v, fl, cas, 0, [], false⟩ now).isSome = !((aliveL now (Y.now key)).filterMap (getHow ⟨0, v, fl, cas, 0, [], false⟩)).isEmpty := by
  rw [ok_look (getQ_ref hk) (by show (0 : Int) ≠ 8; decide) rfl]
  unfold succF
  rw [if_pos (show (getQ key).op = 0 from rfl), if_neg (by simp [bareB])]
  show (if (aliveL now (Y.now key)).filterMap _ = [] then _ else _ : Option St).isSome = _
  by_cases e : (aliveL now (Y.now key)).filterMap (getHow ⟨0, v, fl, cas, 0, [], false⟩) = []
  · rw [if_pos e, e]; rfl
  · rw [if_neg e]
    cases hl : (aliveL now (Y.now key)).filterMap (getHow ⟨0, v, fl, cas, 0, [], false⟩) with
    | nil => exact absurd hl e
    | cons a l => rfl
theorem right_ok (hk : 1 ≤ key.length ∧ key.length ≤ 250) (h : LInv Y c now n) (hc : c.keys key = some t) (hx : expiredB now t.ex = false) : (lookF Y (getQ key) ⟨0, t.val, t.fl, t.cas, 0, [], false⟩ now).isSome = true := by
  rw [get_look hk]
  have hm : t ∈ (aliveL now (Y.now key)).filterMap (getHow ⟨0, t.val, t.fl, t.cas, 0, [], false⟩) := List.mem_filterMap.2 ⟨t, alive_mem.2 ⟨h.has key t hc hx, hx⟩, by unfold getHow toldB; simp⟩
  cases hl : (aliveL now (Y.now key)).filterMap (getHow ⟨0, t.val, t.fl, t.cas, 0, [], false⟩) with
  | nil => rw [hl] at hm; cases hm
  | cons a l => rfl
theorem get_no (hk : 1 ≤ key.length ∧ key.length ≤ 250) {v : List UInt8} {fl cas : Int} (h : ∀ x ∈ Y.now key, x.val = v → x.cas = cas → False) : (lookF Y (getQ key) ⟨0, v, fl, cas, 0, [], false⟩ now).isSome = false := by
  rw [get_look hk]
  cases hl : (aliveL now (Y.now key)).filterMap (getHow ⟨0, v, fl, cas, 0, [], false⟩) with
  | nil => rfl
  | cons a l =>
    have hm : a ∈ (aliveL now (Y.now key)).filterMap (getHow ⟨0, v, fl, cas, 0, [], false⟩) := by rw [hl]; simp
    obtain ⟨y, hy, hxy⟩ := List.mem_filterMap.1 hm
    unfold getHow toldB at hxy
    split at hxy
    · rename_i hb
      simp only [Bool.and_eq_true, beq_iff_eq, decide_eq_true_eq] at hb
      exact (h y (alive_mem.1 hy).1 (by simpa using hb.1.1) (by simpa using hb.2)).elim
    · cases hxy
theorem wrong_no (hk : 1 ≤ key.length ∧ key.length ≤ 250) (hR : RInv Y c) (hc : c.keys key = some t) {v : List UInt8} {fl cas : Int} (hw : v ≠ t.val ∨ cas ≠ t.cas) : (lookF Y (getQ key) ⟨0, v, fl, cas, 0, [], false⟩ now).isSome = false :=
  get_no hk fun x hx h1 h2 => by
    have := (hR.som key t hc).1 x hx
    rcases hw with e | e
    · exact e (h1.symm.trans this.1)
    · exact e (h2.symm.trans this.2)
theorem dead_no (hk : 1 ≤ key.length ∧ key.length ≤ 250) (hR : RInv Y c) (hD : DInv c D) {x : Int} (hd : D x = true) {v : List UInt8} {fl : Int} : (lookF Y (getQ key) ⟨0, v, fl, x, 0, [], false⟩ now).isSome = false := by
  cases hc : c.keys key with
  | none => exact get_no hk fun y hy => by rw [(hR.non key hc).1] at hy; cases hy
  | some t => exact wrong_no hk hR hc (.inr fun e => by have := hD.no key t hc; rw [← e, hd] at this; cases this)
/-- What a step does to the cache. -/
theorem do_form (c : Ca) (q : Rq) (now : Int) : (c.do q now).1 = c ∨ (∃ t, (c.do q now).1 = c.put q.key t) ∨ (c.do q now).1 = c.del q.key := by
  have key : ∀ r : Ca × An, r = c.do q now → r.1 = c ∨ (∃ t, r.1 = c.put q.key t) ∨ r.1 = c.del q.key := by
    intro r hr
    unfold Ca.do Ca.turn at hr
    repeat' split at hr
    all_goals subst hr
    all_goals first | exact .inl rfl | exact .inr (.inl ⟨_, rfl⟩) | exact .inr (.inr rfl)
  exact key _ rfl
/-- Whether what a key had was outdone. -/
def outB (c c' : Ca) (key : List UInt8) : Bool := (c.keys key).isSome && (!(c'.keys key).isSome || (c'.raw key).cas != (c.raw key).cas)
theorem DInv.step (h : DInv c D) (q : Rq) (now : Int) : DInv (c.do q now).1 (fun x => if outB c (c.do q now).1 q.key = true ∧ x = (c.raw q.key).cas then true else D x) := by
  have hraw : ∀ t, c.keys q.key = some t → c.raw q.key = t := fun t ht => by unfold Ca.raw; rw [ht]; rfl
  rcases do_form c q now with e | ⟨t', e⟩ | e <;> rw [e]
  · have : outB c c q.key = false := by unfold outB; cases (c.keys q.key) <;> simp
    rw [this]
    simp only [Bool.false_eq_true, false_and, if_false]
    exact h
  · have hput : ∀ k, (c.put q.key t').keys k = if k = q.key then some (t'.withCas (c.last + 1)) else c.keys k := fun _ => rfl
    have hl : (c.put q.key t').last = c.last + 1 := rfl
    refine ⟨fun k t hk => ?_, fun k k' t t2 hk hk' he => ?_, fun x hx => ?_, fun k t hk => ?_⟩
    · rw [hput] at hk
      rw [hl]
      split at hk
      · cases hk; exact Int.le_refl _
      · have := h.le k t hk; omega
    · rw [hput] at hk hk'
      split at hk <;> split at hk'
      · rename_i e1 e2; rw [e1, e2]
      · cases hk
        have := h.le k' t2 hk'
        have he : c.last + 1 = t2.cas := he
        omega
      · cases hk'
        have := h.le k t hk
        have he : t.cas = c.last + 1 := he
        omega
      · exact h.inj k k' t t2 hk hk' he
    · rw [hl]
      split at hx
      · rename_i hc
        have h1 := hc.1
        unfold outB at h1
        simp only [Bool.and_eq_true] at h1
        obtain ⟨tt, ht⟩ := Option.isSome_iff_exists.1 h1.1
        have := h.le _ _ ht
        rw [hc.2, hraw _ ht]; omega
      · have := h.dl x hx; omega
    · rw [hput] at hk
      split at hk
      · cases hk
        rw [if_neg]
        · cases hd : D (t'.withCas (c.last + 1)).cas with
          | false => rfl
          | true => have := h.dl _ hd; have e2 : (t'.withCas (c.last + 1)).cas = c.last + 1 := rfl; omega
        · rintro ⟨h1, h2⟩
          unfold outB at h1
          simp only [Bool.and_eq_true] at h1
          obtain ⟨tt, ht⟩ := Option.isSome_iff_exists.1 h1.1
          have := h.le _ _ ht
          rw [hraw _ ht] at h2
          have e2 : (t'.withCas (c.last + 1)).cas = c.last + 1 := rfl
          omega
      · rename_i hne
        rw [if_neg]
        · exact h.no k t hk
        · rintro ⟨h1, h2⟩
          unfold outB at h1
          simp only [Bool.and_eq_true] at h1
          obtain ⟨tt, ht⟩ := Option.isSome_iff_exists.1 h1.1
          rw [hraw _ ht] at h2
          exact hne (h.inj k q.key t tt hk ht h2)
  · have hdel : ∀ k, (c.del q.key).keys k = if k = q.key then Option.none else c.keys k := fun _ => rfl
    have hl : (c.del q.key).last = c.last := rfl
    have hs : ∀ k t, (c.del q.key).keys k = some t → k ≠ q.key ∧ c.keys k = some t := fun k t hk => by
      rw [hdel] at hk
      split at hk
      · cases hk
      · exact ⟨‹_›, hk⟩
    refine ⟨fun k t hk => h.le k t (hs k t hk).2, fun k k' t t2 hk hk' he => h.inj k k' t t2 (hs _ _ hk).2 (hs _ _ hk').2 he, fun x hx => ?_, fun k t hk => ?_⟩
    · rw [hl]
      split at hx
      · rename_i hc
        have h1 := hc.1
        unfold outB at h1
        simp only [Bool.and_eq_true] at h1
        obtain ⟨tt, ht⟩ := Option.isSome_iff_exists.1 h1.1
        have := h.le _ _ ht
        rw [hc.2, hraw _ ht]; omega
      · exact h.dl x hx
    · obtain ⟨hne, hk⟩ := hs k t hk
      rw [if_neg]
      · exact h.no k t hk
      · rintro ⟨h1, h2⟩
        unfold outB at h1
        simp only [Bool.and_eq_true] at h1
        obtain ⟨tt, ht⟩ := Option.isSome_iff_exists.1 h1.1
        rw [hraw _ ht] at h2
        exact hne (h.inj k q.key t tt hk ht h2)
end
end Go.Idl
