/- The plain law: what the law's cache answers may be. No condition. -/
import Derived.Test.YtngpffmgkponfaaCah
set_option linter.unusedVariables false
set_option linter.unusedSimpArgs false
namespace Go.Idl
open Go.Proofs.Ytngpffmgkponfaa
def failA (st : Int) : An := ⟨st, [], 0, 0, 0, [], false⟩
def okA (cas num : Int) : An := ⟨0, [], 0, cas, num, [], false⟩
def tellA (t : Tv) (cas : Int) : An := ⟨0, t.val, t.fl, cas, 0, [], false⟩
def Rq.casB (q : Rq) : Bool := q.cas != 0 && (q.op != 0 && (q.op != 28 && (q.op != 29 && q.op != 2)))
def joinT (q : Rq) (t : Tv) : Tv := ⟨if q.op = 15 then q.val ++ t.val else t.val ++ q.val, t.fl, t.ex, t.cas⟩
def Ca.turn (c : Ca) (q : Rq) (t : Tv) (is : Bool) (now : Int) : Ca × An :=
  if is = false then (if q.ex = 4294967295 then (c, failA 1) else (c.put q.key ⟨textF q.ini.toNat, 0, expiryF now q.ex, 0⟩, okA (c.last + 1) q.ini))
  else match turnT q t with
    | none => (c, failA 6)
    | some m => (c.put q.key ⟨textF m, t.fl, t.ex, t.cas⟩, okA (c.last + 1) m)
/-- What the cache does. -/
def Ca.do (c : Ca) (q : Rq) (now : Int) : Ca × An :=
  if c.has q.key now = false ∧ (q.op = 14 ∨ q.op = 15) then (c, failA 5)
  else if c.has q.key now = false ∧ q.op ≠ 2 ∧ q.op ≠ 5 ∧ q.op ≠ 6 ∧ (q.op ≠ 1 ∨ q.casB = true) then (c, failA 1)
  else if (c.has q.key now = true ∧ q.casB = true ∧ (c.raw q.key).cas ≠ q.cas) ∨ (c.has q.key now = true ∧ q.op = 2) then (c, failA 2)
  else if q.op = 0 then (c, tellA (c.raw q.key) (c.raw q.key).cas)
  else if q.op = 28 ∨ q.op = 29 then (c.put q.key ⟨(c.raw q.key).val, (c.raw q.key).fl, expiryF now q.ex, (c.raw q.key).cas⟩, if q.op = 29 then tellA (c.raw q.key) (c.last + 1) else okA (c.last + 1) 0)
  else if q.op = 14 ∨ q.op = 15 then (if 512 < (c.raw q.key).val.length + q.val.length then (c, failA 3) else (c.put q.key (joinT q (c.raw q.key)), okA (c.last + 1) 0))
  else if q.op = 4 then (c.del q.key, okA 0 0)
  else if q.op = 5 ∨ q.op = 6 then c.turn q (c.raw q.key) (c.has q.key now) now
  else (c.put q.key (ownT q now), okA (c.last + 1) 0)
def Rq.keyedOk (q : Rq) : Bool := (keyedB q.op || (valuedB q.op && decide (q.val.length ≤ 512))) && (q.bad == 0 && (decide (1 ≤ q.key.length) && decide (q.key.length ≤ 250)))
def St.only (Y : St) (k : List UInt8) (L : List Tv) : St := ⟨fun k' => if k' = k then L else Y.now k', Y.safe, Y.tok⟩

structure LInv (Y : St) (c : Ca) (now : Int) (n : Nat) : Prop where
  tok : Y.tok = c.last
  l0 : 0 ≤ c.last
  l1 : c.last ≤ n
  has : ∀ k t, c.keys k = some t → expiredB now t.ex = false → t ∈ Y.now k
  len : ∀ k, (Y.now k).length ≤ n ∧ (Y.safe k).length ≤ n
structure RInv (Y : St) (c : Ca) : Prop where
  non : ∀ k, c.keys k = none → Y.now k = [] ∧ Y.safe k = []
  som : ∀ k t, c.keys k = some t → (∀ x ∈ Y.now k, x.val = t.val ∧ x.cas = t.cas) ∧ (∀ x ∈ Y.safe k, x.val = t.val ∧ x.cas = t.cas) ∧ t ∈ Y.safe k

theorem insT_len (x : Tv) (l : List Tv) : (insT x l).length ≤ l.length + 1 := by
  induction l with
  | nil => simp [insT]
  | cons y r ih =>
    unfold insT
    split
    · simp only [List.length_cons]; omega
    · split <;> simp
theorem sortT_len (l : List Tv) : (sortT l).length ≤ l.length := by
  unfold sortT
  induction l with
  | nil => simp
  | cons x l ih => have := insT_len x (l.foldr insT []); simp only [List.foldr_cons, List.length_cons]; omega
theorem alive_mem {now : Int} {l : List Tv} {t : Tv} : t ∈ aliveL now l ↔ t ∈ l ∧ expiredB now t.ex = false := by
  unfold aliveL aliveHow
  simp only [List.mem_filterMap]
  constructor
  · rintro ⟨a, h1, h2⟩
    cases hx : expiredB now a.ex with
    | true => simp [hx] at h2
    | false => simp [hx] at h2; subst h2; exact ⟨h1, hx⟩
  · rintro ⟨h1, h2⟩
    exact ⟨t, h1, by simp [h2]⟩
theorem turL_len (q : Rq) (n now : Int) (hs : List Tv) : (turL q n now hs).length ≤ hs.length + 1 := by
  unfold turL
  rw [List.length_append]
  have := List.length_filterMap_le (turHow q n) hs
  split <;> simp <;> omega
theorem alive_len (now : Int) (l : List Tv) : (aliveL now l).length ≤ l.length := List.length_filterMap_le _ _
section
variable {Y : St} {c : Ca} {now : Int} {n : Nat} {q : Rq} {k : List UInt8} {L l : List Tv} {t' : Tv}
theorem has_some (h : c.has k now = true) : c.keys k = some (c.raw k) ∧ expiredB now (c.raw k).ex = false := by
  unfold Ca.has at h
  simp only [Bool.and_eq_true, Bool.not_eq_true'] at h
  obtain ⟨h1, h2⟩ := h
  refine ⟨?_, h2⟩
  unfold Ca.raw
  cases hk : c.keys k with
  | none => rw [hk] at h1; cases h1
  | some t => rfl
theorem has_none (h : c.has k now = false) : ∀ t, c.keys k = some t → expiredB now t.ex = true := by
  intro t ht
  unfold Ca.has Ca.raw at h
  rw [ht] at h
  simpa using h
theorem LInv.alive (h : LInv Y c now n) (hk : c.has k now = true) : c.raw k ∈ aliveL now (Y.now k) := alive_mem.2 ⟨h.has k _ (has_some hk).1 (has_some hk).2, (has_some hk).2⟩
theorem LInv.keep (h : LInv Y c now n) (hl : L.length ≤ n) (ht : ∀ t, c.keys k = some t → expiredB now t.ex = false → t ∈ L) : LInv (Y.only k L) c now (n + 1) := by
  have := h.l1
  refine ⟨h.tok, h.l0, by omega, fun k' t hk hx => ?_, fun k' => ?_⟩
  · show t ∈ if k' = k then L else Y.now k'
    by_cases e : k' = k
    · rw [if_pos e]; subst e; exact ht t hk hx
    · rw [if_neg e]; exact h.has k' t hk hx
  · show (if k' = k then L else Y.now k').length ≤ n + 1 ∧ (Y.safe k').length ≤ n + 1
    have := h.len k'
    split <;> constructor <;> omega
theorem LInv.miss (h : LInv Y c now n) (hk : c.has k now = false) : LInv (Y.only k []) c now (n + 1) :=
  h.keep (by simp) (fun t ht hx => by rw [has_none hk t ht] at hx; cases hx)
theorem RInv.keep (h : RInv Y c) (hL : ∀ x ∈ L, x ∈ Y.now k) : RInv (Y.only k L) c := by
  refine ⟨fun k' hk => ⟨?_, (h.non k' hk).2⟩, fun k' t hk => ⟨fun x hx => ?_, (h.som k' t hk).2⟩⟩
  · show (if k' = k then L else Y.now k') = []
    by_cases e : k' = k
    · rw [if_pos e]
      refine List.eq_nil_iff_forall_not_mem.2 fun x hx => ?_
      have := hL x hx
      rw [← e, (h.non k' hk).1] at this
      cases this
    · rw [if_neg e]; exact (h.non k' hk).1
  · have hx : x ∈ if k' = k then L else Y.now k' := hx
    by_cases e : k' = k
    · rw [if_pos e] at hx; exact (h.som k' t hk).1 x (e ▸ hL x hx)
    · rw [if_neg e] at hx; exact (h.som k' t hk).1 x hx
theorem LInv.put (h : LInv Y c now n) (ht : t' ∈ l) (hl : l.length ≤ n + 1) : LInv (Y.put k (sortT (l.map (Tv.withCas (c.last + 1)))) (sortT (l.map (Tv.withCas (c.last + 1)))) (c.last + 1)) (c.put k t') now (n + 1) := by
  have h0 := h.l0
  have h1 := h.l1
  have hlen : (sortT (l.map (Tv.withCas (c.last + 1)))).length ≤ n + 1 := by have := sortT_len (l.map (Tv.withCas (c.last + 1))); rw [List.length_map] at this; omega
  refine ⟨rfl, by show 0 ≤ c.last + 1; omega, by show c.last + 1 ≤ _; omega, fun k' t hk hx => ?_, fun k' => ?_⟩
  · have hk : (if k' = k then some (t'.withCas (c.last + 1)) else c.keys k') = some t := hk
    show t ∈ if k' = k then _ else Y.now k'
    by_cases e : k' = k
    · rw [if_pos e] at hk ⊢
      injection hk with hk
      exact sortT_mem.2 (List.mem_map.2 ⟨t', ht, hk⟩)
    · rw [if_neg e] at hk ⊢
      exact h.has k' t hk hx
  · have := h.len k'
    refine ⟨?_, ?_⟩
    · show (if k' = k then _ else Y.now k').length ≤ n + 1
      split <;> omega
    · show (if k' = k then _ else Y.safe k').length ≤ n + 1
      split <;> omega
theorem RInv.put (h : RInv Y c) (ht : t' ∈ l) (hu : ∀ x ∈ l, x.val = t'.val) : RInv (Y.put k (sortT (l.map (Tv.withCas (c.last + 1)))) (sortT (l.map (Tv.withCas (c.last + 1)))) (c.last + 1)) (c.put k t') := by
  have key : ∀ x ∈ sortT (l.map (Tv.withCas (c.last + 1))), x.val = (t'.withCas (c.last + 1)).val ∧ x.cas = (t'.withCas (c.last + 1)).cas := fun x hx => by
    obtain ⟨y, hy, rfl⟩ := List.mem_map.1 (sortT_mem.1 hx)
    exact ⟨hu y hy, rfl⟩
  refine ⟨fun k' hk => ?_, fun k' t hk => ?_⟩
  · have hk : (if k' = k then some (t'.withCas (c.last + 1)) else c.keys k') = none := hk
    by_cases e : k' = k
    · rw [if_pos e] at hk; cases hk
    · rw [if_neg e] at hk
      have := h.non k' hk
      exact ⟨by show (if k' = k then _ else Y.now k') = []; rw [if_neg e]; exact this.1, by show (if k' = k then _ else Y.safe k') = []; rw [if_neg e]; exact this.2⟩
  · have hk : (if k' = k then some (t'.withCas (c.last + 1)) else c.keys k') = some t := hk
    show (∀ x ∈ if k' = k then _ else Y.now k', _) ∧ (∀ x ∈ if k' = k then _ else Y.safe k', _) ∧ t ∈ if k' = k then _ else Y.safe k'
    by_cases e : k' = k
    · rw [if_pos e] at hk ⊢
      rw [if_pos e]
      injection hk with hk
      subst hk
      exact ⟨key, key, sortT_mem.2 (List.mem_map.2 ⟨t', ht, rfl⟩)⟩
    · rw [if_neg e] at hk ⊢
      rw [if_neg e]
      exact h.som k' t hk
theorem LInv.del (h : LInv Y c now n) : LInv (Y.put k [] [] Y.tok) (c.del k) now (n + 1) := by
  have := h.l1
  refine ⟨h.tok, h.l0, by show c.last ≤ _; omega, fun k' t hk hx => ?_, fun k' => ?_⟩
  · have hk : (if k' = k then none else c.keys k') = some t := hk
    show t ∈ if k' = k then [] else Y.now k'
    by_cases e : k' = k
    · rw [if_pos e] at hk; cases hk
    · rw [if_neg e] at hk ⊢; exact h.has k' t hk hx
  · have := h.len k'
    refine ⟨?_, ?_⟩
    · show (if k' = k then [] else Y.now k').length ≤ n + 1
      split
      · simp
      · omega
    · show (if k' = k then [] else Y.safe k').length ≤ n + 1
      split
      · simp
      · omega
theorem RInv.del (h : RInv Y c) (t0 : Int) : RInv (Y.put k [] [] t0) (c.del k) := by
  refine ⟨fun k' hk => ?_, fun k' t hk => ?_⟩
  · have hk : (if k' = k then none else c.keys k') = none := hk
    by_cases e : k' = k
    · exact ⟨by show (if k' = k then [] else Y.now k') = []; rw [if_pos e], by show (if k' = k then [] else Y.safe k') = []; rw [if_pos e]⟩
    · rw [if_neg e] at hk
      have := h.non k' hk
      exact ⟨by show (if k' = k then [] else Y.now k') = []; rw [if_neg e]; exact this.1, by show (if k' = k then [] else Y.safe k') = []; rw [if_neg e]; exact this.2⟩
  · have hk : (if k' = k then none else c.keys k') = some t := hk
    show (∀ x ∈ if k' = k then [] else Y.now k', _) ∧ (∀ x ∈ if k' = k then [] else Y.safe k', _) ∧ t ∈ if k' = k then [] else Y.safe k'
    by_cases e : k' = k
    · rw [if_pos e] at hk; cases hk
    · rw [if_neg e] at hk ⊢
      rw [if_neg e]
      exact h.som k' t hk
theorem writeF_ok {a : An} (h1 : l ≠ []) (h2 : anBare0 a = true) (h3 : Y.tok < a.cas) : writeF Y q a l = some (Y.put q.key (sortT (l.map (Tv.withCas a.cas))) (sortT (l.map (Tv.withCas a.cas))) a.cas) := by
  unfold writeF
  rw [if_neg (by rintro (h | h | h)
                 · exact h1 h
                 · rw [h2] at h; cases h
                 · omega)]
  rfl
theorem look_of {a : An} (hr : refusedF q = 0) (h8 : q.op ≠ 8) (h132 : a.st ≠ 132) : lookF Y q a now = if a.st ≠ 0 then refusesF Y q a (aliveL now (Y.now q.key)) else succF Y q a now (aliveL now (Y.now q.key)) := by
  unfold lookF takeF
  rw [if_neg (by rw [hr]; simp), if_neg h132, if_neg h8]
theorem fail_look {st : Int} (hr : refusedF q = 0) (h8 : q.op ≠ 8) (h132 : st ≠ 132) (h0 : st ≠ 0) : lookF Y q (failA st) now = if missedB q st then some (Y.only q.key []) else if (aliveL now (Y.now q.key)).filterMap (refHow q st) = [] then none else some (Y.only q.key (sortT ((aliveL now (Y.now q.key)).filterMap (refHow q st)))) := by
  rw [look_of hr h8 h132, if_pos (show (failA st).st ≠ 0 from h0)]
  unfold refusesF
  rw [if_neg (by show ¬ anBare (failA st) = false; simp [anBare, bareB, failA])]
  rfl
theorem ok_look {a : An} (hr : refusedF q = 0) (h8 : q.op ≠ 8) (h0 : a.st = 0) : lookF Y q a now = succF Y q a now (aliveL now (Y.now q.key)) := by
  rw [look_of hr h8 (by omega), if_neg (by omega)]
/-- A failure that is said of a version that lives. -/
theorem fail_some {st : Int} (h : LInv Y c now n) (hr : refusedF q = 0) (h8 : q.op ≠ 8) (h132 : st ≠ 132) (h0 : st ≠ 0) (hm : missedB q st = false) (hi : c.has q.key now = true) (hb : refB q st (c.raw q.key) = true) :
    ∃ Y', lookF Y q (failA st) now = some Y' ∧ LInv Y' c now (n + 1) ∧ (RInv Y c → RInv Y' c) := by
  have hin : c.raw q.key ∈ (aliveL now (Y.now q.key)).filterMap (refHow q st) := List.mem_filterMap.2 ⟨_, h.alive hi, by unfold refHow; rw [if_pos hb]⟩
  have hmem : ∀ x ∈ (aliveL now (Y.now q.key)).filterMap (refHow q st), x ∈ Y.now q.key := fun x hx => by
    obtain ⟨y, hy, hxy⟩ := List.mem_filterMap.1 hx
    unfold refHow at hxy
    split at hxy
    · cases hxy; exact (alive_mem.1 hy).1
    · cases hxy
  refine ⟨_, by rw [fail_look hr h8 h132 h0, hm, if_neg (by simp), if_neg (fun e => by rw [e] at hin; cases hin)], h.keep ?_ (fun t ht hx => ?_), fun hR => hR.keep fun x hx => hmem x (sortT_mem.1 hx)⟩
  · have h1 := sortT_len ((aliveL now (Y.now q.key)).filterMap (refHow q st))
    have h2 := List.length_filterMap_le (refHow q st) (aliveL now (Y.now q.key))
    have h3 := alive_len now (Y.now q.key)
    have := (h.len q.key).1
    omega
  · have : c.raw q.key = t := by have := (has_some hi).1; rw [ht] at this; injection this with this; exact this.symm
    rw [← this]; exact sortT_mem.2 hin
theorem fail_miss {st : Int} (h : LInv Y c now n) (hr : refusedF q = 0) (h8 : q.op ≠ 8) (h132 : st ≠ 132) (h0 : st ≠ 0) (hm : missedB q st = true) (hi : c.has q.key now = false) :
    ∃ Y', lookF Y q (failA st) now = some Y' ∧ LInv Y' c now (n + 1) ∧ (RInv Y c → RInv Y' c) :=
  ⟨_, by rw [fail_look hr h8 h132 h0, hm, if_pos rfl], h.miss hi, fun hR => hR.keep (fun x hx => by cases hx)⟩
/-- A write. -/
theorem put_ok {a : An} (h : LInv Y c now n) (h2 : anBare0 a = true) (h3 : a.cas = c.last + 1) (ht : t' ∈ l) (hl : l.length ≤ n + 1) (hu : RInv Y c → ∀ x ∈ l, x.val = t'.val) :
    ∃ Y', writeF Y q a l = some Y' ∧ LInv Y' (c.put q.key t') now (n + 1) ∧ (RInv Y c → RInv Y' (c.put q.key t')) := by
  refine ⟨_, writeF_ok (fun e => by rw [e] at ht; cases ht) h2 (by rw [h.tok, h3]; omega), ?_, ?_⟩
  · rw [h3]; exact h.put ht hl
  · rw [h3]; exact fun hR => hR.put ht (hu hR)
theorem RInv.raw (h : RInv Y c) (hi : c.has k now = true) {x : Tv} (hx : x ∈ aliveL now (Y.now k)) : x.val = (c.raw k).val ∧ x.cas = (c.raw k).cas := (h.som k _ (has_some hi).1).1 x (alive_mem.1 hx).1
theorem keyedOk_ref (h : q.keyedOk = true) : refusedF q = 0 := by
  unfold Rq.keyedOk at h
  simp only [Bool.and_eq_true, Bool.or_eq_true, beq_iff_eq, decide_eq_true_eq] at h
  obtain ⟨h1, h2, h3, h4⟩ := h
  unfold refusedF
  rw [if_neg (by rintro ⟨e1, e2, _⟩
                 rcases h1 with h1 | h1
                 · rw [e1] at h1; cases h1
                 · rw [e2] at h1; cases h1.1), if_neg (by simpa using h2), if_neg (by rintro ⟨_, h | h⟩ <;> omega), if_neg (by
    rintro ⟨e1, e2⟩
    rcases h1 with h1 | h1
    · revert h1 e1
      unfold keyedB valuedB
      simp only [Bool.or_eq_true, beq_iff_eq]
      omega
    · omega)]
theorem keyedOk_op (h : q.keyedOk = true) : q.op = 0 ∨ q.op = 4 ∨ q.op = 5 ∨ q.op = 6 ∨ q.op = 28 ∨ q.op = 29 ∨ q.op = 1 ∨ q.op = 2 ∨ q.op = 3 ∨ q.op = 14 ∨ q.op = 15 := by
  unfold Rq.keyedOk at h
  simp only [Bool.and_eq_true, Bool.or_eq_true] at h
  have h1 := h.1
  unfold keyedB valuedB at h1
  simp only [Bool.or_eq_true, beq_iff_eq] at h1
  omega
theorem keyedOk_here (h : q.keyedOk = true) : q.here := by
  have := keyedOk_op h
  unfold Rq.here
  omega
/-- What a step of the law leaves. -/
def Goes (Y : St) (q : Rq) (now : Int) (c : Ca) (r : Ca × An) (n : Nat) : Prop := ∃ Y', lookF Y q r.2 now = some Y' ∧ LInv Y' r.1 now (n + 1) ∧ (RInv Y c → RInv Y' r.1)
theorem hs_len (h : LInv Y c now n) : (aliveL now (Y.now q.key)).length ≤ n := Nat.le_trans (alive_len _ _) (h.len q.key).1
theorem bare_ok (cas num : Int) (hn : num = 0) : anBare0 (okA cas num) = true := by subst hn; simp [anBare0, bareB, okA]
theorem goes_write {a : An} {f : Tv → Option Tv} (h : LInv Y c now n) (hr : refusedF q = 0) (h8 : q.op ≠ 8) (h0 : a.st = 0) {b : An} (hs : succF Y q a now (aliveL now (Y.now q.key)) = writeF Y q b ((aliveL now (Y.now q.key)).filterMap f)) (h2 : anBare0 b = true) (h3 : b.cas = c.last + 1)
    (hi : c.has q.key now = true) (hf : f (c.raw q.key) = some t') (hu : ∀ x y, f x = some y → x.val = (c.raw q.key).val → y.val = t'.val) : Goes Y q now c (c.put q.key t', a) n := by
  unfold Goes
  rw [ok_look hr h8 h0, hs]
  refine put_ok h h2 h3 (List.mem_filterMap.2 ⟨_, h.alive hi, hf⟩) ?_ fun hR x hx => ?_
  · have h1 := List.length_filterMap_le f (aliveL now (Y.now q.key))
    have := hs_len (q := q) h
    omega
  · obtain ⟨y, hy, hxy⟩ := List.mem_filterMap.1 hx
    exact hu y x hxy (hR.raw hi hy).1
theorem goes_own {a : An} (h : LInv Y c now n) (hr : refusedF q = 0) (h8 : q.op ≠ 8) (h0 : a.st = 0) (hs : succF Y q a now (aliveL now (Y.now q.key)) = writeF Y q a [t']) (h2 : anBare0 a = true) (h3 : a.cas = c.last + 1) : Goes Y q now c (c.put q.key t', a) n := by
  unfold Goes
  rw [ok_look hr h8 h0, hs]
  exact put_ok h h2 h3 (by simp) (by simp) fun _ x hx => by simp at hx; rw [hx]
theorem fits_of (hc : ¬ (q.casB = true ∧ (c.raw q.key).cas ≠ q.cas)) (hop : q.op ≠ 0 ∧ q.op ≠ 28 ∧ q.op ≠ 29 ∧ q.op ≠ 2) : fitsB q (c.raw q.key) = true := by
  unfold fitsB
  by_cases h0 : q.cas = 0
  · simp [h0]
  · have hb : q.casB = true := by unfold Rq.casB; simp [h0, hop.1, hop.2.1, hop.2.2.1, hop.2.2.2]
    have : (c.raw q.key).cas = q.cas := by
      apply Classical.byContradiction
      intro e
      exact hc ⟨hb, e⟩
    simp [this]
theorem unfits_of (hc : q.casB = true ∧ (c.raw q.key).cas ≠ q.cas) : fitsB q (c.raw q.key) = false := by
  unfold fitsB
  have : q.cas ≠ 0 := by have := hc.1; unfold Rq.casB at this; simp at this; exact this.1
  simp [this, hc.2]
/-- What the cache answers may be. -/
theorem do_goes (h : LInv Y c now n) (hk : q.keyedOk = true) (hini : 0 ≤ q.ini) : Goes Y q now c (c.do q now) n := by
  have hr := keyedOk_ref hk
  have hop := keyedOk_op hk
  have h8 : q.op ≠ 8 := by omega
  have hlast := h.l0
  unfold Ca.do
  by_cases hi : c.has q.key now = true
  · have hin := h.alive hi
    rw [if_neg (by rw [hi]; simp), if_neg (by rw [hi]; simp)]
    by_cases hth : (c.has q.key now = true ∧ q.casB = true ∧ (c.raw q.key).cas ≠ q.cas) ∨ (c.has q.key now = true ∧ q.op = 2)
    · rw [if_pos hth]
      have hb : refB q 2 (c.raw q.key) = true := by
        unfold refB
        rcases hth with ⟨_, h1⟩ | ⟨_, h1⟩
        · have h2 : q.op ≠ 0 ∧ q.op ≠ 28 ∧ q.op ≠ 29 ∧ q.op ≠ 2 := by have := h1.1; unfold Rq.casB at this; simp at this; omega
          rw [if_neg (by omega), if_neg h2.2.2.2, if_pos (unfits_of h1)]; rfl
        · rw [if_neg (by omega), if_pos h1]; rfl
      refine fail_some h hr h8 (by decide) (by decide) ?_ hi hb
      unfold missedB
      repeat' split
      all_goals simp_all
    · rw [if_neg hth]
      have hc : ¬ (q.casB = true ∧ (c.raw q.key).cas ≠ q.cas) := fun e => hth (.inl ⟨hi, e⟩)
      have h2 : q.op ≠ 2 := fun e => hth (.inr ⟨hi, e⟩)
      by_cases h0 : q.op = 0
      · rw [if_pos h0]
        have hg : getHow (tellA (c.raw q.key) (c.raw q.key).cas) (c.raw q.key) = some (c.raw q.key) := by unfold getHow toldB tellA; simp
        have hmem : c.raw q.key ∈ (aliveL now (Y.now q.key)).filterMap (getHow (tellA (c.raw q.key) (c.raw q.key).cas)) := List.mem_filterMap.2 ⟨_, hin, hg⟩
        have hsub : ∀ x ∈ (aliveL now (Y.now q.key)).filterMap (getHow (tellA (c.raw q.key) (c.raw q.key).cas)), x ∈ Y.now q.key := fun x hx => by
          obtain ⟨y, hy, hxy⟩ := List.mem_filterMap.1 hx
          unfold getHow at hxy
          split at hxy
          · cases hxy; exact (alive_mem.1 hy).1
          · cases hxy
        refine ⟨Y.only q.key (sortT ((aliveL now (Y.now q.key)).filterMap (getHow (tellA (c.raw q.key) (c.raw q.key).cas)))), ?_, h.keep ?_ (fun t ht hx => ?_), fun hR => hR.keep fun x hx => hsub x (sortT_mem.1 hx)⟩
        · rw [ok_look hr h8 rfl]
          unfold succF
          rw [if_pos h0, if_neg (by simp [bareB, tellA]), if_neg (fun e => by rw [e] at hmem; cases hmem)]
          rfl
        · have h1 := sortT_len ((aliveL now (Y.now q.key)).filterMap (getHow (tellA (c.raw q.key) (c.raw q.key).cas)))
          have h2 := List.length_filterMap_le (getHow (tellA (c.raw q.key) (c.raw q.key).cas)) (aliveL now (Y.now q.key))
          have := hs_len (q := q) h
          omega
        · have : c.raw q.key = t := by have := (has_some hi).1; rw [ht] at this; injection this with this; exact this.symm
          rw [← this]; exact sortT_mem.2 hmem
      · rw [if_neg h0]
        by_cases ht : q.op = 28 ∨ q.op = 29
        · rw [if_pos ht]
          rcases ht with h28 | h29
          · rw [if_neg (by omega)]
            exact goes_write h hr h8 rfl (Go.Proofs.Ytngpffmgkponfaa.succF_touch h28) (bare_ok _ _ rfl) rfl hi (by unfold touHow; simp [h28]; rfl) (fun x y hxy hv => by
              unfold touHow at hxy
              split at hxy
              · cases hxy; exact hv
              · cases hxy)
          · rw [if_pos h29]
            exact goes_write h hr h8 rfl (Go.Proofs.Ytngpffmgkponfaa.succF_gat h29) (by simp [anBare0, bareB, An.val0, tellA]) rfl hi (by unfold touHow toldB tellA; simp [h29]; rfl) (fun x y hxy hv => by
              unfold touHow at hxy
              split at hxy
              · cases hxy; exact hv
              · cases hxy)
        · rw [if_neg ht]
          have hfit := fits_of hc ⟨h0, by omega, by omega, h2⟩
          by_cases hj : q.op = 14 ∨ q.op = 15
          · rw [if_pos hj]
            by_cases hl : 512 < (c.raw q.key).val.length + q.val.length
            · rw [if_pos hl]
              refine fail_some h hr h8 (by decide) (by decide) ?_ hi ?_
              · unfold missedB
                rw [if_neg (by omega), if_neg (by omega), if_neg (by omega), if_pos hj]; rfl
              · unfold refB
                rw [if_neg (by omega), if_neg (by omega), if_neg (by rw [hfit]; simp), if_pos hj]
                simp [hl]
            · rw [if_neg hl]
              refine goes_write h hr h8 rfl (Go.Proofs.Ytngpffmgkponfaa.succF_join hj) (bare_ok _ _ rfl) rfl hi (f := joiHow q) (t' := joinT q (c.raw q.key)) ?_ (fun x y hxy hv => ?_)
              · unfold joiHow joinT
                rw [if_pos (by rw [hfit]; simp; omega)]
              · unfold joiHow at hxy
                split at hxy
                · cases hxy; unfold joinT; simp only [hv]
                · cases hxy
          · rw [if_neg hj]
            by_cases h4 : q.op = 4
            · rw [if_pos h4]
              refine ⟨Y.put q.key [] [] Y.tok, ?_, h.del, fun hR => hR.del _⟩
              rw [ok_look hr h8 rfl, Go.Proofs.Ytngpffmgkponfaa.succF_del h4, if_neg]
              rintro (e | e)
              · have : c.raw q.key ∈ (aliveL now (Y.now q.key)).filterMap (fitHow q) := List.mem_filterMap.2 ⟨_, hin, by unfold fitHow; rw [if_pos hfit]⟩
                rw [e] at this; cases this
              · simp [anBare, bareB, okA] at e
            · rw [if_neg h4]
              by_cases ht : q.op = 5 ∨ q.op = 6
              · rw [if_pos ht]
                unfold Ca.turn
                rw [if_neg (by rw [hi]; simp)]
                cases hn : turnT q (c.raw q.key) with
                | none =>
                  refine fail_some h hr h8 (by decide) (by decide) ?_ hi ?_
                  · unfold missedB
                    rw [if_neg (by omega), if_neg (by omega), if_pos ht]; rfl
                  · have hnum : Go.Proofs.Ytngpffmgkponfaa.numF (c.raw q.key).val = none := by
                      unfold turnT at hn
                      cases hx : Go.Proofs.Ytngpffmgkponfaa.numF (c.raw q.key).val with
                      | none => rfl
                      | some k => rw [hx] at hn; cases hn
                    unfold refB
                    rw [if_neg (by omega), if_neg (by omega), if_neg (by rw [hfit]; simp), if_neg (by omega), if_pos ht]
                    simp [hnum]
                | some m =>
                  show Goes Y q now c (c.put q.key ⟨textF m, (c.raw q.key).fl, (c.raw q.key).ex, (c.raw q.key).cas⟩, okA (c.last + 1) m) n
                  unfold Goes
                  rw [ok_look hr h8 rfl, Go.Proofs.Ytngpffmgkponfaa.succF_turn ht]
                  have htu : turHow q m (c.raw q.key) = some ⟨textF m, (c.raw q.key).fl, (c.raw q.key).ex, (c.raw q.key).cas⟩ := by unfold turHow; rw [hn]; simp [hfit]
                  refine put_ok h (by simp [anBare0, bareB, An.noNum, okA]) rfl (List.mem_append.2 (.inr (List.mem_filterMap.2 ⟨_, hin, htu⟩))) ?_ fun hR x hx => ?_
                  · have h1 := turL_len q (okA (c.last + 1) (m : Int)).num now (aliveL now (Y.now q.key))
                    have h2 := hs_len (q := q) h
                    exact Nat.le_trans h1 (by omega)
                  · rcases List.mem_append.1 hx with hx | hx
                    · split at hx
                      · simp at hx; subst hx; show textF (Int.toNat (m : Int)) = textF m; simp
                      · cases hx
                    · obtain ⟨y, hy, hxy⟩ := List.mem_filterMap.1 hx
                      unfold turHow at hxy
                      split at hxy
                      · cases hxy
                      · split at hxy
                        · rename_i k hk hb
                          cases hxy
                          have : (k : Int) = m := by simp only [Bool.and_eq_true, beq_iff_eq] at hb; exact hb.2
                          show textF k = textF m
                          rw [show k = m by omega]
                        · cases hxy
              · rw [if_neg ht]
                refine goes_own h hr h8 rfl ?_ (bare_ok _ _ rfl) rfl
                refine Go.Proofs.Ytngpffmgkponfaa.succF_fit (by omega) fun e => ?_
                have : c.raw q.key ∈ (aliveL now (Y.now q.key)).filterMap (fitHow q) := List.mem_filterMap.2 ⟨_, hin, by unfold fitHow; rw [if_pos hfit]⟩
                rw [e] at this; cases this
  · have hi' : c.has q.key now = false := by simpa using hi
    by_cases hj : q.op = 14 ∨ q.op = 15
    · rw [if_pos ⟨hi', hj⟩]
      refine fail_miss h hr h8 (by decide) (by decide) ?_ hi'
      unfold missedB
      rw [if_neg (by omega), if_neg (by omega), if_neg (by omega), if_pos hj]; rfl
    · rw [if_neg (fun e => hj e.2)]
      by_cases hm : q.op ≠ 2 ∧ q.op ≠ 5 ∧ q.op ≠ 6 ∧ (q.op ≠ 1 ∨ q.casB = true)
      · rw [if_pos ⟨hi', hm⟩]
        refine fail_miss h hr h8 (by decide) (by decide) ?_ hi'
        unfold missedB
        by_cases h1 : q.op = 1
        · rw [if_neg (by omega), if_pos h1]
          have := hm.2.2.2.resolve_left (fun e => e h1)
          unfold Rq.casB at this
          simp at this
          simp [this.1]
        · rw [if_pos (by omega)]; rfl
      · rw [if_neg (fun e => hm e.2), if_neg (by rw [hi']; simp), if_neg (by omega), if_neg (by omega), if_neg hj, if_neg (by omega)]
        by_cases ht : q.op = 5 ∨ q.op = 6
        · rw [if_pos ht]
          unfold Ca.turn
          rw [if_pos hi']
          by_cases hx : q.ex = 4294967295
          · rw [if_pos hx]
            refine fail_miss h hr h8 (by decide) (by decide) ?_ hi'
            unfold missedB
            rw [if_neg (by omega), if_neg (by omega), if_pos ht]
            simp [hx]
          · rw [if_neg hx]
            unfold Goes
            rw [ok_look hr h8 rfl, Go.Proofs.Ytngpffmgkponfaa.succF_turn ht]
            refine put_ok h (by simp [anBare0, bareB, An.noNum, okA]) rfl (List.mem_append.2 (.inl ?_)) ?_ fun hR x hx' => ?_
            · rw [if_pos ⟨hx, rfl⟩]; simp [okA]
            · have h1 := turL_len q (okA (c.last + 1) q.ini).num now (aliveL now (Y.now q.key))
              have h2 := hs_len (q := q) h
              exact Nat.le_trans h1 (by omega)
            · rcases List.mem_append.1 hx' with hx' | hx'
              · rw [if_pos ⟨hx, rfl⟩] at hx'; simp at hx'; subst hx'; rfl
              · obtain ⟨y, hy, hxy⟩ := List.mem_filterMap.1 hx'
                unfold turHow at hxy
                split at hxy
                · cases hxy
                · split at hxy
                  · rename_i k hk hb
                    cases hxy
                    have : (k : Int) = q.ini := by simp only [Bool.and_eq_true, beq_iff_eq] at hb; exact hb.2
                    show textF k = textF q.ini.toNat
                    rw [show k = q.ini.toNat by omega]
                  · cases hxy
        · rw [if_neg ht]
          refine goes_own h hr h8 rfl ?_ (bare_ok _ _ rfl) rfl
          by_cases h1 : q.op = 1
          · have hcas : q.cas = 0 := by
              apply Classical.byContradiction
              intro e
              exact hm ⟨by omega, by omega, by omega, .inr (by unfold Rq.casB; simp [e, h1])⟩
            exact Go.Proofs.Ytngpffmgkponfaa.succF_set1 h1 hcas
          · exact Go.Proofs.Ytngpffmgkponfaa.succF_else (by omega)
end
end Go.Idl
