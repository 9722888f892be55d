/- Scripts and their texts: which may be, how they are printed and read. Plain Lean. -/
import Derived.Lib.ItoaNum
namespace Go.Scr

abbrev Txt := List UInt8
structure Plan where
  g : Int
  s : Int
  l : Int
  p : Int
  c : Int
  deriving DecidableEq
structure Ev where
  kind : Int
  conn : Int
  n : Int
  bytes : List UInt8
  keep : List Bool
  deriving DecidableEq
structure Scr where
  plan : Plan
  evs : List Ev
  deriving DecidableEq

def planB (p : Plan) : Bool := decide (4 ≤ p.g ∧ p.g ≤ 16 ∧ 24 ≤ p.s ∧ p.s ≤ 64) && decide (1 ≤ p.l ∧ p.l ≤ 1024 ∧ 1 ≤ p.p ∧ p.p ≤ 256 ∧ 1 ≤ p.c ∧ p.c ≤ 4)
/-- An event with just the fields that its line says. -/
def only (x : Ev) : Ev :=
  if x.kind = 1 then ⟨1, x.conn, 0, x.bytes, []⟩
  else if x.kind = 2 ∨ x.kind = 5 ∨ x.kind = 6 then ⟨x.kind, 0, x.n, [], []⟩
  else if x.kind = 7 then ⟨7, 0, 0, [], x.keep⟩
  else if x.kind = 8 then ⟨8, x.conn, 0, [], []⟩
  else ⟨x.kind, 0, 0, [], []⟩
def rightE (p : Plan) (x : Ev) : Bool := decide ((1 ≤ x.kind ∧ x.kind ≤ 8) ∧ (0 ≤ x.conn ∧ x.conn < p.c) ∧ (0 ≤ x.n ∧ x.n < 4294967296) ∧ x.bytes.length ≤ 4096 ∧ x.keep.length ≤ 4096) && decide (x = only x)
def checkS (s : Scr) : Bool := planB s.plan && decide (s.evs.length ≤ 200) && s.evs.all (rightE s.plan)

/-! Texts -/
def numT (n : Int) : Txt := Go.Lib.itoa n
def hexD (x : Nat) : UInt8 := if x < 10 then UInt8.ofNat (48 + x) else UInt8.ofNat (87 + x)
def rawT (b : List UInt8) : Txt := if b = [] then [45] else b.flatMap fun x => [hexD (x.toNat / 16), hexD (x.toNat % 16)]
def keepT (l : List Bool) : Txt := if l = [] then [45] else l.map fun x => if x then 49 else 48
def wPlan : Txt := [112, 108, 97, 110]
def word (k : Int) : Txt :=
  if k = 1 then [98, 121, 116, 101, 115]
  else if k = 2 then [116, 105, 99, 107]
  else if k = 3 then [99, 108, 101, 97, 110]
  else if k = 4 then [115, 121, 110, 99]
  else if k = 5 then [97, 114, 109]
  else if k = 6 then [102, 97, 105, 108]
  else if k = 7 then [99, 114, 97, 115, 104]
  else if k = 8 then [111, 112, 101, 110]
  else []
/-- What stands on an event's line, between blanks. -/
def evL (x : Ev) : List Txt :=
  if x.kind = 1 then [word 1, numT x.conn, rawT x.bytes]
  else if x.kind = 2 ∨ x.kind = 5 ∨ x.kind = 6 then [word x.kind, numT x.n]
  else if x.kind = 7 then [word 7, keepT x.keep]
  else if x.kind = 8 then [word 8, numT x.conn]
  else [word x.kind]
def planL (p : Plan) : List Txt := [wPlan, numT p.g, numT p.s, numT p.l, numT p.p, numT p.c]
def joinC (c : UInt8) : List Txt → Txt
  | [] => []
  | [a] => a
  | a :: l => a ++ c :: joinC c l
def lineE (x : Ev) : Txt := joinC 32 (evL x)
def lineP (p : Plan) : Txt := joinC 32 (planL p)
def textS (s : Scr) : Txt := lineP s.plan ++ 10 :: s.evs.flatMap fun x => lineE x ++ [10]

/-! Reading -/
def splitC (c : UInt8) : Txt → List Txt
  | [] => [[]]
  | x :: l => if x = c then [] :: splitC c l else match splitC c l with
    | [] => [[x]]
    | h :: t => (x :: h) :: t
def cutL : Txt → Option (Txt × Txt)
  | [] => none
  | x :: l => if x = 10 then some ([], l) else (cutL l).map fun p => (x :: p.1, p.2)
def digB (c : UInt8) : Bool := decide (48 ≤ c.toNat ∧ c.toNat ≤ 57)
def valN (s : Txt) : Nat := s.foldl (fun a c => 10 * a + (c.toNat - 48)) 0
def isNum (s : Txt) : Bool := decide (s ≠ [] ∧ s.length ≤ 10) && s.all digB && decide (s.length = 1 ∨ s.head? ≠ some 48)
def numP (s : Txt) : Option Int := if isNum s then some (valN s) else none
def halfP (c : UInt8) : Option Nat := if 48 ≤ c.toNat ∧ c.toNat ≤ 57 then some (c.toNat - 48) else if 97 ≤ c.toNat ∧ c.toNat ≤ 102 then some (c.toNat - 87) else none
def pairsP : Txt → Option (List UInt8)
  | [] => some []
  | [_] => none
  | a :: b :: l => match halfP a, halfP b, pairsP l with
    | some x, some y, some r => some (UInt8.ofNat (16 * x + y) :: r)
    | _, _, _ => none
def rawP (s : Txt) : Option (List UInt8) := if s = [45] then some [] else if s = [] then none else pairsP s
def keepP (s : Txt) : Option (List Bool) := if s = [45] then some [] else if s = [] then none else if s.all (fun c => decide (c = 48 ∨ c = 49)) then some (s.map fun c => decide (c = 49)) else none
def evP (l : List Txt) : Option Ev :=
  match l with
  | [w] => if w = word 3 then some ⟨3, 0, 0, [], []⟩ else if w = word 4 then some ⟨4, 0, 0, [], []⟩ else none
  | [w, a] =>
    if w = word 2 then (numP a).map fun n => ⟨2, 0, n, [], []⟩
    else if w = word 5 then (numP a).map fun n => ⟨5, 0, n, [], []⟩
    else if w = word 6 then (numP a).map fun n => ⟨6, 0, n, [], []⟩
    else if w = word 7 then (keepP a).map fun k => ⟨7, 0, 0, [], k⟩
    else if w = word 8 then (numP a).map fun n => ⟨8, n, 0, [], []⟩
    else none
  | [w, a, b] => if w = word 1 then match numP a, rawP b with
      | some n, some r => some ⟨1, n, 0, r, []⟩
      | _, _ => none
    else none
  | _ => none
def planP (l : List Txt) : Option Plan :=
  match l with
  | [w, a, b, c, d, e] => if w = wPlan then match numP a, numP b, numP c, numP d, numP e with
      | some a, some b, some c, some d, some e => some ⟨a, b, c, d, e⟩
      | _, _, _, _, _ => none
    else none
  | _ => none
/-- The events of lines; or where it is wrong. -/
def evsP (p : Plan) : Nat → List Ev → Nat → Txt → Except Nat (List Ev)
  | 0, evs, _, _ => .ok evs
  | fuel + 1, evs, at_, rest =>
    if rest = [] then .ok evs else
    match cutL rest with
    | none => .error at_
    | some (line, rest') => match evP (splitC 32 line) with
      | none => .error at_
      | some x => if rightE p x && decide (evs.length < 200) then evsP p fuel (evs ++ [x]) (at_ + line.length + 1) rest' else .error at_
/-- A text that is not too long; or where it is wrong. -/
def parseP (t : Txt) : Except Nat Scr :=
  match cutL t with
  | none => .error 0
  | some (line, rest) => match planP (splitC 32 line) with
    | none => .error 0
    | some p => if planB p then (match evsP p rest.length [] (line.length + 1) rest with
        | .error k => .error k
        | .ok evs => .ok ⟨p, evs⟩) else .error 0

/-! Laws of cutting and splitting -/
theorem cutL_none : ∀ {t : Txt}, cutL t = none ↔ (10 : UInt8) ∉ t
  | [] => by simp [cutL]
  | x :: l => by
    unfold cutL
    by_cases h : x = 10
    · simp [h]
    · rw [if_neg h, Option.map_eq_none_iff, cutL_none, List.mem_cons]
      constructor
      · rintro h1 (h2 | h2)
        · exact h h2.symm
        · exact h1 h2
      · intro h1 h2; exact h1 (.inr h2)
theorem cutL_some : ∀ {t line rest : Txt}, cutL t = some (line, rest) ↔ t = line ++ 10 :: rest ∧ (10 : UInt8) ∉ line
  | [], line, rest => by simp [cutL]
  | x :: l, line, rest => by
    unfold cutL
    by_cases h : x = 10
    · subst h
      rw [if_pos rfl]
      constructor
      · intro h1; simp only [Option.some.injEq, Prod.mk.injEq] at h1; obtain ⟨rfl, rfl⟩ := h1; simp
      · rintro ⟨h1, h2⟩
        cases line with
        | nil => simp at h1; rw [h1]
        | cons y l' => simp at h1 h2; exact absurd h1.1 (fun e => h2.1 e)
    · rw [if_neg h]
      constructor
      · intro h1
        rw [Option.map_eq_some_iff] at h1
        obtain ⟨⟨a, b⟩, h2, h3⟩ := h1
        simp only [Prod.mk.injEq] at h3
        obtain ⟨rfl, rfl⟩ := h3
        obtain ⟨h4, h5⟩ := cutL_some.1 h2
        exact ⟨by rw [h4]; rfl, by rw [List.mem_cons]; rintro (h6 | h6); exact h h6.symm; exact h5 h6⟩
      · rintro ⟨h1, h2⟩
        cases line with
        | nil => simp at h1; exact absurd h1.1 h
        | cons y l' =>
          simp at h1 h2
          obtain ⟨rfl, h1⟩ := h1
          rw [cutL_some.2 ⟨h1, h2.2⟩]
          rfl
theorem splitC_ne (c : UInt8) (t : Txt) : splitC c t ≠ [] := by
  cases t with
  | nil => simp [splitC]
  | cons x l =>
    unfold splitC
    split
    · simp
    · split <;> simp
theorem joinC_cons (c : UInt8) (a : Txt) (l : List Txt) (h : l ≠ []) : joinC c (a :: l) = a ++ c :: joinC c l := by
  cases l with
  | nil => exact absurd rfl h
  | cons b l => rfl
theorem join_split (c : UInt8) : ∀ t : Txt, joinC c (splitC c t) = t
  | [] => rfl
  | x :: l => by
    have ih := join_split c l
    unfold splitC
    split
    · rename_i h
      rw [joinC_cons _ _ _ (splitC_ne c l), ih, h]; rfl
    · split
      · rename_i h; exact absurd h (splitC_ne c l)
      · rename_i h2 t2 h3
        rw [h3] at ih
        cases t2 with
        | nil => simp only [joinC] at ih ⊢; rw [ih]
        | cons b t2 => rw [joinC_cons _ _ _ (by simp)] at ih ⊢; rw [← ih]; rfl
theorem split_one (c : UInt8) : ∀ (a : Txt), c ∉ a → splitC c a = [a]
  | [], _ => rfl
  | x :: l, h => by
    have h1 : ¬ x = c := fun e => h (by rw [e]; exact .head _)
    have h2 := split_one c l (fun e => h (.tail _ e))
    unfold splitC
    rw [if_neg h1, h2]
theorem split_append (c : UInt8) : ∀ (a t : Txt), c ∉ a → splitC c (a ++ c :: t) = a :: splitC c t
  | [], t, _ => by simp [splitC]
  | x :: l, t, h => by
    have h1 : ¬ x = c := fun e => h (by rw [e]; exact .head _)
    have h2 := split_append c l t (fun e => h (.tail _ e))
    rw [List.cons_append]
    conv => lhs; unfold splitC
    rw [if_neg h1, h2]
theorem split_join (c : UInt8) : ∀ (l : List Txt), l ≠ [] → (∀ a ∈ l, c ∉ a) → splitC c (joinC c l) = l
  | [], h, _ => absurd rfl h
  | [a], _, h => split_one c a (h a (.head _))
  | a :: b :: l, _, h => by
    rw [joinC_cons _ _ _ (by simp), split_append c a _ (h a (.head _)), split_join c (b :: l) (by simp) (fun x hx => h x (.tail _ hx))]
theorem mem_joinC {c x : UInt8} : ∀ {l : List Txt}, x ∈ joinC c l → x = c ∨ ∃ a ∈ l, x ∈ a
  | [], h => by cases h
  | [a], h => .inr ⟨a, .head _, h⟩
  | a :: b :: l, h => by
    rw [joinC_cons _ _ _ (by simp), List.mem_append, List.mem_cons] at h
    rcases h with h | rfl | h
    · exact .inr ⟨a, .head _, h⟩
    · exact .inl rfl
    · rcases mem_joinC h with h | ⟨y, h1, h2⟩
      · exact .inl h
      · exact .inr ⟨y, .tail _ h1, h2⟩

/-! Numbers -/
open Go.Lib in
theorem dec_small {u : Nat} (h : u < 10) : decDigits u = [UInt8.ofNat (48 + u)] := by rw [decDigits, dif_pos h]
open Go.Lib in
theorem dec_big {u : Nat} (h : ¬ u < 10) : decDigits u = decDigits (u / 10) ++ [UInt8.ofNat (48 + u % 10)] := by rw [decDigits, dif_neg h]
theorem ofNat_dig {d : Nat} (h : d < 10) : (UInt8.ofNat (48 + d)).toNat = 48 + d := by
  rw [UInt8.toNat_ofNat']; omega
theorem head_app {α : Type} {l r : List α} (h : l ≠ []) : (l ++ r).head? = l.head? := by cases l with
  | nil => exact absurd rfl h
  | cons a l => rfl
theorem valN_snoc (s : Txt) (c : UInt8) : valN (s ++ [c]) = 10 * valN s + (c.toNat - 48) := by simp [valN]
open Go.Lib in
theorem dec_val (u : Nat) : valN (decDigits u) = u := by
  induction u using Nat.strongRecOn with
  | _ u ih =>
    by_cases h : u < 10
    · rw [dec_small h]; simp [valN]; omega
    · rw [dec_big h, valN_snoc, ih _ (by omega), ofNat_dig (by omega)]; omega
open Go.Lib in
theorem dec_digs (u : Nat) : (decDigits u).all digB = true := by
  induction u using Nat.strongRecOn with
  | _ u ih =>
    by_cases h : u < 10
    · rw [dec_small h]; simp [digB]; omega
    · rw [dec_big h, List.all_append, ih _ (by omega)]; simp [digB]; omega
open Go.Lib in
theorem dec_ne (u : Nat) : decDigits u ≠ [] := by
  by_cases h : u < 10
  · rw [dec_small h]; simp
  · rw [dec_big h]; simp
open Go.Lib in
theorem dec_len (k : Nat) : ∀ u, u < 10 ^ (k + 1) → (decDigits u).length ≤ k + 1 := by
  induction k with
  | zero => intro u h; rw [dec_small (by simpa using h)]; simp
  | succ k ih =>
    intro u h
    by_cases h10 : u < 10
    · rw [dec_small h10]; simp
    · rw [dec_big h10, List.length_append]
      have := ih (u / 10) (by rw [Nat.pow_succ] at h; omega)
      simp; omega
open Go.Lib in
theorem dec_head (u : Nat) (h : 10 ≤ u) : (decDigits u).head? ≠ some 48 ∧ 1 < (decDigits u).length := by
  induction u using Nat.strongRecOn with
  | _ u ih =>
    rw [dec_big (by omega)]
    by_cases h10 : u / 10 < 10
    · rw [dec_small h10]
      refine ⟨?_, by simp⟩
      simp only [List.cons_append, List.nil_append, List.head?_cons]
      intro e
      injection e with e
      have := congrArg UInt8.toNat e
      rw [ofNat_dig h10] at this
      have h48 : (48 : UInt8).toNat = 48 := rfl
      omega
    · obtain ⟨h1, h2⟩ := ih (u / 10) (by omega) (by omega)
      refine ⟨?_, by rw [List.length_append]; omega⟩
      rw [head_app (dec_ne _)]
      exact h1
theorem num_text {n : Int} (h0 : 0 ≤ n) (h1 : n < 10000000000) : numP (numT n) = some n := by
  obtain ⟨u, rfl⟩ := Int.eq_ofNat_of_zero_le h0
  have e : numT (u : Int) = Go.Lib.decDigits u := by
    unfold numT Go.Lib.itoa
    rw [if_neg (by omega)]
    rfl
  unfold numP
  rw [e, dec_val, if_pos]
  have hl := dec_len 9 u (by omega)
  unfold isNum
  rw [dec_digs, Bool.and_true, Bool.and_eq_true, decide_eq_true_iff, decide_eq_true_iff]
  refine ⟨⟨dec_ne u, hl⟩, ?_⟩
  by_cases h10 : u < 10
  · left; rw [dec_small h10]; rfl
  · right; exact (dec_head u (by omega)).1
theorem valN_pos : ∀ (s : Txt), s ≠ [] → s.all digB = true → s.head? ≠ some 48 → 1 ≤ valN s := by
  have key : ∀ (s : Txt) (a : Nat), 1 ≤ a → 1 ≤ s.foldl (fun a c => 10 * a + (c.toNat - 48)) a := by
    intro s
    induction s with
    | nil => intro a h; exact h
    | cons x l ih => intro a h; exact ih (10 * a + (x.toNat - 48)) (by omega)
  intro s hs hd hh
  cases s with
  | nil => exact absurd rfl hs
  | cons x l =>
    simp only [List.all_cons, Bool.and_eq_true] at hd
    have h1 : 48 ≤ x.toNat ∧ x.toNat ≤ 57 := of_decide_eq_true hd.1
    have h2 : x.toNat ≠ 48 := fun e => hh (by
      have : x = 48 := UInt8.toNat_inj.1 e
      rw [this]; rfl)
    exact key l (10 * 0 + (x.toNat - 48)) (by omega)
open Go.Lib in
theorem dec_of_num (k : Nat) : ∀ (s : Txt), s.length = k → s ≠ [] → s.all digB = true → (s.length = 1 ∨ s.head? ≠ some 48) → decDigits (valN s) = s := by
  induction k with
  | zero => intro s h hs; exact absurd (List.length_eq_zero_iff.1 h) hs
  | succ k ih =>
    intro s hl hs hd hh
    obtain ⟨r, c, rfl⟩ : ∃ r c, s = r ++ [c] := ⟨s.dropLast, s.getLast hs, (List.dropLast_concat_getLast hs).symm⟩
    rw [List.all_append, Bool.and_eq_true] at hd
    have hc : 48 ≤ c.toNat ∧ c.toNat ≤ 57 := by have := hd.2; simp at this; exact of_decide_eq_true this
    have hce : UInt8.ofNat (48 + (c.toNat - 48)) = c := by
      apply UInt8.toNat_inj.1
      rw [ofNat_dig (by omega)]; omega
    rw [valN_snoc]
    by_cases hr : r = []
    · subst hr
      have hv : valN ([] : Txt) = 0 := rfl
      rw [hv, Nat.mul_zero, Nat.zero_add, dec_small (by omega), hce]; rfl
    · have hlr : 1 ≤ r.length := List.length_pos_iff.2 hr
      have hh2 : r.head? ≠ some 48 := by
        rcases hh with hh | hh
        · rw [List.length_append] at hh; simp at hh; exact absurd hh hr
        · rwa [head_app hr] at hh
      have hp := valN_pos r hr hd.1 hh2
      rw [dec_big (by omega)]
      have e1 : (10 * valN r + (c.toNat - 48)) / 10 = valN r := by omega
      have e2 : (10 * valN r + (c.toNat - 48)) % 10 = c.toNat - 48 := by omega
      rw [e1, e2, hce, ih r (by rw [List.length_append] at hl; simp at hl; exact hl) hr hd.1 (.inr hh2)]
theorem text_num {s : Txt} {n : Int} (h : numP s = some n) : numT n = s ∧ 0 ≤ n := by
  unfold numP at h
  split at h
  · rename_i hn
    injection h with h
    subst h
    unfold isNum at hn
    rw [Bool.and_eq_true, Bool.and_eq_true, decide_eq_true_iff, decide_eq_true_iff] at hn
    obtain ⟨⟨⟨h1, h2⟩, h3⟩, h4⟩ := hn
    refine ⟨?_, by omega⟩
    unfold numT Go.Lib.itoa
    rw [if_neg (by omega)]
    exact dec_of_num _ s rfl h1 h3 h4
  · cases h
end Go.Scr
