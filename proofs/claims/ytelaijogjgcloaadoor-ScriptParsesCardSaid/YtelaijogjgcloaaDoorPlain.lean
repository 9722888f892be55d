/- Scripts and their texts: which may be, how they are printed and read. Plain Lean. What is printed is read as it was, and what is read is printed as it was. Plain Lean. A script's text is read as the script, and a text that is read is the script's text; a text that is wrong from a line on is wrong there. Plain Lean. -/
import Derived.Lib.ItoaNum

section
namespace Go.Scr

abbrev Txt := List UInt8
structure Plan where
  g : Int
  s : Int
  l : Int
  p : Int
  c : Int
  deriving DecidableEq
structure Ev where
  kind : Int
  conn : Int
  n : Int
  bytes : List UInt8
  keep : List Bool
  deriving DecidableEq
structure Scr where
  plan : Plan
  evs : List Ev
  deriving DecidableEq

def planB (p : Plan) : Bool := decide (4 ≤ p.g ∧ p.g ≤ 16 ∧ 24 ≤ p.s ∧ p.s ≤ 64) && decide (1 ≤ p.l ∧ p.l ≤ 1024 ∧ 1 ≤ p.p ∧ p.p ≤ 256 ∧ 1 ≤ p.c ∧ p.c ≤ 4)
/-- An event with just the fields that its line says. -/
def only (x : Ev) : Ev :=
  if x.kind = 1 then ⟨1, x.conn, 0, x.bytes, []⟩
  else if x.kind = 2 ∨ x.kind = 5 ∨ x.kind = 6 then ⟨x.kind, 0, x.n, [], []⟩
  else if x.kind = 7 then ⟨7, 0, 0, [], x.keep⟩
  else if x.kind = 8 then ⟨8, x.conn, 0, [], []⟩
  else ⟨x.kind, 0, 0, [], []⟩
def rightE (p : Plan) (x : Ev) : Bool := decide ((1 ≤ x.kind ∧ x.kind ≤ 8) ∧ (0 ≤ x.conn ∧ x.conn < p.c) ∧ (0 ≤ x.n ∧ x.n < 4294967296) ∧ x.bytes.length ≤ 4096 ∧ x.keep.length ≤ 4096) && decide (x = only x)
def checkS (s : Scr) : Bool := planB s.plan && decide (s.evs.length ≤ 200) && s.evs.all (rightE s.plan)

/-! Texts -/
def numT (n : Int) : Txt := Go.Lib.itoa n
def hexD (x : Nat) : UInt8 := if x < 10 then UInt8.ofNat (48 + x) else UInt8.ofNat (87 + x)
def rawT (b : List UInt8) : Txt := if b = [] then [45] else b.flatMap fun x => [hexD (x.toNat / 16), hexD (x.toNat % 16)]
def keepT (l : List Bool) : Txt := if l = [] then [45] else l.map fun x => if x then 49 else 48
def wPlan : Txt := [112, 108, 97, 110]
def word (k : Int) : Txt :=
  if k = 1 then [98, 121, 116, 101, 115]
  else if k = 2 then [116, 105, 99, 107]
  else if k = 3 then [99, 108, 101, 97, 110]
  else if k = 4 then [115, 121, 110, 99]
  else if k = 5 then [97, 114, 109]
  else if k = 6 then [102, 97, 105, 108]
  else if k = 7 then [99, 114, 97, 115, 104]
  else if k = 8 then [111, 112, 101, 110]
  else []
/-- What stands on an event's line, between blanks. -/
def evL (x : Ev) : List Txt :=
  if x.kind = 1 then [word 1, numT x.conn, rawT x.bytes]
  else if x.kind = 2 ∨ x.kind = 5 ∨ x.kind = 6 then [word x.kind, numT x.n]
  else if x.kind = 7 then [word 7, keepT x.keep]
  else if x.kind = 8 then [word 8, numT x.conn]
  else [word x.kind]
def planL (p : Plan) : List Txt := [wPlan, numT p.g, numT p.s, numT p.l, numT p.p, numT p.c]
def joinC (c : UInt8) : List Txt → Txt
  | [] => []
  | [a] => a
  | a :: l => a ++ c :: joinC c l
def lineE (x : Ev) : Txt := joinC 32 (evL x)
def lineP (p : Plan) : Txt := joinC 32 (planL p)
def textS (s : Scr) : Txt := lineP s.plan ++ 10 :: s.evs.flatMap fun x => lineE x ++ [10]

/-! Reading -/
def splitC (c : UInt8) : Txt → List Txt
  | [] => [[]]
  | x :: l => if x = c then [] :: splitC c l else match splitC c l with
    | [] => [[x]]
    | h :: t => (x :: h) :: t
def cutL : Txt → Option (Txt × Txt)
  | [] => none
  | x :: l => if x = 10 then some ([], l) else (cutL l).map fun p => (x :: p.1, p.2)
def digB (c : UInt8) : Bool := decide (48 ≤ c.toNat ∧ c.toNat ≤ 57)
def valN (s : Txt) : Nat := s.foldl (fun a c => 10 * a + (c.toNat - 48)) 0
def isNum (s : Txt) : Bool := decide (s ≠ [] ∧ s.length ≤ 10) && s.all digB && decide (s.length = 1 ∨ s.head? ≠ some 48)
def numP (s : Txt) : Option Int := if isNum s then some (valN s) else none
def halfP (c : UInt8) : Option Nat := if 48 ≤ c.toNat ∧ c.toNat ≤ 57 then some (c.toNat - 48) else if 97 ≤ c.toNat ∧ c.toNat ≤ 102 then some (c.toNat - 87) else none
def pairsP : Txt → Option (List UInt8)
  | [] => some []
  | [_] => none
  | a :: b :: l => match halfP a, halfP b, pairsP l with
    | some x, some y, some r => some (UInt8.ofNat (16 * x + y) :: r)
    | _, _, _ => none
def rawP (s : Txt) : Option (List UInt8) := if s = [45] then some [] else if s = [] then none else pairsP s
def keepP (s : Txt) : Option (List Bool) := if s = [45] then some [] else if s = [] then none else if s.all (fun c => decide (c = 48 ∨ c = 49)) then some (s.map fun c => decide (c = 49)) else none
def evP (l : List Txt) : Option Ev :=
  match l with
  | [w] => if w = word 3 then some ⟨3, 0, 0, [], []⟩ else if w = word 4 then some ⟨4, 0, 0, [], []⟩ else none
  | [w, a] =>
    if w = word 2 then (numP a).map fun n => ⟨2, 0, n, [], []⟩
    else if w = word 5 then (numP a).map fun n => ⟨5, 0, n, [], []⟩
    else if w = word 6 then (numP a).map fun n => ⟨6, 0, n, [], []⟩
    else if w = word 7 then (keepP a).map fun k => ⟨7, 0, 0, [], k⟩
    else if w = word 8 then (numP a).map fun n => ⟨8, n, 0, [], []⟩
    else none
  | [w, a, b] => if w = word 1 then match numP a, rawP b with
      | some n, some r => some ⟨1, n, 0, r, []⟩
      | _, _ => none
    else none
  | _ => none
def planP (l : List Txt) : Option Plan :=
  match l with
  | [w, a, b, c, d, e] => if w = wPlan then match numP a, numP b, numP c, numP d, numP e with
      | some a, some b, some c, some d, some e => some ⟨a, b, c, d, e⟩
      | _, _, _, _, _ => none
    else none
  | _ => none
/-- The events of lines; or where it is wrong. -/
def evsP (p : Plan) : Nat → List Ev → Nat → Txt → Except Nat (List Ev)
  | 0, evs, _, _ => .ok evs
  | fuel + 1, evs, at_, rest =>
    if rest = [] then .ok evs else
    match cutL rest with
    | none => .error at_
    | some (line, rest') => match evP (splitC 32 line) with
      | none => .error at_
      | some x => if rightE p x && decide (evs.length < 200) then evsP p fuel (evs ++ [x]) (at_ + line.length + 1) rest' else .error at_
/-- A text that is not too long; or where it is wrong. -/
def parseP (t : Txt) : Except Nat Scr :=
  match cutL t with
  | none => .error 0
  | some (line, rest) => match planP (splitC 32 line) with
    | none => .error 0
    | some p => if planB p then (match evsP p rest.length [] (line.length + 1) rest with
        | .error k => .error k
        | .ok evs => .ok ⟨p, evs⟩) else .error 0

/-! Laws of cutting and splitting -/
theorem cutL_none : ∀ {t : Txt}, cutL t = none ↔ (10 : UInt8) ∉ t
  | [] => by simp [cutL]
  | x :: l => by
    unfold cutL
    by_cases h : x = 10
    · simp [h]
    · rw [if_neg h, Option.map_eq_none_iff, cutL_none, List.mem_cons]
      constructor
      · rintro h1 (h2 | h2)
        · exact h h2.symm
        · exact h1 h2
      · intro h1 h2; exact h1 (.inr h2)
theorem cutL_some : ∀ {t line rest : Txt}, cutL t = some (line, rest) ↔ t = line ++ 10 :: rest ∧ (10 : UInt8) ∉ line
  | [], line, rest => by simp [cutL]
  | x :: l, line, rest => by
    unfold cutL
    by_cases h : x = 10
    · subst h
      rw [if_pos rfl]
      constructor
      · intro h1; simp only [Option.some.injEq, Prod.mk.injEq] at h1; obtain ⟨rfl, rfl⟩ := h1; simp
      · rintro ⟨h1, h2⟩
        cases line with
        | nil => simp at h1; rw [h1]
        | cons y l' => simp at h1 h2; exact absurd h1.1 (fun e => h2.1 e)
    · rw [if_neg h]
      constructor
      · intro h1
        rw [Option.map_eq_some_iff] at h1
        obtain ⟨⟨a, b⟩, h2, h3⟩ := h1
        simp only [Prod.mk.injEq] at h3
        obtain ⟨rfl, rfl⟩ := h3
        obtain ⟨h4, h5⟩ := cutL_some.1 h2
        exact ⟨by rw [h4]; rfl, by rw [List.mem_cons]; rintro (h6 | h6); exact h h6.symm; exact h5 h6⟩
      · rintro ⟨h1, h2⟩
        cases line with
        | nil => simp at h1; exact absurd h1.1 h
        | cons y l' =>
          simp at h1 h2
          obtain ⟨rfl, h1⟩ := h1
          rw [cutL_some.2 ⟨h1, h2.2⟩]
          rfl
theorem splitC_ne (c : UInt8) (t : Txt) : splitC c t ≠ [] := by
  cases t with
  | nil => simp [splitC]
  | cons x l =>
    unfold splitC
    split
    · simp
    · split <;> simp
theorem joinC_cons (c : UInt8) (a : Txt) (l : List Txt) (h : l ≠ []) : joinC c (a :: l) = a ++ c :: joinC c l := by
  cases l with
  | nil => exact absurd rfl h
  | cons b l => rfl
theorem join_split (c : UInt8) : ∀ t : Txt, joinC c (splitC c t) = t
  | [] => rfl
  | x :: l => by
    have ih := join_split c l
    unfold splitC
    split
    · rename_i h
      rw [joinC_cons _ _ _ (splitC_ne c l), ih, h]; rfl
    · split
      · rename_i h; exact absurd h (splitC_ne c l)
      · rename_i h2 t2 h3
        rw [h3] at ih
        cases t2 with
        | nil => simp only [joinC] at ih ⊢; rw [ih]
        | cons b t2 => rw [joinC_cons _ _ _ (by simp)] at ih ⊢; rw [← ih]; rfl
theorem split_one (c : UInt8) : ∀ (a : Txt), c ∉ a → splitC c a = [a]
  | [], _ => rfl
  | x :: l, h => by
    have h1 : ¬ x = c := fun e => h (by rw [e]; exact .head _)
    have h2 := split_one c l (fun e => h (.tail _ e))
    unfold splitC
    rw [if_neg h1, h2]
theorem split_append (c : UInt8) : ∀ (a t : Txt), c ∉ a → splitC c (a ++ c :: t) = a :: splitC c t
  | [], t, _ => by simp [splitC]
  | x :: l, t, h => by
    have h1 : ¬ x = c := fun e => h (by rw [e]; exact .head _)
    have h2 := split_append c l t (fun e => h (.tail _ e))
    rw [List.cons_append]
    conv => lhs; unfold splitC
    rw [if_neg h1, h2]
theorem split_join (c : UInt8) : ∀ (l : List Txt), l ≠ [] → (∀ a ∈ l, c ∉ a) → splitC c (joinC c l) = l
  | [], h, _ => absurd rfl h
  | [a], _, h => split_one c a (h a (.head _))
  | a :: b :: l, _, h => by
    rw [joinC_cons _ _ _ (by simp), split_append c a _ (h a (.head _)), split_join c (b :: l) (by simp) (fun x hx => h x (.tail _ hx))]
theorem mem_joinC {c x : UInt8} : ∀ {l : List Txt}, x ∈ joinC c l → x = c ∨ ∃ a ∈ l, x ∈ a
  | [], h => by cases h
  | [a], h => .inr ⟨a, .head _, h⟩
  | a :: b :: l, h => by
    rw [joinC_cons _ _ _ (by simp), List.mem_append, List.mem_cons] at h
    rcases h with h | rfl | h
    · exact .inr ⟨a, .head _, h⟩
    · exact .inl rfl
    · rcases mem_joinC h with h | ⟨y, h1, h2⟩
      · exact .inl h
      · exact .inr ⟨y, .tail _ h1, h2⟩

/-! Numbers -/
open Go.Lib in
theorem dec_small {u : Nat} (h : u < 10) : decDigits u = [UInt8.ofNat (48 + u)] := by rw [decDigits, dif_pos h]
open Go.Lib in
theorem dec_big {u : Nat} (h : ¬ u < 10) : decDigits u = decDigits (u / 10) ++ [UInt8.ofNat (48 + u % 10)] := by rw [decDigits, dif_neg h]
theorem ofNat_dig {d : Nat} (h : d < 10) : (UInt8.ofNat (48 + d)).toNat = 48 + d := by
  rw [UInt8.toNat_ofNat']; omega
theorem head_app {α : Type} {l r : List α} (h : l ≠ []) : (l ++ r).head? = l.head? := by cases l with
  | nil => exact absurd rfl h
  | cons a l => rfl
theorem valN_snoc (s : Txt) (c : UInt8) : valN (s ++ [c]) = 10 * valN s + (c.toNat - 48) := by simp [valN]
open Go.Lib in
theorem dec_val (u : Nat) : valN (decDigits u) = u := by
  induction u using Nat.strongRecOn with
  | _ u ih =>
    by_cases h : u < 10
    · rw [dec_small h]; simp [valN]; omega
    · rw [dec_big h, valN_snoc, ih _ (by omega), ofNat_dig (by omega)]; omega
open Go.Lib in
theorem dec_digs (u : Nat) : (decDigits u).all digB = true := by
  induction u using Nat.strongRecOn with
  | _ u ih =>
    by_cases h : u < 10
    · rw [dec_small h]; simp [digB]; omega
    · rw [dec_big h, List.all_append, ih _ (by omega)]; simp [digB]; omega
open Go.Lib in
theorem dec_ne (u : Nat) : decDigits u ≠ [] := by
  by_cases h : u < 10
  · rw [dec_small h]; simp
  · rw [dec_big h]; simp
open Go.Lib in
theorem dec_len (k : Nat) : ∀ u, u < 10 ^ (k + 1) → (decDigits u).length ≤ k + 1 := by
  induction k with
  | zero => intro u h; rw [dec_small (by simpa using h)]; simp
  | succ k ih =>
    intro u h
    by_cases h10 : u < 10
    · rw [dec_small h10]; simp
    · rw [dec_big h10, List.length_append]
      have := ih (u / 10) (by rw [Nat.pow_succ] at h; omega)
      simp; omega
open Go.Lib in
theorem dec_head (u : Nat) (h : 10 ≤ u) : (decDigits u).head? ≠ some 48 ∧ 1 < (decDigits u).length := by
  induction u using Nat.strongRecOn with
  | _ u ih =>
    rw [dec_big (by omega)]
    by_cases h10 : u / 10 < 10
    · rw [dec_small h10]
      refine ⟨?_, by simp⟩
      simp only [List.cons_append, List.nil_append, List.head?_cons]
      intro e
      injection e with e
      have := congrArg UInt8.toNat e
      rw [ofNat_dig h10] at this
      have h48 : (48 : UInt8).toNat = 48 := rfl
      omega
    · obtain ⟨h1, h2⟩ := ih (u / 10) (by omega) (by omega)
      refine ⟨?_, by rw [List.length_append]; omega⟩
      rw [head_app (dec_ne _)]
      exact h1
theorem num_text {n : Int} (h0 : 0 ≤ n) (h1 : n < 10000000000) : numP (numT n) = some n := by
  obtain ⟨u, rfl⟩ := Int.eq_ofNat_of_zero_le h0
  have e : numT (u : Int) = Go.Lib.decDigits u := by
    unfold numT Go.Lib.itoa
    rw [if_neg (by omega)]
    rfl
  unfold numP
  rw [e, dec_val, if_pos]
  have hl := dec_len 9 u (by omega)
  unfold isNum
  rw [dec_digs, Bool.and_true, Bool.and_eq_true, decide_eq_true_iff, decide_eq_true_iff]
  refine ⟨⟨dec_ne u, hl⟩, ?_⟩
  by_cases h10 : u < 10
  · left; rw [dec_small h10]; rfl
  · right; exact (dec_head u (by omega)).1
theorem valN_pos : ∀ (s : Txt), s ≠ [] → s.all digB = true → s.head? ≠ some 48 → 1 ≤ valN s := by
  have key : ∀ (s : Txt) (a : Nat), 1 ≤ a → 1 ≤ s.foldl (fun a c => 10 * a + (c.toNat - 48)) a := by
    intro s
    induction s with
    | nil => intro a h; exact h
    | cons x l ih => intro a h; exact ih (10 * a + (x.toNat - 48)) (by omega)
  intro s hs hd hh
  cases s with
  | nil => exact absurd rfl hs
  | cons x l =>
    simp only [List.all_cons, Bool.and_eq_true] at hd
    have h1 : 48 ≤ x.toNat ∧ x.toNat ≤ 57 := of_decide_eq_true hd.1
    have h2 : x.toNat ≠ 48 := fun e => hh (by
      have : x = 48 := UInt8.toNat_inj.1 e
      rw [this]; rfl)
    exact key l (10 * 0 + (x.toNat - 48)) (by omega)
open Go.Lib in
theorem dec_of_num (k : Nat) : ∀ (s : Txt), s.length = k → s ≠ [] → s.all digB = true → (s.length = 1 ∨ s.head? ≠ some 48) → decDigits (valN s) = s := by
  induction k with
  | zero => intro s h hs; exact absurd (List.length_eq_zero_iff.1 h) hs
  | succ k ih =>
    intro s hl hs hd hh
    obtain ⟨r, c, rfl⟩ : ∃ r c, s = r ++ [c] := ⟨s.dropLast, s.getLast hs, (List.dropLast_concat_getLast hs).symm⟩
    rw [List.all_append, Bool.and_eq_true] at hd
    have hc : 48 ≤ c.toNat ∧ c.toNat ≤ 57 := by have := hd.2; simp at this; exact of_decide_eq_true this
    have hce : UInt8.ofNat (48 + (c.toNat - 48)) = c := by
      apply UInt8.toNat_inj.1
      rw [ofNat_dig (by omega)]; omega
    rw [valN_snoc]
    by_cases hr : r = []
    · subst hr
      have hv : valN ([] : Txt) = 0 := rfl
      rw [hv, Nat.mul_zero, Nat.zero_add, dec_small (by omega), hce]; rfl
    · have hlr : 1 ≤ r.length := List.length_pos_iff.2 hr
      have hh2 : r.head? ≠ some 48 := by
        rcases hh with hh | hh
        · rw [List.length_append] at hh; simp at hh; exact absurd hh hr
        · rwa [head_app hr] at hh
      have hp := valN_pos r hr hd.1 hh2
      rw [dec_big (by omega)]
      have e1 : (10 * valN r + (c.toNat - 48)) / 10 = valN r := by omega
      have e2 : (10 * valN r + (c.toNat - 48)) % 10 = c.toNat - 48 := by omega
      rw [e1, e2, hce, ih r (by rw [List.length_append] at hl; simp at hl; exact hl) hr hd.1 (.inr hh2)]
theorem text_num {s : Txt} {n : Int} (h : numP s = some n) : numT n = s ∧ 0 ≤ n := by
  unfold numP at h
  split at h
  · rename_i hn
    injection h with h
    subst h
    unfold isNum at hn
    rw [Bool.and_eq_true, Bool.and_eq_true, decide_eq_true_iff, decide_eq_true_iff] at hn
    obtain ⟨⟨⟨h1, h2⟩, h3⟩, h4⟩ := hn
    refine ⟨?_, by omega⟩
    unfold numT Go.Lib.itoa
    rw [if_neg (by omega)]
    exact dec_of_num _ s rfl h1 h3 h4
  · cases h
end Go.Scr
end

section
namespace Go.Scr

/-! Digits of bytes -/
theorem hexD_nat {x : Nat} (h : x < 16) : (hexD x).toNat = if x < 10 then 48 + x else 87 + x := by
  unfold hexD
  split
  · rw [UInt8.toNat_ofNat']; omega
  · rw [UInt8.toNat_ofNat']; omega
theorem half_hex {x : Nat} (h : x < 16) : halfP (hexD x) = some x := by
  unfold halfP
  rw [hexD_nat h]
  by_cases h10 : x < 10
  · rw [if_pos h10, if_pos (by omega)]; congr 1; omega
  · rw [if_neg h10, if_neg (by omega), if_pos (by omega)]; congr 1; omega
theorem hex_half {c : UInt8} {x : Nat} (h : halfP c = some x) : hexD x = c ∧ x < 16 := by
  unfold halfP at h
  have hc := c.toNat_lt
  split at h
  · injection h with h
    subst h
    refine ⟨UInt8.toNat_inj.1 ?_, by omega⟩
    rw [hexD_nat (by omega), if_pos (by omega)]; omega
  · split at h
    · injection h with h
      subst h
      refine ⟨UInt8.toNat_inj.1 ?_, by omega⟩
      rw [hexD_nat (by omega), if_neg (by omega)]; omega
    · cases h
theorem pairs_raw : ∀ (b : List UInt8), pairsP (b.flatMap fun x => [hexD (x.toNat / 16), hexD (x.toNat % 16)]) = some b
  | [] => rfl
  | x :: b => by
    have hx := x.toNat_lt
    rw [List.flatMap_cons]
    simp only [List.cons_append, List.nil_append]
    unfold pairsP
    rw [half_hex (by omega), half_hex (by omega), pairs_raw b]
    simp only
    congr 2
    apply UInt8.toNat_inj.1
    rw [UInt8.toNat_ofNat']; omega
theorem raw_pairs : ∀ (s : Txt) (b : List UInt8), pairsP s = some b → (b.flatMap fun x => [hexD (x.toNat / 16), hexD (x.toNat % 16)]) = s
  | [], b, h => by simp only [pairsP, Option.some.injEq] at h; subst h; rfl
  | [_], b, h => by simp [pairsP] at h
  | a :: c :: l, b, h => by
    unfold pairsP at h
    split at h
    · rename_i x y r h1 h2 h3
      injection h with h
      subst h
      obtain ⟨rfl, hx⟩ := hex_half h1
      obtain ⟨rfl, hy⟩ := hex_half h2
      rw [List.flatMap_cons, raw_pairs l r h3]
      have e : (UInt8.ofNat (16 * x + y)).toNat = 16 * x + y := by rw [UInt8.toNat_ofNat']; omega
      rw [e, show (16 * x + y) / 16 = x by omega, show (16 * x + y) % 16 = y by omega]
      rfl
    · cases h
theorem rawT_ne (b : List UInt8) : rawT b ≠ [] := by
  unfold rawT
  cases b with
  | nil => simp
  | cons x b => simp
theorem rawT_dash {b : List UInt8} (h : b ≠ []) : rawT b ≠ [45] := by
  unfold rawT
  rw [if_neg h]
  cases b with
  | nil => exact absurd rfl h
  | cons x b => simp
theorem raw_text (b : List UInt8) : rawP (rawT b) = some b := by
  unfold rawP
  by_cases h : b = []
  · subst h; rfl
  · rw [if_neg (rawT_dash h), if_neg (rawT_ne b)]
    unfold rawT
    rw [if_neg h]
    exact pairs_raw b
theorem text_raw {s : Txt} {b : List UInt8} (h : rawP s = some b) : rawT b = s := by
  unfold rawP at h
  split at h
  · rename_i h1; injection h with h; subst h h1; rfl
  · split at h
    · cases h
    · rename_i h1 h2
      have := raw_pairs s b h
      unfold rawT
      rw [if_neg, this]
      rintro rfl
      exact h2 this.symm
theorem keep_text (l : List Bool) : keepP (keepT l) = some l := by
  unfold keepP keepT
  by_cases h : l = []
  · subst h; rfl
  · rw [if_neg h]
    have h1 : (l.map fun x => if x = true then (49 : UInt8) else 48) ≠ [45] := by
      cases l with
      | nil => exact absurd rfl h
      | cons x l => cases x <;> simp
    rw [if_neg h1, if_neg (by simpa using h), if_pos]
    · congr 1
      rw [List.map_map]
      induction l with
      | nil => rfl
      | cons x l ih =>
        cases l with
        | nil => cases x <;> rfl
        | cons y l => 
          rw [List.map_cons, ih (by simp)]
          · cases x <;> rfl
          · cases y <;> simp
    · rw [List.all_eq_true]
      intro c hc
      obtain ⟨x, _, rfl⟩ := List.mem_map.1 hc
      cases x <;> rfl
theorem text_keep {s : Txt} {l : List Bool} (h : keepP s = some l) : keepT l = s := by
  unfold keepP at h
  split at h
  · rename_i h1; injection h with h; subst h h1; rfl
  · split at h
    · cases h
    · split at h
      · rename_i h1 h2 h3
        injection h with h
        subst h
        unfold keepT
        rw [if_neg (by simpa using h2), List.map_map]
        rw [List.all_eq_true] at h3
        have : ∀ (s : Txt), (∀ c ∈ s, decide (c = 48 ∨ c = 49) = true) → s.map ((fun x => if x = true then (49 : UInt8) else 48) ∘ fun c => decide (c = 49)) = s := by
          intro s
          induction s with
          | nil => intro _; rfl
          | cons c s ih =>
            intro hs
            rw [List.map_cons, ih (fun c hc => hs c (.tail _ hc))]
            congr 1
            have := of_decide_eq_true (hs c (.head _))
            rcases this with rfl | rfl <;> rfl
        exact this s h3
      · cases h

/-! No blanks and no line feeds within the parts -/
def Clean (s : Txt) : Prop := (32 : UInt8) ∉ s ∧ (10 : UInt8) ∉ s
theorem clean_of {s : Txt} (h : ∀ c ∈ s, 33 ≤ c.toNat) : Clean s := ⟨fun e => by have := h _ e; revert this; decide, fun e => by have := h _ e; revert this; decide⟩
theorem clean_num (n : Int) (h : 0 ≤ n) : Clean (numT n) := by
  apply clean_of
  intro c hc
  unfold numT Go.Lib.itoa at hc
  rw [if_neg (by omega)] at hc
  have := List.all_eq_true.1 (dec_digs n.toNat) c hc
  have := of_decide_eq_true this
  omega
theorem clean_raw (b : List UInt8) : Clean (rawT b) := by
  apply clean_of
  intro c hc
  unfold rawT at hc
  split at hc
  · simp at hc; subst hc; decide
  · rw [List.mem_flatMap] at hc
    obtain ⟨x, _, hx⟩ := hc
    have hxl := x.toNat_lt
    simp only [List.mem_cons, List.mem_nil_iff, or_false] at hx
    rcases hx with rfl | rfl
    · rw [hexD_nat (by omega)]; split <;> omega
    · rw [hexD_nat (by omega)]; split <;> omega
theorem clean_keep (l : List Bool) : Clean (keepT l) := by
  apply clean_of
  intro c hc
  unfold keepT at hc
  split at hc
  · simp at hc; subst hc; decide
  · obtain ⟨x, _, rfl⟩ := List.mem_map.1 hc
    cases x <;> decide
theorem clean_word (k : Int) : Clean (word k) := by
  apply clean_of
  intro c hc
  unfold word at hc
  repeat' split at hc
  all_goals revert c; decide
theorem clean_plan : Clean wPlan := by constructor <;> decide

/-! Lines -/
theorem evL_ne (x : Ev) : evL x ≠ [] := by
  unfold evL
  by_cases h1 : x.kind = 1
  · simp [h1]
  · by_cases h2 : x.kind = 2 ∨ x.kind = 5 ∨ x.kind = 6
    · simp [h1, h2]
    · by_cases h3 : x.kind = 7
      · simp [h3]
      · by_cases h4 : x.kind = 8
        · simp [h4]
        · simp [h1, h2, h3, h4]
theorem clean_evL {p : Plan} {x : Ev} (h : rightE p x = true) : ∀ a ∈ evL x, Clean a := by
  unfold rightE at h
  rw [Bool.and_eq_true] at h
  obtain ⟨_, h1, h2, _⟩ := of_decide_eq_true h.1
  intro a ha
  unfold evL at ha
  repeat' split at ha
  all_goals
    simp only [List.mem_cons, List.mem_nil_iff, or_false] at ha
  · rcases ha with rfl | rfl | rfl
    · exact clean_word _
    · exact clean_num _ h1.1
    · exact clean_raw _
  · rcases ha with rfl | rfl
    · exact clean_word _
    · exact clean_num _ h2.1
  · rcases ha with rfl | rfl
    · exact clean_word _
    · exact clean_keep _
  · rcases ha with rfl | rfl
    · exact clean_word _
    · exact clean_num _ h1.1
  · subst ha; exact clean_word _
theorem ev_line {p : Plan} {x : Ev} (hp : planB p = true) (h : rightE p x = true) : evP (evL x) = some x := by
  unfold rightE at h
  rw [Bool.and_eq_true] at h
  obtain ⟨⟨hk1, hk2⟩, h1, h2, _⟩ := of_decide_eq_true h.1
  have ho := of_decide_eq_true h.2
  have hpc : p.c ≤ 4 := by
    unfold planB at hp
    rw [Bool.and_eq_true] at hp
    have := of_decide_eq_true hp.2
    omega
  obtain ⟨k, conn, n, bytes, keep⟩ := x
  simp only at hk1 hk2 h1 h2
  have hn1 := num_text h1.1 (by omega : conn < 10000000000)
  have hn2 := num_text h2.1 (by omega : n < 10000000000)
  have hk : k = 1 ∨ k = 2 ∨ k = 3 ∨ k = 4 ∨ k = 5 ∨ k = 6 ∨ k = 7 ∨ k = 8 := by omega
  rcases hk with rfl | rfl | rfl | rfl | rfl | rfl | rfl | rfl
  all_goals
    simp [only] at ho
    simp [evL, evP, word, hn1, hn2, raw_text, keep_text, ho]
theorem word_inj {k : Int} (h1 : 1 ≤ k) (h2 : k ≤ 8) {j : Int} (h3 : 1 ≤ j) (h4 : j ≤ 8) (h : word k = word j) : k = j := by
  have hk : k = 1 ∨ k = 2 ∨ k = 3 ∨ k = 4 ∨ k = 5 ∨ k = 6 ∨ k = 7 ∨ k = 8 := by omega
  have hj : j = 1 ∨ j = 2 ∨ j = 3 ∨ j = 4 ∨ j = 5 ∨ j = 6 ∨ j = 7 ∨ j = 8 := by omega
  rcases hk with rfl | rfl | rfl | rfl | rfl | rfl | rfl | rfl <;> rcases hj with rfl | rfl | rfl | rfl | rfl | rfl | rfl | rfl <;> first | rfl | (exfalso; revert h; decide)
theorem line_ev {l : List Txt} {x : Ev} (h : evP l = some x) : evL x = l ∧ x = only x := by
  unfold evP at h
  split at h
  · repeat' split at h
    all_goals first
      | (injection h with h; subst h; simp_all [evL, only, word]; done)
      | cases h
  · repeat' split at h
    all_goals first
      | (cases h; done)
      | (rw [Option.map_eq_some_iff] at h
         obtain ⟨y, hy, rfl⟩ := h
         first
         | (have := (text_num hy).1; simp_all [evL, only, word]; done)
         | (have := text_keep hy; simp_all [evL, only, word]; done))
  · repeat' split at h
    all_goals first
      | (cases h; done)
      | (injection h with h
         subst h
         rename_i h1 _ _ _ _ h2 h3
         have := (text_num h2).1
         have := text_raw h3
         simp_all [evL, only, word]
         done)
  · cases h
end Go.Scr
end

section
namespace Go.Scr

theorem plan_line {p : Plan} (h : planB p = true) : planP (planL p) = some p := by
  unfold planB at h
  rw [Bool.and_eq_true] at h
  have h1 := of_decide_eq_true h.1
  have h2 := of_decide_eq_true h.2
  obtain ⟨g, s, l, q, c⟩ := p
  simp only at h1 h2
  simp [planL, planP, num_text (n := g) (by omega) (by omega), num_text (n := s) (by omega) (by omega), num_text (n := l) (by omega) (by omega), num_text (n := q) (by omega) (by omega), num_text (n := c) (by omega) (by omega)]
theorem line_plan {l : List Txt} {p : Plan} (h : planP l = some p) : planL p = l := by
  unfold planP at h
  split at h
  · split at h
    · split at h
      · rename_i h1 _ _ _ _ _ _ _ _ _ _ h2 h3 h4 h5 h6
        injection h with h
        subst h
        have e1 := (text_num h2).1
        have e2 := (text_num h3).1
        have e3 := (text_num h4).1
        have e4 := (text_num h5).1
        have e5 := (text_num h6).1
        simp [planL, e1, e2, e3, e4, e5, h1]
      · cases h
    · cases h
  · cases h
theorem clean_planL {p : Plan} (h : planB p = true) : ∀ a ∈ planL p, Clean a := by
  unfold planB at h
  rw [Bool.and_eq_true] at h
  have h1 := of_decide_eq_true h.1
  have h2 := of_decide_eq_true h.2
  intro a ha
  simp only [planL, List.mem_cons, List.mem_nil_iff, or_false] at ha
  rcases ha with rfl | rfl | rfl | rfl | rfl | rfl
  · exact clean_plan
  all_goals exact clean_num _ (by omega)
theorem line_no10 {l : List Txt} (h : ∀ a ∈ l, Clean a) : (10 : UInt8) ∉ joinC 32 l := by
  intro hc
  rcases mem_joinC hc with h1 | ⟨a, h1, h2⟩
  · exact absurd h1 (by decide)
  · exact (h a h1).2 h2
theorem split_line {l : List Txt} (hl : l ≠ []) (h : ∀ a ∈ l, Clean a) : splitC 32 (joinC 32 l) = l := split_join 32 l hl fun a ha => (h a ha).1

/-- Printed, then read. -/
theorem evs_text {p : Plan} (hp : planB p = true) : ∀ (evs acc : List Ev) (fuel at_ : Nat), (∀ x ∈ evs, rightE p x = true) → acc.length + evs.length ≤ 200 → (evs.flatMap fun x => lineE x ++ [10]).length ≤ fuel →
    evsP p fuel acc at_ (evs.flatMap fun x => lineE x ++ [10]) = .ok (acc ++ evs)
  | [], acc, fuel, at_, _, _, _ => by
    cases fuel with
    | zero => simp [evsP]
    | succ f => simp [evsP]
  | x :: evs, acc, fuel, at_, hr, hl, hf => by
    have hx := hr x (.head _)
    have hc := clean_evL hx
    rw [List.flatMap_cons] at hf ⊢
    have hne : lineE x ++ [10] ++ (evs.flatMap fun x => lineE x ++ [10]) ≠ [] := by simp
    cases fuel with
    | zero => simp at hf
    | succ f =>
      unfold evsP
      rw [if_neg hne]
      have hcut : cutL (lineE x ++ [10] ++ (evs.flatMap fun x => lineE x ++ [10])) = some (lineE x, evs.flatMap fun x => lineE x ++ [10]) := cutL_some.2 ⟨by simp, line_no10 hc⟩
      rw [hcut]
      simp only
      rw [show splitC 32 (lineE x) = evL x from split_line (evL_ne x) hc, ev_line hp hx]
      simp only
      rw [hx, Bool.true_and, if_pos (by simp only [List.length_cons] at hl; simp; omega)]
      rw [evs_text hp evs (acc ++ [x]) f _ (fun y hy => hr y (.tail _ hy)) (by simp only [List.length_append, List.length_cons, List.length_nil] at hl ⊢; omega) (by simp only [List.length_append, List.length_cons, List.length_nil] at hf ⊢; omega)]
      simp
theorem parse_text {s : Scr} (h : checkS s = true) : parseP (textS s) = .ok s := by
  unfold checkS at h
  rw [Bool.and_eq_true, Bool.and_eq_true] at h
  obtain ⟨⟨h1, h2⟩, h3⟩ := h
  have hc := clean_planL h1
  unfold parseP textS
  have hcut : cutL (lineP s.plan ++ 10 :: s.evs.flatMap fun x => lineE x ++ [10]) = some (lineP s.plan, s.evs.flatMap fun x => lineE x ++ [10]) := cutL_some.2 ⟨rfl, line_no10 hc⟩
  rw [hcut]
  simp only
  rw [show splitC 32 (lineP s.plan) = planL s.plan from split_line (by simp [planL]) hc, plan_line h1]
  simp only
  rw [if_pos h1, evs_text h1 s.evs [] _ _ (List.all_eq_true.1 h3) (by simpa using of_decide_eq_true h2) (Nat.le_refl _)]
  rfl

/-- Read, then printed. -/
theorem text_evs {p : Plan} : ∀ (fuel : Nat) (acc : List Ev) (at_ : Nat) (rest : Txt) (evs : List Ev), evsP p fuel acc at_ rest = .ok evs → rest.length ≤ fuel → acc.length ≤ 200 →
    ∃ more, evs = acc ++ more ∧ rest = (more.flatMap fun x => lineE x ++ [10]) ∧ (∀ x ∈ more, rightE p x = true) ∧ evs.length ≤ 200
  | 0, acc, at_, rest, evs, h, hf, ha => by
    simp only [evsP, Except.ok.injEq] at h
    subst h
    obtain rfl : rest = [] := List.length_eq_zero_iff.1 (by omega)
    exact ⟨[], by simp, rfl, (fun x hx => by cases hx), ha⟩
  | f + 1, acc, at_, rest, evs, h, hf, ha => by
    unfold evsP at h
    split at h
    · rename_i h0
      injection h with h
      subst h h0
      exact ⟨[], by simp, rfl, (fun x hx => by cases hx), ha⟩
    · split at h
      · cases h
      · rename_i line rest' hcut
        split at h
        · cases h
        · rename_i x hev
          split at h
          · rename_i hok
            rw [Bool.and_eq_true] at hok
            have hlen := of_decide_eq_true hok.2
            obtain ⟨hr, hn⟩ := cutL_some.1 hcut
            obtain ⟨h1, h2⟩ := line_ev hev
            obtain ⟨more, g1, g2, g3, g4⟩ := text_evs f (acc ++ [x]) _ rest' evs h (by rw [hr] at hf; simp at hf; omega) (by simp; omega)
            have hline : lineE x = line := by unfold lineE; rw [h1, join_split]
            refine ⟨x :: more, by rw [g1]; simp, ?_, fun y hy => ?_, g4⟩
            · rw [List.flatMap_cons, hline, hr, ← g2]; simp
            · rcases List.mem_cons.1 hy with rfl | hy
              · exact hok.1
              · exact g3 y hy
          · cases h
theorem text_parse {t : Txt} {s : Scr} (h : parseP t = .ok s) : textS s = t ∧ checkS s = true := by
  unfold parseP at h
  split at h
  · cases h
  · rename_i line rest hcut
    split at h
    · cases h
    · rename_i p hp
      split at h
      · rename_i hpb
        split at h
        · cases h
        · rename_i evs hev
          injection h with h
          subst h
          obtain ⟨hr, hn⟩ := cutL_some.1 hcut
          obtain ⟨more, g1, g2, g3, g4⟩ := text_evs _ _ _ _ _ hev (Nat.le_refl _) (by simp)
          rw [List.nil_append] at g1
          subst g1
          refine ⟨?_, ?_⟩
          · unfold textS lineP
            simp only
            rw [line_plan hp, join_split, ← g2, hr]
          · unfold checkS
            simp only
            rw [hpb, decide_eq_true g4, Bool.true_and, Bool.true_and, List.all_eq_true]
            exact g3
      · cases h

/-! Where a text is wrong -/
theorem evs_err {p : Plan} : ∀ (fuel : Nat) (acc : List Ev) (at_ : Nat) (rest : Txt) (k : Nat), evsP p fuel acc at_ rest = .error k → rest.length ≤ fuel →
    at_ ≤ k ∧ k - at_ ≤ rest.length ∧ (k = at_ ∨ (rest.take (k - at_)).getLast? = some 10) ∧
    ∀ line tl more fuel', rest.drop (k - at_) = line ++ 10 :: tl → (10 : UInt8) ∉ line → (rest.take (k - at_) ++ line ++ 10 :: more).length ≤ fuel' → evsP p fuel' acc at_ (rest.take (k - at_) ++ line ++ 10 :: more) = .error k
  | 0, acc, at_, rest, k, h, hf => by simp [evsP] at h
  | f + 1, acc, at_, rest, k, h, hf => by
    unfold evsP at h
    split at h
    · cases h
    · rename_i hne
      split at h
      · rename_i hcut
        injection h with h
        subst h
        refine ⟨Nat.le_refl _, by omega, .inl rfl, fun line tl more fuel' h1 h2 h3 => ?_⟩
        rw [Nat.sub_self, List.drop_zero] at h1
        exact absurd (cutL_none.1 hcut) (by rw [h1]; simp)
      · rename_i line0 rest0 hcut
        obtain ⟨hr, hn⟩ := cutL_some.1 hcut
        have fail : ∀ (line : Txt) (tl more : Txt) (fuel' : Nat), rest.drop (at_ - at_) = line ++ 10 :: tl → (10 : UInt8) ∉ line → (rest.take (at_ - at_) ++ line ++ 10 :: more).length ≤ fuel' →
            line = line0 ∧ ∃ f', fuel' = f' + 1 ∧ rest.take (at_ - at_) ++ line ++ 10 :: more = line0 ++ 10 :: more := by
          intro line tl more fuel' h1 h2 h3
          rw [Nat.sub_self, List.drop_zero] at h1
          have h4 := cutL_some.2 ⟨h1, h2⟩
          rw [hcut] at h4
          injection h4 with h4
          simp only [Prod.mk.injEq] at h4
          obtain ⟨rfl, _⟩ := h4
          refine ⟨rfl, fuel' - 1, ?_, by simp⟩
          simp at h3
          omega
        split at h
        · rename_i hev
          injection h with h
          subst h
          refine ⟨Nat.le_refl _, by omega, .inl rfl, fun line tl more fuel' h1 h2 h3 => ?_⟩
          obtain ⟨rfl, f', rfl, h4⟩ := fail line tl more fuel' h1 h2 h3
          rw [h4]
          unfold evsP
          rw [if_neg (by simp), cutL_some.2 ⟨rfl, hn⟩]
          simp only [hev]
        · rename_i x hev
          split at h
          · rename_i hok
            obtain ⟨g1, g2, g3, g4⟩ := evs_err f (acc ++ [x]) _ rest0 k h (by rw [hr] at hf; simp at hf; omega)
            have hk : k - at_ = line0.length + 1 + (k - (at_ + line0.length + 1)) := by omega
            have htake : rest.take (k - at_) = line0 ++ 10 :: rest0.take (k - (at_ + line0.length + 1)) := by
              rw [hk, hr, Nat.add_assoc, List.take_length_add_append, Nat.add_comm 1, List.take_succ_cons]
            have hdrop : rest.drop (k - at_) = rest0.drop (k - (at_ + line0.length + 1)) := by
              rw [hk, hr, Nat.add_assoc, List.drop_length_add_append, Nat.add_comm 1, List.drop_succ_cons]
            refine ⟨by omega, by rw [hk, hr]; simp; omega, ?_, fun line tl more fuel' h1 h2 h3 => ?_⟩
            · right
              rw [htake]
              rcases g3 with g3 | g3
              · rw [g3, Nat.sub_self]; simp
              · rw [List.getLast?_append, List.getLast?_cons, g3]; rfl
            · rw [hdrop] at h1
              rw [htake] at h3 ⊢
              cases fuel' with
              | zero => simp at h3
              | succ f' =>
                have e : line0 ++ 10 :: rest0.take (k - (at_ + line0.length + 1)) ++ line ++ 10 :: more = line0 ++ 10 :: (rest0.take (k - (at_ + line0.length + 1)) ++ line ++ 10 :: more) := by simp
                rw [e]
                unfold evsP
                rw [if_neg (by simp), cutL_some.2 ⟨rfl, hn⟩]
                simp only [hev, hok, if_true]
                exact g4 line tl more f' h1 h2 (by rw [e] at h3; simp at h3 ⊢; omega)
          · rename_i hok
            injection h with h
            subst h
            refine ⟨Nat.le_refl _, by omega, .inl rfl, fun line tl more fuel' h1 h2 h3 => ?_⟩
            obtain ⟨rfl, f', rfl, h4⟩ := fail line tl more fuel' h1 h2 h3
            rw [h4]
            unfold evsP
            rw [if_neg (by simp), cutL_some.2 ⟨rfl, hn⟩]
            simp only [hev]
            rw [if_neg hok]
theorem parse_err {t : Txt} {k : Nat} (h : parseP t = .error k) : k ≤ t.length ∧ (k = 0 ∨ (t.take k).getLast? = some 10) ∧
    ∀ line tl more, t.drop k = line ++ 10 :: tl → (10 : UInt8) ∉ line → parseP (t.take k ++ line ++ 10 :: more) = .error k := by
  unfold parseP at h
  split at h
  · rename_i hcut
    injection h with h
    subst h
    refine ⟨Nat.zero_le _, .inl rfl, fun line tl more h1 h2 => ?_⟩
    rw [List.drop_zero] at h1
    exact absurd (cutL_none.1 hcut) (by rw [h1]; simp)
  · rename_i line0 rest0 hcut
    obtain ⟨hr, hn⟩ := cutL_some.1 hcut
    have fail : ∀ (line tl more : Txt), t.drop 0 = line ++ 10 :: tl → (10 : UInt8) ∉ line → t.take 0 ++ line ++ 10 :: more = line0 ++ 10 :: more := by
      intro line tl more h1 h2
      rw [List.drop_zero] at h1
      have h4 := cutL_some.2 ⟨h1, h2⟩
      rw [hcut] at h4
      injection h4 with h4
      simp only [Prod.mk.injEq] at h4
      obtain ⟨rfl, _⟩ := h4
      simp
    split at h
    · rename_i hp
      injection h with h
      subst h
      refine ⟨Nat.zero_le _, .inl rfl, fun line tl more h1 h2 => ?_⟩
      rw [fail line tl more h1 h2]
      unfold parseP
      rw [cutL_some.2 ⟨rfl, hn⟩]
      simp only [hp]
    · rename_i p hp
      split at h
      · rename_i hpb
        split at h
        · rename_i k' hev
          injection h with h
          subst h
          obtain ⟨g1, g2, g3, g4⟩ := evs_err _ _ _ _ _ hev (Nat.le_refl _)
          have hk : k' = line0.length + 1 + (k' - (line0.length + 1)) := by omega
          have htake : t.take k' = line0 ++ 10 :: rest0.take (k' - (line0.length + 1)) := by
            conv => lhs; rw [hk, hr, Nat.add_assoc, List.take_length_add_append, Nat.add_comm 1, List.take_succ_cons]
          have hdrop : t.drop k' = rest0.drop (k' - (line0.length + 1)) := by
            conv => lhs; rw [hk, hr, Nat.add_assoc, List.drop_length_add_append, Nat.add_comm 1, List.drop_succ_cons]
          refine ⟨by rw [hr]; simp; omega, ?_, fun line tl more h1 h2 => ?_⟩
          · right
            rw [htake]
            rcases g3 with g3 | g3
            · rw [g3, Nat.sub_self]; simp
            · rw [List.getLast?_append, List.getLast?_cons, g3]; rfl
          · rw [hdrop] at h1
            have e : t.take k' ++ line ++ 10 :: more = line0 ++ 10 :: (rest0.take (k' - (line0.length + 1)) ++ line ++ 10 :: more) := by rw [htake]; simp
            rw [e]
            unfold parseP
            rw [cutL_some.2 ⟨rfl, hn⟩]
            simp only [hp, hpb, if_true]
            rw [g4 line tl more _ h1 h2 (Nat.le_refl _)]
        · cases h
      · rename_i hpb
        injection h with h
        subst h
        refine ⟨Nat.zero_le _, .inl rfl, fun line tl more h1 h2 => ?_⟩
        rw [fail line tl more h1 h2]
        unfold parseP
        rw [cutL_some.2 ⟨rfl, hn⟩]
        simp only [hp]
        rw [if_neg hpb]
end Go.Scr
end
