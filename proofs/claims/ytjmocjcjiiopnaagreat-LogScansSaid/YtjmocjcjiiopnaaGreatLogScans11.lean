/- Bytes there and back: numbers, sectors, what was split is joined. Conditions: numbers in range. Plain: a record's bytes say the record. Conditions: the record may be, its numbers fit. Bytes compared; records compared. Condition: the bytes lie in memory. The disk: its model, and what its methods do. Conditions: the disk is there. The disk: settle, Sync, Crash, Write. Conditions: the disk is there. The disk: Sync, Write, Crash, Arm, Fail, New, Len. Conditions: the disk is there. The disk: Write, Crash, Arm, Fail, New, Len. Conditions: the disk is there. The disk: Crash, Write. Conditions: the disk is there. -/
import Derived.Test.YtjmocjcjiiopnaaGreatLogScans06
import Derived.Lib.Hide
import Derived.Test.YtjmocjcjiiopnaaGreatLogScans09
import Derived.Test.YtjmocjcjiiopnaaGreatLogScans10
import Derived.Test.YtjmocjcjiiopnaaGreatLogScans03
import Derived.Test.YtjmocjcjiiopnaaGreatLogScans04
import Derived.Deep.CutBlock
import Derived.Deep.CutRange
import Derived.StillTailTactics

section
set_option linter.unusedVariables false
set_option linter.unusedSimpArgs false
namespace Go.Oct
open Go.Proofs.YtjmocjcjiiopnaaGreat
theorem numB_beB (x : Nat) : ∀ n, numB (beB x n) = x % 256 ^ n
  | 0 => by simp [beB, numB, Nat.mod_one]
  | n + 1 => by
    have e : beB x (n + 1) = beB (x / 256) n ++ [UInt8.ofNat x] := by
      unfold beB
      rw [List.range_succ, List.map_append]
      congr 1
      · refine List.map_congr_left fun j hj => ?_
        have := List.mem_range.1 hj
        rw [Nat.div_div_eq_div_mul, show 8 * (n + 1 - 1 - j) = 8 + 8 * (n - 1 - j) by omega, Nat.pow_add]
      · simp
    have h1 : x % 256 ^ (n + 1) = x % 256 + 256 * (x / 256 % 256 ^ n) := by rw [Nat.pow_succ, Nat.mul_comm, Nat.mod_mul]
    rw [e, numB_snoc, numB_beB, UInt8.toNat_ofNat', h1]
    simp only [Nat.reducePow]
    omega
theorem numB_beB' {x n : Nat} (h : x < 256 ^ n) : numB (beB x n) = x := by rw [numB_beB, Nat.mod_eq_of_lt h]
theorem readB_packB {g p : Nat} {l : List UInt8} (hg : 1 ≤ g ∧ g ≤ 18446744073709551615) (hp : p ≤ 4294967295) (hl : l.length ≤ 48) : readB (packB g p l) = some (g, p, l) := by
  have e1 : (packB g p l).take 8 = beB g 8 := by
    unfold packB
    simp only [List.append_assoc]
    exact List.take_left' (beB_len g 8)
  have e2 : ((packB g p l).drop 8).take 4 = beB p 4 := by
    unfold packB
    simp only [List.append_assoc]
    rw [List.drop_left' (beB_len g 8)]
    exact List.take_left' (beB_len p 4)
  have e3 : ((packB g p l).drop 12).take 2 = beB l.length 2 := by
    unfold packB
    rw [List.append_assoc, List.append_assoc, List.append_assoc, List.drop_left' (by simp [beB_len])]
    exact List.take_left' (beB_len _ 2)
  have e4 : ((packB g p l).drop 16).take l.length = l := by
    unfold packB
    rw [List.append_assoc, List.drop_left' (by simp [beB_len])]
    exact List.take_left' rfl
  have n1 : numB (beB g 8) = g := numB_beB' (by omega)
  have n2 : numB (beB p 4) = p := numB_beB' (by omega)
  have n3 : numB (beB l.length 2) = l.length := numB_beB' (by omega)
  unfold readB
  rw [e1, e2, e3, n1, n2, n3, e4, if_neg (by omega), if_neg (by omega), if_pos rfl]
theorem secs_pos (n : Nat) : 0 < secs n := by unfold secs; split <;> omega
theorem secs_eq (n : Nat) : n ≤ 48 * secs n ∧ (0 < n → 48 * (secs n - 1) < n) := by unfold secs; split <;> omega
/-- The sectors from one on. -/
def tailS (g p : Nat) (b : List UInt8) (k n : Nat) : List (List UInt8) := (List.range n).map fun i => packB g (p + (k + i)) ((b.drop (48 * (k + i))).take 48)
theorem tailS_succ (g p : Nat) (b : List UInt8) (k n : Nat) : tailS g p b k (n + 1) = packB g (p + k) ((b.drop (48 * k)).take 48) :: tailS g p b (k + 1) n := by
  unfold tailS
  rw [List.range_succ_eq_map, List.map_cons, List.map_map]
  congr 1
  refine List.map_congr_left fun i _ => ?_
  simp only [Function.comp]
  rw [show k + 1 + i = k + (i + 1) by omega]
theorem joinGo_tail {g p : Nat} {b : List UInt8} (hg : 1 ≤ g ∧ g ≤ 18446744073709551615) (hp : p + secs b.length ≤ 4294967296) : ∀ n k, k + n = secs b.length → ∀ q, (q = none ∨ q = some (g, p + k)) → joinGo q (tailS g p b k n) (b.take (48 * k)) = some b
  | 0, k, hk, q, _ => by
    rw [show tailS g p b k 0 = [] from rfl, joinGo, List.take_of_length_le (by have := (secs_eq b.length).1; rw [← hk] at this; simpa using this)]
  | n + 1, k, hk, q, hq => by
    rw [tailS_succ, joinGo]
    have hr := readB_packB (g := g) (p := p + k) (l := (b.drop (48 * k)).take 48) hg (by omega) (by rw [List.length_take]; omega)
    rw [hr]
    have htl : tailS g p b (k + 1) n ≠ [] ↔ 0 < n := by
      unfold tailS
      simp; omega
    have h48 : 0 < n → ((b.drop (48 * k)).take 48).length = 48 := fun h => by
      rw [List.length_take, List.length_drop]
      have := (secs_eq b.length).2
      have h0 := secs_pos b.length
      rcases Nat.eq_zero_or_pos b.length with hz | hz
      · rw [hz] at hk; unfold secs at hk; simp at hk; omega
      · have := this hz; omega
    simp only
    rw [if_neg (by rintro ⟨h1, h2⟩; have := h48 (htl.1 h1); omega), if_neg (by rintro ⟨x, hx, hne⟩; rcases hq with rfl | rfl <;> cases hx; exact hne rfl), if_neg (by rintro ⟨h1, h2⟩; have := htl.1 h2; omega)]
    have et : b.take (48 * k) ++ (b.drop (48 * k)).take 48 = b.take (48 * (k + 1)) := by rw [Nat.mul_succ, List.take_add]
    rw [et]
    rcases Nat.eq_zero_or_pos n with rfl | hn
    · have : tailS g p b (k + 1) 0 = [] := rfl
      rw [this, joinGo, List.take_of_length_le (by have := (secs_eq b.length).1; rw [← hk] at this; omega)]
    · rw [Nat.mod_eq_of_lt (by omega)]
      exact joinGo_tail hg hp n (k + 1) (by omega) _ (.inr (by rw [Nat.add_assoc]))
theorem joinB_splitB {g p : Nat} {b : List UInt8} (hg : 1 ≤ g ∧ g ≤ 18446744073709551615) (hp : p + secs b.length ≤ 4294967296) : joinB (splitB g p b) = some b := by
  have e : splitB g p b = tailS g p b 0 (secs b.length) := by unfold splitB tailS; simp
  have hne : splitB g p b ≠ [] := by unfold splitB; have := secs_pos b.length; simp; omega
  unfold joinB
  rw [if_neg hne, e]
  exact joinGo_tail hg hp _ 0 (by omega) none (.inl rfl)
end Go.Oct
end

section
set_option linter.unusedVariables false
set_option linter.unusedSimpArgs false
namespace Go.Oct
open Go.Proofs.YtjmocjcjiiopnaaGreat
theorem take_app {α : Type} {a b : List α} {n : Nat} (h : a.length = n) : (a ++ b).take n = a := List.take_left' h
theorem drop_app {α : Type} {a b : List α} {n : Nat} (h : a.length = n) : (a ++ b).drop n = b := List.drop_left' h
section
variable {r : Rc} {key val : List UInt8}
theorem encB_parts (r : Rc) (key val rest : List UInt8) : encB r key val ++ rest = [UInt8.ofNat r.k.toNat] ++ (beB r.f 4 ++ (beB r.e 4 ++ (beB r.s 8 ++ (beB key.length 2 ++ (beB val.length 2 ++ (key ++ (val ++ rest))))))) := by
  unfold encB; simp only [List.append_assoc]
theorem encB_len' (r : Rc) (key val : List UInt8) : (encB r key val).length = 21 + key.length + val.length := by unfold encB; simp [beB_len]; omega
theorem right_bd (h : r.right key.length val.length = true) : r.s ≠ 0 ∧ 1 ≤ key.length ∧ key.length ≤ 250 ∧ val.length ≤ 512 ∧ (r.k = 1 ∨ r.k = 2) := by
  unfold Rc.right at h
  have := of_decide_eq_true h
  omega
theorem head_encB (h : r.right key.length val.length = true) (hf : r.fits) : headR (encB r key val) = r ∧ headN (encB r key val) = key.length ∧ headM (encB r key val) = val.length := by
  obtain ⟨hs, hk1, hk2, hv, hkk⟩ := right_bd h
  obtain ⟨f1, f2, f3⟩ := hf
  have e := encB_parts r key val []
  rw [List.append_nil] at e
  generalize encB r key val = b at *
  subst e
  have n0 : numB [UInt8.ofNat r.k.toNat] = r.k.toNat := by rcases hkk with h | h <;> rw [h] <;> rfl
  have hb8 : ∀ {x n : Nat}, x < 256 ^ n → numB (beB x n) = x := fun h => numB_beB' h
  have t1 : ([UInt8.ofNat r.k.toNat] ++ (beB r.f 4 ++ (beB r.e 4 ++ (beB r.s 8 ++ (beB key.length 2 ++ (beB val.length 2 ++ (key ++ (val ++ [])))))))).take 1 = [UInt8.ofNat r.k.toNat] := take_app rfl
  have d1 : ([UInt8.ofNat r.k.toNat] ++ (beB r.f 4 ++ (beB r.e 4 ++ (beB r.s 8 ++ (beB key.length 2 ++ (beB val.length 2 ++ (key ++ (val ++ [])))))))).drop 1 = beB r.f 4 ++ (beB r.e 4 ++ (beB r.s 8 ++ (beB key.length 2 ++ (beB val.length 2 ++ (key ++ (val ++ [])))))) := drop_app rfl
  have dn : ∀ n m, ([UInt8.ofNat r.k.toNat] ++ (beB r.f 4 ++ (beB r.e 4 ++ (beB r.s 8 ++ (beB key.length 2 ++ (beB val.length 2 ++ (key ++ (val ++ [])))))))).drop (n + m) = (([UInt8.ofNat r.k.toNat] ++ (beB r.f 4 ++ (beB r.e 4 ++ (beB r.s 8 ++ (beB key.length 2 ++ (beB val.length 2 ++ (key ++ (val ++ [])))))))).drop n).drop m := fun n m => (List.drop_drop ..).symm
  have d5 := dn 1 4
  rw [d1, drop_app (beB_len _ _)] at d5
  have d9 := dn 5 4
  rw [show 1 + 4 = 5 from rfl] at d5
  rw [d5, drop_app (beB_len _ _)] at d9
  have d17 := dn 9 8
  rw [show 5 + 4 = 9 from rfl] at d9
  rw [d9, drop_app (beB_len _ _)] at d17
  have d19 := dn 17 2
  rw [show 9 + 8 = 17 from rfl] at d17
  rw [d17, drop_app (beB_len _ _)] at d19
  rw [show 17 + 2 = 19 from rfl] at d19
  refine ⟨?_, ?_, ?_⟩
  · unfold headR
    rw [t1, d1, d5, d9, take_app (beB_len _ _), take_app (beB_len _ _), take_app (beB_len _ _), n0, hb8 (by omega), hb8 (by omega), hb8 (by omega)]
    rw [Int.toNat_of_nonneg (by omega)]
  · unfold headN
    rw [d17, take_app (beB_len _ _), hb8 (by omega)]
  · unfold headM
    rw [d19, take_app (beB_len _ _), hb8 (by omega)]
theorem encB_says (h : r.right key.length val.length = true) (hf : r.fits) : headE (encB r key val) = 0 ∧ needB (encB r key val) = (encB r key val).length ∧ decE (encB r key val) = 0 ∧ ((encB r key val).drop 21).take (headN (encB r key val)) = key ∧ ((encB r key val).drop (21 + headN (encB r key val))).take (headM (encB r key val)) = val := by
  obtain ⟨hR, hN, hM⟩ := head_encB h hf
  have hl := encB_len' r key val
  have he : headE (encB r key val) = 0 := by
    unfold headE
    rw [if_neg (by omega), hR, hN, hM, if_pos h]
  have hn : needB (encB r key val) = (encB r key val).length := by
    unfold needB
    rw [if_pos he, hN, hM, hl]
  have hsplit : encB r key val = ([UInt8.ofNat r.k.toNat] ++ beB r.f 4 ++ beB r.e 4 ++ beB r.s 8 ++ beB key.length 2 ++ beB val.length 2) ++ (key ++ val) := by unfold encB; simp only [List.append_assoc]
  have h21 : ([UInt8.ofNat r.k.toNat] ++ beB r.f 4 ++ beB r.e 4 ++ beB r.s 8 ++ beB key.length 2 ++ beB val.length 2).length = 21 := by simp [beB_len]
  refine ⟨he, hn, ?_, ?_, ?_⟩
  · unfold decE
    rw [if_pos he, hn, if_neg (by omega)]
  · rw [hN, hsplit, drop_app h21, take_app rfl]
  · rw [hN, hM, ← List.drop_drop, hsplit, drop_app h21, drop_app rfl, List.take_of_length_le (Nat.le_refl _)]
end
end Go.Oct
end

section
set_option linter.unusedVariables false
set_option linter.unusedSimpArgs false
namespace Go.Proofs.YtjmocjcjiiopnaaGreat
open Go.RowKit Go.Ice Go.Oct
theorem byt_form {w : World} {v : Value} {l : List UInt8} (h : BytesAt w v l) : ∃ a cap, v = .slice a l.length cap ∧ l.length ≤ maxLen := by
  obtain ⟨a, c, h1, h2⟩ := IsSl.form h
  rw [List.length_map] at h1 h2
  exact ⟨a, c, h1, h2⟩
theorem byt_at {w : World} {v : Value} {l : List UInt8} (h : BytesAt w v l) (hl : 0 < l.length) : ∃ b off cap, v = .slice (some ⟨b, off, none⟩) l.length cap ∧ l.length ≤ cap ∧ cap ≤ maxLen ∧ b < w.heap.size ∧ ∀ i, i < l.length → w.cell? ⟨b, off + i, none⟩ = some (.int .u8 (l.getD i 0).toNat) := by
  rcases h with ⟨h, _⟩ | ⟨_, b, off, cap, h1, h2, h3, h4, h5⟩
  · rw [List.map_eq_nil_iff] at h; subst h; simp at hl
  · rw [List.length_map] at h1 h2 h5
    refine ⟨b, off, cap, h1, h2, h3, h4, fun i hi => ?_⟩
    rw [h5 i hi, List.getElem?_map, List.getElem?_eq_getElem hi]
    simp [u8v, List.getD_eq_getElem?_getD, hi]
theorem list_eq_iff {α : Type} (d : α) {a b : List α} (h : a.length = b.length) : a = b ↔ ∀ i, i < a.length → a.getD i d = b.getD i d := by
  constructor
  · rintro rfl i _; rfl
  · intro hi
    refine List.ext_getElem h fun i h1 h2 => ?_
    have := hi i h1
    rwa [List.getD_eq_getElem?_getD, List.getD_eq_getElem?_getD, List.getElem?_eq_getElem h1, List.getElem?_eq_getElem h2] at this

theorem self_imp' {S1 S M : List Asn} (h : ∀ A ∈ S1, A ∈ S) : ∀ A ∈ S1, ∃ A' ∈ S ++ M, A'.imp A := fun A hA => ⟨A, List.mem_append_left _ (h A hA), .refl _⟩
/-- Whether two records are one. -/
def sameR (r s : Rc) (ka va kb vb : List UInt8) : Bool := decide (r.k = s.k ∧ r.f = s.f ∧ r.e = s.e ∧ r.s = s.s ∧ ka = kb ∧ va = vb)
end Go.Proofs.YtjmocjcjiiopnaaGreat
end

section
set_option linter.unusedVariables false
set_option linter.unusedSimpArgs false
namespace Go.Dsk
/-- A disk: what is safe, what is pending; whether it is dead, armed; how many writes are left; behind how many operations one fails. -/
structure Dk where
  safe : List (List UInt8)
  pend : List (Nat × List UInt8)
  dead : Bool
  armed : Bool
  left : Int
  fails : Int
structure Dk.ok (D : Dk) : Prop where
  s64 : ∀ b ∈ D.safe, b.length = 64
  p64 : ∀ x ∈ D.pend, x.2.length = 64 ∧ x.1 < D.safe.length
  len : 1 ≤ D.safe.length ∧ D.safe.length ≤ 2048
  plen : D.pend.length ≤ 1000000
  left0 : D.armed = true → 0 ≤ D.left ∧ D.left ≤ 9223372036854775807
  fails0 : 0 ≤ D.fails ∧ D.fails ≤ 4611686018427387904
def Dk.ready (D : Dk) (i : Int) : Dk × Nat :=
  if D.dead then (D, 7) else if i < 0 ∨ (D.safe.length : Int) ≤ i then (D, 2) else if D.fails = 1 then ({ D with fails := 0 }, 8)
  else if 1 < D.fails then ({ D with fails := D.fails - 1 }, 0) else (D, 0)
/-- One write or sync more; none: the power goes. -/
def Dk.go (D : Dk) : Option Dk := if D.armed then (if D.left = 0 then none else some { D with left := D.left - 1 }) else some D
def Dk.out (D : Dk) : Dk := { D with dead := true, armed := false }
theorem Dk.go_ok {D D2 : Dk} (h : D.ok) (hg : D.go = some D2) : D2.ok := by
  unfold Dk.go at hg
  split at hg
  · split at hg
    · cases hg
    · rename_i ha hl; cases hg; exact ⟨h.s64, h.p64, h.len, h.plen, fun _ => by have := h.left0 ha; simp; omega, h.fails0⟩
  · cases hg; exact h
theorem Dk.out_ok {D : Dk} (h : D.ok) : D.out.ok := ⟨h.s64, h.p64, h.len, h.plen, fun e => (by cases e), h.fails0⟩
theorem Dk.ready_cases (D : Dk) (i : Int) : (D.dead = true ∧ D.ready i = (D, 7)) ∨ (D.dead = false ∧ i < 0 ∧ D.ready i = (D, 2)) ∨ (D.dead = false ∧ 0 ≤ i ∧ (D.safe.length : Int) ≤ i ∧ D.ready i = (D, 2)) ∨
    (D.dead = false ∧ 0 ≤ i ∧ i < (D.safe.length : Int) ∧ D.fails = 1 ∧ D.ready i = ({ D with fails := 0 }, 8)) ∨ (D.dead = false ∧ 0 ≤ i ∧ i < (D.safe.length : Int) ∧ 1 < D.fails ∧ D.ready i = ({ D with fails := D.fails - 1 }, 0)) ∨
    (D.dead = false ∧ 0 ≤ i ∧ i < (D.safe.length : Int) ∧ D.fails < 1 ∧ D.ready i = (D, 0)) := by
  unfold Dk.ready
  cases hd : D.dead
  · by_cases h1 : i < 0
    · exact .inr (.inl ⟨rfl, h1, by simp [h1]⟩)
    · by_cases h2 : (D.safe.length : Int) ≤ i
      · exact .inr (.inr (.inl ⟨rfl, by omega, h2, by simp [h2]⟩))
      · have h12 : ¬ (i < 0 ∨ (D.safe.length : Int) ≤ i) := by omega
        by_cases h3 : D.fails = 1
        · exact .inr (.inr (.inr (.inl ⟨rfl, by omega, by omega, h3, by simp only [if_neg h12, if_pos h3]; rfl⟩)))
        · by_cases h4 : 1 < D.fails
          · exact .inr (.inr (.inr (.inr (.inl ⟨rfl, by omega, by omega, h4, by simp only [if_neg h12, if_neg h3, if_pos h4]; rfl⟩))))
          · exact .inr (.inr (.inr (.inr (.inr ⟨rfl, by omega, by omega, by omega, by simp only [if_neg h12, if_neg h3, if_neg h4]; rfl⟩))))
  · exact .inl ⟨rfl, by simp⟩
theorem Dk.ready_zero {D : Dk} {i : Int} (h : (D.ready i).2 = 0) : 0 ≤ i ∧ i < (D.safe.length : Int) ∧ (D.ready i).1.safe = D.safe ∧ (D.ready i).1.pend = D.pend := by
  rcases D.ready_cases i with ⟨_, e⟩ | ⟨_, _, e⟩ | ⟨_, _, _, e⟩ | ⟨_, _, _, _, e⟩ | ⟨_, h1, h2, _, e⟩ | ⟨_, h1, h2, _, e⟩ <;> rw [e] at h ⊢ <;> first | (cases h; done) | exact ⟨h1, h2, rfl, rfl⟩
theorem Dk.ready_same (D : Dk) (i : Int) : (D.ready i).1.safe = D.safe ∧ (D.ready i).1.pend = D.pend ∧ (D.ready i).1.dead = D.dead ∧ (D.ready i).1.armed = D.armed ∧ (D.ready i).1.left = D.left := by
  rcases D.ready_cases i with ⟨_, e⟩ | ⟨_, _, e⟩ | ⟨_, _, _, e⟩ | ⟨_, _, _, _, e⟩ | ⟨_, h1, h2, _, e⟩ | ⟨_, h1, h2, _, e⟩ <;> rw [e] <;> exact ⟨rfl, rfl, rfl, rfl, rfl⟩
theorem Dk.go_same {D D2 : Dk} (h : D.go = some D2) : D2.safe = D.safe ∧ D2.pend = D.pend ∧ D2.dead = D.dead ∧ D2.fails = D.fails := by
  unfold Dk.go at h
  split at h
  · split at h
    · cases h
    · cases h; exact ⟨rfl, rfl, rfl, rfl⟩
  · cases h; exact ⟨rfl, rfl, rfl, rfl⟩
theorem Dk.ready_ok {D : Dk} (h : D.ok) (i : Int) : (D.ready i).1.ok := by
  rcases D.ready_cases i with ⟨_, e⟩ | ⟨_, _, e⟩ | ⟨_, _, _, e⟩ | ⟨_, _, _, _, e⟩ | ⟨_, _, _, h1, e⟩ | ⟨_, _, _, _, e⟩ <;> rw [e]
  · exact h
  · exact h
  · exact h
  · exact ⟨h.s64, h.p64, h.len, h.plen, h.left0, by simp⟩
  · exact ⟨h.s64, h.p64, h.len, h.plen, h.left0, by have := h.fails0; simp; omega⟩
  · exact h
end Go.Dsk
namespace Go.Proofs.YtjmocjcjiiopnaaGreat
open Go.RowKit Go.Ice Go.Oct Go.Dsk
def flatB (l : List (List UInt8)) : List Value := l.flatMap fun b => b.map u8v
def flatW (l : List (Nat × List UInt8)) : List Value := l.flatMap fun x => .int .i64 x.1 :: x.2.map u8v
def dskC (s q : Value) (D : Dk) (o : Int) : List Value := [s, q, .bool D.dead, .bool D.armed, .int .i64 D.left, .int .i64 D.fails, .int .i64 o]
/-- The disk at p. -/
def dskA (p : Nat) (D : Dk) : Asn := exA fun x : Value × Value × Int => sepA [purA D.ok, blkA p (dskC x.1 x.2.1 D x.2.2) 106, ownA 38 64 x.1 D.safe.length (flatB D.safe), ownA 108 65 x.2.1 D.pend.length (flatW D.pend)]
section
variable {w0 w : World} {B : Nat → Prop} {M S : List Asn} {p : Nat} {D : Dk}
theorem dskA.open (h : St w0 B (dskA p D :: M) S w) : ∃ s q o, D.ok ∧ St w0 B (blkA p (dskC s q D o) 106 :: ownA 38 64 s D.safe.length (flatB D.safe) :: ownA 108 65 q D.pend.length (flatW D.pend) :: M) S w := by
  obtain ⟨⟨s, q, o⟩, h⟩ := h.open_
  obtain ⟨h1, h⟩ := h.flat.pur
  exact ⟨s, q, o, h1, h⟩
theorem dskA.close {s q : Value} {o : Int} (ok : D.ok) (h : St w0 B (blkA p (dskC s q D o) 106 :: ownA 38 64 s D.safe.length (flatB D.safe) :: ownA 108 65 q D.pend.length (flatW D.pend) :: M) S w) : St w0 B (dskA p D :: M) S w :=
  (St.bind (L := [_, _, _, _]) (h.addPur ok)).close_ (s, q, o)
end
set_option maxHeartbeats 4000000 in
set_option maxRecDepth 20000 in
theorem power (p : Nat) (D : Dk) : Meets Tryz.prog 79 #[.pointer (some ⟨p, 0, none⟩)] [dskA p D] [] fun v L => v = .int .i64 (if D.dead then 7 else 0) ∧ L = [dskA p D] := by
  intro w B H
  obtain ⟨s, q, o, ok, H⟩ := dskA.open H
  obtain ⟨hc, hf⟩ := H.cells 0
  unfold dskC at hc
  cases hd : D.dead <;> rw [hd] at hc
  all_goals
    go_enter Tryz.func79, Tryz.ntmps79
    go_wp2_with fail
    go_ret
    exact Back.mk ⟨by simp [hd], rfl⟩ (dskA.close ok H)
theorem power_up (p : Nat) {D : Dk} (h : D.dead = false) : Meets Tryz.prog 79 #[.pointer (some ⟨p, 0, none⟩)] [dskA p D] [] fun v L => v = .int .i64 0 ∧ L = [dskA p D] := by
  have := power p D
  rw [h] at this
  exact this
theorem power_dead (p : Nat) {D : Dk} (h : D.dead = true) : Meets Tryz.prog 79 #[.pointer (some ⟨p, 0, none⟩)] [dskA p D] [] fun v L => v = .int .i64 7 ∧ L = [dskA p D] := by
  have := power p D
  rw [h] at this
  exact this
set_option maxHeartbeats 4000000 in
set_option maxRecDepth 20000 in
theorem ready (p : Nat) (D : Dk) (i : Int) : Meets Tryz.prog 38 #[.pointer (some ⟨p, 0, none⟩), .int .i64 i] [dskA p D] [] fun v L => v = .int .i64 (D.ready i).2 ∧ L = [dskA p (D.ready i).1] := by
  intro w B H
  rcases D.ready_cases i with ⟨hd, e⟩ | ⟨hd, h1, e⟩ | ⟨hd, h1, h2, e⟩ | ⟨hd, h1, h2, h3, e⟩ | ⟨hd, h1, h2, h3, e⟩ | ⟨hd, h1, h2, h3, e⟩ <;> rw [e] <;> clear e
  all_goals
    go_enter Tryz.func38, Tryz.ntmps38
    go_wp2_with fail
    refine ((power p D).call0 H (by simp)).mono ?_
    rintro e w1 ⟨v, L, rfl, ⟨rfl, rfl⟩, H1⟩
    clear H
    rw [hd]
    obtain ⟨s, q, o, ok, H⟩ := dskA.open H1
    obtain ⟨a, c, rfl, hc⟩ := own_form (H.own 1)
    obtain ⟨hF0, hF1⟩ := ok.fails0
    obtain ⟨hc, hf⟩ := H.cells 0
    unfold dskC at hc
    go_wp2_with fail
  all_goals try go_ret
  · exact Back.mk ⟨rfl, rfl⟩ (dskA.close ok H)
  · exact Back.mk ⟨rfl, rfl⟩ (dskA.close ok H)
  · exact Back.mk ⟨rfl, rfl⟩ (dskA.close ok H)
  · exact Back.mk ⟨rfl, rfl⟩ (dskA.close (D := { D with fails := 0 }) ⟨ok.s64, ok.p64, ok.len, ok.plen, ok.left0, by simp⟩ (H.set0 5 _))
  · exact Back.mk ⟨rfl, rfl⟩ (dskA.close (D := { D with fails := D.fails - 1 }) ⟨ok.s64, ok.p64, ok.len, ok.plen, ok.left0, by have := ok.fails0; simp; omega⟩ (H.set0 5 _))
  · exact Back.mk ⟨rfl, rfl⟩ (dskA.close ok H)
set_option maxHeartbeats 4000000 in
set_option maxRecDepth 20000 in
theorem do_none (p : Nat) (D : Dk) (f : Value) (h : D.go = none) : Meets Tryz.prog 39 #[.pointer (some ⟨p, 0, none⟩), f] [dskA p D] [] fun v L => v = .int .i64 7 ∧ L = [dskA p D.out] := by
  intro w B H
  have h0 : D.armed = true ∧ D.left = 0 := by unfold Dk.go at h; split at h; split at h; exact ⟨by assumption, by assumption⟩; cases h; cases h
  obtain ⟨ha, hl⟩ := h0
  obtain ⟨s, q, o, ok, H⟩ := dskA.open H
  obtain ⟨hc, hf⟩ := H.cells 0
  unfold dskC at hc
  rw [ha, hl] at hc
  go_enter Tryz.func39, Tryz.ntmps39
  go_wp2_with fail
  go_ret
  exact Back.mk ⟨rfl, rfl⟩ (dskA.close (D := D.out) (Dk.out_ok ok) ((H.set0 2 _).set0 3 _))
set_option maxHeartbeats 4000000 in
set_option maxRecDepth 20000 in
theorem do_some (p : Nat) (D D2 : Dk) (k : FuncId) (caps : Array Value) (h : D.go = some D2) (hcf : ∀ w, (callFunc k caps).run Tryz.prog w = .ok (.enter k caps) w) (X S : List Asn) (Q : Value → List Asn → Prop) (hk : Meets Tryz.prog k caps (dskA p D2 :: X) S Q) :
    Meets Tryz.prog 39 #[.pointer (some ⟨p, 0, none⟩), .func (.func k) #[] caps] (dskA p D :: X) S fun v L => v = .int .i64 0 ∧ ∃ u, Q u L := by
  intro w B H
  have h0 : (D.armed = true ∧ D.left ≠ 0 ∧ D2 = { D with left := D.left - 1 }) ∨ (D.armed = false ∧ D2 = D) := by
    unfold Dk.go at h
    split at h
    · split at h
      · cases h
      · cases h; exact .inl ⟨by assumption, by assumption, rfl⟩
    · cases h; exact .inr ⟨by rename_i h1; simpa using h1, rfl⟩
  obtain ⟨s, q, o, ok, H⟩ := dskA.open H
  have ok2 := Dk.go_ok ok h
  have hl01 := ok.left0
  obtain ⟨hc, hf⟩ := H.cells 0
  unfold dskC at hc
  rcases h0 with ⟨ha, hl, rfl⟩ | ⟨ha, rfl⟩ <;> rw [ha] at hc
  · obtain ⟨hl0, hl1⟩ := hl01 ha
    clear hl01
    go_enter Tryz.func39, Tryz.ntmps39
    go_wp2_with fail
    refine (hk.all (dskA.close (D := { D with left := D.left - 1 }) ok2 ((H.set0 4 _).set0 6 _))).mono ?_
    rintro e w1 ⟨v, L, rfl, hQ, H1⟩
    go_wp2_with fail
    go_ret
    exact Back.mk ⟨rfl, _, hQ⟩ H1
  · go_enter Tryz.func39, Tryz.ntmps39
    go_wp2_with fail
    refine (hk.all (dskA.close ok2 (H.set0 6 _))).mono ?_
    rintro e w1 ⟨v, L, rfl, hQ, H1⟩
    go_wp2_with fail
    go_ret
    exact Back.mk ⟨rfl, _, hQ⟩ H1
end Go.Proofs.YtjmocjcjiiopnaaGreat
end

section
set_option linter.unusedVariables false
set_option linter.unusedSimpArgs false
namespace Go.Dsk
/-- What the first k pending writes make of what is safe, those that live. -/
def stl (live : Nat → Bool) (pend : List (Nat × List UInt8)) (safe : List (List UInt8)) : Nat → List (List UInt8)
  | 0 => safe
  | k + 1 => match pend[k]? with
    | some x => if live k then (stl live pend safe k).set x.1 x.2 else stl live pend safe k
    | none => stl live pend safe k
def Dk.settle (D : Dk) (live : Nat → Bool) : Dk := { D with safe := stl live D.pend D.safe D.pend.length, pend := [] }
theorem stl_len (live : Nat → Bool) (pend : List (Nat × List UInt8)) (safe : List (List UInt8)) : ∀ k, (stl live pend safe k).length = safe.length
  | 0 => rfl
  | k + 1 => by
    unfold stl
    split
    · split
      · rw [List.length_set, stl_len live pend safe k]
      · exact stl_len live pend safe k
    · exact stl_len live pend safe k
theorem stl_64 (live : Nat → Bool) {pend : List (Nat × List UInt8)} {safe : List (List UInt8)} (hs : ∀ b ∈ safe, b.length = 64) (hp : ∀ x ∈ pend, x.2.length = 64) : ∀ k, ∀ b ∈ stl live pend safe k, b.length = 64
  | 0 => hs
  | k + 1 => by
    unfold stl
    split
    · rename_i x hx
      split
      · intro b hb
        rcases List.mem_or_eq_of_mem_set hb with h | h
        · exact stl_64 live hs hp k b h
        · rw [h]; exact hp x (List.mem_of_getElem? hx)
      · exact stl_64 live hs hp k
    · exact stl_64 live hs hp k
theorem Dk.settle_ok {D : Dk} (h : D.ok) (live : Nat → Bool) : (D.settle live).ok :=
  ⟨stl_64 live h.s64 (fun x hx => (h.p64 x hx).1) _, fun x hx => (by cases hx), by show 1 ≤ (stl _ _ _ _).length ∧ (stl _ _ _ _).length ≤ 2048; rw [stl_len]; exact h.len, by simp [Dk.settle], h.left0, h.fails0⟩
end Go.Dsk
namespace Go.Proofs.YtjmocjcjiiopnaaGreat
open Go.RowKit Go.Ice Go.Oct Go.Dsk
def wrC (x : Nat × List UInt8) : List Value := .int .i64 x.1 :: x.2.map u8v
theorem wrC_one (x : Nat × List UInt8) : ∀ u ∈ wrC x, u.oneCell' = true := by
  intro u hu
  rcases List.mem_cons.1 hu with rfl | hu
  · rfl
  · obtain ⟨c, _, rfl⟩ := List.mem_map.1 hu; rfl
theorem flatW_eq (l : List (Nat × List UInt8)) : flatW l = l.flatMap wrC := rfl
theorem bigWrote : Big Tryz.prog 108 65 := ⟨⟨_, Tryz.underlying108, rfl⟩, by kernel_rfl⟩
set_option maxHeartbeats 8000000 in
set_option maxRecDepth 20000 in
theorem settle (p : Nat) (D : Dk) (k : FuncId) (caps : Array Value) (hcf : ∀ w i, (callFunc k (#[.int .i64 i] ++ caps)).run Tryz.prog w = .ok (.enter k (#[.int .i64 i] ++ caps)) w) (X S : List Asn) (live : Nat → Bool) (hk : ∀ i : Nat, i < D.pend.length → Meets Tryz.prog k (#[.int .i64 i] ++ caps) X S fun v L => v = .bool (live i) ∧ L = X) :
    Meets Tryz.prog 113 #[.pointer (some ⟨p, 0, none⟩), .func (.func k) #[] caps] (dskA p D :: X) S fun v L => v = .tuple #[] ∧ L = dskA p (D.settle live) :: X := by
  intro w B H
  obtain ⟨s, q, o, ok, H⟩ := dskA.open H
  obtain ⟨qa, qc, rfl, hqm⟩ := own_form (H.own 2)
  obtain ⟨sa, sc, rfl, hsm⟩ := own_form (H.own 1)
  obtain ⟨hc, hf⟩ := H.cells 0
  unfold dskC at hc
  have hpl := ok.plen
  have hw0 := hc
  go_enter Tryz.func113, Tryz.ntmps113
  go_wp2_with fail
  clear hc hf
  go_loopg [11] D.pend.length (fun gg b11 wr => ∃ j : Nat, j ≤ D.pend.length ∧ gg = D.pend.length - j ∧ b11 = .int .i64 j ∧ St w B (blkA p (dskC (.slice sa D.safe.length sc) (.slice qa D.pend.length qc) D o) 106 :: ownA 38 64 (.slice sa D.safe.length sc) D.safe.length (flatB (stl live D.pend D.safe j)) :: ownA 108 65 (.slice qa D.pend.length qc) D.pend.length (flatW D.pend) :: X) S wr)
  case atStart => exact ⟨0, Nat.zero_le _, rfl, rfl, H⟩
  case round =>
  clear H
  obtain ⟨j, hj, rfl, rfl, H⟩ := hrel
  by_cases hlt : j < D.pend.length
  · obtain ⟨g, rfl, hg1, hg2⟩ := own_pos (H.own 2) (by omega)
    obtain ⟨x, hx⟩ : ∃ x, D.pend[j]? = some x := ⟨_, List.getElem?_eq_getElem hlt⟩
    have hxl : (wrC x).length = 65 := by have := (ok.p64 x (List.mem_of_getElem? hx)).1; simp [wrC, this]
    have HR : wr.rangeAt g (j * 65) (wrC x) := rangeAt_flat (own_range (H.own 2)) (fun y hy => by simp [wrC, (ok.p64 y hy).1]) hx
    go_wp2_with (first | (refine wpl_load rfl _ _ rfl g (j * 65) (by rfl) (wrC x) 65 hxl HR bigWrote ?_) | (refine wpl_store rfl _ _ _ rfl wr.heap.size 0 (by rfl) (wrC x) (by rfl) 65 hxl (there_whole _ _ _ _ (by decide)) bigWrote (wrC_one x) ?_))
    have H1 := (H.whole Tryz.zeroCells108 108 (wrC x) (by rw [hxl]; rfl))
    refine ((hk j hlt).call (St.back (M := [_, _, _, _]) H1) (self_imp _ _)).mono ?_
    rintro e w1 ⟨v, L, rfl, ⟨rfl, hL⟩, H2⟩
    have H3 := St.back (M := L) H2
    rw [hL] at H3
    clear H1 H2 H HR hL
    cases hlv : live j
    · go_wp2_with fail
      go_roundg (D.pend.length - (j + 1))
      case measure => omega
      case rel => exact ⟨j + 1, by omega, rfl, by first | rfl | (congr 1; omega), by
        have e : stl live D.pend D.safe (j + 1) = stl live D.pend D.safe j := by rw [stl, hx]; simp [hlv]
        rw [e]; exact H3.tail⟩
    · obtain ⟨g2, rfl, hg3, hg4⟩ := own_pos (H3.own 2) (by have := ok.len; omega)
      have hx1 := ok.p64 x (List.mem_of_getElem? hx)
      have hxi0 : (0 : Int) ≤ (x.1 : Int) := by omega
      have hxi1 : (x.1 : Int) < (D.safe.length : Int) := by omega
      have hx64 : (x.2.map u8v).length = 64 := by rw [List.length_map]; exact hx1.1
      go_wp2_with fail
      refine wp_tail (fun W => St w B _ S W) 9 H3.drew (by kernel_rfl) (by kernel_rfl) ?_
      intro w2 H4
      clear H3
      obtain ⟨hc, hf⟩ := H4.cells 1
      obtain ⟨hcx, hfx⟩ := H4.cells 0
      unfold dskC at hc
      unfold wrC at hcx
      simp only [List.take_succ_cons, List.take_zero, List.drop_succ_cons, List.drop_zero]
      repeat still_step
      refine wps_load rfl _ _ rfl wr.heap.size 1 (by rfl) hx64 ((rangeAt_append (l := [.int .i64 x.1])).1 (H4.range 0) |>.2) bigBlock ?_
      repeat still_step
      refine wpStill_nil ?_
      clear hc hf hcx hfx
      have HT : w2.there g2 (x.1 * 64) 64 := own_there (H4.own 2) (by omega)
      refine wpl_store rfl _ _ _ rfl g2 (x.1 * 64) (by rfl) (x.2.map u8v) (by rfl) 64 hx64 HT bigBlock (u8v_one _) ?_
      go_wp2_with fail
      go_roundg (D.pend.length - (j + 1))
      case measure => omega
      case rel => exact ⟨j + 1, by omega, rfl, by first | rfl | (congr 1; omega), by
        have e : stl live D.pend D.safe (j + 1) = (stl live D.pend D.safe j).set x.1 x.2 := by rw [stl, hx]; simp [hlv]
        rw [e]; exact (H4.setElem (f := fun b => b.map u8v) 2 x.1 x.2 rfl (fun b hb => by rw [List.length_map]; exact stl_64 live ok.s64 (fun y hy => (ok.p64 y hy).1) j b hb) (stl_len _ _ _ _) hx1.2 hx64).tail⟩
  · obtain rfl : j = D.pend.length := by omega
    obtain ⟨hc, hf⟩ := H.cells 0
    unfold dskC at hc
    go_wp2_with fail
    go_end0
    exact Back.mk ⟨rfl, rfl⟩ (dskA.close (D := D.settle live) (Dk.settle_ok ok live) (by
      have e1 : (D.settle live).safe.length = D.safe.length := stl_len _ _ _ _
      rw [e1]
      exact (H.set0 1 (.slice none 0 0)).nilAt 2 rfl _ _))
end Go.Proofs.YtjmocjcjiiopnaaGreat
end

section
set_option linter.unusedVariables false
set_option linter.unusedSimpArgs false
namespace Go.Dsk
/-- A write or a sync. -/
def Dk.op (D : Dk) (i : Int) (f : Dk → Dk) : Dk × Nat :=
  if (D.ready i).2 = 0 then (match (D.ready i).1.go with
    | none => ((D.ready i).1.out, 7)
    | some D2 => (f D2, 0))
  else D.ready i
theorem Dk.op_cases (D : Dk) (i : Int) (f : Dk → Dk) : ((((D.ready i).2 : Int) == 0) = false ∧ D.op i f = D.ready i) ∨ ((D.ready i).2 = 0 ∧ (D.ready i).1.go = none ∧ D.op i f = ((D.ready i).1.out, 7)) ∨ (∃ D2, (D.ready i).2 = 0 ∧ (D.ready i).1.go = some D2 ∧ D.op i f = (f D2, 0)) := by
  unfold Dk.op
  by_cases h : (D.ready i).2 = 0
  · rw [if_pos h]
    cases hg : (D.ready i).1.go with
    | none => exact .inr (.inl ⟨h, rfl, rfl⟩)
    | some D2 => exact .inr (.inr ⟨D2, h, rfl, rfl⟩)
  · rw [if_neg h]
    exact .inl ⟨by simp; omega, rfl⟩
def Dk.sync (D : Dk) : Dk × Nat := D.op 0 fun D => D.settle fun _ => true
def Dk.write (D : Dk) (i : Int) (b : List UInt8) : Dk × Nat := D.op i fun D => { D with pend := D.pend ++ [(i.toNat, b)] }
end Go.Dsk
namespace Go.Proofs.YtjmocjcjiiopnaaGreat
open Go.RowKit Go.Ice Go.Oct Go.Dsk
set_option maxHeartbeats 8000000 in
set_option maxRecDepth 20000 in
theorem sync1 (p bx : Nat) (D : Dk) : Meets Tryz.prog 112 #[.pointer (some ⟨bx, 0, none⟩)] [dskA p D, blkA bx [.pointer (some ⟨p, 0, none⟩)] 29] [] fun v L => v = .tuple #[] ∧ L = [dskA p (D.settle fun _ => true), blkA bx [.pointer (some ⟨p, 0, none⟩)] 29] := by
  intro w B H
  obtain ⟨hc, hf⟩ := H.cells 1
  have hs : ∀ i : Nat, i < D.pend.length → Meets Tryz.prog 114 (#[.int .i64 i] ++ #[]) [] [] fun v L => v = .bool true ∧ L = [] := by
    intro i hi w B H
    go_enter Tryz.func114, Tryz.ntmps114
    go_wp2_with fail
    go_ret
    exact Back.mk ⟨rfl, rfl⟩ H
  have hS := settle p D 114 #[] (fun w i => by kernel_rfl) [] [] (fun _ => true) hs
  go_enter Tryz.func112, Tryz.ntmps112
  go_wp2_with fail
  refine (hS.call (M := [blkA bx _ _]) H (by simp)).mono ?_
  rintro e w1 ⟨v, L, rfl, ⟨rfl, rfl⟩, H1⟩
  go_wp2_with fail
  go_end0
  exact Back.mk ⟨rfl, rfl⟩ H1
set_option maxHeartbeats 8000000 in
set_option maxRecDepth 20000 in
theorem sync (p : Nat) (D : Dk) : Meets Tryz.prog 67 #[.pointer (some ⟨p, 0, none⟩)] [dskA p D] [] fun v L => v = .int .i64 D.sync.2 ∧ L = [dskA p D.sync.1] := by
  intro w B H
  have hb := H.alloc [.pointer (some ⟨p, 0, none⟩)] 29
  rcases D.op_cases 0 fun D => D.settle fun _ => true with ⟨h0, e0⟩ | ⟨h0, h1, e0⟩ | ⟨D2, h0, h1, e0⟩ <;> unfold Dk.sync <;> rw [e0]
  all_goals
    go_enter Tryz.func67, Tryz.ntmps67
    go_wp2_with fail
    refine ((ready p D 0).call (M := [blkA _ _ _]) hb.swap (by simp)).mono ?_
    rintro e w1 ⟨v, L, rfl, ⟨rfl, rfl⟩, H1⟩
    obtain ⟨hc, hf⟩ := St.cells H1 1
  · go_wp2_with fail
    go_ret
    exact Back.mk ⟨rfl, rfl⟩ (St.pick H1 [0])
  · rw [h0]
    go_wp2_with fail
    refine ((do_none p _ _ h1).call (M := [blkA _ _ _]) H1 (by simp)).mono ?_
    rintro e w2 ⟨v, L, rfl, ⟨rfl, rfl⟩, H2⟩
    go_wp2_with fail
    go_ret
    exact Back.mk ⟨rfl, rfl⟩ (St.pick H2 [0])
  · rw [h0]
    go_wp2_with fail
    refine ((do_some p _ _ _ _ h1 (fun w => by kernel_rfl) [blkA _ _ _] [] _ (sync1 p _ D2)).all H1).mono ?_
    rintro e w2 ⟨v, L, rfl, ⟨rfl, u, rfl, rfl⟩, H2⟩
    go_wp2_with fail
    go_ret
    exact Back.mk ⟨rfl, rfl⟩ (St.pick H2 [0])
end Go.Proofs.YtjmocjcjiiopnaaGreat
end

section
set_option linter.unusedVariables false
set_option linter.unusedSimpArgs false
namespace Go.Dsk
def Dk.new (n : Nat) : Dk := ⟨List.replicate n (List.replicate 64 0), [], false, false, 0, 0⟩
def Dk.arm (D : Dk) (n : Int) : Dk × Nat := if D.dead then (D, 7) else ({ D with armed := decide (0 ≤ n), left := n }, 0)
def Dk.fail (D : Dk) (n : Int) : Dk × Nat := if D.dead then (D, 7) else ({ D with fails := if 0 ≤ n ∧ n < 4611686018427387904 then n + 1 else 0 }, 0)
def Dk.crash (D : Dk) (keep : List Bool) : Dk := { D.settle (fun i => keep.getD i false) with dead := false, armed := false, fails := 0 }
theorem Dk.new_ok {n : Nat} (h : 1 ≤ n ∧ n ≤ 2048) : (Dk.new n).ok :=
  ⟨fun b hb => (by rw [List.eq_of_mem_replicate hb]; simp), fun x hx => (by cases hx), by simpa [Dk.new] using h, by simp [Dk.new], fun e => (by cases e), by simp [Dk.new]⟩
theorem Dk.crash_ok {D : Dk} (h : D.ok) (keep : List Bool) : (D.crash keep).ok := by
  have := Dk.settle_ok h fun i => keep.getD i false
  exact ⟨this.s64, this.p64, this.len, this.plen, fun e => (by cases e), by simp [Dk.crash]⟩
end Go.Dsk
namespace Go.Proofs.YtjmocjcjiiopnaaGreat
open Go.RowKit Go.Ice Go.Oct Go.Dsk
set_option maxHeartbeats 8000000 in
set_option maxRecDepth 20000 in
theorem len (p : Nat) (D : Dk) : Meets Tryz.prog 118 #[.pointer (some ⟨p, 0, none⟩)] [dskA p D] [] fun v L => v = .int .i64 D.safe.length ∧ L = [dskA p D] := by
  intro w B H
  obtain ⟨s, q, o, ok, H⟩ := dskA.open H
  obtain ⟨sa, sc, rfl, hsm⟩ := own_form (H.own 1)
  obtain ⟨hc, hf⟩ := H.cells 0
  unfold dskC at hc
  go_enter Tryz.func118, Tryz.ntmps118
  go_wp2_with fail
  go_ret
  exact Back.mk ⟨rfl, rfl⟩ (dskA.close ok H)
set_option maxHeartbeats 8000000 in
set_option maxRecDepth 20000 in
theorem new (n : Nat) (hn : 1 ≤ n ∧ n ≤ 2048) : Meets Tryz.prog 35 #[.int .i64 n] [] [] fun v L => ∃ p, v = .tuple #[.pointer (some ⟨p, 0, none⟩), .int .i64 0] ∧ L = [dskA p (Dk.new n)] := by
  intro w B H
  obtain ⟨g, w1, hr, H1⟩ := H.make elemBlock (f := fun b : List UInt8 => b.map u8v) (List.replicate 64 0) rfl n (by omega) (by unfold maxLen; omega)
  have HR := Lib.hid hr
  clear hr
  obtain ⟨hn0, hn1⟩ := hn
  have h0 : (1 : Int) ≤ (n : Int) := by omega
  have h1 : (n : Int) ≤ 2048 := by omega
  go_enter Tryz.func35, Tryz.ntmps35
  go_wp2_with (refine wpl_make rfl _ _ _ rfl rfl rfl HR.out ?_)
  go_ret2
  exact Back.mk ⟨w1.heap.size, rfl, rfl⟩ (dskA.close (D := Dk.new n) (Dk.new_ok ⟨hn0, hn1⟩) (by
    have e1 : (Dk.new n).safe.length = n := by simp [Dk.new]
    rw [e1]
    exact ((H1.newNil _ _).alloc _ _).pick [0, 2, 1]))
end Go.Proofs.YtjmocjcjiiopnaaGreat
end

section
set_option linter.unusedVariables false
set_option linter.unusedSimpArgs false
namespace Go.Proofs.YtjmocjcjiiopnaaGreat
open Go.RowKit Go.Ice Go.Oct Go.Dsk
end Go.Proofs.YtjmocjcjiiopnaaGreat
end
