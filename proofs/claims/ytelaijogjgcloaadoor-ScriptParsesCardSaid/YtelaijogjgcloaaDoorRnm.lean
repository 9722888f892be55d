/- The document's Number, word, Plan. Conditions: numbers have at most ten digits. -/
import Derived.Test.YtelaijogjgcloaaDoorOnl
set_option linter.unusedVariables false
set_option linter.unusedSimpArgs false
namespace Go.Proofs.YtelaijogjgcloaaDoor
open Go.RowKit Go.Ice Go.Scr

/-- A number's text has at most ten bytes, below ten thousand millions. -/
theorem numT_len10 {n : Int} (h0 : 0 ≤ n) (h1 : n < 10000000000) : (numT n).length ≤ 10 := by
  obtain ⟨u, rfl⟩ := Int.eq_ofNat_of_zero_le h0
  have e : numT (u : Int) = Go.Lib.decDigits u := by
    unfold numT Go.Lib.itoa
    rw [if_neg (by omega)]
    rfl
  rw [e]
  exact dec_len 9 u (by omega)
def digC (d : Int) : UInt8 := UInt8.ofNat (48 + d.toNat)
theorem utf_dig {d : Int} (h0 : 0 ≤ d) (h1 : d ≤ 9) : Utf8.encode (48 + d) = ⟨[digC d].toArray⟩ := by
  obtain rfl | rfl | rfl | rfl | rfl | rfl | rfl | rfl | rfl | rfl : d = 0 ∨ d = 1 ∨ d = 2 ∨ d = 3 ∨ d = 4 ∨ d = 5 ∨ d = 6 ∨ d = 7 ∨ d = 8 ∨ d = 9 := by omega
  all_goals rfl
theorem numT_small {n : Int} (h0 : 0 ≤ n) (h1 : n ≤ 9) : numT n = [digC n] := by
  obtain ⟨u, rfl⟩ := Int.eq_ofNat_of_zero_le h0
  unfold numT Go.Lib.itoa
  rw [if_neg (by omega), show (u : Int).toNat = u from rfl, dec_small (by omega)]
  rfl
theorem numT_big {n : Int} (h : 9 < n) : numT n = numT (n / 10) ++ [digC (n % 10)] := by
  obtain ⟨u, rfl⟩ := Int.eq_ofNat_of_zero_le (show 0 ≤ n by omega)
  unfold numT Go.Lib.itoa
  rw [if_neg (by omega), if_neg (by omega), show (u : Int).toNat = u from rfl, dec_big (by omega), show ((u : Int) / 10).toNat = u / 10 by omega]
  unfold digC
  rw [show ((u : Int) % 10).toNat = u % 10 by omega]
theorem txt_cat (a b : Txt) : (⟨a.toArray⟩ : ByteArray) ++ ⟨b.toArray⟩ = ⟨(a ++ b).toArray⟩ := by
  apply ByteArray.ext
  rw [ByteArray.data_append]
  simp
theorem txt_size (a : Txt) : (⟨a.toArray⟩ : ByteArray).size = a.length := by show a.toArray.size = _; simp

set_option maxHeartbeats 8000000 in
set_option maxRecDepth 20000 in
theorem number53 (w : World) (n : Int) (h0 : 0 ≤ n) (h1 : n < 10000000000) :
    Calls Tryd.prog 53 #[.int .i64 n] w fun e w' => e = .returned (.string ⟨(numT n).toArray⟩) ∧ w' = w := by
  obtain ⟨t, ht⟩ : ∃ t, t = numT n := ⟨_, rfl⟩
  rw [← ht]
  have HT := Lib.hid ht
  have HL : Hid (t.length ≤ 10) := by show _ ≤ _; rw [ht]; exact numT_len10 h0 h1
  clear ht
  go_enter Tryd.func53, Tryd.ntmps53
  go_wp2_with fail
  go_loopg [0, 3] n.toNat (fun g nv sv wr => ∃ (m : Int) (s : Txt), g = m.toNat ∧ nv = .int .i64 m ∧ 0 ≤ m ∧ m < 10000000000 ∧ sv = .string ⟨s.toArray⟩ ∧ wr = w ∧ Hid (t = numT m ++ s))
  case atStart => exact ⟨n, [], rfl, rfl, h0, h1, rfl, rfl, Lib.hid (by rw [HT.out]; simp)⟩
  case round =>
    obtain ⟨m, s, rfl, rfl, hm0, hm1, rfl, rfl, HJ⟩ := hrel
    have hsl : s.length ≤ 10 := by have := HL.out; rw [HJ.out, List.length_append] at this; omega
    by_cases h9 : 9 < m
    · have he : Utf8.encode (48 + m % 10) = ⟨[digC (m % 10)].toArray⟩ := utf_dig (by omega) (by omega)
      have hsz : (Utf8.encode (48 + m % 10)).size = 1 := by rw [he]; rfl
      have hq : ¬ 9223372036854775807 < (Utf8.encode (48 + m % 10)).size + s.length := by rw [hsz]; omega
      have HE := Lib.hid he
      clear he hsz
      go_wp2_with fail
      go_roundg ((m / 10).toNat)
      case measure => omega
      case rel => exact ⟨m / 10, digC (m % 10) :: s, rfl, rfl, by omega, by omega, by rw [HE.out, txt_cat]; rfl, rfl, Lib.hid (by rw [HJ.out, numT_big h9]; simp)⟩
    · have he : Utf8.encode (48 + m) = ⟨[digC m].toArray⟩ := utf_dig (by omega) (by omega)
      have hsz : (Utf8.encode (48 + m)).size = 1 := by rw [he]; rfl
      have hq : ¬ 9223372036854775807 < (Utf8.encode (48 + m)).size + s.length := by rw [hsz]; omega
      have HE := Lib.hid he
      clear he hsz
      go_wp2_with fail
      go_ret
      exact ⟨by rw [HE.out, txt_cat, HJ.out, numT_small hm0 (by omega)]; rfl, rfl⟩

set_option maxHeartbeats 8000000 in
set_option maxRecDepth 20000 in
theorem word54 (w : World) (k : Int) (h0 : 1 ≤ k) (h1 : k ≤ 8) :
    Calls Tryd.prog 54 #[.int .i64 k] w fun e w' => e = .returned (.string ⟨(Scr.word k).toArray⟩) ∧ w' = w := by
  obtain ⟨r, hr⟩ : ∃ r, r = (Scr.word k) := ⟨_, rfl⟩
  rw [← hr]
  have x : ∀ w : World, (Instr.index 111 (.agg #[.string ⟨#[]⟩, .string ⟨#[98, 121, 116, 101, 115]⟩, .string ⟨#[116, 105, 99, 107]⟩, .string ⟨#[99, 108, 101, 97, 110]⟩, .string ⟨#[115, 121, 110, 99]⟩, .string ⟨#[97, 114, 109]⟩, .string ⟨#[102, 97, 105, 108]⟩, .string ⟨#[99, 114, 97, 115, 104]⟩, .string ⟨#[111, 112, 101, 110]⟩]) (.int .i64 k)).run Tryd.prog w = .ok (.string ⟨r.toArray⟩) w := fun w => by
    rw [hr]
    obtain rfl | rfl | rfl | rfl | rfl | rfl | rfl | rfl : k = 1 ∨ k = 2 ∨ k = 3 ∨ k = 4 ∨ k = 5 ∨ k = 6 ∨ k = 7 ∨ k = 8 := by omega
    all_goals kernel_rfl
  clear hr h0 h1
  go_enter Tryd.func54, Tryd.ntmps54
  go_wp2_with fail
  go_ret
  exact ⟨rfl, rfl⟩

def planN5 (p : Plan) : List Int := [p.g, p.s, p.l, p.p, p.c]
theorem lineP_5 (p : Plan) : lineP p ++ [10] = wPlan ++ 32 :: numT p.g ++ 32 :: numT p.s ++ 32 :: numT p.l ++ 32 :: numT p.p ++ 32 :: numT p.c ++ [10] := by
  simp [lineP, planL, joinC]
def restT (l : List Int) : Txt := l.flatMap fun n => 32 :: numT n
theorem lineP_rest (p : Plan) : lineP p = wPlan ++ restT (planN5 p) := by
  simp [lineP, planL, joinC, restT, planN5]
theorem restT_take {l : List Int} {k : Nat} {n : Int} (h : l[k]? = some n) : restT (l.take (k + 1)) = restT (l.take k) ++ 32 :: numT n := by
  unfold restT; rw [List.take_add_one, h]; simp
theorem restT_len : ∀ (l : List Int), (∀ n ∈ l, 0 ≤ n ∧ n < 10000000000) → (restT l).length ≤ 11 * l.length
  | [], _ => by simp [restT]
  | n :: l, h => by
    have ih := restT_len l (fun y hy => h y (.tail _ hy))
    have h0 := h n (.head _)
    have h1 := numT_len10 h0.1 h0.2
    have e : restT (n :: l) = (32 :: numT n) ++ restT l := by simp [restT]
    rw [e]; simp only [List.length_append, List.length_cons]; omega

set_option maxHeartbeats 8000000 in
set_option maxRecDepth 20000 in
theorem plan36 (w : World) (p : Plan) (hp : ∀ n ∈ planN5 p, 0 ≤ n ∧ n < 10000000000) :
    Calls Tryd.prog 36 #[.agg #[.int .i64 p.g, .int .i64 p.s, .int .i64 p.l, .int .i64 p.p, .int .i64 p.c]] w fun e w' => e = .returned (.string ⟨(lineP p ++ [10]).toArray⟩) ∧ Below w.heap.size w w' := by
  obtain ⟨t, ht⟩ : ∃ t, t = lineP p ++ [10] := ⟨_, rfl⟩
  rw [← ht]
  have HT := Lib.hid ht
  have HPP := Lib.hid hp
  clear ht hp
  obtain ⟨S, W0, HB, HW, HK, HZ⟩ := boxed1 w #[.int .i64 p.g, .int .i64 p.s, .int .i64 p.l, .int .i64 p.p, .int .i64 p.c] 23
  have b0 : W0.cell? ⟨S, 0, none⟩ = some (.int .i64 p.g) := blk_cell HK.out.b0 0
  have b1 : W0.cell? ⟨S, 1, none⟩ = some (.int .i64 p.s) := blk_cell HK.out.b0 1
  have b2 : W0.cell? ⟨S, 2, none⟩ = some (.int .i64 p.l) := blk_cell HK.out.b0 2
  have b3 : W0.cell? ⟨S, 3, none⟩ = some (.int .i64 p.p) := blk_cell HK.out.b0 3
  have b4 : W0.cell? ⟨S, 4, none⟩ = some (.int .i64 p.c) := blk_cell HK.out.b0 4
  go_enter Tryd.func36, Tryd.ntmps36
  go_upto_region 1 with fail
  rw [HB.out, HW.out]
  clear HB HW
  go_wp2_with fail
  go_loopg [3, 5, 17] 5 (fun g sv xv kv wr => ∃ (k : Nat), g = 5 - k ∧ k ≤ 5 ∧ kv = .int .i64 k ∧ sv = .string ⟨(wPlan ++ restT ((planN5 p).take k)).toArray⟩ ∧ wr = W0)
  case atStart => exact ⟨0, rfl, by omega, rfl, rfl, rfl⟩
  case round =>
    obtain ⟨k, rfl, hk, rfl, rfl, rfl⟩ := hrel
    have HL : Hid ((restT ((planN5 p).take k)).length ≤ 55) := by
      show _ ≤ _
      have := restT_len ((planN5 p).take k) (fun n hn => HPP.out n (List.mem_of_mem_take hn))
      rw [List.length_take] at this
      omega
    by_cases hlt : k < 5
    · obtain ⟨x, hx⟩ : ∃ x, (planN5 p)[k]? = some x := ⟨(planN5 p)[k]'(by show k < 5; exact hlt), List.getElem?_eq_getElem _⟩
      have hv : ∀ w : World, (Instr.index 93 (.agg #[.int .i64 p.g, .int .i64 p.s, .int .i64 p.l, .int .i64 p.p, .int .i64 p.c]) (.int .i64 (k : Nat))).run Tryd.prog w = .ok (.int .i64 x) w := fun w => by
        have : k = 0 ∨ k = 1 ∨ k = 2 ∨ k = 3 ∨ k = 4 := by omega
        rcases this with rfl | rfl | rfl | rfl | rfl <;> (simp only [planN5] at hx; simp at hx; subst hx; show _ = _; kernel_rfl)
      have hxb := HPP.out x (List.mem_of_getElem? hx)
      have HX := Lib.hid hx
      have HTK : Hid (restT ((planN5 p).take (k + 1)) = restT ((planN5 p).take k) ++ 32 :: numT x) := restT_take hx
      have hnl := numT_len10 hxb.1 hxb.2
      clear hx
      have hwl : (wPlan ++ restT ((planN5 p).take k)).length ≤ 59 := by rw [List.length_append]; have := HL.out; have : wPlan.length = 4 := rfl; omega
      generalize hR : wPlan ++ restT ((planN5 p).take k) = R at *
      have HRR := Lib.hid hR
      have HC := number53 wr x hxb.1 hxb.2
      obtain ⟨tx, htx⟩ : ∃ tx, tx = numT x := ⟨_, rfl⟩
      rw [← htx] at HC HTK hnl
      have hlt' : (k : Int) < 5 := by omega
      have hq1 : ¬ 9223372036854775807 < 1 + tx.length := by omega
      have hq2 : ¬ 9223372036854775807 < R.length + (1 + tx.length) := by omega
      clear htx hR hxb
      go_wp2_with fail
      refine HC.mono ?_
      rintro e w9 ⟨rfl, rfl⟩
      go_wp2_with fail
      go_roundg (5 - (k + 1))
      case measure => omega
      case rel => exact ⟨k + 1, rfl, by omega, by go_num, by rw [HTK.out, ← List.append_assoc, HRR.out, show (⟨#[32]⟩ : ByteArray) = ⟨[(32 : UInt8)].toArray⟩ from rfl, txt_cat, txt_cat]; rfl, rfl⟩
    · obtain rfl : k = 5 := by omega
      have HE : Hid (t = wPlan ++ restT ((planN5 p).take 5) ++ [10]) := by
        show _ = _
        rw [HT.out, lineP_rest]; rfl
      have hwl : (wPlan ++ restT ((planN5 p).take 5)).length ≤ 59 := by rw [List.length_append]; have := HL.out; have : wPlan.length = 4 := rfl; omega
      generalize hR : wPlan ++ restT ((planN5 p).take 5) = R at *
      clear hR
      go_wp2_with fail
      go_ret
      exact ⟨by rw [HE.out, show (⟨#[10]⟩ : ByteArray) = ⟨[(10 : UInt8)].toArray⟩ from rfl, txt_cat]; rfl, HK.out.below⟩
end Go.Proofs.YtelaijogjgcloaaDoor
