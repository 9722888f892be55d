/- The document's half and number. No condition. -/
import Derived.Test.YtelaijogjgcloaaDoorRnm
set_option linter.unusedVariables false
set_option linter.unusedSimpArgs false
namespace Go.Proofs.YtelaijogjgcloaaDoor
open Go.RowKit Go.Ice Go.Scr

def halfI (c : UInt8) : Int := match halfP c with | some x => (x : Int) | none => -1

set_option maxHeartbeats 8000000 in
set_option maxRecDepth 20000 in
theorem half73 (w : World) (c : UInt8) : Calls Tryd.prog 73 #[.int .u8 (c.toNat : Nat)] w fun e w' => e = .returned (.int .i64 (halfI c)) ∧ w' = w := by
  obtain ⟨r, hr⟩ : ∃ r, r = halfI c := ⟨_, rfl⟩
  rw [← hr]
  have HR := Lib.hid hr
  clear hr
  have hlt := c.toNat_lt
  by_cases h1 : 48 ≤ (c.toNat : Int)
  · by_cases h2 : (c.toNat : Int) ≤ 57
    · have HX : Hid (r = (c.toNat : Int) - 48) := by
        show _ = _
        rw [HR.out]; unfold halfI halfP; rw [if_pos (by omega)]; simp only []; omega
      have hw : IntKind.u8.wrap ((c.toNat : Int) - 48) = (c.toNat : Int) - 48 := by rw [IntKind.wrap_u8]; omega
      go_enter Tryd.func73, Tryd.ntmps73
      go_wp2_with fail
      go_ret
      exact ⟨by rw [HX.out]; rfl, rfl⟩
    · by_cases h3 : 97 ≤ (c.toNat : Int)
      · by_cases h4 : (c.toNat : Int) ≤ 102
        · have HX : Hid (r = (c.toNat : Int) - 97 + 10) := by
            show _ = _
            rw [HR.out]; unfold halfI halfP; rw [if_neg (by omega), if_pos (by omega)]; simp only []; omega
          have hw : IntKind.u8.wrap ((c.toNat : Int) - 97) = (c.toNat : Int) - 97 := by rw [IntKind.wrap_u8]; omega
          go_enter Tryd.func73, Tryd.ntmps73
          go_wp2_with fail
          go_ret
          exact ⟨by rw [HX.out]; rfl, rfl⟩
        · have HX : Hid (r = -1) := by
            show _ = _
            rw [HR.out]; unfold halfI halfP; rw [if_neg (by omega), if_neg (by omega)]
          go_enter Tryd.func73, Tryd.ntmps73
          go_wp2_with fail
          go_ret
          exact ⟨by rw [HX.out]; rfl, rfl⟩
      · have HX : Hid (r = -1) := by
          show _ = _
          rw [HR.out]; unfold halfI halfP; rw [if_neg (by omega), if_neg (by omega)]
        go_enter Tryd.func73, Tryd.ntmps73
        go_wp2_with fail
        go_ret
        exact ⟨by rw [HX.out]; rfl, rfl⟩
  · have HX : Hid (r = -1) := by
      show _ = _
      rw [HR.out]; unfold halfI halfP; rw [if_neg (by omega), if_neg (by omega)]
    go_enter Tryd.func73, Tryd.ntmps73
    go_wp2_with fail
    go_ret
    exact ⟨by rw [HX.out]; rfl, rfl⟩

theorem valN_lt : ∀ (k : Nat) (s : Txt), s.length = k → s.all digB = true → valN s < 10 ^ k := by
  intro k
  induction k with
  | zero => intro s h _; rw [List.length_eq_zero_iff.1 h]; decide
  | succ k ih =>
    intro s hl h
    have hs : s ≠ [] := fun e => by rw [e] at hl; simp at hl
    obtain ⟨r, c, rfl⟩ : ∃ r c, s = r ++ [c] := ⟨s.dropLast, s.getLast hs, (List.dropLast_concat_getLast hs).symm⟩
    rw [List.all_append, Bool.and_eq_true] at h
    have hc : 48 ≤ c.toNat ∧ c.toNat ≤ 57 := by have := h.2; simp at this; exact of_decide_eq_true this
    have := ih r (by rw [List.length_append] at hl; simp at hl; exact hl) h.1
    rw [valN_snoc, Nat.pow_succ]
    omega

theorem byte_at {s : Txt} {k : Nat} {c : UInt8} (h : s[k]? = some c) : (⟨s.toArray⟩ : ByteArray)[k]'(by rw [txt_size]; exact (List.getElem?_eq_some_iff.1 h).1) = c := by
  obtain ⟨h1, rfl⟩ := List.getElem?_eq_some_iff.1 h
  rfl
/-- What number says of a text. -/
theorem numP_iff {s : Txt} (h1 : s.length ≤ 10) (h2 : s.all digB = true) (h0 : s ≠ []) : numP s = if numT (valN s) = s then some (valN s : Int) else none := by
  have hlt : ∀ (s : Txt), s.all digB = true → valN s < 10 ^ s.length := fun s h => valN_lt _ s rfl h
  split
  · rename_i h
    have h3 := hlt s h2
    have h4 : (10 : Nat) ^ s.length ≤ 10 ^ 10 := Nat.pow_le_pow_right (by omega) h1
    have h5 := num_text (n := (valN s : Int)) (by omega) (by omega)
    rw [h] at h5
    exact h5
  · rename_i h
    cases hn : numP s with
    | none => rfl
    | some n =>
      exfalso
      obtain ⟨h3, h4⟩ := text_num hn
      have : n = (valN s : Int) := by
        unfold numP at hn
        split at hn
        · injection hn with hn; exact hn.symm
        · cases hn
      rw [this] at h3
      exact h h3
theorem valN_take {s : Txt} {k : Nat} {c : UInt8} (h : s[k]? = some c) : valN (s.take (k + 1)) = 10 * valN (s.take k) + (c.toNat - 48) := by
  rw [List.take_add_one, h, Option.toList_some, valN_snoc]
set_option maxHeartbeats 8000000 in
set_option maxRecDepth 20000 in
theorem number57 (w : World) (s : Txt) (hs : s.length ≤ 1000000000) :
    Calls Tryd.prog 57 #[.string ⟨s.toArray⟩] w fun e w' => (∃ n : Int, e = .returned (.tuple #[.int .i64 n, .bool (numP s).isSome]) ∧ ∀ m, numP s = some m → n = m) ∧ w' = w := by
  obtain ⟨b, hb⟩ : ∃ b, b = (numP s).isSome := ⟨_, rfl⟩
  rw [← hb]
  have HB := Lib.hid hb
  clear hb
  by_cases h0 : s = []
  · have HX : Hid (b = false ∧ numP s = none) := by
      have : numP s = none := by rw [h0]; decide
      exact ⟨by rw [HB.out, this]; rfl, this⟩
    subst h0
    go_enter Tryd.func57, Tryd.ntmps57
    go_wp2_with fail
    go_ret2
    exact ⟨⟨0, by rw [HX.out.1]; rfl, fun m hm => by rw [HX.out.2] at hm; cases hm⟩, rfl⟩
  · have HNE : Hid (s ≠ []) := h0
    have hie : s.isEmpty = false := by cases s with
      | nil => exact absurd rfl h0
      | cons a l => rfl
    clear h0
    by_cases hl : (10 : Int) < (s.length : Nat)
    · have HX : Hid (b = false ∧ numP s = none) := by
        have : numP s = none := by
          unfold numP isNum
          rw [decide_eq_false (by rintro ⟨_, h⟩; omega)]; rfl
        exact ⟨by rw [HB.out, this]; rfl, this⟩
      go_enter Tryd.func57, Tryd.ntmps57
      go_wp2_with fail
      go_ret2
      exact ⟨⟨0, by rw [HX.out.1]; rfl, fun m hm => by rw [HX.out.2] at hm; cases hm⟩, rfl⟩
    · go_enter Tryd.func57, Tryd.ntmps57
      go_wp2_with fail
      go_loopg [4, 5, 15] s.length (fun g nv iv kv wr => ∃ k : Nat, g = s.length - k ∧ k ≤ s.length ∧ kv = .int .i64 k ∧ nv = .int .i64 (valN (s.take k) : Nat) ∧ wr = w ∧ Hid ((s.take k).all digB = true))
      case atStart => exact ⟨0, rfl, by omega, rfl, rfl, rfl, Lib.hid (by simp)⟩
      case round =>
        obtain ⟨k, rfl, hk, rfl, rfl, rfl, HJ⟩ := hrel
        have HV : Hid (valN (s.take k) < 10 ^ 10) := by
          have h1 := valN_lt _ (s.take k) rfl HJ.out
          have h2 : (10 : Nat) ^ (s.take k).length ≤ 10 ^ 10 := Nat.pow_le_pow_right (by omega) (by rw [List.length_take]; omega)
          show _ < _; omega
        by_cases hlt : k < s.length
        · obtain ⟨c, hc⟩ : ∃ c, s[k]? = some c := ⟨s[k], List.getElem?_eq_getElem hlt⟩
          have HC := Lib.hid hc
          have hcc : (⟨s.toArray⟩ : ByteArray)[k]'(by rw [txt_size]; exact hlt) = c := byte_at hc
          have HVT := Lib.hid (valN_take hc)
          have HAT : Hid ((s.take (k + 1)).all digB = ((s.take k).all digB && digB c)) := by show _ = _; rw [List.take_add_one, hc]; simp
          have hclt := c.toNat_lt
          clear hc
          generalize hvv : valN (s.take k) = vv at *
          have hv10 := HV.out
          have hlt' : (k : Int) < (s.length : Nat) := by omega
          have HXF : Hid (digB c = false → b = false ∧ numP s = none) := fun h => by
            have : numP s = none := by
              unfold numP isNum
              have : s.all digB = false := by
                rw [Bool.eq_false_iff]
                intro h2
                have := List.all_eq_true.1 h2 c (List.mem_of_getElem? HC.out)
                rw [h] at this; cases this
              rw [this]; simp
            exact ⟨by rw [HB.out, this]; rfl, this⟩
          by_cases h48 : (c.toNat : Int) < 48
          · have HX := Lib.hid (HXF.out (by unfold digB; exact decide_eq_false (by omega)))
            go_wp2_with fail
            go_ret2
            exact ⟨⟨0, by rw [HX.out.1]; rfl, fun m hm => by rw [HX.out.2] at hm; cases hm⟩, rfl⟩
          · by_cases h57 : (57 : Int) < (c.toNat : Nat)
            · have HX := Lib.hid (HXF.out (by unfold digB; exact decide_eq_false (by omega)))
              go_wp2_with fail
              go_ret2
              exact ⟨⟨0, by rw [HX.out.1]; rfl, fun m hm => by rw [HX.out.2] at hm; cases hm⟩, rfl⟩
            · have HD : Hid (digB c = true) := by show _ = _; unfold digB; exact decide_eq_true (by omega)
              have hw : IntKind.u8.wrap ((c.toNat : Int) - 48) = (c.toNat : Int) - 48 := by rw [IntKind.wrap_u8]; omega
              go_wp2_with fail
              go_roundg (s.length - (k + 1))
              case measure => omega
              case rel => exact ⟨k + 1, rfl, by omega, by go_num, by
                rw [HVT.out]
                congr 1
                omega, rfl, Lib.hid (by rw [HAT.out, HJ.out, HD.out]; rfl)⟩
        · obtain rfl : k = s.length := by omega
          have HALL : Hid (s.all digB = true) := by have h := HJ.out; rw [List.take_length] at h; exact h
          rw [List.take_length] at *
          generalize hvv : valN s = vv at *
          have HVV := Lib.hid hvv
          have hv10 := HV.out
          have HNP : Hid (numP s = if numT (vv : Int) = s then some (vv : Int) else none) := by
            show _ = _
            rw [← hvv]; exact numP_iff (by omega) HALL.out HNE.out
          clear hvv
          obtain ⟨tv, htv⟩ : ∃ t, t = numT (vv : Int) := ⟨_, rfl⟩
          have HC := number53 wr (vv : Int) (by omega) (by omega)
          rw [← htv] at HC HNP
          clear htv
          go_wp2_with fail
          refine HC.mono ?_
          rintro e w9 ⟨rfl, rfl⟩
          by_cases hts : tv = s
          · have HX : Hid (b = true ∧ numP s = some (vv : Int)) := by
              have h := HNP.out
              rw [if_pos hts] at h
              exact ⟨by rw [HB.out, h]; rfl, h⟩
            subst hts
            go_wp2_with fail
            go_ret2
            exact ⟨⟨vv, by rw [HX.out.1]; simp, fun m hm => by rw [HX.out.2] at hm; injection hm⟩, rfl⟩
          · have HX : Hid (b = false ∧ numP s = none) := by
              have h := HNP.out
              rw [if_neg hts] at h
              exact ⟨by rw [HB.out, h]; rfl, h⟩
            go_wp2_with fail
            go_ret2
            exact ⟨⟨vv, by rw [HX.out.1]; simp [hts], fun m hm => by rw [HX.out.2] at hm; cases hm⟩, rfl⟩
end Go.Proofs.YtelaijogjgcloaaDoor
