/- The document's own number of a text and text of a number. Conditions: the number fits 64 bits. -/
import Derived.Test.YtkajopdpjdmfcaaPlain
import Derived.Test.YtkajopdpjdmfcaaSmall
set_option linter.unusedVariables false
namespace Go.Proofs.Ytkajopdpjdmfcaa
open Go.RowKit Go.Ice

theorem textF_lt (n : Nat) (h : n < 10) : textF n = [UInt8.ofNat (48 + n)] := by unfold textF; rw [digR, if_pos h]; rfl
theorem textF_ge (n : Nat) (h : ¬ n < 10) : textF n = textF (n / 10) ++ textF (n % 10) := by
  rw [textF_lt (n % 10) (by omega)]
  unfold textF; rw [digR, if_neg h, List.reverse_cons]
theorem textF_len (n : Nat) (h : n ≤ 18446744073709551615) : (textF n).length ≤ 20 := by unfold textF; rw [List.length_reverse]; exact digR_len20 n h

theorem digit_cut : ∀ n : Nat, n < 10 → (⟨#[48, 49, 50, 51, 52, 53, 54, 55, 56, 57]⟩ : ByteArray).extract n (n + 1) = ⟨#[UInt8.ofNat (48 + n)]⟩ := by
  decide

theorem textRef (k : Nat) : ∀ (n : Nat) (w : World), n < k → n ≤ 18446744073709551615 →
    Calls Try.prog 14 #[.int .u64 n] w fun e w' => e = .returned (.string ⟨(textF n).toArray⟩) ∧ w = w' := by
  induction k with
  | zero => intro n w h; omega
  | succ k ih =>
    intro n w hk hn
    by_cases h : n < 10
    · have hcut := digit_cut n h
      have hfin : (⟨(textF n).toArray⟩ : ByteArray) = ⟨#[UInt8.ofNat (48 + n)]⟩ := by rw [textF_lt n h]
      have Hfin := Lib.hid hfin
      have Hcut := Lib.hid hcut
      clear hfin hcut
      have h' : (n : Int) < 10 := by omega
      go_enter Try.func14, Try.ntmps14
      go_wp2_with fail
      go_ret
      exact ⟨by rw [Hfin.out, ← Hcut.out]; rfl, rfl⟩
    · have h' : ¬ (n : Int) < 10 := by omega
      have hl1 := textF_len (n / 10) (by omega)
      have hl2 := textF_len (n % 10) (by omega)
      have hadd := fun w => run_string_add_lists (P := Try.prog) w (textF (n / 10)) (textF (n % 10)) (by omega) (by omega)
      rw [← textF_ge n h] at hadd
      have Hadd := Lib.hid hadd
      have D1 : Hid (((n : Int) / 10) = ((n / 10 : Nat) : Int)) := by show _ = _; omega
      have D2 : Hid (((n : Int) % 10) = ((n % 10 : Nat) : Int)) := by show _ = _; omega
      clear hadd
      go_enter Try.func14, Try.ntmps14
      go_wp2_with fail
      rw [D1.out]
      refine (ih (n / 10) _ (by omega) (by omega)).mono ?_
      rintro e w' ⟨rfl, rfl⟩
      generalize hs1 : textF (n / 10) = s1 at *
      have HS1 := Lib.hid hs1
      clear hs1
      go_wp2_with fail
      rw [D2.out]
      refine (ih (n % 10) _ (by omega) (by omega)).mono ?_
      rintro e w' ⟨rfl, rfl⟩
      generalize hs2 : textF (n % 10) = s2 at *
      have HS2 := Lib.hid hs2
      clear hs2
      have hadd := Hadd.out
      go_wp2_with fail
      go_ret
      exact ⟨rfl, rfl⟩

theorem numRef_len (w : World) (v : Value) (n c : Nat) (a : Option Addr) (hv : v = .slice a n c) (h : n = 0 ∨ 20 < n) (hm : n ≤ maxLen) :
    Calls Try.prog 12 #[v] w fun e w' => e = .returned (.tuple #[.int .u64 0, .bool false]) ∧ w = w' := by
  subst hv
  unfold maxLen at hm
  rcases h with h | h
  · subst h
    go_enter Try.func12, Try.ntmps12
    go_wp2_with fail
    go_ret2
    exact ⟨rfl, rfl⟩
  · have h1 : ¬ ((n : Int) < 1) := by omega
    have h2 : (20 : Int) < n := by omega
    go_enter Try.func12, Try.ntmps12
    go_wp2_with fail
    go_ret2
    exact ⟨rfl, rfl⟩

theorem numRef (w : World) (bs : List UInt8) (b off cap : Nat) (h0 : 0 < bs.length) (h20 : bs.length ≤ 20) (hb : b < w.heap.size)
    (hcell : ∀ j, j < bs.length → w.cell? ⟨b, off + j, none⟩ = (bs.map u8v)[j]?) :
    Calls Try.prog 12 #[.slice (some ⟨b, off, none⟩) bs.length cap] w fun e w' => e = .returned (.tuple #[.int .u64 ((numLoop 0 bs).getD 0 : Nat), .bool (numLoop 0 bs).isSome]) ∧ Below w.heap.size w w' := by
  have h1 : ¬ ((bs.length : Int) < 1) := by omega
  have h2 : ¬ (20 : Int) < bs.length := by omega
  have Hcell := Lib.hid hcell
  clear hcell
  go_enter Try.func12, Try.ntmps12
  go_wp2_with fail
  go_loopw [5, 6] (fun v iv wr => ∃ i : Nat, i ≤ bs.length ∧ v = .string ⟨(bs.take i).toArray⟩ ∧ iv = .int .i64 i ∧ Hid (∀ c ∈ bs.take i, isDig c) ∧ Below w.heap.size w wr) (fun _ iv _ => bs.length - (intOf iv).toNat)
  case atStart => exact ⟨0, by omega, by rw [List.take_zero], rfl, (show ∀ c ∈ bs.take 0, isDig c from fun c hc => by rw [List.take_zero] at hc; cases hc), Below.refl _ _⟩
  case round =>
    obtain ⟨i, hi, rfl, rfl, hdig, hB⟩ := hrel
    by_cases hlt : i < bs.length
    · have hci : wr.cell? ⟨b, off + i, none⟩ = some (.int .u8 (bs[i].toNat : Int)) := by
        rw [hB.cell (p := ⟨b, off + i, none⟩) hb, Hcell.out i hlt]; simp [u8v, hlt]
      generalize hc : bs[i] = c at hci
      have htk : bs.take i ++ [c] = bs.take (i + 1) := by rw [← hc, List.take_succ_eq_append_getElem hlt]
      have Htk := Lib.hid htk
      clear htk
      have HB := Lib.hid hB
      clear hB
      by_cases hd : isDig c
      · obtain ⟨d1, d2⟩ := hd
        have hconv := convert_sl (P := Try.prog) 22 5 Try.underlying22 Try.underlying5 (w := wr.alloc (.cells #[.int .u8 (c.toNat : Int)] 5)) (v := .slice (some ⟨wr.heap.size, 0, none⟩) 1 1) (bs := [c])
          (isSl_mk (cs := [c].map u8v) (by simp) (by decide) (by simp) fun j hj => by
            have : j = 0 := by simpa using hj
            subst this
            rw [World.cell?_alloc_at _ _ _ _ (by simp)]; rfl) 9 Try.underlying9
        have hadd := fun w => run_string_add_lists (P := Try.prog) w (bs.take i) [c] (by rw [List.length_take]; omega) (by simp)
        rw [Htk.out] at hadd
        go_wp2_with fail
        go_roundw
        case rel =>
          refine ⟨i + 1, by omega, rfl, rfl, ?_, HB.out.alloc HB.out.size _⟩
          show ∀ x ∈ bs.take (i + 1), isDig x
          intro x hx
          rw [← Htk.out, List.mem_append, List.mem_singleton] at hx
          rcases hx with hx | rfl
          · exact hdig.out x hx
          · exact ⟨d1, d2⟩
        case measure => simp [intOf]; omega
      · have hfin : numLoop 0 bs = none := numLoop_none bs 0 (.inl fun h => hd (h c (by rw [← hc]; exact List.getElem_mem hlt))) (by omega)
        have Hfin := Lib.hid hfin
        have hd' : (c.toNat : Int) < 48 ∨ (¬ (c.toNat : Int) < 48 ∧ 57 < (c.toNat : Int)) := by unfold isDig at hd; omega
        clear hfin hd
        rcases hd' with hd | ⟨hd1, hd2⟩
        all_goals
          go_wp2_with fail
          go_ret2
          exact ⟨by rw [Hfin.out]; rfl, HB.out⟩
    · obtain rfl : i = bs.length := by omega
      rw [List.take_length] at *
      have HB := Lib.hid hB
      clear hB
      have hov := over_iff bs h20 hdig.out
      by_cases hval : 18446744073709551615 < valF 0 bs
      · obtain ⟨o1, o2, o3⟩ := hov.2 hval
        have e1 : ((bs.length : Int) == 20) = true := beq_iff_eq.2 (by omega)
        have e2 : Op.bytesLess bs [49, 56, 52, 52, 54, 55, 52, 52, 48, 55, 51, 55, 48, 57, 53, 53, 49, 54, 49, 53] = false := by simpa [most] using o2
        have e3 : (bs == [49, 56, 52, 52, 54, 55, 52, 52, 48, 55, 51, 55, 48, 57, 53, 53, 49, 54, 49, 53]) = false := beq_eq_false_iff_ne.2 o3
        have Hfin := Lib.hid (numLoop_none bs 0 (.inr hval) (by omega))
        clear hov hval o1 o2 o3
        go_wp2_with fail
        go_ret2
        exact ⟨by rw [Hfin.out]; rfl, HB.out⟩
      · have Hfin := Lib.hid (numLoop_some bs 0 hdig.out (by omega))
        have hcase : ((bs.length : Int) == 20) = false ∨ (((bs.length : Int) == 20) = true ∧ ((!Op.bytesLess bs [49, 56, 52, 52, 54, 55, 52, 52, 48, 55, 51, 55, 48, 57, 53, 53, 49, 54, 49, 53]) && !(bs == [49, 56, 52, 52, 54, 55, 52, 52, 48, 55, 51, 55, 48, 57, 53, 53, 49, 54, 49, 53])) = false) := by
          by_cases hl : bs.length = 20
          · refine .inr ⟨beq_iff_eq.2 (by omega), ?_⟩
            rw [Bool.eq_false_iff]
            intro hc
            simp only [Bool.and_eq_true, Bool.not_eq_true', beq_eq_false_iff_ne] at hc
            exact hval (hov.1 ⟨hl, (fun h' => by unfold most at h'; rw [hc.1] at h'; cases h'), hc.2⟩)
          · exact .inl (beq_eq_false_iff_ne.2 (by omega))
        have Hval : Hid (valF 0 bs ≤ 18446744073709551615) := by show _ ≤ _; omega
        clear hov hval
        rcases hcase with e1 | ⟨e1, e2⟩
        all_goals
          go_wp2_with fail
          clear e1
          go_loop [7, 8] (fun nv iv => ∃ i : Nat, i ≤ bs.length ∧ nv = .int .u64 (valF 0 (bs.take i) : Nat) ∧ iv = .int .i64 i) (fun _ iv => bs.length - (intOf iv).toNat)
          case atStart => exact ⟨0, by omega, by rw [List.take_zero]; rfl, rfl⟩
          case round =>
            obtain ⟨i, hi, rfl, rfl⟩ := hrel
            by_cases hlt : i < bs.length
            · have hdr : bs.take (i + 1) = bs.take i ++ [bs[i]] := List.take_succ_eq_append_getElem hlt
              have hmono : valF 0 (bs.take (i + 1)) ≤ valF 0 bs := by
                have h := valF_ge (bs.drop (i + 1)) (valF 0 (bs.take (i + 1)))
                have h2 : valF (valF 0 (bs.take (i + 1))) (bs.drop (i + 1)) = valF 0 bs := by
                  unfold valF; rw [← List.foldl_append, List.take_append_drop]
                omega
              have hd : isDig bs[i] := hdig.out _ (List.getElem_mem hlt)
              obtain ⟨d1, d2⟩ := hd
              have hix : (⟨bs.toArray⟩ : ByteArray)[i]'(by simpa [ByteArray.size] using hlt) = bs[i] := rfl
              generalize hc : bs[i] = c at *
              have hstep : valF 0 (bs.take (i + 1)) = 10 * valF 0 (bs.take i) + (c.toNat - 48) := by
                rw [hdr]; unfold valF; rw [List.foldl_append]; rfl
              have hv := Hval.out
              have hle : 10 * valF 0 (bs.take i) + (c.toNat - 48) ≤ 18446744073709551615 := by omega
              have Hstep := Lib.hid hstep
              clear hstep hmono hdr hv hc
              generalize valF 0 (bs.take i) = m at *
              go_wp2_with fail
              go_round
              case rel => exact ⟨i + 1, by omega, by rw [Hstep.out]; congr 1; omega, rfl⟩
              case measure => simp [intOf]; omega
            · obtain rfl : i = bs.length := by omega
              go_wp2_with fail
              go_ret2
              exact ⟨by rw [Hfin.out]; rfl, HB.out⟩
/-- Both over whatever slice. -/
theorem numF_len (bs : List UInt8) (h : bs.length = 0 ∨ 20 < bs.length) : numF bs = none := by unfold numF; rw [if_pos h]

theorem number_any (w : World) (v : Value) (bs : List UInt8) (h : IsSl w v (bs.map u8v)) :
    Calls Try.prog 11 #[v] w fun e w' => e = .returned (numV (numF bs)) ∧ Below w.heap.size w w' := by
  obtain ⟨a, c, hv, hm⟩ := h.form
  rw [List.length_map] at hv hm
  by_cases hl : bs.length = 0 ∨ 20 < bs.length
  · rw [numF_len bs hl]
    exact (number_len w v bs.length c a hv hl).mono fun e w' ⟨h1, h2⟩ => ⟨h1, h2 ▸ Below.refl _ _⟩
  · have hf : numF bs = numLoop 0 bs := by unfold numF; rw [if_neg hl]
    rw [hf]
    rcases h with ⟨h, _⟩ | ⟨h0, b, off, cap, rfl, h1, h2, h3, h4⟩
    · exact absurd (.inl (by simpa using h)) hl
    · rw [List.length_map] at *
      exact number_go w _ bs b off cap rfl (by omega) (by omega) fun j hj => by
        rw [h4 j hj]; simp [u8v, List.getD_eq_getElem?_getD, hj]

theorem numRef_any (w : World) (v : Value) (bs : List UInt8) (h : IsSl w v (bs.map u8v)) :
    Calls Try.prog 12 #[v] w fun e w' => e = .returned (.tuple #[.int .u64 ((numF bs).getD 0 : Nat), .bool (numF bs).isSome]) ∧ Below w.heap.size w w' := by
  obtain ⟨a, c, hv, hm⟩ := h.form
  rw [List.length_map] at hv hm
  by_cases hl : bs.length = 0 ∨ 20 < bs.length
  · rw [numF_len bs hl]
    exact (numRef_len w v bs.length c a hv hl hm).mono fun e w' ⟨h1, h2⟩ => ⟨h1, h2 ▸ Below.refl _ _⟩
  · have hf : numF bs = numLoop 0 bs := by unfold numF; rw [if_neg hl]
    rw [hf]
    rcases h with ⟨h, _⟩ | ⟨h0, b, off, cap, rfl, h1, h2, h3, h4⟩
    · exact absurd (.inl (by simpa using h)) hl
    · rw [List.length_map] at *
      exact numRef w bs b off cap (by omega) (by omega) h3 h4
end Go.Proofs.Ytkajopdpjdmfcaa
