/- The walks of the laws ItemTurns and ItemRound. Conditions: numbers fit 64 bits; the slice has room in memory. -/
import Derived.Test.YtkajopdpjdmfcaaTurn
import Derived.Deep.QuietTactic
import Derived.BigQuiet
set_option linter.unusedVariables false
namespace Go.Proofs.Ytkajopdpjdmfcaa
open Go.RowKit Go.Ice

set_option maxHeartbeats 2000000 in
theorem itemTurnsW.core (v : Value) (bs : List UInt8) (b : Nat) (down : Bool) (w : World) (hv : IsSl w v (bs.map u8v)) (hl : bs.length ≤ 140737488351232) (hb : b ≤ 18446744073709551615) :
    Calls Try.prog 7 #[v, .int .u64 b, .bool down] w fun e w' => e = .returned (.bool true) ∧ Below w.heap.size w w' := by
  have HV := Lib.hid hv
  clear hv
  have hle := numF_le bs
  rcases hq : numF bs with _ | k
  · have Hq := Lib.hid hq
    clear hle hq
    go_enter Try.func7, Try.ntmps7
    go_wp2_with fail
    refine (wakes _).mono ?_
    rintro e wA ⟨rfl, hbA⟩
    have hvA := HV.out.below hbA (Nat.le_refl _)
    obtain ⟨v', w1, hrun, hown, hgrow, _⟩ := append_sl (P := Try.prog) (ty := 22) elemU8 (own_new wA 5 w.heap.size hbA.size) (hvA.alloc (.cells #[] 5)) (u8v_one bs) (by simp; omega) (by simp [maxLen]; omega) (by have := hbA.size; simp; omega)
    have hb1 : Below w.heap.size w w1 := (hbA.alloc hbA.size _).grown hgrow (by have := hbA.size; simp; omega) (fun k hk => by simp [Value.ownBlock] at hk; have := hbA.size; omega)
    have HO := Lib.hid (own_isSl hown)
    have HB1 := Lib.hid hb1
    have HR := Lib.hid hrun
    clear hvA hown hgrow hb1 hrun
    go_wp2_with (at_builtin; refine wpList_append_eq rfl _ _ 22 rfl rfl rfl HR.out ?_)
    refine (turn_none _ _ bs b down HO.out Hq.out).mono ?_
    rintro e w2 ⟨rfl, hb2⟩
    have HB2 : Hid (Below w.heap.size w w2) := HB1.out.trans (hb2.mono HB1.out.size)
    have HV2 : Hid (IsSl w2 v (bs.map u8v)) := HV.out.below HB2.out (Nat.le_refl _)
    clear hb2
    go_wp2_with fail
    refine (numRef_none _ _ bs HV2.out Hq.out).mono ?_
    rintro e w3 ⟨rfl, hb3⟩
    have HB3 : Hid (Below w.heap.size w w3) := HB2.out.trans (hb3.mono HB2.out.size)
    clear hb3
    go_wp2_with fail
    go_ret
    exact ⟨rfl, HB3.out⟩
  · have Hq := Lib.hid hq
    rw [hq] at hle
    simp only [Option.getD_some] at hle
    clear hq
    have ht := turnF_le k b down hle
    have HT := Lib.hid (textRef (turnF k b down + 1) (turnF k b down))
    have HTS := fun (w : World) (v : Value) (h : IsSl w v (bs.map u8v)) => turn_some w v bs k b down h Hq.out hb
    have HTR := fun (w : World) => turnRef k b down w hle hb
    obtain ⟨m, hm⟩ : ∃ m, m = turnF k b down := ⟨_, rfl⟩
    simp only [← hm] at HTS HTR HT ht
    clear hm
    have HTS' := Lib.hid HTS
    have HTR' := Lib.hid HTR
    clear HTS HTR
    have hmm : ((m : Int) == (m : Int)) = true := by simp
    go_enter Try.func7, Try.ntmps7
    go_wp2_with fail
    refine (wakes _).mono ?_
    rintro e wA ⟨rfl, hbA⟩
    have hvA := HV.out.below hbA (Nat.le_refl _)
    obtain ⟨v', w1, hrun, hown, hgrow, _⟩ := append_sl (P := Try.prog) (ty := 22) elemU8 (own_new wA 5 w.heap.size hbA.size) (hvA.alloc (.cells #[] 5)) (u8v_one bs) (by simp; omega) (by simp [maxLen]; omega) (by have := hbA.size; simp; omega)
    have hb1 : Below w.heap.size w w1 := (hbA.alloc hbA.size _).grown hgrow (by have := hbA.size; simp; omega) (fun k hk => by simp [Value.ownBlock] at hk; have := hbA.size; omega)
    have HO := Lib.hid (own_isSl hown)
    have HB1 := Lib.hid hb1
    have HR := Lib.hid hrun
    clear hvA hown hgrow hb1 hrun
    go_wp2_with (at_builtin; refine wpList_append_eq rfl _ _ 22 rfl rfl rfl HR.out ?_)
    refine (HTS'.out _ _ HO.out).mono ?_
    rintro e w2 ⟨vt, rfl, hvt, hb2⟩
    have HB2 : Hid (Below w.heap.size w w2) := HB1.out.trans (hb2.mono HB1.out.size)
    have HV2 : Hid (IsSl w2 v (bs.map u8v)) := HV.out.below HB2.out (Nat.le_refl _)
    have HVT := Lib.hid hvt
    clear hb2 hvt
    go_wp2_with fail
    refine (numRef_some _ _ bs k HV2.out Hq.out).mono ?_
    rintro e w3 ⟨rfl, hb3⟩
    have HB3 : Hid (Below w.heap.size w w3) := HB2.out.trans (hb3.mono HB2.out.size)
    have HVT3 := Lib.hid (HVT.out.below hb3 (Nat.le_refl _))
    clear hb3
    go_wp2_with fail
    refine (HTR'.out _).mono ?_
    rintro e w3' ⟨rfl, rfl⟩
    have hconv := fun n => convert_sl (P := Try.prog) 22 5 Try.underlying22 Try.underlying5 (show IsSl (w3.drewN n) vt _ from HVT3.out.below ⟨rfl, rfl, rfl, Nat.le_refl _, fun _ _ => rfl⟩ (Nat.le_refl _)) 9 Try.underlying9
    have HT2 : Hid (∀ n, Calls Try.prog 14 #[.int .u64 m] (w3.drewN n) fun e w' => e = .returned (.string ⟨(textF m).toArray⟩) ∧ w' = w3.drewN n) := fun n => (HT.out _ (by omega) ht).mono fun e w' ⟨h1, h2⟩ => ⟨h1, h2.symm⟩
    go_wp2_with fail
    go_quiet ((go_at_call 14; exact Calls.quiet_of_same (HT2.out _)))
    go_wp2_with fail
    go_ret
    exact ⟨by simp, HB3.out.trans ⟨rfl, rfl, rfl, Nat.le_refl _, fun _ _ => rfl⟩⟩

theorem itemTurnsW.walk (a0 : Option Addr) (len0 cap0 : Nat) (z0 : List Int) (a1 : Int) (a2 : Bool) (w : World) (w0 : IsRow .u8 w a0 len0 cap0 z0) (s0 : len0 * 1 ≤ 140737488351232) (w1 : (Lit.int .u64 a1).wf = true) :
    Calls Try.prog 7 #[.slice a0 len0 cap0, .int .u64 a1, .bool a2] w fun e w' => e = .returned (.bool true) ∧ Below w.heap.size w w' := by
  obtain ⟨bs, hl, hs⟩ := w0.bytes
  obtain ⟨b1, b2⟩ := bounds_u64 w1
  obtain ⟨n, rfl⟩ := Int.eq_ofNat_of_zero_le b1
  exact itemTurnsW.core _ bs n a2 w hs (by omega) (by omega)
theorem itemRoundW.core (n b : Nat) (w : World) (hn : n ≤ 18446744073709551615) (hb : b ≤ 18446744073709551615) :
    Calls Try.prog 8 #[.int .u64 n, .int .u64 b] w fun e w' => e = .returned (.bool true) ∧ Below w.heap.size w w' := by
  have HLS : Hid (∀ (w : World) (v : Value), IsSl w v ((textF n).map u8v) → Calls Try.prog 18 #[v, .int .u64 b, .bool true] w fun e w' => ∃ v', e = .returned (.tuple #[v', .int .u64 (n - b : Nat), .int .i64 0]) ∧ IsSl w' v' ((textF (n - b)).map u8v) ∧ Below w.heap.size w w') :=
    fun w v h => turn_some w v (textF n) n b true h (numF_text n hn) hb
  by_cases ho : 18446744073709551615 < n + b
  · have hw := wrap_over n b ho hn hb
    obtain ⟨m, hm⟩ : ∃ m, m = (n + b) % 18446744073709551616 := ⟨_, rfl⟩
    have hm1 : m ≤ 18446744073709551615 := by omega
    have hmn : (m : Int) < n := by omega
    have hbk : m - b ≤ 18446744073709551615 := by omega
    have HUP : Hid (∀ (w : World) (v : Value), IsSl w v ((textF n).map u8v) → Calls Try.prog 18 #[v, .int .u64 b, .bool false] w fun e w' => ∃ v', e = .returned (.tuple #[v', .int .u64 m, .int .i64 0]) ∧ IsSl w' v' ((textF m).map u8v) ∧ Below w.heap.size w w') := by
      rw [hm]; exact fun w v h => turn_some w v (textF n) n b false h (numF_text n hn) hb
    have HBK : Hid (∀ (w : World) (v : Value), IsSl w v ((textF m).map u8v) → Calls Try.prog 18 #[v, .int .u64 b, .bool true] w fun e w' => ∃ v', e = .returned (.tuple #[v', .int .u64 (m - b : Nat), .int .i64 0]) ∧ IsSl w' v' ((textF (m - b)).map u8v) ∧ Below w.heap.size w w') :=
      fun w v h => turn_some w v (textF m) m b true h (numF_text m hm1) hb
    rw [← hm] at hw
    clear hm ho
    have hmm : ((m : Int) != (m : Int)) = false := by simp
    generalize m - b = k at *

    go_enter Try.func8, Try.ntmps8
    go_wp2_with fail
    refine (wakes _).mono ?_
    rintro e wA ⟨rfl, hbA⟩
    have HB0 := Lib.hid hbA
    clear hbA
    go_wp2_with fail
    refine (text n hn _).mono ?_
    rintro e w1 ⟨v1, rfl, ho1, hb1⟩
    have HB1 : Hid (Below w.heap.size w w1) := HB0.out.trans (hb1.mono HB0.out.size)
    have HO1 := Lib.hid ho1.isSl
    clear ho1 hb1
    go_wp2_with fail
    refine (HUP.out _ _ HO1.out).mono ?_
    rintro e w2 ⟨v2, rfl, ho2, hb2⟩
    have HB2 : Hid (Below w.heap.size w w2) := HB1.out.trans (hb2.mono HB1.out.size)
    have HO2 := Lib.hid ho2
    clear ho2 hb2
    go_wp2_with fail
    refine (HBK.out _ _ HO2.out).mono ?_
    rintro e w3 ⟨v3, rfl, ho3, hb3⟩
    have HB3 : Hid (Below w.heap.size w w3) := HB2.out.trans (hb3.mono HB2.out.size)
    clear ho3 hb3
    go_wp2_with fail
    refine (text n hn _).mono ?_
    rintro e w4 ⟨v4, rfl, ho4, hb4⟩
    have HB4 : Hid (Below w.heap.size w w4) := HB3.out.trans (hb4.mono HB3.out.size)
    have HO4 := Lib.hid ho4.isSl
    clear ho4 hb4
    go_wp2_with fail
    refine (HLS.out _ _ HO4.out).mono ?_
    rintro e w5 ⟨v5, rfl, ho5, hb5⟩
    have HB5 : Hid (Below w.heap.size w w5) := HB4.out.trans (hb5.mono HB4.out.size)
    clear ho5 hb5
    have hl2 : ¬ (n : Int) < ((n - b : Nat) : Int) := by omega
    generalize n - b = l at *
    go_wp2_with fail
    go_ret
    exact ⟨rfl, HB5.out⟩
  · have HUP : Hid (∀ (w : World) (v : Value), IsSl w v ((textF n).map u8v) → Calls Try.prog 18 #[v, .int .u64 b, .bool false] w fun e w' => ∃ v', e = .returned (.tuple #[v', .int .u64 (n + b : Nat), .int .i64 0]) ∧ IsSl w' v' ((textF (n + b)).map u8v) ∧ Below w.heap.size w w') := by
      rw [show n + b = (n + b) % 18446744073709551616 from by omega]; exact fun w v h => turn_some w v (textF n) n b false h (numF_text n hn) hb
    have HBK : Hid (∀ (w : World) (v : Value), IsSl w v ((textF (n + b)).map u8v) → Calls Try.prog 18 #[v, .int .u64 b, .bool true] w fun e w' => ∃ v', e = .returned (.tuple #[v', .int .u64 n, .int .i64 0]) ∧ IsSl w' v' ((textF n).map u8v) ∧ Below w.heap.size w w') := by
      rw [show (n : Int) = ((n + b - b : Nat) : Int) from by omega]
      have := fun w v h => turn_some w v (textF (n + b)) (n + b) b true h (numF_text (n + b) (by omega)) hb
      rw [show turnF (n + b) b true = n from by show n + b - b = n; omega] at this
      rw [show n + b - b = n from by omega]
      exact this
    have hmm : ((((n + b : Nat) : Int)) != ((n : Int) + (b : Int))) = false := by simp
    have hmm2 : (((n : Int) + (b : Int)) != ((n : Int) + (b : Int))) = false := by simp
    have hmm3 : (((n : Int)) == ((n : Int))) = true := by simp

    go_enter Try.func8, Try.ntmps8
    go_wp2_with fail
    refine (wakes _).mono ?_
    rintro e wA ⟨rfl, hbA⟩
    have HB0 := Lib.hid hbA
    clear hbA
    go_wp2_with fail
    refine (text n hn _).mono ?_
    rintro e w1 ⟨v1, rfl, ho1, hb1⟩
    have HB1 : Hid (Below w.heap.size w w1) := HB0.out.trans (hb1.mono HB0.out.size)
    have HO1 := Lib.hid ho1.isSl
    clear ho1 hb1
    go_wp2_with fail
    refine (HUP.out _ _ HO1.out).mono ?_
    rintro e w2 ⟨v2, rfl, ho2, hb2⟩
    have HB2 : Hid (Below w.heap.size w w2) := HB1.out.trans (hb2.mono HB1.out.size)
    have HO2 := Lib.hid ho2
    clear ho2 hb2
    go_wp2_with fail
    refine (HBK.out _ _ HO2.out).mono ?_
    rintro e w3 ⟨v3, rfl, ho3, hb3⟩
    have HB3 : Hid (Below w.heap.size w w3) := HB2.out.trans (hb3.mono HB2.out.size)
    clear ho3 hb3
    go_wp2_with fail
    refine (text n hn _).mono ?_
    rintro e w4 ⟨v4, rfl, ho4, hb4⟩
    have HB4 : Hid (Below w.heap.size w w4) := HB3.out.trans (hb4.mono HB3.out.size)
    have HO4 := Lib.hid ho4.isSl
    clear ho4 hb4
    go_wp2_with fail
    refine (HLS.out _ _ HO4.out).mono ?_
    rintro e w5 ⟨v5, rfl, ho5, hb5⟩
    have HB5 : Hid (Below w.heap.size w w5) := HB4.out.trans (hb5.mono HB4.out.size)
    clear ho5 hb5
    have hl2 : ¬ (n : Int) < ((n - b : Nat) : Int) := by omega
    generalize n - b = l at *
    go_wp2_with fail
    go_ret
    exact ⟨rfl, HB5.out⟩

theorem itemRoundW.walk (a0 a1 : Int) (w : World) (w0 : (Lit.int .u64 a0).wf = true) (w1 : (Lit.int .u64 a1).wf = true) :
    Calls Try.prog 8 #[.int .u64 a0, .int .u64 a1] w fun e w' => e = .returned (.bool true) ∧ Below w.heap.size w w' := by
  obtain ⟨b1, b2⟩ := bounds_u64 w0
  obtain ⟨b3, b4⟩ := bounds_u64 w1
  obtain ⟨n, rfl⟩ := Int.eq_ofNat_of_zero_le b1
  obtain ⟨m, rfl⟩ := Int.eq_ofNat_of_zero_le b3
  exact itemRoundW.core n m w (by omega) (by omega)
end Go.Proofs.Ytkajopdpjdmfcaa
