/- The walk of the law ItemNumbers. Condition: the slice has room in memory. -/
import Derived.Test.YtkajopdpjdmfcaaRef
import Derived.Test.YtkajopdpjdmfcaaApp
import Derived.Deep.RegionWith
set_option linter.unusedVariables false
namespace Go.Proofs.Ytkajopdpjdmfcaa
open Go.RowKit Go.Ice

theorem elemU8 : Elem Try.prog 22 5 1 1 (.int .u8 0) :=
  ⟨Try.underlying22, by
    obtain ⟨i0, hi, hz0, hz1, hz2⟩ := info_parts (show (Try.prog.info? 5).map (fun i => (i.zero, i.size, i.bytes)) = some (some (.int .u8 0), 1, 1) by kernel_rfl)
    exact ⟨i0, hi, hz0, hz1, hz2⟩, rfl, by decide⟩

theorem u8v_one (bs : List UInt8) : ∀ u ∈ bs.map u8v, u.oneCell' = true := by
  intro u hu
  obtain ⟨c, _, rfl⟩ := List.mem_map.1 hu
  rfl

theorem numF_le (bs : List UInt8) : (numF bs).getD 0 ≤ 18446744073709551615 := by
  unfold numF
  split
  · simp
  · by_cases h : (∀ c ∈ bs, isDig c) ∧ valF 0 bs ≤ 18446744073709551615
    · rw [numLoop_some bs 0 h.1 h.2]; exact h.2
    · rw [numLoop_none bs 0 (by
        by_cases h1 : ∀ c ∈ bs, isDig c
        · exact .inr (by have : ¬ valF 0 bs ≤ 18446744073709551615 := fun h2 => h ⟨h1, h2⟩
                         omega)
        · exact .inl h1) (by omega)]
      simp

/-- The two results in plain form: what the number is, and whether there is one. -/
theorem number_none (w : World) (v : Value) (bs : List UInt8) (h : IsSl w v (bs.map u8v)) (hq : numF bs = none) :
    Calls Try.prog 11 #[v] w fun e w' => e = .returned (.tuple #[.int .u64 0, .int .i64 270]) ∧ Below w.heap.size w w' :=
  (number_any w v bs h).mono fun e w' ⟨h1, h2⟩ => ⟨by rw [h1, hq]; rfl, h2⟩
theorem number_some (w : World) (v : Value) (bs : List UInt8) (k : Nat) (h : IsSl w v (bs.map u8v)) (hq : numF bs = some k) :
    Calls Try.prog 11 #[v] w fun e w' => e = .returned (.tuple #[.int .u64 k, .int .i64 0]) ∧ Below w.heap.size w w' :=
  (number_any w v bs h).mono fun e w' ⟨h1, h2⟩ => ⟨by rw [h1, hq]; rfl, h2⟩
theorem numRef_none (w : World) (v : Value) (bs : List UInt8) (h : IsSl w v (bs.map u8v)) (hq : numF bs = none) :
    Calls Try.prog 12 #[v] w fun e w' => e = .returned (.tuple #[.int .u64 0, .bool false]) ∧ Below w.heap.size w w' :=
  (numRef_any w v bs h).mono fun e w' ⟨h1, h2⟩ => ⟨by rw [h1, hq]; rfl, h2⟩
theorem numRef_some (w : World) (v : Value) (bs : List UInt8) (k : Nat) (h : IsSl w v (bs.map u8v)) (hq : numF bs = some k) :
    Calls Try.prog 12 #[v] w fun e w' => e = .returned (.tuple #[.int .u64 k, .bool true]) ∧ Below w.heap.size w w' :=
  (numRef_any w v bs h).mono fun e w' ⟨h1, h2⟩ => ⟨by rw [h1, hq]; rfl, h2⟩

set_option maxHeartbeats 2000000 in
theorem itemNumbersW.core (v : Value) (bs : List UInt8) (n : Nat) (w : World) (hv : IsSl w v (bs.map u8v)) (hl : bs.length ≤ 140737488351232) (hn : n ≤ 18446744073709551615) :
    Calls Try.prog 3 #[v, .int .u64 n] w fun e w' => e = .returned (.bool true) ∧ Below w.heap.size w w' := by
  have HV := Lib.hid hv
  clear hv
  have HT := Lib.hid (textRef (n + 1) n)
  have hle := numF_le bs
  rcases hq : numF bs with _ | k
  · have Hq := Lib.hid hq
    clear hle hq
    
    go_enter Try.func3, Try.ntmps3
    go_wp2_with fail
    refine (wakes _).mono ?_
    rintro e wA ⟨rfl, hbA⟩
    have hvA := HV.out.below hbA (Nat.le_refl _)
    obtain ⟨v', w1, hrun, hown, hgrow, _⟩ := append_sl (P := Try.prog) (ty := 22) elemU8 (own_new wA 5 w.heap.size hbA.size) (hvA.alloc (.cells #[] 5)) (u8v_one bs) (by simp; omega) (by simp [maxLen]; omega) (by have := hbA.size; simp; omega)
    have hb1 : Below w.heap.size w w1 := (hbA.alloc hbA.size _).grown hgrow (by have := hbA.size; simp; omega) (fun k hk => by simp [Value.ownBlock] at hk; have := hbA.size; omega)
    have HVA := Lib.hid hvA
    have HO := Lib.hid (own_isSl hown)
    have HB1 := Lib.hid hb1
    have HR := Lib.hid hrun
    clear hvA hown hgrow hb1 hrun
    go_wp2_with (at_builtin; refine wpList_append_eq rfl _ _ 22 rfl rfl rfl HR.out ?_)
    refine (number_none _ _ bs HO.out Hq.out).mono ?_
    rintro e w2 ⟨rfl, hb2⟩
    have HB2 : Hid (Below w.heap.size w w2) := HB1.out.trans (hb2.mono HB1.out.size)
    have HV2 : Hid (IsSl w2 v (bs.map u8v)) := HV.out.below HB2.out (Nat.le_refl _)
    clear hb2
    go_wp2_with fail
    refine (numRef_none _ _ bs HV2.out Hq.out).mono ?_
    rintro e w3 ⟨rfl, hb3⟩
    have HB3 : Hid (Below w.heap.size w w3) := HB2.out.trans (hb3.mono HB2.out.size)
    clear hb3
    go_wp2_with fail
    go_region_with (first
      | (go_at_call 13; refine (text n hn _).mono ?_; rintro e wx ⟨vx, rfl, hox, hbx⟩; have hconv := convert_sl (P := Try.prog) 22 5 Try.underlying22 Try.underlying5 hox.isSl 9 Try.underlying9; have HBX := Lib.hid hbx; clear hbx hox)
      | (go_at_call 14; refine (HT.out _ (by omega) hn).mono ?_; rintro e wy ⟨rfl, rfl⟩))
    all_goals
      go_wp2_with fail
      go_ret
      refine ⟨?_, HB3.out.drew.trans (HBX.out.mono HB3.out.size)⟩
      simp [Act.put]
  · have Hq := Lib.hid hq
    rw [hq] at hle; simp only [Option.getD_some] at hle; have hkk : ((k : Int) != (k : Int)) = false := by simp
    clear hq
    go_enter Try.func3, Try.ntmps3
    go_wp2_with fail
    refine (wakes _).mono ?_
    rintro e wA ⟨rfl, hbA⟩
    have hvA := HV.out.below hbA (Nat.le_refl _)
    obtain ⟨v', w1, hrun, hown, hgrow, _⟩ := append_sl (P := Try.prog) (ty := 22) elemU8 (own_new wA 5 w.heap.size hbA.size) (hvA.alloc (.cells #[] 5)) (u8v_one bs) (by simp; omega) (by simp [maxLen]; omega) (by have := hbA.size; simp; omega)
    have hb1 : Below w.heap.size w w1 := (hbA.alloc hbA.size _).grown hgrow (by have := hbA.size; simp; omega) (fun k hk => by simp [Value.ownBlock] at hk; have := hbA.size; omega)
    have HVA := Lib.hid hvA
    have HO := Lib.hid (own_isSl hown)
    have HB1 := Lib.hid hb1
    have HR := Lib.hid hrun
    clear hvA hown hgrow hb1 hrun
    go_wp2_with (at_builtin; refine wpList_append_eq rfl _ _ 22 rfl rfl rfl HR.out ?_)
    refine (number_some _ _ bs k HO.out Hq.out).mono ?_
    rintro e w2 ⟨rfl, hb2⟩
    have HB2 : Hid (Below w.heap.size w w2) := HB1.out.trans (hb2.mono HB1.out.size)
    have HV2 : Hid (IsSl w2 v (bs.map u8v)) := HV.out.below HB2.out (Nat.le_refl _)
    clear hb2
    go_wp2_with fail
    refine (numRef_some _ _ bs k HV2.out Hq.out).mono ?_
    rintro e w3 ⟨rfl, hb3⟩
    have HB3 : Hid (Below w.heap.size w w3) := HB2.out.trans (hb3.mono HB2.out.size)
    clear hb3
    go_wp2_with fail
    go_region_with (first
      | (go_at_call 13; refine (text n hn _).mono ?_; rintro e wx ⟨vx, rfl, hox, hbx⟩; have hconv := convert_sl (P := Try.prog) 22 5 Try.underlying22 Try.underlying5 hox.isSl 9 Try.underlying9; have HBX := Lib.hid hbx; clear hbx hox)
      | (go_at_call 14; refine (HT.out _ (by omega) hn).mono ?_; rintro e wy ⟨rfl, rfl⟩))
    all_goals
      go_wp2_with fail
      go_ret
      refine ⟨?_, HB3.out.drew.trans (HBX.out.mono HB3.out.size)⟩
      simp [Act.put]
theorem itemNumbersW.walk (a0 : Option Addr) (len0 cap0 : Nat) (z0 : List Int) (a1 : Int) (w : World) (w0 : IsRow .u8 w a0 len0 cap0 z0) (s0 : len0 * 1 ≤ 140737488351232) (w1 : (Lit.int .u64 a1).wf = true) :
    Calls Try.prog 3 #[.slice a0 len0 cap0, .int .u64 a1] w fun e w' => e = .returned (.bool true) ∧ Below w.heap.size w w' := by
  obtain ⟨bs, hl, hs⟩ := w0.bytes
  obtain ⟨b1, b2⟩ := bounds_u64 w1
  obtain ⟨n, rfl⟩ := Int.eq_ofNat_of_zero_le b1
  exact itemNumbersW.core _ bs n w hs (by omega) (by omega)
end Go.Proofs.Ytkajopdpjdmfcaa
