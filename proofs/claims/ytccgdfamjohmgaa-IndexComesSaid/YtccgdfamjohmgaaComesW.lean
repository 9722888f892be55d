/- The walk of the law IndexComes. No condition. -/
import Derived.Test.YtccgdfamjohmgaaComesP
import Derived.Test.YtccgdfamjohmgaaWake
set_option linter.unusedVariables false
namespace Go.Proofs.Ytccgdfamjohmgaa
open Go.RowKit Go.Ice

set_option maxRecDepth 100000 in
set_option maxHeartbeats 4000000 in
theorem indexComes (s r : Int) (f : Nat) (w : World) (hs : -9223372036854775808 ≤ s ∧ s ≤ 9223372036854775807) (hr : -9223372036854775808 ≤ r ∧ r ≤ 9223372036854775807) (hf : f ≤ 4294967295) :
    Calls Try.prog 4 #[.int .i64 s, .int .i64 r, .int .u32 f] w fun e w' => e = .returned (.bool true) ∧ Below w.heap.size w w' := by
  obtain ⟨hs1, hs2⟩ := hs
  obtain ⟨hr1, hr2⟩ := hr
  go_enter Try.func4, Try.ntmps4
  go_wp2_with fail
  refine (wakes _).mono ?_
  rintro e w1 ⟨rfl, hb1⟩
  have HB1 := Lib.hid hb1
  clear hb1
  go_wp2_with fail
  obtain ⟨N, hN1, hN2, hN⟩ : ∃ N : Nat, 1 ≤ N ∧ N ≤ 20 ∧ wrap64 (1 + wrap64 ((IntKind.u64.wrap s).tmod 20)) = (N : Int) := by
    have h1 : 0 ≤ (IntKind.u64.wrap s).tmod 20 ∧ (IntKind.u64.wrap s).tmod 20 < 20 := by
      have h0 : 0 ≤ IntKind.u64.wrap s := by rw [IntKind.wrap_u64]; omega
      rw [Int.tmod_eq_emod_of_nonneg h0]
      omega
    obtain ⟨m, hm⟩ := Int.eq_ofNat_of_zero_le h1.1
    rw [hm] at h1 ⊢
    refine ⟨m + 1, by omega, by omega, ?_⟩
    unfold wrap64
    omega
  rw [hN]
  clear hN
  refine (Own1.new w w1 N hN1 (by omega) HB1.out).mono ?_
  rintro e w2 ⟨L, rfl, hO, hlo, hb2⟩
  have HO := Lib.hid hO
  clear hO hlo hb2
  by_cases hr0 : r < 0
  · go_wp2_with fail
    refine wp_loop_rounds 1 ?_
    rw [rounds_succ]
    have HOE := HO
    go_wp2_with fail
    refine (HOE.out.len).mono ?_
    rintro e wx ⟨rfl, rfl⟩
    go_wp2_with fail
    refine (HOE.out.left).mono ?_
    rintro e wx ⟨rfl, n, rfl⟩
    go_wp2_with fail
    refine ((HOE.out.drewN n).find f hf).mono ?_
    rintro e wy ⟨v, rfl, hv, hoy, hby⟩
    have HOY := Lib.hid hoy
    obtain ⟨a, cap, rfl, _⟩ := (own_isSlK hv).form
    clear hoy hby hv
    go_wp2_with fail
    go_ret
    exact ⟨by simp [findA], HOY.out.bel⟩
  · go_wp2_with fail
    obtain ⟨M, hM1, hM2⟩ : ∃ M : Nat, M < 60 ∧ r % 60 = (M : Int) := by
      exact ⟨(r % 60).toNat, by omega, by omega⟩
    rw [hM2]
    clear hM2 hr0
    go_loopg [30] M (fun g kv wr => ∃ k : Nat, g = M - k ∧ k ≤ M ∧ kv = .int .i64 k ∧ Hid (Own1 w wr L N []))
    case atStart => exact ⟨0, rfl, by omega, rfl, HO.out⟩
    case round =>
      obtain ⟨k, rfl, hk, rfl, HOE⟩ := hrel
      by_cases hlt : k < M
      · go_wp2_with fail
        go_loopg [34] N (fun g iv wr => ∃ i : Nat, g = N - i ∧ i ≤ N ∧ iv = .int .i64 i ∧ Hid (Own1 w wr L N (entsC f k i)))
        case atStart => exact ⟨0, rfl, by omega, rfl, HOE.out⟩
        case round =>
          clear HOE
          obtain ⟨i, rfl, hi, rfl, HOE⟩ := hrel
          by_cases hlti : i < N
          · go_wp2_with fail
            refine (addC_at HOE.out hlti).mono ?_
            rintro e wx ⟨rfl, ho⟩
            have HOX := Lib.hid ho
            clear ho
            go_wp2_with fail
            go_roundg (N - (i + 1))
            case measure => omega
            case rel => exact ⟨i + 1, rfl, by omega, by go_num, HOX.out⟩
          · obtain rfl : i = N := by omega
            go_wp2_with fail
            refine (leftC_at HOE.out).mono ?_
            rintro e wx ⟨rfl, n, rfl⟩
            go_wp2_with fail
            refine (fullC_at (HOE.out.drewN n) hf).mono ?_
            rintro e wx ⟨rfl, ho⟩
            have HOX := Lib.hid ho
            clear ho HOE
            by_cases hk2 : k % 2 = 0
            · have hk3 : ((k : Int) % 2 == 0) = true := beq_iff_eq.2 (by omega)
              clear hk2
              go_wp2_with fail
              refine (dropC_at HOX.out).mono ?_
              rintro e wy ⟨rfl, ho⟩
              have HOY := Lib.hid ho
              clear ho
              go_wp2_with fail
              go_roundg (M - (k + 1))
              case measure => omega
              case rel => exact ⟨k + 1, rfl, by omega, by go_num, HOY.out⟩
            · have hk3 : ((k : Int) % 2 == 0) = false := beq_eq_false_iff_ne.2 (by omega)
              clear hk2
              go_wp2_with fail
              go_loopg [11] i (fun g jv wr => ∃ j : Nat, g = j ∧ j ≤ i ∧ jv = .int .i64 ((j : Int) - 1) ∧ Hid (Own1 w wr L i (entsC f k j)))
              case atStart => exact ⟨i, rfl, by omega, rfl, HOX.out⟩
              case round =>
                clear HOX
                obtain ⟨j, hgj, hj, rfl, HOX⟩ := hrel
                subst hgj
                cases gk with
                | zero =>
                  go_wp2_with fail
                  go_roundg (M - (k + 1))
                  case measure => omega
                  case rel => exact ⟨k + 1, rfl, by omega, by go_num, HOX.out⟩
                | succ j =>
                  rw [show (((j + 1 : Nat) : Int) - 1) = (j : Int) from by omega]
                  go_wp2_with fail
                  refine (removeCF_at (HOX.out.alloc _)).mono ?_
                  rintro e wy ⟨rfl, ho, hfr⟩
                  have HOY := Lib.hid ho
                  have hc := far_cell HOX.out hfr
                  have c0 := (hc 0).trans (World.cell?_alloc_mark wr _ 32 (0, 0) 0)
                  have c1 := (hc 1).trans (World.cell?_alloc_mark wr _ 32 (0, 0) 1)
                  have c2 := (hc 2).trans (World.cell?_alloc_mark wr _ 32 (0, 0) 2)
                  simp only [List.getElem?_toArray, List.getElem?_cons_zero, List.getElem?_cons_succ] at c0 c1 c2
                  clear ho hfr hc
                  go_wp2_with fail
                  refine (remove2C_at HOY.out).mono ?_
                  rintro e wz ⟨rfl, ho⟩
                  have HOZ := Lib.hid ho
                  clear ho c0 c1 c2
                  go_wp2_with fail
                  go_roundg j
                  case measure => omega
                  case rel => exact ⟨j, rfl, by omega, rfl, HOZ.out⟩
      · go_wp2_with fail
        refine (HOE.out.len).mono ?_
        rintro e wx ⟨rfl, rfl⟩
        go_wp2_with fail
        refine (HOE.out.left).mono ?_
        rintro e wx ⟨rfl, n, rfl⟩
        go_wp2_with fail
        refine ((HOE.out.drewN n).find f hf).mono ?_
        rintro e wy ⟨v, rfl, hv, hoy, hby⟩
        have HOY := Lib.hid hoy
        obtain ⟨a, cap, rfl, _⟩ := (own_isSlK hv).form
        clear hoy hby hv
        go_wp2_with fail
        go_ret
        exact ⟨by simp [findA], HOY.out.bel⟩

theorem indexComesW.walk (a0 a1 a2 : Int) (w : World) (w0 : (Lit.int .i64 a0).wf = true) (w1 : (Lit.int .i64 a1).wf = true) (w2 : (Lit.int .u32 a2).wf = true) :
    Calls Try.prog 4 #[.int .i64 a0, .int .i64 a1, .int .u32 a2] w fun e w' => e = .returned (.bool true) ∧ Below w.heap.size w w' := by
  obtain ⟨b1, b2⟩ := bounds_u32 w2
  obtain ⟨n, rfl⟩ := Int.eq_ofNat_of_zero_le b1
  exact indexComes a0 a1 n w (bounds_i64 w0) (bounds_i64 w1) (by omega)
end Go.Proofs.Ytccgdfamjohmgaa
