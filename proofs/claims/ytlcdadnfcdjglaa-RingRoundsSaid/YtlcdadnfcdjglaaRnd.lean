/- The laws' helper round: the sealed segments stand side by side. Condition: they do. -/
import Derived.Test.YtlcdadnfcdjglaaPlain6
import Derived.Test.YtlcdadnfcdjglaaOld
import Derived.Test.YtlcdadnfcdjglaaTrn
import Derived.StillTailTactics
set_option linter.unusedVariables false
set_option linter.unusedSimpArgs false
namespace Go.Proofs.Ytlcdadnfcdjglaa
open Go.RowKit Go.Ice Go.Ring

set_option maxHeartbeats 8000000 in
theorem roundW (w : World) (sec : Int) (v : Value) (l : List Seg) (s m : Nat) (o : Bool) (h : SegsAt w v l) (hs : Side sec l s m o) :
    Calls Try.prog 40 #[ringV sec v] w fun e w' => e = .returned (.bool true) ∧ Below w.heap.size w w' := by
  obtain ⟨B, W0, HB, HW, HK, HZ⟩ := boxed1 w #[.int .i64 sec, v] 25
  have HR : Hid (SegsAt W0 v l) := RowAt.below h HK.out.below (Nat.le_refl _)
  have HOL := Lib.hid (oldst W0 sec v l HR.out)
  rw [hs.check, hs.oldest] at HOL
  obtain ⟨K, hK⟩ : ∃ K, K = sealedN m o := ⟨_, rfl⟩
  rw [← hK] at HOL
  have HKK := Lib.hid hK
  have HS := Lib.hid hs
  have b0 : W0.cell? ⟨B, 0, none⟩ = some (.int .i64 sec) := blk_cell HK.out.b0 0
  have b1 : W0.cell? ⟨B, 1, none⟩ = some v := blk_cell HK.out.b0 1
  clear h hs hK
  unfold ringV seekV at *
  simp only [if_true] at HOL
  go_enter Try.func40, Try.ntmps40
  go_upto_region 1 with fail
  rw [HB.out, HW.out]
  by_cases h0 : K = 0
  · rw [if_pos h0] at HOL
    simp only at HOL
    clear h0
    go_wp2_with fail
    refine HOL.out.mono ?_
    rintro e w1 ⟨rfl, hb⟩
    have HB := Lib.hid (HK.out.step hb).below
    clear hb b0 b1 HOL
    go_wp2_with fail
    go_ret
    exact ⟨rfl, HB.out⟩
  · rw [if_neg h0] at HOL
    simp only at HOL
    have H0 := Lib.hid h0
    clear h0
    go_wp2_with fail
    refine HOL.out.mono ?_
    rintro e W1 ⟨rfl, hb⟩
    have HK1 := Lib.hid (HK.out.step hb)
    have HR1 : Hid (SegsAt W1 v l) := RowAt.below HR.out hb (Nat.le_refl _)
    clear hb b0 b1 HOL HR HK HW
    obtain ⟨bs, off, cap, rfl, e1, e2, e3, e4⟩ := HR1.out.cell HS.out.pos
    obtain ⟨n, hn⟩ : ∃ n, n = l.length := ⟨_, rfl⟩
    have hnx : 4 ≤ l.length ∧ l.length ≤ 16 := by have := check_size HS.out.check; omega
    rw [← hn] at e1 e4 HK1 HR1 hnx
    have HN := Lib.hid hn
    have E4 := Lib.hid e4
    obtain ⟨hn4, hn16⟩ := hnx
    rw [← hn]
    have b1 : W1.cell? ⟨B, 1, none⟩ = some (.slice (some ⟨bs, off, none⟩) n cap) := blk_cell HK1.out.b0 1
    clear hn e4
    go_wp2_with fail
    go_loopg [6, 8, 23] n (fun g cv pv iv wr => ∃ i : Nat, g = n - i ∧ i ≤ n ∧ iv = .int .i64 i ∧ cv = .int .i64 (cntS l i) ∧ Hid (Below W1.heap.size W1 wr))
    case atStart => exact ⟨0, rfl, by omega, rfl, rfl, Below.refl _ _⟩
    case round =>
      obtain ⟨i, rfl, hi, rfl, rfl, HJ⟩ := hrel
      have hcl := cntS_le l i
      by_cases hlt : i < n
      · obtain ⟨q0, q1, q2⟩ := E4.out i hlt
        rw [← HJ.out.cell (p := ⟨bs, _, none⟩) e3] at q0 q1 q2
        have HSU := Lib.hid (cntS_succ l i)
        generalize at' l i = sg at *
        have HJ2 : Hid (Below W1.heap.size W1 (wr.alloc (.cells #[.int .i64 sg.st, .int .u64 sg.gen, .int .i64 sg.used] 46))) := HJ.out.alloc HJ.out.size _
        by_cases hst : sg.st = 2
        · have s0 : (sg.st == 2) = true := by simpa using hst
          have HST := Lib.hid hst
          generalize hcc : cntS l i = cc at *
          clear hst hcc
          go_wp2_with fail
          go_roundg (n - (i + 1))
          case measure => omega
          case rel => exact ⟨i + 1, rfl, by omega, by go_num, by rw [HSU.out, if_pos HST.out]; go_num, HJ2.out⟩
        · have s0 : (sg.st == 2) = false := by simpa using hst
          have HST := Lib.hid hst
          generalize hcc : cntS l i = cc at *
          clear hst hcc
          go_wp2_with fail
          go_roundg (n - (i + 1))
          case measure => omega
          case rel => exact ⟨i + 1, rfl, by omega, by go_num, by rw [HSU.out, if_neg HST.out]; go_num, HJ2.out⟩
      · obtain rfl : i = n := by omega
        have HCN : Hid (cntS l i = K) := by show _ = _; rw [HN.out, HS.out.cnt, HKK.out]
        rw [HCN.out]
        have hKi : K ≤ i := by rw [← HCN.out]; exact hcl
        clear hcl
        go_wp2_with fail
        go_loopg [5, 9, 10] K (fun g lv kv pv W2 => ∃ k : Nat, g = K - k ∧ k ≤ K ∧ kv = .int .i64 k ∧ lv = .int .u64 (lastAt l s k) ∧ Hid (Below W1.heap.size W1 W2))
        case atStart => exact ⟨0, rfl, by omega, rfl, rfl, HJ.out⟩
        case round =>
          clear HJ
          obtain ⟨wo, hwo⟩ : ∃ wo : World, wo = wr := ⟨_, rfl⟩
          obtain ⟨k, rfl, hk, rfl, rfl, HJ⟩ := hrel
          by_cases hlt : k < K
          · obtain ⟨r1, r2⟩ := HS.out.round (by rw [← HKK.out]; exact hlt)
            have hla : lastAt l s (k + 1) = gen l ((s + k) % l.length) := by unfold lastAt; simp
            rw [← HN.out] at r1 r2 hla
            obtain ⟨idx, hidx⟩ : ∃ idx, idx = (s + k) % i := ⟨_, rfl⟩
            have hil : idx < i := by rw [hidx]; exact Nat.mod_lt _ (by omega)
            have hsl : s < i := by rw [HN.out]; exact HS.out.hs
            have hie : ((s : Int) + (k : Int)) % (i : Int) = (idx : Int) := by rw [hidx, Int.natCast_emod, Int.natCast_add]
            rw [← hidx] at r1 r2 hla
            obtain ⟨q0, q1, q2⟩ := E4.out idx hil
            rw [← HJ.out.cell (p := ⟨bs, _, none⟩) e3] at q0 q1 q2
            have b1 : wr.cell? ⟨B, 1, none⟩ = some (.slice (some ⟨bs, off, none⟩) i cap) := blk_cell (HK1.out.step HJ.out).b0 1
            have hwr : IntKind.i64.wrap ((s : Int) + (k : Int)) = (s : Int) + (k : Int) := by rw [IntKind.wrap_i64]; omega
            have htm : ((s : Int) + (k : Int)).tmod (i : Int) = (idx : Int) := by rw [Int.tmod_eq_emod_of_nonneg (by omega)]; exact hie
            have hbs : bs < wr.heap.size := by have := HJ.out.size; omega
            have hBs : B < wr.heap.size := by have := HJ.out.size; have := blk_lt HK1.out.b0; omega
            have HLA := Lib.hid hla
            have HR1 := Lib.hid r1
            have HR2 := Lib.hid r2
            clear hidx hla r1 r2 hwo
            go_upto_region 15 with fail
            go_region_with (fail)
            all_goals
              clear q0 q1 q2 b1 hwr htm hie
              go_upto_region 16 with fail
              refine wp_world (fun W' => Below wr.heap.size wr W' ∧ W'.heap[wr.heap.size]? = some (.cells #[.int .i64 (at' l idx).st, .int .u64 (at' l idx).gen, .int .i64 (at' l idx).used] 46 (0, 0))) ⟨((Below.refl _ wr).alloc (Nat.le_refl _) _).drew, heap_alloc_new wr _⟩ ?_
              rintro W3 ⟨hb3, hc3⟩
              have g0 : W3.cell? ⟨wr.heap.size, 0, none⟩ = some (.int .i64 2) := by rw [← HR1.out]; exact blk_cell hc3 0
              have g1 : W3.cell? ⟨wr.heap.size, 1, none⟩ = some (.int .u64 (gen l idx : Nat)) := blk_cell hc3 1
              have HB3 : Hid (Below W1.heap.size W1 W3) := HJ.out.trans (hb3.mono HJ.out.size)
              have hgd : ¬ (gen l idx) ≤ lastAt l s k := by have := HR2.out; omega
              have hgd2 : decide ((gen l idx) ≤ lastAt l s k) = false := by simpa using hgd
              have hgi : ¬ ((gen l idx : Nat) : Int) ≤ (lastAt l s k : Nat) := by omega
              clear hb3 hc3
              obtain ⟨gg, hgg⟩ : ∃ gg, gg = gen l idx := ⟨_, rfl⟩
              obtain ⟨la, hla⟩ : ∃ la, la = lastAt l s k := ⟨_, rfl⟩
              rw [← hgg] at g1 hgd hgd2 hgi HLA
              rw [← hla] at hgd hgd2 hgi ⊢
              have HGG := Lib.hid hgg
              clear hgg hla
              go_wp2_with fail
              go_roundg (K - (k + 1))
              case measure => omega
              case rel => exact ⟨k + 1, rfl, by omega, by go_num, by rw [HLA.out], HB3.out⟩
          · obtain rfl : k = K := by omega
            have HBE := Lib.hid (HK1.out.step HJ.out).below
            go_wp2_with fail
            go_ret
            exact ⟨rfl, HBE.out⟩
end Go.Proofs.Ytlcdadnfcdjglaa
