/- The document's word on which rings may be. Conditions: the segments lie in memory. -/
import Derived.Test.YtlcdadnfcdjglaaRefA
import Derived.Test.YtlcdadnfcdjglaaNew
set_option linter.unusedVariables false
set_option linter.unusedSimpArgs false
namespace Go.Proofs.Ytlcdadnfcdjglaa
open Go.RowKit Go.Ice Go.Ring

theorem sizedI_nat (n : Nat) (sec : Int) : sizedI n sec = sizedB n sec := by
  unfold sizedI sizedB
  congr 1
  rw [decide_eq_decide]
  omega

set_option maxRecDepth 100000 in
set_option maxHeartbeats 8000000 in
theorem rightRef (w : World) (sec : Int) (v : Value) (l : List Seg) (h : SegsAt w v l) :
    Calls Try.prog 24 #[ringV sec v] w fun e w' => e = .returned (.bool (rightB sec l)) ∧ Below w.heap.size w w' := by
  obtain ⟨B, W0, HB, HW, HK, HZ⟩ := boxed1 w #[.int .i64 sec, v] 25
  have HL0 : Hid (LoopR w B sec v l W0) := ⟨HK.out, RowAt.below h HK.out.below (Nat.le_refl _)⟩
  have b0 : W0.cell? ⟨B, 0, none⟩ = some (.int .i64 sec) := blk_cell HK.out.b0 0
  have b1 : W0.cell? ⟨B, 1, none⟩ = some v := blk_cell HK.out.b0 1
  obtain ⟨a, cap, rfl, hm⟩ := h.form
  have HSZ := Lib.hid (sized42 W0 l.length sec)
  rw [sizedI_nat] at HSZ
  obtain ⟨n, hn⟩ : ∃ n, n = l.length := ⟨_, rfl⟩
  obtain ⟨sb, hsb⟩ : ∃ b, b = sizedB l.length sec := ⟨_, rfl⟩
  rw [← hsb] at HSZ
  rw [← hn] at hm b1 HL0 HW HSZ ⊢
  have HN := Lib.hid hn
  have HSB := Lib.hid hsb
  unfold maxLen at hm
  clear h HK hn hsb
  unfold ringV
  go_enter Try.func24, Try.ntmps24
  go_upto_region 1 with fail
  rw [HB.out, HW.out]
  go_wp2_with fail
  refine HSZ.out.mono ?_
  rintro e w1 ⟨rfl, rfl⟩
  cases sb with
  | false =>
    have HF := Lib.hid (show rightB sec l = false by unfold rightB; rw [← HSB.out]; rfl)
    go_wp2_with fail
    go_ret
    exact ⟨by rw [HF.out]; rfl, HL0.out.kp.below⟩
  | true =>
  have HBAD0 : Hid (∀ k, k < n → rightSeg sec l k (at' l k) = false → rightB sec l = false) := fun k hk hb => by
    unfold rightB
    rw [Bool.and_eq_false_iff]; right
    rw [List.all_eq_false]
    exact ⟨k, List.mem_range.2 (by rw [← HN.out]; exact hk), by rw [hb]; simp⟩
  go_wp2_with fail
  clear b0 b1
  go_loopg [3, 4, 17] n (fun g iv pv kv wr => ∃ k : Nat, g = n - k ∧ k ≤ n ∧ kv = .int .i64 k ∧ Hid (LoopR w B sec (.slice a n cap) l wr) ∧ Hid (∀ j, j < k → rightSeg sec l j (at' l j) = true))
  case atStart => exact ⟨0, rfl, by omega, rfl, HL0.out, fun j hj => by omega⟩
  case round =>
    clear HL0
    obtain ⟨k, rfl, hk, rfl, HS, HJ⟩ := hrel
    by_cases hlt : k < n
    · obtain ⟨bs, off, cap', e, _⟩ := HS.out.segs.cell (by have := HN.out; omega)
      injection e with e1 e2 e3
      subst e1 e3
      clear e2
      obtain ⟨h3, h1, h2, q0, q1, q2⟩ := HS.out.at HN.out hlt
      go_upto_region 6 with fail
      obtain ⟨P, hP⟩ : ∃ P, P = wr.heap.size := ⟨_, rfl⟩
      obtain ⟨Wa, hWa⟩ : ∃ Wa, Wa = wr.alloc (segO (at' l k)) := ⟨_, rfl⟩
      obtain ⟨hla, hca⟩ := HS.out.copy (at' l k)
      rw [← hWa, ← hP] at hca
      rw [← hWa] at hla
      have HLA := Lib.hid hla
      unfold segO at hWa hca
      rw [← hWa, ← hP]
      have HCA := Lib.hid hca
      have HBAD := Lib.hid (HBAD0.out k hlt)
      have HGOOD : Hid (rightSeg sec l k (at' l k) = true → ∀ j, j < k + 1 → rightSeg sec l j (at' l j) = true) := fun h j hj => by
        rcases Nat.lt_succ_iff_lt_or_eq.1 hj with h2 | rfl
        · exact HJ.out j h2
        · exact h
      obtain ⟨s, hs⟩ : ∃ s, s = at' l k := ⟨_, rfl⟩
      rw [← hs] at hca HBAD HCA HGOOD ⊢
      clear hla hWa hP q0 q1 q2 HS hs h3 h1 h2
      obtain ⟨st, gn, us⟩ := s
      dsimp only at hca HCA ⊢
      have a0 : Wa.cell? ⟨P, 0, none⟩ = some (.int .i64 st) := blk_cell hca 0
      have a1 : Wa.cell? ⟨P, 1, none⟩ = some (.int .u64 gn) := blk_cell hca 1
      have a2 : Wa.cell? ⟨P, 2, none⟩ = some (.int .i64 us) := blk_cell hca 2
      clear hca
      by_cases hst : st = 0
      · subst hst
        by_cases hg : gn = 0
        · subst hg
          by_cases hus : us = 0
          · subst hus
            have HGN := Lib.hid (HGOOD.out (by simp [rightSeg]))
            go_wp2_with fail
            go_roundg (n - (k + 1))
            case measure => omega
            case rel => exact ⟨k + 1, rfl, by omega, by go_num, HLA.out, HGN.out⟩
          · have u1 : (us != 0) = true := by simpa using hus
            have HBD := Lib.hid (HBAD.out (by simp [rightSeg, hus]))
            go_wp2_with fail
            go_ret
            exact ⟨by rw [HBD.out]; rfl, HLA.out.kp.below⟩
        · have u1 : ((gn : Int) != 0) = true := by simpa using hg
          have HBD := Lib.hid (HBAD.out (by simp [rightSeg, hg]))
          go_wp2_with fail
          go_ret
          exact ⟨by rw [HBD.out]; rfl, HLA.out.kp.below⟩
      · have s0 : (st == 0) = false := by simpa using hst
        by_cases hst1 : st = 1
        · subst hst1
          clear hst s0
          by_cases hg : gn = 0
          · subst hg
            have HBD := Lib.hid (HBAD.out (by simp [rightSeg]))
            go_wp2_with fail
            go_ret
            exact ⟨by rw [HBD.out]; rfl, HLA.out.kp.below⟩
          · have hg0 : ((gn : Int) == 0) = false := by simpa using hg
            by_cases hu1 : us < 1
            · have HBD := Lib.hid (HBAD.out (by simp [rightSeg]; omega))
              go_wp2_with fail
              go_ret
              exact ⟨by rw [HBD.out]; rfl, HLA.out.kp.below⟩
            · by_cases hu2 : sec < us
              · have HBD := Lib.hid (HBAD.out (by simp [rightSeg]; omega))
                have x0 : Wa.cell? ⟨B, 0, none⟩ = some (.int .i64 sec) := blk_cell HLA.out.kp.b0 0
                go_wp2_with fail
                go_ret
                exact ⟨by rw [HBD.out]; rfl, HLA.out.kp.below⟩
              · have x0 : Wa.cell? ⟨B, 0, none⟩ = some (.int .i64 sec) := blk_cell HLA.out.kp.b0 0
                have x1 : Wa.cell? ⟨B, 1, none⟩ = some (.slice (some ⟨bs, off, none⟩) n cap) := blk_cell HLA.out.kp.b0 1
                have HRS : Hid (rightSeg sec l k ⟨1, gn, us⟩ = (List.range l.length).all fun j => (decide (j = k) || decide (gen l j ≠ gn)) && (decide ((1 : Int) ≠ 1) || decide (gen l j ≤ gn))) := by
                  show _ = _
                  unfold rightSeg
                  simp [hg, show 1 ≤ us from by omega, show us ≤ sec from by omega]
                have HLL : Hid (LoopR w B sec (.slice (some ⟨bs, off, none⟩) n cap) l Wa ∧ Wa.heap[P]? = some (.cells #[.int .i64 1, .int .u64 gn, .int .i64 us] 46 (0, 0))) := ⟨HLA.out, HCA.out⟩
                go_wp2_with fail
                clear x0 x1 a0 a1 a2
                go_loopg [5, 6, 55] n (fun g iv pv jv wj => ∃ j : Nat, g = n - j ∧ j ≤ n ∧ jv = .int .i64 j ∧ Hid ((LoopR w B sec (.slice (some ⟨bs, off, none⟩) n cap) l wj ∧ wj.heap[P]? = some (.cells #[.int .i64 1, .int .u64 gn, .int .i64 us] 46 (0, 0))) ∧ ∀ m, m < j → ((decide (m = k) || decide (gen l m ≠ gn)) && (decide ((1 : Int) ≠ 1) || decide (gen l m ≤ gn))) = true))
                case atStart => exact ⟨0, rfl, by omega, rfl, HLL.out, fun m hm => by omega⟩
                case round =>
                  clear HLL
                  obtain ⟨j, rfl, hj, rfl, HT⟩ := hrel
                  by_cases hltj : j < n
                  · obtain ⟨h3, h1, h2, q0, q1, q2⟩ := HT.out.1.1.at HN.out hltj
                    go_upto_region 18 with fail
                    obtain ⟨Wb, hWb⟩ : ∃ Wb, Wb = wr.alloc (segO (at' l j)) := ⟨_, rfl⟩
                    obtain ⟨hla, hca⟩ := HT.out.1.1.copy (at' l j)
                    have hcp := keep_alloc HT.out.1.2 (segO (at' l j))
                    rw [← hWb] at hla hca hcp
                    have HLB := Lib.hid hla
                    have HCB := Lib.hid hcp
                    unfold segO at hWb hca
                    rw [← hWb]
                    have t1 : Wb.cell? ⟨wr.heap.size, 1, none⟩ = some (.int .u64 (at' l j).gen) := blk_cell hca 1
                    have s0 : Wb.cell? ⟨P, 0, none⟩ = some (.int .i64 1) := blk_cell hcp 0
                    have s1 : Wb.cell? ⟨P, 1, none⟩ = some (.int .u64 gn) := blk_cell hcp 1
                    have HTJ := Lib.hid HT.out.2
                    have hgj : gen l j = (at' l j).gen := rfl
                    have HGJ := Lib.hid hgj
                    have hjl : j < l.length := by rw [← HN.out]; exact hltj
                    have HBB : Hid (((decide (j = k) || decide (gen l j ≠ gn)) && (decide ((1 : Int) ≠ 1) || decide (gen l j ≤ gn))) = false → rightB sec l = false) := fun h => HBAD.out (by
                      rw [HRS.out, List.all_eq_false]
                      exact ⟨j, List.mem_range.2 hjl, by rw [h]; simp⟩)
                    have HGO : Hid (((decide (j = k) || decide (gen l j ≠ gn)) && (decide ((1 : Int) ≠ 1) || decide (gen l j ≤ gn))) = true → ∀ m, m < j + 1 → ((decide (m = k) || decide (gen l m ≠ gn)) && (decide ((1 : Int) ≠ 1) || decide (gen l m ≤ gn))) = true) := fun h m hm => by
                      rcases Nat.lt_succ_iff_lt_or_eq.1 hm with h2 | rfl
                      · exact HTJ.out m h2
                      · exact h
                    rw [HGJ.out] at HBB HGO
                    clear hla hca hcp hWb q0 q1 q2 HT hgj hjl
                    generalize (at' l j).gen = gj at *
                    by_cases hjk : j = k
                    · subst hjk
                      have k0 : ((j : Int) != (j : Int)) = false := by simp
                      by_cases hgt : gn < gj
                      · have HBD := Lib.hid (HBB.out (by simp; omega))
                        go_wp2_with fail
                        go_ret
                        exact ⟨by rw [HBD.out]; rfl, HLB.out.kp.below⟩
                      · have HGN := Lib.hid (HGO.out (by simp; try omega))
                        go_wp2_with fail
                        go_roundg (n - (j + 1))
                        case measure => omega
                        case rel => exact ⟨j + 1, rfl, by omega, by go_num, ⟨HLB.out, HCB.out⟩, HGN.out⟩
                    · have k0 : ((j : Int) != (k : Int)) = true := by simp; omega
                      by_cases heq : gj = gn
                      · subst heq
                        have HBD := Lib.hid (HBB.out (by simp [hjk]))
                        have k1 : ((gj : Int) == (gj : Int)) = true := by simp
                        go_wp2_with fail
                        go_ret
                        exact ⟨by rw [HBD.out]; rfl, HLB.out.kp.below⟩
                      · have k1 : ((gj : Int) == (gn : Int)) = false := by simp; omega
                        by_cases hgt : gn < gj
                        · have HBD := Lib.hid (HBB.out (by simp; omega))
                          go_wp2_with fail
                          go_ret
                          exact ⟨by rw [HBD.out]; rfl, HLB.out.kp.below⟩
                        · have HGN := Lib.hid (HGO.out (by simp [heq]; try omega))
                          go_wp2_with fail
                          go_roundg (n - (j + 1))
                          case measure => omega
                          case rel => exact ⟨j + 1, rfl, by omega, by go_num, ⟨HLB.out, HCB.out⟩, HGN.out⟩
                  · obtain rfl : j = n := by omega
                    have HGN := Lib.hid (HGOOD.out (by rw [HRS.out, List.all_eq_true]; intro m hm; exact HT.out.2 m (by rw [List.mem_range, ← HN.out] at hm; exact hm)))
                    have HLT : Hid (LoopR w B sec (.slice (some ⟨bs, off, none⟩) j cap) l wr) := HT.out.1.1
                    clear HT
                    go_wp2_with fail
                    go_roundg (j - (k + 1))
                    case measure => omega
                    case rel => exact ⟨k + 1, rfl, by omega, by go_num, HLT.out, HGN.out⟩
        · by_cases hst2 : st = 2
          · subst hst2
            clear hst s0 hst1
            by_cases hg : gn = 0
            · subst hg
              have HBD := Lib.hid (HBAD.out (by simp [rightSeg]))
              go_wp2_with fail
              go_ret
              exact ⟨by rw [HBD.out]; rfl, HLA.out.kp.below⟩
            · have hg0 : ((gn : Int) == 0) = false := by simpa using hg
              by_cases hu1 : us < 1
              · have HBD := Lib.hid (HBAD.out (by simp [rightSeg]; omega))
                go_wp2_with fail
                go_ret
                exact ⟨by rw [HBD.out]; rfl, HLA.out.kp.below⟩
              · by_cases hu2 : sec < us
                · have HBD := Lib.hid (HBAD.out (by simp [rightSeg]; omega))
                  have x0 : Wa.cell? ⟨B, 0, none⟩ = some (.int .i64 sec) := blk_cell HLA.out.kp.b0 0
                  go_wp2_with fail
                  go_ret
                  exact ⟨by rw [HBD.out]; rfl, HLA.out.kp.below⟩
                · have x0 : Wa.cell? ⟨B, 0, none⟩ = some (.int .i64 sec) := blk_cell HLA.out.kp.b0 0
                  have x1 : Wa.cell? ⟨B, 1, none⟩ = some (.slice (some ⟨bs, off, none⟩) n cap) := blk_cell HLA.out.kp.b0 1
                  have HRS : Hid (rightSeg sec l k ⟨2, gn, us⟩ = (List.range l.length).all fun j => (decide (j = k) || decide (gen l j ≠ gn)) && (decide ((2 : Int) ≠ 1) || decide (gen l j ≤ gn))) := by
                    show _ = _
                    unfold rightSeg
                    simp [hg, show 1 ≤ us from by omega, show us ≤ sec from by omega]
                  have HLL : Hid (LoopR w B sec (.slice (some ⟨bs, off, none⟩) n cap) l Wa ∧ Wa.heap[P]? = some (.cells #[.int .i64 2, .int .u64 gn, .int .i64 us] 46 (0, 0))) := ⟨HLA.out, HCA.out⟩
                  go_wp2_with fail
                  clear x0 x1 a0 a1 a2
                  go_loopg [5, 6, 55] n (fun g iv pv jv wj => ∃ j : Nat, g = n - j ∧ j ≤ n ∧ jv = .int .i64 j ∧ Hid ((LoopR w B sec (.slice (some ⟨bs, off, none⟩) n cap) l wj ∧ wj.heap[P]? = some (.cells #[.int .i64 2, .int .u64 gn, .int .i64 us] 46 (0, 0))) ∧ ∀ m, m < j → ((decide (m = k) || decide (gen l m ≠ gn)) && (decide ((2 : Int) ≠ 1) || decide (gen l m ≤ gn))) = true))
                  case atStart => exact ⟨0, rfl, by omega, rfl, HLL.out, fun m hm => by omega⟩
                  case round =>
                    clear HLL
                    obtain ⟨j, rfl, hj, rfl, HT⟩ := hrel
                    by_cases hltj : j < n
                    · obtain ⟨h3, h1, h2, q0, q1, q2⟩ := HT.out.1.1.at HN.out hltj
                      go_upto_region 18 with fail
                      obtain ⟨Wb, hWb⟩ : ∃ Wb, Wb = wr.alloc (segO (at' l j)) := ⟨_, rfl⟩
                      obtain ⟨hla, hca⟩ := HT.out.1.1.copy (at' l j)
                      have hcp := keep_alloc HT.out.1.2 (segO (at' l j))
                      rw [← hWb] at hla hca hcp
                      have HLB := Lib.hid hla
                      have HCB := Lib.hid hcp
                      unfold segO at hWb hca
                      rw [← hWb]
                      have t1 : Wb.cell? ⟨wr.heap.size, 1, none⟩ = some (.int .u64 (at' l j).gen) := blk_cell hca 1
                      have s0 : Wb.cell? ⟨P, 0, none⟩ = some (.int .i64 2) := blk_cell hcp 0
                      have s1 : Wb.cell? ⟨P, 1, none⟩ = some (.int .u64 gn) := blk_cell hcp 1
                      have HTJ := Lib.hid HT.out.2
                      have hgj : gen l j = (at' l j).gen := rfl
                      have HGJ := Lib.hid hgj
                      have hjl : j < l.length := by rw [← HN.out]; exact hltj
                      have HBB : Hid (((decide (j = k) || decide (gen l j ≠ gn)) && (decide ((2 : Int) ≠ 1) || decide (gen l j ≤ gn))) = false → rightB sec l = false) := fun h => HBAD.out (by
                        rw [HRS.out, List.all_eq_false]
                        exact ⟨j, List.mem_range.2 hjl, by rw [h]; simp⟩)
                      have HGO : Hid (((decide (j = k) || decide (gen l j ≠ gn)) && (decide ((2 : Int) ≠ 1) || decide (gen l j ≤ gn))) = true → ∀ m, m < j + 1 → ((decide (m = k) || decide (gen l m ≠ gn)) && (decide ((2 : Int) ≠ 1) || decide (gen l m ≤ gn))) = true) := fun h m hm => by
                        rcases Nat.lt_succ_iff_lt_or_eq.1 hm with h2 | rfl
                        · exact HTJ.out m h2
                        · exact h
                      rw [HGJ.out] at HBB HGO
                      clear hla hca hcp hWb q0 q1 q2 HT hgj hjl
                      generalize (at' l j).gen = gj at *
                      by_cases hjk : j = k
                      · subst hjk
                        have k0 : ((j : Int) != (j : Int)) = false := by simp
                        by_cases hgt : gn < gj
                        · have HGN := Lib.hid (HGO.out (by simp))
                          go_wp2_with fail
                          go_roundg (n - (j + 1))
                          case measure => omega
                          case rel => exact ⟨j + 1, rfl, by omega, by go_num, ⟨HLB.out, HCB.out⟩, HGN.out⟩
                        · have HGN := Lib.hid (HGO.out (by simp; try omega))
                          go_wp2_with fail
                          go_roundg (n - (j + 1))
                          case measure => omega
                          case rel => exact ⟨j + 1, rfl, by omega, by go_num, ⟨HLB.out, HCB.out⟩, HGN.out⟩
                      · have k0 : ((j : Int) != (k : Int)) = true := by simp; omega
                        by_cases heq : gj = gn
                        · subst heq
                          have HBD := Lib.hid (HBB.out (by simp [hjk]))
                          have k1 : ((gj : Int) == (gj : Int)) = true := by simp
                          go_wp2_with fail
                          go_ret
                          exact ⟨by rw [HBD.out]; rfl, HLB.out.kp.below⟩
                        · have k1 : ((gj : Int) == (gn : Int)) = false := by simp; omega
                          by_cases hgt : gn < gj
                          · have HGN := Lib.hid (HGO.out (by simp [heq]))
                            go_wp2_with fail
                            go_roundg (n - (j + 1))
                            case measure => omega
                            case rel => exact ⟨j + 1, rfl, by omega, by go_num, ⟨HLB.out, HCB.out⟩, HGN.out⟩
                          · have HGN := Lib.hid (HGO.out (by simp [heq]; try omega))
                            go_wp2_with fail
                            go_roundg (n - (j + 1))
                            case measure => omega
                            case rel => exact ⟨j + 1, rfl, by omega, by go_num, ⟨HLB.out, HCB.out⟩, HGN.out⟩
                    · obtain rfl : j = n := by omega
                      have HGN := Lib.hid (HGOOD.out (by rw [HRS.out, List.all_eq_true]; intro m hm; exact HT.out.2 m (by rw [List.mem_range, ← HN.out] at hm; exact hm)))
                      have HLT : Hid (LoopR w B sec (.slice (some ⟨bs, off, none⟩) j cap) l wr) := HT.out.1.1
                      clear HT
                      go_wp2_with fail
                      go_roundg (j - (k + 1))
                      case measure => omega
                      case rel => exact ⟨k + 1, rfl, by omega, by go_num, HLT.out, HGN.out⟩
          · have s1 : (st == 1) = false := by simpa using hst1
            have s2 : (st == 2) = false := by simpa using hst2
            have HBD := Lib.hid (HBAD.out (by simp [rightSeg, hst, hst1, hst2]))
            go_wp2_with fail
            go_ret
            exact ⟨by rw [HBD.out]; rfl, HLA.out.kp.below⟩
    · obtain rfl : k = n := by omega
      have HF := Lib.hid (show rightB sec l = true by
        unfold rightB
        rw [← HSB.out, Bool.true_and, List.all_eq_true]
        intro j hj
        exact HJ.out j (by rw [List.mem_range, ← HN.out] at hj; exact hj))
      go_wp2_with fail
      go_ret
      exact ⟨by rw [HF.out]; rfl, HS.out.kp.below⟩
end Go.Proofs.Ytlcdadnfcdjglaa
