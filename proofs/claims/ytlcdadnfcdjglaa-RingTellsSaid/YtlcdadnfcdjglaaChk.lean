/- Check: when a ring may be. Conditions: the segments lie in memory. -/
import Derived.Test.YtlcdadnfcdjglaaFind
set_option linter.unusedVariables false
set_option linter.unusedSimpArgs false
namespace Go.Proofs.Ytlcdadnfcdjglaa
open Go.RowKit Go.Ice Go.Ring

def chekE (b : Bool) : Value := .int .i64 (if b then 0 else 180)

set_option maxHeartbeats 4000000 in
theorem chek (w : World) (sec : Int) (v : Value) (l : List Seg) (h : SegsAt w v l) :
    Calls Try.prog 13 #[ringV sec v] w fun e w' => e = .returned (chekE (checkB sec l)) ∧ Below w.heap.size w w' := by
  obtain ⟨a, cap, rfl, hmx⟩ := h.form
  unfold maxLen at hmx
  obtain ⟨B, hB⟩ : ∃ B, B = w.heap.size := ⟨_, rfl⟩
  obtain ⟨n, hnn⟩ : ∃ n, n = l.length := ⟨_, rfl⟩
  rw [← hnn] at hmx
  have HR : Hid (SegsAt w (.slice a n cap) l) := by show SegsAt _ _ _; rw [hnn]; exact h
  rw [← hnn]
  obtain ⟨W0, hW0⟩ : ∃ W0, W0 = w.alloc (.cells #[.int .i64 sec, .slice a n cap] 25) := ⟨_, rfl⟩
  have HBX : Hid (W0.heap[B]? = some (.cells #[.int .i64 sec, .slice a n cap] 25 (0, 0))) := by show _ = _; rw [hW0, hB]; exact heap_alloc_new w _
  have HBL : Hid (Below B w W0) := by show Below _ _ _; rw [hW0]; exact (Below.refl B w).alloc (by omega) _
  have HB := Lib.hid hB
  have HN := Lib.hid hnn
  have b0 : W0.cell? ⟨B, 0, none⟩ = some (.int .i64 sec) := blk_cell HBX.out 0
  have b1 : W0.cell? ⟨B, 1, none⟩ = some (.slice a n cap) := blk_cell HBX.out 1
  have HZ := Lib.hid (sizd W0 n sec)
  obtain ⟨sz, hsz⟩ : ∃ sz, sz = sizedB n sec := ⟨_, rfl⟩
  rw [← hsz] at HZ
  have HSZ := Lib.hid hsz
  clear h hnn hsz
  unfold ringV
  go_enter Try.func13, Try.ntmps13
  go_upto_region 1 with fail
  rw [← hB, ← hW0]
  clear hW0 hB
  go_wp2_with fail
  refine HZ.out.mono ?_
  rintro e w1 ⟨rfl, rfl⟩
  cases sz with
  | false =>
    have hc : checkB sec l = false := by unfold checkB; rw [← HN.out, ← HSZ.out]; rfl
    have HC := Lib.hid hc
    clear hc
    go_wp2_with fail
    go_ret
    exact ⟨by rw [HC.out]; rfl, by rw [← HB.out]; exact HBL.out⟩
  | true =>
    have hn16 : 4 ≤ n ∧ n ≤ 16 := by
      have := HSZ.out
      unfold sizedB at this
      have := this.symm
      rw [Bool.and_eq_true] at this
      exact of_decide_eq_true this.1
    have hcell := HR.out.cell (by have := HN.out; omega)
    rw [← HN.out] at hcell
    obtain ⟨bs, off, cap', hv, h1, h2, h3, h4⟩ := hcell
    injection hv with e1 e2 e3
    subst e1 e3
    have h3 : bs < B := by rw [HB.out]; exact h3
    have HF : Hid (∀ wr : World, Below B w wr → ∀ i, i < n → wr.cell? ⟨bs, off + i * 3, none⟩ = some (.int .i64 (at' l i).st) ∧ wr.cell? ⟨bs, off + i * 3 + 1, none⟩ = some (.int .u64 (at' l i).gen) ∧ wr.cell? ⟨bs, off + i * 3 + 2, none⟩ = some (.int .i64 (at' l i).used)) := fun wr hb i hi => by
      have hbx : ∀ k, wr.cell? ⟨bs, k, none⟩ = w.cell? ⟨bs, k, none⟩ := fun k => (Frm.cell (frm_of_below hb) (p := ⟨bs, k, none⟩) (by have := HB.out; show bs < _; omega) (by show ¬ B ≤ bs; omega))
      rw [hbx, hbx, hbx]
      exact h4 i hi
    have hBAD : ∀ i, i < n → segOk sec (at' l i) = false → checkB sec l = false := fun i hi hs => by
      unfold checkB
      have : l.all (segOk sec) = false := by
        rw [List.all_eq_false]
        refine ⟨at' l i, ?_, by simp [hs]⟩
        unfold at'
        rw [List.getD_eq_getElem?_getD, List.getElem?_eq_getElem (by rw [← HN.out]; exact hi)]
        exact List.getElem_mem _
      rw [this]; simp
    have HBAD := Lib.hid hBAD
    clear h4 hBAD HZ
    go_wp2_with fail
    clear b0 b1
    go_loopg [4, 20] n (fun g pv iv wr => ∃ i : Nat, g = n - i ∧ i ≤ n ∧ iv = .int .i64 i ∧ Hid (Below B w wr ∧ wr.heap[B]? = some (.cells #[.int .i64 sec, .slice (some ⟨bs, off, none⟩) n cap] 25 (0, 0)) ∧ ∀ j, j < i → segOk sec (at' l j) = true))
    case atStart => exact ⟨0, rfl, by omega, rfl, HBL.out, HBX.out, fun j hj => by omega⟩
    case round =>
      clear HBL HBX
      obtain ⟨i, rfl, hi, rfl, HS⟩ := hrel
      by_cases hlt : i < n
      · have b0 : wr.cell? ⟨B, 0, none⟩ = some (.int .i64 sec) := blk_cell HS.out.2.1 0
        have b1 : wr.cell? ⟨B, 1, none⟩ = some (.slice (some ⟨bs, off, none⟩) n cap) := blk_cell HS.out.2.1 1
        obtain ⟨q0, q1, q2⟩ := HF.out wr HS.out.1 i hlt
        have hbB : bs < wr.heap.size := by have := HS.out.1.size; have := HB.out; omega
        go_upto_region 6 with fail
        obtain ⟨Wa, hWa⟩ : ∃ Wa, Wa = wr.alloc (.cells #[.int .i64 (at' l i).st, .int .u64 (at' l i).gen, .int .i64 (at' l i).used] 46) := ⟨_, rfl⟩
        rw [← hWa]
        have HBa : Hid (Below B w Wa) := by show Below _ _ _; rw [hWa]; exact HS.out.1.alloc (by have := HS.out.1.size; have := HB.out; omega) _
        have hsz : B + 1 ≤ wr.heap.size := (Array.getElem?_eq_some_iff.1 HS.out.2.1).1
        have HXa : Hid (Wa.heap[B]? = some (.cells #[.int .i64 sec, .slice (some ⟨bs, off, none⟩) n cap] 25 (0, 0))) := by show _ = _; rw [hWa, Below.heap_alloc _ _ _ hsz]; exact HS.out.2.1
        have hAa : Wa.heap[wr.heap.size]? = some (.cells #[.int .i64 (at' l i).st, .int .u64 (at' l i).gen, .int .i64 (at' l i).used] 46 (0, 0)) := by rw [hWa]; exact heap_alloc_new wr _
        have a0 : Wa.cell? ⟨wr.heap.size, 0, none⟩ = some (.int .i64 (at' l i).st) := blk_cell hAa 0
        have a1 : Wa.cell? ⟨wr.heap.size, 1, none⟩ = some (.int .u64 (at' l i).gen) := blk_cell hAa 1
        have a2 : Wa.cell? ⟨wr.heap.size, 2, none⟩ = some (.int .i64 (at' l i).used) := blk_cell hAa 2
        have x0 : Wa.cell? ⟨B, 0, none⟩ = some (.int .i64 sec) := blk_cell HXa.out 0
        have HK : Hid (∀ j, j < i → segOk sec (at' l j) = true) := HS.out.2.2
        have HBD := Lib.hid (HBAD.out i hlt)
        obtain ⟨s, hs⟩ : ∃ s, s = at' l i := ⟨_, rfl⟩
        rw [← hs] at a0 a1 a2 HBD ⊢
        have HSG := Lib.hid hs
        clear hWa hAa hs b0 b1 q0 q1 q2 hbB
        obtain ⟨st, gn, us⟩ := s
        have hgo : segOk sec ⟨st, gn, us⟩ = true → ∀ j, j < i + 1 → segOk sec (at' l j) = true := fun h j hj => by
          rcases Nat.lt_succ_iff_lt_or_eq.1 hj with h2 | rfl
          · exact HK.out j h2
          · rw [← HSG.out]; exact h
        have HGO := Lib.hid hgo
        clear hgo HK HS
        unfold segOk at HBD HGO
        dsimp only at a0 a1 a2 HBD HGO ⊢
        by_cases hst : st = 0
        · subst hst
          by_cases hg : gn = 0
          · subst hg
            by_cases hus : us = 0
            · subst hus
              go_wp2_with fail
              go_roundg (n - (i + 1))
              case measure => omega
              case rel => exact ⟨i + 1, rfl, by omega, by go_num, HBa.out, HXa.out, HGO.out rfl⟩
            · have u1 : (us == 0) = false := by simpa using hus
              have HC := Lib.hid (HBD.out (by simp [zero, hus]))
              go_wp2_with fail
              go_ret
              exact ⟨by rw [HC.out]; rfl, by rw [← HB.out]; exact HBa.out⟩
          · have u1 : ((gn : Int) == 0) = false := by simpa using hg
            have HC := Lib.hid (HBD.out (by simp [zero, hg]))
            go_wp2_with fail
            go_ret
            exact ⟨by rw [HC.out]; rfl, by rw [← HB.out]; exact HBa.out⟩
        · have s0 : (st == 0) = false := by simpa using hst
          by_cases hst1 : st = 1
          · subst hst1
            by_cases hu1 : us < 1
            · have HC := Lib.hid (HBD.out (by simp [show ¬ (1 ≤ us) from by omega]))
              go_wp2_with fail
              go_ret
              exact ⟨by rw [HC.out]; rfl, by rw [← HB.out]; exact HBa.out⟩
            · by_cases hu2 : sec < us
              · have HC := Lib.hid (HBD.out (by simp [show ¬ (us ≤ sec) from by omega]))
                go_wp2_with fail
                go_ret
                exact ⟨by rw [HC.out]; rfl, by rw [← HB.out]; exact HBa.out⟩
              · have HGG := Lib.hid (HGO.out (by simp [show us ≤ sec from by omega, show 1 ≤ us from by omega]))
                go_wp2_with fail
                go_roundg (n - (i + 1))
                case measure => omega
                case rel => exact ⟨i + 1, rfl, by omega, by go_num, HBa.out, HXa.out, HGG.out⟩
          · by_cases hst2 : st = 2
            · subst hst2
              by_cases hu1 : us < 1
              · have HC := Lib.hid (HBD.out (by simp [show ¬ (1 ≤ us) from by omega]))
                go_wp2_with fail
                go_ret
                exact ⟨by rw [HC.out]; rfl, by rw [← HB.out]; exact HBa.out⟩
              · by_cases hu2 : sec < us
                · have HC := Lib.hid (HBD.out (by simp [show ¬ (us ≤ sec) from by omega]))
                  go_wp2_with fail
                  go_ret
                  exact ⟨by rw [HC.out]; rfl, by rw [← HB.out]; exact HBa.out⟩
                · have HGG := Lib.hid (HGO.out (by simp [show us ≤ sec from by omega, show 1 ≤ us from by omega]))
                  go_wp2_with fail
                  go_roundg (n - (i + 1))
                  case measure => omega
                  case rel => exact ⟨i + 1, rfl, by omega, by go_num, HBa.out, HXa.out, HGG.out⟩
            · have s1 : (st == 1) = false := by simpa using hst1
              have s2 : (st == 2) = false := by simpa using hst2
              have HC := Lib.hid (HBD.out (by simp [hst, hst1, hst2]))
              go_wp2_with fail
              go_ret
              exact ⟨by rw [HC.out]; rfl, by rw [← HB.out]; exact HBa.out⟩
      · obtain rfl : i = n := by omega
        clear hlt
        have HCB : Hid (checkB sec l = chain l 0 (order l)) := by
          show _ = _
          unfold checkB
          have ha : l.all (segOk sec) = true := by
            rw [List.all_eq_true]
            intro s hs
            obtain ⟨j, hj, rfl⟩ := List.getElem_of_mem hs
            have := HS.out.2.2 j (by rw [HN.out]; exact hj)
            unfold at' at this
            rw [List.getD_eq_getElem?_getD, List.getElem?_eq_getElem hj] at this
            exact this
          rw [ha, ← HN.out, ← HSZ.out]
          rfl
        have HRr : Hid (SegsAt wr (.slice (some ⟨bs, off, none⟩) i cap) l) := RowAt.below HR.out HS.out.1 (by have := HB.out; omega) 
        have HO := Lib.hid (ordr wr sec _ l HRr.out (by have := HN.out; omega) (by have := HN.out; omega))
        unfold ringV at HO
        have b0 : wr.cell? ⟨B, 0, none⟩ = some (.int .i64 sec) := blk_cell HS.out.2.1 0
        have b1 : wr.cell? ⟨B, 1, none⟩ = some (.slice (some ⟨bs, off, none⟩) i cap) := blk_cell HS.out.2.1 1
        go_wp2_with fail
        refine HO.out.mono ?_
        rintro e w1 ⟨u, rfl, hsl, hbl⟩
        have HBW : Hid (Below B w w1) := HS.out.1.trans (hbl.mono (by have := HS.out.1.size; have := HB.out; omega))
        have HXB : Hid (w1.heap[B]? = some (.cells #[.int .i64 sec, .slice (some ⟨bs, off, none⟩) i cap] 25 (0, 0))) := (hbl.block B (Array.getElem?_eq_some_iff.1 HS.out.2.1).1).trans HS.out.2.1
        have HSL := Lib.hid hsl
        obtain ⟨m, hmm⟩ : ∃ m, m = (order l).length := ⟨_, rfl⟩
        have hu : ∃ a c, u = .slice a m c ∧ m ≤ maxLen := by
          obtain ⟨a, c, h, h'⟩ := hsl.form
          rw [List.length_map, ← hmm] at h h'
          exact ⟨a, c, h, h'⟩
        obtain ⟨a, c, rfl, hmx⟩ := hu
        unfold maxLen at hmx
        have HMM := Lib.hid hmm
        clear hsl hbl hmm b0 b1 HO HRr HS
        go_wp2_with fail
        go_loopg [6, 7, 8, 9, 49] m (fun g lv pv qv rv iv wr => ∃ i0 last : Nat, g = m - i0 ∧ i0 ≤ m ∧ iv = .int .i64 i0 ∧ lv = .int .u64 last ∧ Hid (Below B w wr ∧ wr.heap[B]? = some (.cells #[.int .i64 sec, .slice (some ⟨bs, off, none⟩) i cap] 25 (0, 0)) ∧ IsSl wr (.slice a m c) ((order l).map intV) ∧ chain l 0 (order l) = chain l last ((order l).drop i0)))
        case atStart => exact ⟨0, 0, rfl, by omega, rfl, rfl, HBW.out, HXB.out, HSL.out, rfl⟩
        case round =>
          clear HBW HXB HSL
          obtain ⟨j, last, rfl, hj, rfl, rfl, HS⟩ := hrel
          by_cases hlt : j < m
          · have hjq : j < (order l).length := by rw [← HMM.out]; exact hlt
            have hdr : (order l).drop j = (order l).getD j 0 :: (order l).drop (j + 1) := by
              rw [List.drop_eq_getElem_cons hjq, List.getD_eq_getElem?_getD, List.getElem?_eq_getElem hjq]; rfl
            have hkl : (order l).getD j 0 < l.length := (mem_order.1 (show (order l).getD j 0 ∈ order l from by rw [List.getD_eq_getElem?_getD, List.getElem?_eq_getElem hjq]; exact List.getElem_mem hjq)).1
            have hce : ∃ b2 o2, a = some ⟨b2, o2, none⟩ ∧ b2 < wr.heap.size ∧ wr.cell? ⟨b2, o2 + j, none⟩ = some (.int .i64 ((order l).getD j 0 : Nat)) := by
              rcases HS.out.2.2.1 with ⟨h, _⟩ | ⟨_, b2, o2, c2, h, h5, h6, h8, h7⟩
              · rw [List.map_eq_nil_iff] at h; rw [h] at hjq; simp at hjq
              · injection h with e1 e2 e3
                refine ⟨b2, o2, e1, h8, ?_⟩
                rw [h7 _ (by simp; omega), List.getElem?_map, List.getElem?_eq_getElem hjq, List.getD_eq_getElem?_getD, List.getElem?_eq_getElem hjq]
                rfl
            obtain ⟨b2, o2, rfl, hb2, hce⟩ := hce
            have hch := HS.out.2.2.2
            rw [hdr, ← HCB.out] at hch
            rw [chain] at hch
            have hnil : (order l).drop (j + 1) = [] ↔ j + 1 = m := by rw [List.drop_eq_nil_iff, ← HMM.out]; omega
            rw [← HN.out] at hkl
            generalize (order l).getD j 0 = k at *
            have b1 : wr.cell? ⟨B, 1, none⟩ = some (.slice (some ⟨bs, off, none⟩) i cap) := blk_cell HS.out.2.1 1
            obtain ⟨q0, q1, q2⟩ := HF.out wr HS.out.1 k hkl
            have hbB : bs < wr.heap.size := by have := HS.out.1.size; have := HB.out; omega
            go_upto_region 22 with fail
            obtain ⟨Wa, hWa⟩ : ∃ Wa, Wa = wr.alloc (.cells #[.int .i64 (at' l k).st, .int .u64 (at' l k).gen, .int .i64 (at' l k).used] 46) := ⟨_, rfl⟩
            rw [← hWa]
            have HBa : Hid (Below B w Wa) := by show Below _ _ _; rw [hWa]; exact HS.out.1.alloc (by have := HS.out.1.size; have := HB.out; omega) _
            have hsz : B + 1 ≤ wr.heap.size := (Array.getElem?_eq_some_iff.1 HS.out.2.1).1
            have HXa : Hid (Wa.heap[B]? = some (.cells #[.int .i64 sec, .slice (some ⟨bs, off, none⟩) i cap] 25 (0, 0))) := by show _ = _; rw [hWa, Below.heap_alloc _ _ _ hsz]; exact HS.out.2.1
            have HLa : Hid (IsSl Wa (.slice (some ⟨b2, o2, none⟩) m c) ((order l).map intV)) := by show IsSl _ _ _; rw [hWa]; exact HS.out.2.2.1.below ((Below.refl wr.heap.size wr).alloc (Nat.le_refl _) _) (Nat.le_refl _)
            have hAa : Wa.heap[wr.heap.size]? = some (.cells #[.int .i64 (at' l k).st, .int .u64 (at' l k).gen, .int .i64 (at' l k).used] 46 (0, 0)) := by rw [hWa]; exact heap_alloc_new wr _
            have a0 : Wa.cell? ⟨wr.heap.size, 0, none⟩ = some (.int .i64 (at' l k).st) := blk_cell hAa 0
            have a1 : Wa.cell? ⟨wr.heap.size, 1, none⟩ = some (.int .u64 (at' l k).gen) := blk_cell hAa 1
            have hge : gen l k = (at' l k).gen := rfl
            rw [hge] at hch
            have HCH := Lib.hid hch
            have HNL := Lib.hid hnil
            clear hWa hAa b1 q0 q1 q2 hbB hch hnil hge hdr hce HS
            generalize (at' l k).st = st at *
            generalize (at' l k).gen = gn at *
            generalize (at' l k).used = us at *
            by_cases hg : gn ≤ last
            · have HC := Lib.hid (show checkB sec l = false from by rw [HCH.out]; simp [show ¬ last < gn from by omega])
              go_wp2_with fail
              go_ret
              exact ⟨by rw [HC.out]; rfl, by rw [← HB.out]; exact HBa.out⟩
            · by_cases hst : st = 1
              · subst hst
                by_cases hend : j + 1 = m
                · have d1 : decide ((j : Int) < (m : Int) - 1) = false := by simp; omega
                  have HCC := Lib.hid (show chain l 0 (order l) = chain l gn ((order l).drop (j + 1)) from by rw [← HCB.out, HCH.out]; simp [show last < gn from by omega, HNL.out.2 hend])
                  go_wp2_with fail
                  go_roundg (m - (j + 1))
                  case measure => omega
                  case rel => exact ⟨j + 1, gn, rfl, by omega, by go_num, rfl, HBa.out, HXa.out, HLa.out, HCC.out⟩
                · have d1 : decide ((j : Int) < (m : Int) - 1) = true := by simp; omega
                  have hne : (order l).drop (j + 1) ≠ [] := fun h => hend (HNL.out.1 h)
                  have HC := Lib.hid (show checkB sec l = false from by rw [HCH.out]; simp; intro _ h6; have := HMM.out; omega)
                  clear hne
                  go_wp2_with fail
                  go_ret
                  exact ⟨by rw [HC.out]; rfl, by rw [← HB.out]; exact HBa.out⟩
              · have s1 : (st == 1) = false := by simpa using hst
                have HCC := Lib.hid (show chain l 0 (order l) = chain l gn ((order l).drop (j + 1)) from by rw [← HCB.out, HCH.out]; simp [show last < gn from by omega, hst])
                go_wp2_with fail
                go_roundg (m - (j + 1))
                case measure => omega
                case rel => exact ⟨j + 1, gn, rfl, by omega, by go_num, rfl, HBa.out, HXa.out, HLa.out, HCC.out⟩
          · obtain rfl : j = m := by omega
            have HC : Hid (checkB sec l = true) := by
              show _ = _
              rw [HCB.out, HS.out.2.2.2, List.drop_eq_nil_of_le (by rw [← HMM.out]; omega)]
              rfl
            go_wp2_with fail
            go_ret
            exact ⟨by rw [HC.out]; rfl, by rw [← HB.out]; exact HS.out.1⟩
end Go.Proofs.Ytlcdadnfcdjglaa
