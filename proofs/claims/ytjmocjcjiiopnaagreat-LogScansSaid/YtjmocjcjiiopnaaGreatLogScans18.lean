/- Check, find, latest, Opened, Oldest. Conditions: the segments lie in memory. -/
import Derived.Test.YtjmocjcjiiopnaaGreatLogScans17

section
set_option linter.unusedVariables false
set_option linter.unusedSimpArgs false
namespace Go.Proofs.YtjmocjcjiiopnaaGreat.Rg
open Go.RowKit Go.Ice Go.Ring

theorem sizd (w : World) (n : Nat) (sec : Int) : Calls Tryz.prog 78 #[.int .i64 n, .int .i64 sec] w fun e w' => e = .returned (.bool (sizedB n sec)) ∧ w' = w := by
  obtain ⟨bb, hbb⟩ : ∃ bb, bb = sizedB n sec := ⟨_, rfl⟩
  rw [← hbb]
  unfold sizedB at hbb
  have n1 : decide ((4 : Int) ≤ (n : Int)) = decide (4 ≤ n) := by simp; omega
  have n2 : decide ((n : Int) ≤ 16) = decide (n ≤ 16) := by simp; omega
  go_enter Tryz.func78, Tryz.ntmps78
  by_cases h1 : 4 ≤ n
  · by_cases h2 : n ≤ 16
    · by_cases h3 : 24 ≤ sec
      · by_cases h4 : sec ≤ 64
        · go_wp2_with fail
          go_ret
          simp [*]
        · go_wp2_with fail
          go_ret
          simp [*]
      · go_wp2_with fail
        go_ret
        simp [*]
        omega
    · go_wp2_with fail
      go_ret
      simp [*]
  · go_wp2_with fail
    go_ret
    simp [*]

/-- The last of an order. -/
def lateI (l : List Seg) : Int := match latestP l with | none => -1 | some i => i

theorem getLast?_getD {q : List Nat} (h : 0 < q.length) : q.getLast? = some (q.getD (q.length - 1) 0) := by
  rw [List.getLast?_eq_getElem?, List.getD_eq_getElem?_getD, List.getElem?_eq_getElem (by omega)]
  rfl

theorem late (w : World) (sec : Int) (v : Value) (l : List Seg) (h : SegsAt w v l) (hl : 0 < l.length) (hn : l.length ≤ 16) :
    Calls Tryz.prog 130 #[ringV sec v] w fun e w' => e = .returned (.tuple #[.int .i64 (lateI l), .int .u64 (lastGen l)]) ∧ Below w.heap.size w w' := by
  obtain ⟨bs, off, cap, rfl, h1, h2, h3, h4⟩ := h.cell hl
  obtain ⟨B, hB⟩ : ∃ B, B = w.heap.size := ⟨_, rfl⟩
  obtain ⟨W0, hW0⟩ : ∃ W0, W0 = w.alloc (.cells #[.int .i64 sec, .slice (some ⟨bs, off, none⟩) l.length cap] 54) := ⟨_, rfl⟩
  have HBX : Hid (W0.heap[B]? = some (.cells #[.int .i64 sec, .slice (some ⟨bs, off, none⟩) l.length cap] 54 (0, 0))) := by show _ = _; rw [hW0, hB]; exact heap_alloc_new w _
  have HBL : Hid (Below B w W0) := by show Below _ _ _; rw [hW0]; exact (Below.refl B w).alloc (by omega) _
  have HR : Hid (SegsAt W0 (.slice (some ⟨bs, off, none⟩) l.length cap) l) := RowAt.below h HBL.out (by omega)
  have HO := Lib.hid (ordr W0 sec _ l HR.out hl hn)
  have H4 := Lib.hid h4
  have HB := Lib.hid hB
  obtain ⟨n, hnn⟩ : ∃ n, n = l.length := ⟨_, rfl⟩
  rw [← hnn] at hn hl h1 HO HBX HR ⊢
  have HN := Lib.hid hnn
  have b0 : W0.cell? ⟨B, 0, none⟩ = some (.int .i64 sec) := blk_cell HBX.out 0
  have b1 : W0.cell? ⟨B, 1, none⟩ = some (.slice (some ⟨bs, off, none⟩) n cap) := blk_cell HBX.out 1
  unfold maxLen at h2
  unfold ringV at HO ⊢
  rw [← hnn] at hW0
  rw [← hB] at h3
  clear h h4 hnn
  go_enter Tryz.func130, Tryz.ntmps130
  go_upto_region 1 with fail
  rw [← hB, ← hW0]
  clear hW0 hB
  go_wp2_with fail
  refine HO.out.mono ?_
  rintro e w1 ⟨u, rfl, hs, hbl⟩
  have HS := Lib.hid hs
  have HBW : Hid (Below B w w1) := HBL.out.trans (hbl.mono (by have := HBL.out.size; have := HB.out; omega))
  have hXB : w1.heap[B]? = some (.cells #[.int .i64 sec, .slice (some ⟨bs, off, none⟩) n cap] 54 (0, 0)) := (hbl.block B (Array.getElem?_eq_some_iff.1 HBX.out).1).trans HBX.out
  have c1 : w1.cell? ⟨B, 1, none⟩ = some (.slice (some ⟨bs, off, none⟩) n cap) := blk_cell hXB 1
  have hbx : ∀ k, w1.cell? ⟨bs, k, none⟩ = w.cell? ⟨bs, k, none⟩ := fun k => (Frm.cell (frm_of_below HBW.out) (p := ⟨bs, k, none⟩) (by have := HB.out; show bs < _; omega) (by show ¬ B ≤ bs; omega))
  clear hs hbl hXB b0 b1 HO
  rcases Nat.eq_zero_or_pos (order l).length with h0 | h0
  · have hz : order l = [] := List.length_eq_zero_iff.1 h0
    have hla : latestP l = none := by unfold latestP; rw [hz]; rfl
    have hu : ∃ a c, u = .slice a 0 c := by
      obtain ⟨a, c, h, _⟩ := HS.out.form
      rw [List.length_map, h0] at h
      exact ⟨a, c, h⟩
    obtain ⟨a, c, rfl⟩ := hu
    have HLI : Hid (lateI l = -1) := by show _ = _; unfold lateI; rw [hla]
    have HLG : Hid (lastGen l = 0) := by show _ = _; unfold lastGen; rw [hla]
    clear hla
    go_wp2_with fail
    go_ret2
    exact ⟨by rw [HLI.out, HLG.out]; rfl, by rw [← HB.out]; exact HBW.out⟩
  · have hu := HS.out
    obtain ⟨i, hi⟩ : ∃ i, i = (order l).getD ((order l).length - 1) 0 := ⟨_, rfl⟩
    have hla : latestP l = some i := by rw [hi]; exact getLast?_getD h0
    have hil : i < l.length := (mem_order.1 (List.mem_of_getLast? hla)).1
    have hui : ∃ b2 o2 c2, u = .slice (some ⟨b2, o2, none⟩) (order l).length c2 ∧ w1.cell? ⟨b2, o2 + ((order l).length - 1), none⟩ = some (.int .i64 i) ∧ (order l).length ≤ c2 ∧ c2 ≤ maxLen := by
      rcases hu with ⟨h, _⟩ | ⟨_, b2, o2, c2, h, h5, h6, _, h7⟩
      · rw [List.map_eq_nil_iff] at h; rw [h] at h0; exact absurd h0 (by simp)
      · rw [List.length_map] at h h5 h7
        refine ⟨b2, o2, c2, h, ?_, h5, h6⟩
        rw [h7 _ (by omega), List.getElem?_map, List.getElem?_eq_getElem (by omega), hi, List.getD_eq_getElem?_getD, List.getElem?_eq_getElem (by omega)]
        rfl
    obtain ⟨b2, o2, c2, rfl, hce, hc5, hc6⟩ := hui
    obtain ⟨q0, q1, q2⟩ := H4.out i hil
    rw [← hbx] at q1
    have HLI : Hid (lateI l = i) := by show _ = _; unfold lateI; rw [hla]
    have HLG : Hid (lastGen l = gen l i) := by show _ = _; unfold lastGen; rw [hla]
    rw [← HN.out] at hil
    have hgd : (at' l i).gen = gen l i := rfl
    rw [hgd] at q1
    generalize gen l i = gi at *
    generalize (order l).length = m at *
    unfold maxLen at hc6
    clear hu hi hla q0 q2 hbx hgd
    have hm1 : ((m : Int) - 1) = ((m - 1 : Nat) : Int) := by omega
    go_wp2_with fail
    go_quiet (fail)
    go_wp2_with fail
    go_ret2
    exact ⟨by rw [HLI.out, HLG.out]; rfl, by rw [← HB.out]; exact HBW.out.trans ((drewN_below w1 nq).mono (by have := HBW.out.size; have := HB.out; omega))⟩
end Go.Proofs.YtjmocjcjiiopnaaGreat.Rg
namespace Go.Proofs.YtjmocjcjiiopnaaGreat.Rg
open Go.RowKit Go.Ice Go.Ring

def findI (o : Option Nat) : Int := match o with | none => 0 | some i => i

theorem findd (w : World) (sec : Int) (v : Value) (l : List Seg) (u : Value) (q : List Nat) (st : Int) (h : SegsAt w v l) (hl : 0 < l.length) (hn : l.length ≤ 16) (hq : IsSl w u (q.map intV)) (hm : ∀ i ∈ q, i < l.length) :
    Calls Tryz.prog 101 #[ringV sec v, .int .i64 st, u] w fun e w' => e = .returned (.tuple #[.int .i64 (findI (q.find? fun i => decide ((at' l i).st = st))), .bool (q.find? fun i => decide ((at' l i).st = st)).isSome]) ∧ Below w.heap.size w w' := by
  obtain ⟨bs, off, cap, rfl, h1, h2, h3, h4⟩ := h.cell hl
  obtain ⟨B, hB⟩ : ∃ B, B = w.heap.size := ⟨_, rfl⟩
  obtain ⟨W0, hW0⟩ : ∃ W0, W0 = w.alloc (.cells #[.int .i64 sec, .slice (some ⟨bs, off, none⟩) l.length cap] 54) := ⟨_, rfl⟩
  have HBX : Hid (W0.heap[B]? = some (.cells #[.int .i64 sec, .slice (some ⟨bs, off, none⟩) l.length cap] 54 (0, 0))) := by show _ = _; rw [hW0, hB]; exact heap_alloc_new w _
  have HBL : Hid (Below B w W0) := by show Below _ _ _; rw [hW0]; exact (Below.refl B w).alloc (by omega) _
  have HQ : Hid (IsSl W0 u (q.map intV)) := hq.below HBL.out (by omega)
  have hbx : ∀ k, W0.cell? ⟨bs, k, none⟩ = w.cell? ⟨bs, k, none⟩ := fun k => (Frm.cell (frm_of_below HBL.out) (p := ⟨bs, k, none⟩) h3 (by show ¬ B ≤ bs; omega))
  have H4 : Hid (∀ i, i < l.length → W0.cell? ⟨bs, off + i * 3, none⟩ = some (.int .i64 (at' l i).st)) := fun i hi => by rw [hbx]; exact (h4 i hi).1
  have HB := Lib.hid hB
  have HM := Lib.hid hm
  obtain ⟨n, hnn⟩ : ∃ n, n = l.length := ⟨_, rfl⟩
  rw [← hnn] at hn hl h1 HBX ⊢
  rw [← hnn] at hW0
  have HN := Lib.hid hnn
  have b1 : W0.cell? ⟨B, 1, none⟩ = some (.slice (some ⟨bs, off, none⟩) n cap) := blk_cell HBX.out 1
  unfold maxLen at h2
  unfold ringV
  obtain ⟨m, hmm⟩ : ∃ m, m = q.length := ⟨_, rfl⟩
  have hu : ∃ a c, u = .slice a m c ∧ m ≤ maxLen := by
    obtain ⟨a, c, h, h'⟩ := hq.form
    rw [List.length_map, ← hmm] at h h'
    exact ⟨a, c, h, h'⟩
  obtain ⟨a, c, rfl, hmx⟩ := hu
  have HQC : Hid (∀ j, j < m → ∃ b2 o2, a = some ⟨b2, o2, none⟩ ∧ W0.cell? ⟨b2, o2 + j, none⟩ = some (.int .i64 (q.getD j 0 : Nat))) := fun j hj => by
    rcases HQ.out with ⟨h, _⟩ | ⟨_, b2, o2, c2, h, h5, h6, _, h7⟩
    · rw [List.map_eq_nil_iff] at h; rw [h] at hmm; simp at hmm; omega
    · injection h with e1 e2 e3
      refine ⟨b2, o2, e1, ?_⟩
      rw [h7 _ (by simp; omega), List.getElem?_map, List.getElem?_eq_getElem (by omega), List.getD_eq_getElem?_getD, List.getElem?_eq_getElem (by omega)]
      rfl
  unfold maxLen at hmx
  have HMM := Lib.hid hmm
  clear h h4 hnn hbx hm hq HQ hmm
  go_enter Tryz.func101, Tryz.ntmps101
  go_upto_region 1 with fail
  rw [← hB, ← hW0]
  clear hW0 hB
  go_wp2_with fail
  go_loopg [9, 12] m (fun g pv iv wr => ∃ i : Nat, g = m - i ∧ i ≤ m ∧ iv = .int .i64 i ∧ wr = W0 ∧ Hid (q.find? (fun i => decide ((at' l i).st = st)) = (q.drop i).find? (fun i => decide ((at' l i).st = st))))
  case atStart => exact ⟨0, rfl, by omega, rfl, rfl, rfl⟩
  case round =>
    obtain ⟨i, rfl, hi, rfl, rfl, HF⟩ := hrel
    by_cases hlt : i < m
    · obtain ⟨b2, o2, rfl, hce⟩ := HQC.out i hlt
      have hiq : i < q.length := by rw [← HMM.out]; exact hlt
      have hdr : q.drop i = q.getD i 0 :: q.drop (i + 1) := by
        rw [List.drop_eq_getElem_cons hiq, List.getD_eq_getElem?_getD, List.getElem?_eq_getElem hiq]; rfl
      have hkl : q.getD i 0 < l.length := HM.out _ (by rw [List.getD_eq_getElem?_getD, List.getElem?_eq_getElem hiq]; exact List.getElem_mem hiq)
      have hc4 := H4.out _ hkl
      have hff := HF.out
      rw [hdr, List.find?_cons] at hff
      rw [← HN.out] at hkl
      generalize q.getD i 0 = k at *
      by_cases hst : (at' l k).st = st
      · have HFF := Lib.hid (show q.find? (fun i => decide ((at' l i).st = st)) = some k from by rw [hff]; simp [hst])
        rw [hst] at hc4
        clear hdr
        go_wp2_with fail
        go_ret2
        exact ⟨by rw [HFF.out]; rfl, by rw [← HB.out]; exact HBL.out⟩
      · have HFF := Lib.hid (show q.find? (fun i => decide ((at' l i).st = st)) = (q.drop (i + 1)).find? (fun i => decide ((at' l i).st = st)) from by rw [hff]; simp [hst])
        clear hff HF
        generalize (at' l k).st = sk at *
        have ne : (sk == st) = false := by simpa using hst
        clear hdr
        go_wp2_with fail
        go_roundg (m - (i + 1))
        case measure => omega
        case rel => exact ⟨i + 1, rfl, by omega, by go_num, rfl, HFF.out⟩
    · obtain rfl : i = m := by omega
      have HFF := Lib.hid (show q.find? (fun i => decide ((at' l i).st = st)) = none from by rw [HF.out, List.drop_eq_nil_of_le (by rw [← HMM.out]; omega)]; rfl)
      go_wp2_with fail
      go_ret2
      exact ⟨by rw [HFF.out]; rfl, by rw [← HB.out]; exact HBL.out⟩
end Go.Proofs.YtjmocjcjiiopnaaGreat.Rg
namespace Go.Proofs.YtjmocjcjiiopnaaGreat.Rg
open Go.RowKit Go.Ice Go.Ring

def chekE (b : Bool) : Value := .int .i64 (if b then 0 else 180)

set_option maxHeartbeats 4000000 in
theorem chek (w : World) (sec : Int) (v : Value) (l : List Seg) (h : SegsAt w v l) :
    Calls Tryz.prog 74 #[ringV sec v] w fun e w' => e = .returned (chekE (checkB sec l)) ∧ Below w.heap.size w w' := by
  obtain ⟨a, cap, rfl, hmx⟩ := h.form
  unfold maxLen at hmx
  obtain ⟨B, hB⟩ : ∃ B, B = w.heap.size := ⟨_, rfl⟩
  obtain ⟨n, hnn⟩ : ∃ n, n = l.length := ⟨_, rfl⟩
  rw [← hnn] at hmx
  have HR : Hid (SegsAt w (.slice a n cap) l) := by show SegsAt _ _ _; rw [hnn]; exact h
  rw [← hnn]
  obtain ⟨W0, hW0⟩ : ∃ W0, W0 = w.alloc (.cells #[.int .i64 sec, .slice a n cap] 54) := ⟨_, rfl⟩
  have HBX : Hid (W0.heap[B]? = some (.cells #[.int .i64 sec, .slice a n cap] 54 (0, 0))) := by show _ = _; rw [hW0, hB]; exact heap_alloc_new w _
  have HBL : Hid (Below B w W0) := by show Below _ _ _; rw [hW0]; exact (Below.refl B w).alloc (by omega) _
  have HB := Lib.hid hB
  have HN := Lib.hid hnn
  have b0 : W0.cell? ⟨B, 0, none⟩ = some (.int .i64 sec) := blk_cell HBX.out 0
  have b1 : W0.cell? ⟨B, 1, none⟩ = some (.slice a n cap) := blk_cell HBX.out 1
  have HZ := Lib.hid (sizd W0 n sec)
  obtain ⟨sz, hsz⟩ : ∃ sz, sz = sizedB n sec := ⟨_, rfl⟩
  rw [← hsz] at HZ
  have HSZ := Lib.hid hsz
  clear h hnn hsz
  unfold ringV
  go_enter Tryz.func74, Tryz.ntmps74
  go_upto_region 1 with fail
  rw [← hB, ← hW0]
  clear hW0 hB
  go_wp2_with fail
  refine HZ.out.mono ?_
  rintro e w1 ⟨rfl, rfl⟩
  cases sz with
  | false =>
    have hc : checkB sec l = false := by unfold checkB; rw [← HN.out, ← HSZ.out]; rfl
    have HC := Lib.hid hc
    clear hc
    go_wp2_with fail
    go_ret
    exact ⟨by rw [HC.out]; rfl, by rw [← HB.out]; exact HBL.out⟩
  | true =>
    have hn16 : 4 ≤ n ∧ n ≤ 16 := by
      have := HSZ.out
      unfold sizedB at this
      have := this.symm
      rw [Bool.and_eq_true] at this
      exact of_decide_eq_true this.1
    have hcell := HR.out.cell (by have := HN.out; omega)
    rw [← HN.out] at hcell
    obtain ⟨bs, off, cap', hv, h1, h2, h3, h4⟩ := hcell
    injection hv with e1 e2 e3
    subst e1 e3
    have h3 : bs < B := by rw [HB.out]; exact h3
    have HF : Hid (∀ wr : World, Below B w wr → ∀ i, i < n → wr.cell? ⟨bs, off + i * 3, none⟩ = some (.int .i64 (at' l i).st) ∧ wr.cell? ⟨bs, off + i * 3 + 1, none⟩ = some (.int .u64 (at' l i).gen) ∧ wr.cell? ⟨bs, off + i * 3 + 2, none⟩ = some (.int .i64 (at' l i).used)) := fun wr hb i hi => by
      have hbx : ∀ k, wr.cell? ⟨bs, k, none⟩ = w.cell? ⟨bs, k, none⟩ := fun k => (Frm.cell (frm_of_below hb) (p := ⟨bs, k, none⟩) (by have := HB.out; show bs < _; omega) (by show ¬ B ≤ bs; omega))
      rw [hbx, hbx, hbx]
      exact h4 i hi
    have hBAD : ∀ i, i < n → segOk sec (at' l i) = false → checkB sec l = false := fun i hi hs => by
      unfold checkB
      have : l.all (segOk sec) = false := by
        rw [List.all_eq_false]
        refine ⟨at' l i, ?_, by simp [hs]⟩
        unfold at'
        rw [List.getD_eq_getElem?_getD, List.getElem?_eq_getElem (by rw [← HN.out]; exact hi)]
        exact List.getElem_mem _
      rw [this]; simp
    have HBAD := Lib.hid hBAD
    clear h4 hBAD HZ
    go_wp2_with fail
    clear b0 b1
    go_loopg [4, 20] n (fun g pv iv wr => ∃ i : Nat, g = n - i ∧ i ≤ n ∧ iv = .int .i64 i ∧ Hid (Below B w wr ∧ wr.heap[B]? = some (.cells #[.int .i64 sec, .slice (some ⟨bs, off, none⟩) n cap] 54 (0, 0)) ∧ ∀ j, j < i → segOk sec (at' l j) = true))
    case atStart => exact ⟨0, rfl, by omega, rfl, HBL.out, HBX.out, fun j hj => by omega⟩
    case round =>
      clear HBL HBX
      obtain ⟨i, rfl, hi, rfl, HS⟩ := hrel
      by_cases hlt : i < n
      · have b0 : wr.cell? ⟨B, 0, none⟩ = some (.int .i64 sec) := blk_cell HS.out.2.1 0
        have b1 : wr.cell? ⟨B, 1, none⟩ = some (.slice (some ⟨bs, off, none⟩) n cap) := blk_cell HS.out.2.1 1
        obtain ⟨q0, q1, q2⟩ := HF.out wr HS.out.1 i hlt
        have hbB : bs < wr.heap.size := by have := HS.out.1.size; have := HB.out; omega
        go_upto_region 6 with fail
        obtain ⟨Wa, hWa⟩ : ∃ Wa, Wa = wr.alloc (.cells #[.int .i64 (at' l i).st, .int .u64 (at' l i).gen, .int .i64 (at' l i).used] 135) := ⟨_, rfl⟩
        rw [← hWa]
        have HBa : Hid (Below B w Wa) := by show Below _ _ _; rw [hWa]; exact HS.out.1.alloc (by have := HS.out.1.size; have := HB.out; omega) _
        have hsz : B + 1 ≤ wr.heap.size := (Array.getElem?_eq_some_iff.1 HS.out.2.1).1
        have HXa : Hid (Wa.heap[B]? = some (.cells #[.int .i64 sec, .slice (some ⟨bs, off, none⟩) n cap] 54 (0, 0))) := by show _ = _; rw [hWa, Below.heap_alloc _ _ _ hsz]; exact HS.out.2.1
        have hAa : Wa.heap[wr.heap.size]? = some (.cells #[.int .i64 (at' l i).st, .int .u64 (at' l i).gen, .int .i64 (at' l i).used] 135 (0, 0)) := by rw [hWa]; exact heap_alloc_new wr _
        have a0 : Wa.cell? ⟨wr.heap.size, 0, none⟩ = some (.int .i64 (at' l i).st) := blk_cell hAa 0
        have a1 : Wa.cell? ⟨wr.heap.size, 1, none⟩ = some (.int .u64 (at' l i).gen) := blk_cell hAa 1
        have a2 : Wa.cell? ⟨wr.heap.size, 2, none⟩ = some (.int .i64 (at' l i).used) := blk_cell hAa 2
        have x0 : Wa.cell? ⟨B, 0, none⟩ = some (.int .i64 sec) := blk_cell HXa.out 0
        have HK : Hid (∀ j, j < i → segOk sec (at' l j) = true) := HS.out.2.2
        have HBD := Lib.hid (HBAD.out i hlt)
        obtain ⟨s, hs⟩ : ∃ s, s = at' l i := ⟨_, rfl⟩
        rw [← hs] at a0 a1 a2 HBD ⊢
        have HSG := Lib.hid hs
        clear hWa hAa hs b0 b1 q0 q1 q2 hbB
        obtain ⟨st, gn, us⟩ := s
        have hgo : segOk sec ⟨st, gn, us⟩ = true → ∀ j, j < i + 1 → segOk sec (at' l j) = true := fun h j hj => by
          rcases Nat.lt_succ_iff_lt_or_eq.1 hj with h2 | rfl
          · exact HK.out j h2
          · rw [← HSG.out]; exact h
        have HGO := Lib.hid hgo
        clear hgo HK HS
        unfold segOk at HBD HGO
        dsimp only at a0 a1 a2 HBD HGO ⊢
        by_cases hst : st = 0
        · subst hst
          by_cases hg : gn = 0
          · subst hg
            by_cases hus : us = 0
            · subst hus
              go_wp2_with fail
              go_roundg (n - (i + 1))
              case measure => omega
              case rel => exact ⟨i + 1, rfl, by omega, by go_num, HBa.out, HXa.out, HGO.out rfl⟩
            · have u1 : (us == 0) = false := by simpa using hus
              have HC := Lib.hid (HBD.out (by simp [zero, hus]))
              go_wp2_with fail
              go_ret
              exact ⟨by rw [HC.out]; rfl, by rw [← HB.out]; exact HBa.out⟩
          · have u1 : ((gn : Int) == 0) = false := by simpa using hg
            have HC := Lib.hid (HBD.out (by simp [zero, hg]))
            go_wp2_with fail
            go_ret
            exact ⟨by rw [HC.out]; rfl, by rw [← HB.out]; exact HBa.out⟩
        · have s0 : (st == 0) = false := by simpa using hst
          by_cases hst1 : st = 1
          · subst hst1
            by_cases hu1 : us < 1
            · have HC := Lib.hid (HBD.out (by simp [show ¬ (1 ≤ us) from by omega]))
              go_wp2_with fail
              go_ret
              exact ⟨by rw [HC.out]; rfl, by rw [← HB.out]; exact HBa.out⟩
            · by_cases hu2 : sec < us
              · have HC := Lib.hid (HBD.out (by simp [show ¬ (us ≤ sec) from by omega]))
                go_wp2_with fail
                go_ret
                exact ⟨by rw [HC.out]; rfl, by rw [← HB.out]; exact HBa.out⟩
              · have HGG := Lib.hid (HGO.out (by simp [show us ≤ sec from by omega, show 1 ≤ us from by omega]))
                go_wp2_with fail
                go_roundg (n - (i + 1))
                case measure => omega
                case rel => exact ⟨i + 1, rfl, by omega, by go_num, HBa.out, HXa.out, HGG.out⟩
          · by_cases hst2 : st = 2
            · subst hst2
              by_cases hu1 : us < 1
              · have HC := Lib.hid (HBD.out (by simp [show ¬ (1 ≤ us) from by omega]))
                go_wp2_with fail
                go_ret
                exact ⟨by rw [HC.out]; rfl, by rw [← HB.out]; exact HBa.out⟩
              · by_cases hu2 : sec < us
                · have HC := Lib.hid (HBD.out (by simp [show ¬ (us ≤ sec) from by omega]))
                  go_wp2_with fail
                  go_ret
                  exact ⟨by rw [HC.out]; rfl, by rw [← HB.out]; exact HBa.out⟩
                · have HGG := Lib.hid (HGO.out (by simp [show us ≤ sec from by omega, show 1 ≤ us from by omega]))
                  go_wp2_with fail
                  go_roundg (n - (i + 1))
                  case measure => omega
                  case rel => exact ⟨i + 1, rfl, by omega, by go_num, HBa.out, HXa.out, HGG.out⟩
            · have s1 : (st == 1) = false := by simpa using hst1
              have s2 : (st == 2) = false := by simpa using hst2
              have HC := Lib.hid (HBD.out (by simp [hst, hst1, hst2]))
              go_wp2_with fail
              go_ret
              exact ⟨by rw [HC.out]; rfl, by rw [← HB.out]; exact HBa.out⟩
      · obtain rfl : i = n := by omega
        clear hlt
        have HCB : Hid (checkB sec l = chain l 0 (order l)) := by
          show _ = _
          unfold checkB
          have ha : l.all (segOk sec) = true := by
            rw [List.all_eq_true]
            intro s hs
            obtain ⟨j, hj, rfl⟩ := List.getElem_of_mem hs
            have := HS.out.2.2 j (by rw [HN.out]; exact hj)
            unfold at' at this
            rw [List.getD_eq_getElem?_getD, List.getElem?_eq_getElem hj] at this
            exact this
          rw [ha, ← HN.out, ← HSZ.out]
          rfl
        have HRr : Hid (SegsAt wr (.slice (some ⟨bs, off, none⟩) i cap) l) := RowAt.below HR.out HS.out.1 (by have := HB.out; omega) 
        have HO := Lib.hid (ordr wr sec _ l HRr.out (by have := HN.out; omega) (by have := HN.out; omega))
        unfold ringV at HO
        have b0 : wr.cell? ⟨B, 0, none⟩ = some (.int .i64 sec) := blk_cell HS.out.2.1 0
        have b1 : wr.cell? ⟨B, 1, none⟩ = some (.slice (some ⟨bs, off, none⟩) i cap) := blk_cell HS.out.2.1 1
        go_wp2_with fail
        refine HO.out.mono ?_
        rintro e w1 ⟨u, rfl, hsl, hbl⟩
        have HBW : Hid (Below B w w1) := HS.out.1.trans (hbl.mono (by have := HS.out.1.size; have := HB.out; omega))
        have HXB : Hid (w1.heap[B]? = some (.cells #[.int .i64 sec, .slice (some ⟨bs, off, none⟩) i cap] 54 (0, 0))) := (hbl.block B (Array.getElem?_eq_some_iff.1 HS.out.2.1).1).trans HS.out.2.1
        have HSL := Lib.hid hsl
        obtain ⟨m, hmm⟩ : ∃ m, m = (order l).length := ⟨_, rfl⟩
        have hu : ∃ a c, u = .slice a m c ∧ m ≤ maxLen := by
          obtain ⟨a, c, h, h'⟩ := hsl.form
          rw [List.length_map, ← hmm] at h h'
          exact ⟨a, c, h, h'⟩
        obtain ⟨a, c, rfl, hmx⟩ := hu
        unfold maxLen at hmx
        have HMM := Lib.hid hmm
        clear hsl hbl hmm b0 b1 HO HRr HS
        go_wp2_with fail
        go_loopg [6, 7, 8, 9, 49] m (fun g lv pv qv rv iv wr => ∃ i0 last : Nat, g = m - i0 ∧ i0 ≤ m ∧ iv = .int .i64 i0 ∧ lv = .int .u64 last ∧ Hid (Below B w wr ∧ wr.heap[B]? = some (.cells #[.int .i64 sec, .slice (some ⟨bs, off, none⟩) i cap] 54 (0, 0)) ∧ IsSl wr (.slice a m c) ((order l).map intV) ∧ chain l 0 (order l) = chain l last ((order l).drop i0)))
        case atStart => exact ⟨0, 0, rfl, by omega, rfl, rfl, HBW.out, HXB.out, HSL.out, rfl⟩
        case round =>
          clear HBW HXB HSL
          obtain ⟨j, last, rfl, hj, rfl, rfl, HS⟩ := hrel
          by_cases hlt : j < m
          · have hjq : j < (order l).length := by rw [← HMM.out]; exact hlt
            have hdr : (order l).drop j = (order l).getD j 0 :: (order l).drop (j + 1) := by
              rw [List.drop_eq_getElem_cons hjq, List.getD_eq_getElem?_getD, List.getElem?_eq_getElem hjq]; rfl
            have hkl : (order l).getD j 0 < l.length := (mem_order.1 (show (order l).getD j 0 ∈ order l from by rw [List.getD_eq_getElem?_getD, List.getElem?_eq_getElem hjq]; exact List.getElem_mem hjq)).1
            have hce : ∃ b2 o2, a = some ⟨b2, o2, none⟩ ∧ b2 < wr.heap.size ∧ wr.cell? ⟨b2, o2 + j, none⟩ = some (.int .i64 ((order l).getD j 0 : Nat)) := by
              rcases HS.out.2.2.1 with ⟨h, _⟩ | ⟨_, b2, o2, c2, h, h5, h6, h8, h7⟩
              · rw [List.map_eq_nil_iff] at h; rw [h] at hjq; simp at hjq
              · injection h with e1 e2 e3
                refine ⟨b2, o2, e1, h8, ?_⟩
                rw [h7 _ (by simp; omega), List.getElem?_map, List.getElem?_eq_getElem hjq, List.getD_eq_getElem?_getD, List.getElem?_eq_getElem hjq]
                rfl
            obtain ⟨b2, o2, rfl, hb2, hce⟩ := hce
            have hch := HS.out.2.2.2
            rw [hdr, ← HCB.out] at hch
            rw [chain] at hch
            have hnil : (order l).drop (j + 1) = [] ↔ j + 1 = m := by rw [List.drop_eq_nil_iff, ← HMM.out]; omega
            rw [← HN.out] at hkl
            generalize (order l).getD j 0 = k at *
            have b1 : wr.cell? ⟨B, 1, none⟩ = some (.slice (some ⟨bs, off, none⟩) i cap) := blk_cell HS.out.2.1 1
            obtain ⟨q0, q1, q2⟩ := HF.out wr HS.out.1 k hkl
            have hbB : bs < wr.heap.size := by have := HS.out.1.size; have := HB.out; omega
            go_upto_region 22 with fail
            obtain ⟨Wa, hWa⟩ : ∃ Wa, Wa = wr.alloc (.cells #[.int .i64 (at' l k).st, .int .u64 (at' l k).gen, .int .i64 (at' l k).used] 135) := ⟨_, rfl⟩
            rw [← hWa]
            have HBa : Hid (Below B w Wa) := by show Below _ _ _; rw [hWa]; exact HS.out.1.alloc (by have := HS.out.1.size; have := HB.out; omega) _
            have hsz : B + 1 ≤ wr.heap.size := (Array.getElem?_eq_some_iff.1 HS.out.2.1).1
            have HXa : Hid (Wa.heap[B]? = some (.cells #[.int .i64 sec, .slice (some ⟨bs, off, none⟩) i cap] 54 (0, 0))) := by show _ = _; rw [hWa, Below.heap_alloc _ _ _ hsz]; exact HS.out.2.1
            have HLa : Hid (IsSl Wa (.slice (some ⟨b2, o2, none⟩) m c) ((order l).map intV)) := by show IsSl _ _ _; rw [hWa]; exact HS.out.2.2.1.below ((Below.refl wr.heap.size wr).alloc (Nat.le_refl _) _) (Nat.le_refl _)
            have hAa : Wa.heap[wr.heap.size]? = some (.cells #[.int .i64 (at' l k).st, .int .u64 (at' l k).gen, .int .i64 (at' l k).used] 135 (0, 0)) := by rw [hWa]; exact heap_alloc_new wr _
            have a0 : Wa.cell? ⟨wr.heap.size, 0, none⟩ = some (.int .i64 (at' l k).st) := blk_cell hAa 0
            have a1 : Wa.cell? ⟨wr.heap.size, 1, none⟩ = some (.int .u64 (at' l k).gen) := blk_cell hAa 1
            have hge : gen l k = (at' l k).gen := rfl
            rw [hge] at hch
            have HCH := Lib.hid hch
            have HNL := Lib.hid hnil
            clear hWa hAa b1 q0 q1 q2 hbB hch hnil hge hdr hce HS
            generalize (at' l k).st = st at *
            generalize (at' l k).gen = gn at *
            generalize (at' l k).used = us at *
            by_cases hg : gn ≤ last
            · have HC := Lib.hid (show checkB sec l = false from by rw [HCH.out]; simp [show ¬ last < gn from by omega])
              go_wp2_with fail
              go_ret
              exact ⟨by rw [HC.out]; rfl, by rw [← HB.out]; exact HBa.out⟩
            · by_cases hst : st = 1
              · subst hst
                by_cases hend : j + 1 = m
                · have d1 : decide ((j : Int) < (m : Int) - 1) = false := by simp; omega
                  have HCC := Lib.hid (show chain l 0 (order l) = chain l gn ((order l).drop (j + 1)) from by rw [← HCB.out, HCH.out]; simp [show last < gn from by omega, HNL.out.2 hend])
                  go_wp2_with fail
                  go_roundg (m - (j + 1))
                  case measure => omega
                  case rel => exact ⟨j + 1, gn, rfl, by omega, by go_num, rfl, HBa.out, HXa.out, HLa.out, HCC.out⟩
                · have d1 : decide ((j : Int) < (m : Int) - 1) = true := by simp; omega
                  have hne : (order l).drop (j + 1) ≠ [] := fun h => hend (HNL.out.1 h)
                  have HC := Lib.hid (show checkB sec l = false from by rw [HCH.out]; simp; intro _ h6; have := HMM.out; omega)
                  clear hne
                  go_wp2_with fail
                  go_ret
                  exact ⟨by rw [HC.out]; rfl, by rw [← HB.out]; exact HBa.out⟩
              · have s1 : (st == 1) = false := by simpa using hst
                have HCC := Lib.hid (show chain l 0 (order l) = chain l gn ((order l).drop (j + 1)) from by rw [← HCB.out, HCH.out]; simp [show last < gn from by omega, hst])
                go_wp2_with fail
                go_roundg (m - (j + 1))
                case measure => omega
                case rel => exact ⟨j + 1, gn, rfl, by omega, by go_num, rfl, HBa.out, HXa.out, HLa.out, HCC.out⟩
          · obtain rfl : j = m := by omega
            have HC : Hid (checkB sec l = true) := by
              show _ = _
              rw [HCB.out, HS.out.2.2.2, List.drop_eq_nil_of_le (by rw [← HMM.out]; omega)]
              rfl
            go_wp2_with fail
            go_ret
            exact ⟨by rw [HC.out]; rfl, by rw [← HB.out]; exact HS.out.1⟩
end Go.Proofs.YtjmocjcjiiopnaaGreat.Rg
namespace Go.Proofs.YtjmocjcjiiopnaaGreat.Rg
open Go.RowKit Go.Ice Go.Ring

/-- What a search answers: the number, and 0, 4 for none, 180 for no ring. -/
def seekV (b : Bool) (o : Option Nat) : Value := if b then (match o with | none => .tuple #[.int .i64 0, .int .i64 4] | some i => .tuple #[.int .i64 i, .int .i64 0]) else .tuple #[.int .i64 0, .int .i64 180]

set_option maxHeartbeats 4000000 in
theorem opend (w : World) (sec : Int) (v : Value) (l : List Seg) (h : SegsAt w v l) :
    Calls Tryz.prog 52 #[ringV sec v] w fun e w' => e = .returned (seekV (checkB sec l) (openedP l)) ∧ Below w.heap.size w w' := by
  obtain ⟨B, hB⟩ : ∃ B, B = w.heap.size := ⟨_, rfl⟩
  obtain ⟨W0, hW0⟩ : ∃ W0, W0 = w.alloc (.cells #[.int .i64 sec, v] 54) := ⟨_, rfl⟩
  have HBX : Hid (W0.heap[B]? = some (.cells #[.int .i64 sec, v] 54 (0, 0))) := by show _ = _; rw [hW0, hB]; exact heap_alloc_new w _
  have HBL : Hid (Below B w W0) := by show Below _ _ _; rw [hW0]; exact (Below.refl B w).alloc (by omega) _
  have HR : Hid (SegsAt W0 v l) := RowAt.below h HBL.out (by omega)
  have HB := Lib.hid hB
  have HCK := Lib.hid (chek W0 sec v l HR.out)
  have b0 : W0.cell? ⟨B, 0, none⟩ = some (.int .i64 sec) := blk_cell HBX.out 0
  have b1 : W0.cell? ⟨B, 1, none⟩ = some v := blk_cell HBX.out 1
  obtain ⟨a, cap, rfl, hmx⟩ := h.form
  generalize hn : l.length = n at *
  have HN := Lib.hid hn
  obtain ⟨cb, hcb⟩ : ∃ cb, cb = checkB sec l := ⟨_, rfl⟩
  rw [← hcb] at HCK ⊢
  have HCB := Lib.hid hcb
  clear h hn hcb
  unfold ringV at HCK ⊢
  go_enter Tryz.func52, Tryz.ntmps52
  go_upto_region 1 with fail
  rw [← hB, ← hW0]
  clear hW0 hB
  go_wp2_with fail
  refine HCK.out.mono ?_
  rintro e w1 ⟨rfl, hbl⟩
  have HBW : Hid (Below B w w1) := HBL.out.trans (hbl.mono (by have := HBL.out.size; have := HB.out; omega))
  have HXB : Hid (w1.heap[B]? = some (.cells #[.int .i64 sec, .slice a n cap] 54 (0, 0))) := (hbl.block B (Array.getElem?_eq_some_iff.1 HBX.out).1).trans HBX.out
  have HR1 : Hid (SegsAt w1 (.slice a n cap) l) := RowAt.below HR.out hbl (Nat.le_refl _)
  clear hbl b0 b1 HCK
  unfold chekE
  cases cb with
  | false =>
    simp only [Bool.false_eq_true, if_false]
    go_wp2_with fail
    go_ret2
    exact ⟨rfl, by rw [← HB.out]; exact HBW.out⟩
  | true =>
    simp only [if_true]
    have hn16 : 4 ≤ n ∧ n ≤ 16 := by
      have := HCB.out.symm
      unfold checkB sizedB at this
      rw [Bool.and_eq_true, Bool.and_eq_true, Bool.and_eq_true, HN.out] at this
      exact of_decide_eq_true this.1.1.1
    have HC : Hid (∀ W, Below w1.heap.size w1 W → W.cell? ⟨B, 0, none⟩ = some (.int .i64 sec) ∧ W.cell? ⟨B, 1, none⟩ = some (.slice a n cap)) := fun W hW => by
      have := (hW.block B (Array.getElem?_eq_some_iff.1 HXB.out).1).trans HXB.out
      exact ⟨blk_cell this 0, blk_cell this 1⟩
    have HO : Hid (∀ W, Below w1.heap.size w1 W → Calls Tryz.prog 102 #[.agg #[.int .i64 sec, .slice a n cap]] W fun e w' => ∃ u, e = .returned u ∧ IsSl w' u ((order l).map intV) ∧ Below w1.heap.size w1 w') := fun W hW =>
      (ordr W sec _ l (RowAt.below HR1.out hW (Nat.le_refl _)) (by rw [HN.out]; omega) (by rw [HN.out]; omega)).mono fun e w' ⟨u, h1, h2, h3⟩ => ⟨u, h1, h2, hW.trans (h3.mono hW.size)⟩
    have HF : Hid (∀ W u, Below w1.heap.size w1 W → IsSl W u ((order l).map intV) → Calls Tryz.prog 101 #[.agg #[.int .i64 sec, .slice a n cap], .int .i64 1, u] W fun e w' => e = .returned (.tuple #[.int .i64 (findI (openedP l)), .bool (openedP l).isSome]) ∧ Below w1.heap.size w1 w') := fun W u hW hu =>
      (findd W sec _ l u (order l) 1 (RowAt.below HR1.out hW (Nat.le_refl _)) (by rw [HN.out]; omega) (by rw [HN.out]; omega) hu (fun i hi => (mem_order.1 hi).1)).mono fun e w' ⟨h1, h3⟩ => ⟨h1, hW.trans (h3.mono hW.size)⟩
    obtain ⟨c0, c1⟩ := HC.out w1 (Below.refl _ _)
    obtain ⟨op, hop⟩ : ∃ op, op = openedP l := ⟨_, rfl⟩
    rw [← hop] at HF
    have HOP := Lib.hid hop
    clear hop
    go_upto_region 4 with fail
    go_region_with (first
      | (go_at_call 102
         refine (HO.out _ (drewN_below w1 1)).mono ?_
         rintro e W2 ⟨u, rfl, hu, hw⟩
         have HU := Lib.hid hu
         have HW := Lib.hid hw
         obtain ⟨d0, d1⟩ := HC.out W2 HW.out
         clear hu hw)
      | (go_at_call 101
         refine (HF.out _ u (HW.out.trans ((drewN_below W2 _).mono HW.out.size)) (HU.out.below (drewN_below W2 _) (Nat.le_refl _))).mono ?_
         rintro e W3 ⟨rfl, hw⟩
         have HW3 := Lib.hid hw
         clear hw)
      | (go_at_call 101
         refine (HF.out _ u HW.out HU.out).mono ?_
         rintro e W3 ⟨rfl, hw⟩
         have HW3 := Lib.hid hw
         clear hw))
    all_goals
      have HE : Hid (Below w.heap.size w W3) := by show Below _ _ _; rw [← HB.out]; exact HBW.out.trans (HW3.out.mono (by have := HBW.out.size; have := HB.out; omega))
      clear HF HO HC
      cases op with
      | none =>
        dsimp only [findI, Option.isSome]
        go_wp2_with fail
        go_ret2
        exact ⟨by rw [← HOP.out]; rfl, HE.out⟩
      | some i =>
        dsimp only [findI, Option.isSome]
        go_wp2_with fail
        go_ret2
        exact ⟨by rw [← HOP.out]; rfl, HE.out⟩
end Go.Proofs.YtjmocjcjiiopnaaGreat.Rg
namespace Go.Proofs.YtjmocjcjiiopnaaGreat.Rg
open Go.RowKit Go.Ice Go.Ring

set_option maxHeartbeats 4000000 in
theorem oldst (w : World) (sec : Int) (v : Value) (l : List Seg) (h : SegsAt w v l) :
    Calls Tryz.prog 68 #[ringV sec v] w fun e w' => e = .returned (seekV (checkB sec l) (oldestP l)) ∧ Below w.heap.size w w' := by
  obtain ⟨B, hB⟩ : ∃ B, B = w.heap.size := ⟨_, rfl⟩
  obtain ⟨W0, hW0⟩ : ∃ W0, W0 = w.alloc (.cells #[.int .i64 sec, v] 54) := ⟨_, rfl⟩
  have HBX : Hid (W0.heap[B]? = some (.cells #[.int .i64 sec, v] 54 (0, 0))) := by show _ = _; rw [hW0, hB]; exact heap_alloc_new w _
  have HBL : Hid (Below B w W0) := by show Below _ _ _; rw [hW0]; exact (Below.refl B w).alloc (by omega) _
  have HR : Hid (SegsAt W0 v l) := RowAt.below h HBL.out (by omega)
  have HB := Lib.hid hB
  have HCK := Lib.hid (chek W0 sec v l HR.out)
  have b0 : W0.cell? ⟨B, 0, none⟩ = some (.int .i64 sec) := blk_cell HBX.out 0
  have b1 : W0.cell? ⟨B, 1, none⟩ = some v := blk_cell HBX.out 1
  obtain ⟨a, cap, rfl, hmx⟩ := h.form
  generalize hn : l.length = n at *
  have HN := Lib.hid hn
  obtain ⟨cb, hcb⟩ : ∃ cb, cb = checkB sec l := ⟨_, rfl⟩
  rw [← hcb] at HCK ⊢
  have HCB := Lib.hid hcb
  clear h hn hcb
  unfold ringV at HCK ⊢
  go_enter Tryz.func68, Tryz.ntmps68
  go_upto_region 1 with fail
  rw [← hB, ← hW0]
  clear hW0 hB
  go_wp2_with fail
  refine HCK.out.mono ?_
  rintro e w1 ⟨rfl, hbl⟩
  have HBW : Hid (Below B w w1) := HBL.out.trans (hbl.mono (by have := HBL.out.size; have := HB.out; omega))
  have HXB : Hid (w1.heap[B]? = some (.cells #[.int .i64 sec, .slice a n cap] 54 (0, 0))) := (hbl.block B (Array.getElem?_eq_some_iff.1 HBX.out).1).trans HBX.out
  have HR1 : Hid (SegsAt w1 (.slice a n cap) l) := RowAt.below HR.out hbl (Nat.le_refl _)
  clear hbl b0 b1 HCK
  unfold chekE
  cases cb with
  | false =>
    simp only [Bool.false_eq_true, if_false]
    go_wp2_with fail
    go_ret2
    exact ⟨rfl, by rw [← HB.out]; exact HBW.out⟩
  | true =>
    simp only [if_true]
    have hn16 : 4 ≤ n ∧ n ≤ 16 := by
      have := HCB.out.symm
      unfold checkB sizedB at this
      rw [Bool.and_eq_true, Bool.and_eq_true, Bool.and_eq_true, HN.out] at this
      exact of_decide_eq_true this.1.1.1
    have HC : Hid (∀ W, Below w1.heap.size w1 W → W.cell? ⟨B, 0, none⟩ = some (.int .i64 sec) ∧ W.cell? ⟨B, 1, none⟩ = some (.slice a n cap)) := fun W hW => by
      have := (hW.block B (Array.getElem?_eq_some_iff.1 HXB.out).1).trans HXB.out
      exact ⟨blk_cell this 0, blk_cell this 1⟩
    have HO : Hid (∀ W, Below w1.heap.size w1 W → Calls Tryz.prog 102 #[.agg #[.int .i64 sec, .slice a n cap]] W fun e w' => ∃ u, e = .returned u ∧ IsSl w' u ((order l).map intV) ∧ Below w1.heap.size w1 w') := fun W hW =>
      (ordr W sec _ l (RowAt.below HR1.out hW (Nat.le_refl _)) (by rw [HN.out]; omega) (by rw [HN.out]; omega)).mono fun e w' ⟨u, h1, h2, h3⟩ => ⟨u, h1, h2, hW.trans (h3.mono hW.size)⟩
    have HF : Hid (∀ W u, Below w1.heap.size w1 W → IsSl W u ((order l).map intV) → Calls Tryz.prog 101 #[.agg #[.int .i64 sec, .slice a n cap], .int .i64 2, u] W fun e w' => e = .returned (.tuple #[.int .i64 (findI (oldestP l)), .bool (oldestP l).isSome]) ∧ Below w1.heap.size w1 w') := fun W u hW hu =>
      (findd W sec _ l u (order l) 2 (RowAt.below HR1.out hW (Nat.le_refl _)) (by rw [HN.out]; omega) (by rw [HN.out]; omega) hu (fun i hi => (mem_order.1 hi).1)).mono fun e w' ⟨h1, h3⟩ => ⟨h1, hW.trans (h3.mono hW.size)⟩
    obtain ⟨c0, c1⟩ := HC.out w1 (Below.refl _ _)
    obtain ⟨op, hop⟩ : ∃ op, op = oldestP l := ⟨_, rfl⟩
    rw [← hop] at HF
    have HOP := Lib.hid hop
    clear hop
    go_upto_region 4 with fail
    go_region_with (first
      | (go_at_call 102
         refine (HO.out _ (drewN_below w1 1)).mono ?_
         rintro e W2 ⟨u, rfl, hu, hw⟩
         have HU := Lib.hid hu
         have HW := Lib.hid hw
         obtain ⟨d0, d1⟩ := HC.out W2 HW.out
         clear hu hw)
      | (go_at_call 101
         refine (HF.out _ u (HW.out.trans ((drewN_below W2 _).mono HW.out.size)) (HU.out.below (drewN_below W2 _) (Nat.le_refl _))).mono ?_
         rintro e W3 ⟨rfl, hw⟩
         have HW3 := Lib.hid hw
         clear hw)
      | (go_at_call 101
         refine (HF.out _ u HW.out HU.out).mono ?_
         rintro e W3 ⟨rfl, hw⟩
         have HW3 := Lib.hid hw
         clear hw))
    all_goals
      have HE : Hid (Below w.heap.size w W3) := by show Below _ _ _; rw [← HB.out]; exact HBW.out.trans (HW3.out.mono (by have := HBW.out.size; have := HB.out; omega))
      clear HF HO HC
      cases op with
      | none =>
        dsimp only [findI, Option.isSome]
        go_wp2_with fail
        go_ret2
        exact ⟨by rw [← HOP.out]; rfl, HE.out⟩
      | some i =>
        dsimp only [findI, Option.isSome]
        go_wp2_with fail
        go_ret2
        exact ⟨by rw [← HOP.out]; rfl, HE.out⟩
end Go.Proofs.YtjmocjcjiiopnaaGreat.Rg
end
