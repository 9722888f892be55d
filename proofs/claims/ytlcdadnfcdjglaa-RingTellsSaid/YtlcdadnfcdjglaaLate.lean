/- Sizes; the first with a state in an order; the latest. Conditions: the segments lie in memory; at most sixteen. -/
import Derived.Test.YtlcdadnfcdjglaaOrd
import Derived.Test.YtlcdadnfcdjglaaPlain4
set_option linter.unusedVariables false
set_option linter.unusedSimpArgs false
namespace Go.Proofs.Ytlcdadnfcdjglaa
open Go.RowKit Go.Ice Go.Ring

theorem sizd (w : World) (n : Nat) (sec : Int) : Calls Try.prog 41 #[.int .i64 n, .int .i64 sec] w fun e w' => e = .returned (.bool (sizedB n sec)) ∧ w' = w := by
  obtain ⟨bb, hbb⟩ : ∃ bb, bb = sizedB n sec := ⟨_, rfl⟩
  rw [← hbb]
  unfold sizedB at hbb
  have n1 : decide ((4 : Int) ≤ (n : Int)) = decide (4 ≤ n) := by simp; omega
  have n2 : decide ((n : Int) ≤ 16) = decide (n ≤ 16) := by simp; omega
  go_enter Try.func41, Try.ntmps41
  by_cases h1 : 4 ≤ n
  · by_cases h2 : n ≤ 16
    · by_cases h3 : 24 ≤ sec
      · by_cases h4 : sec ≤ 64
        · go_wp2_with fail
          go_ret
          simp [*]
        · go_wp2_with fail
          go_ret
          simp [*]
      · go_wp2_with fail
        go_ret
        simp [*]
        omega
    · go_wp2_with fail
      go_ret
      simp [*]
  · go_wp2_with fail
    go_ret
    simp [*]

/-- The last of an order. -/
def lateI (l : List Seg) : Int := match latestP l with | none => -1 | some i => i

theorem getLast?_getD {q : List Nat} (h : 0 < q.length) : q.getLast? = some (q.getD (q.length - 1) 0) := by
  rw [List.getLast?_eq_getElem?, List.getD_eq_getElem?_getD, List.getElem?_eq_getElem (by omega)]
  rfl

theorem late (w : World) (sec : Int) (v : Value) (l : List Seg) (h : SegsAt w v l) (hl : 0 < l.length) (hn : l.length ≤ 16) :
    Calls Try.prog 46 #[ringV sec v] w fun e w' => e = .returned (.tuple #[.int .i64 (lateI l), .int .u64 (lastGen l)]) ∧ Below w.heap.size w w' := by
  obtain ⟨bs, off, cap, rfl, h1, h2, h3, h4⟩ := h.cell hl
  obtain ⟨B, hB⟩ : ∃ B, B = w.heap.size := ⟨_, rfl⟩
  obtain ⟨W0, hW0⟩ : ∃ W0, W0 = w.alloc (.cells #[.int .i64 sec, .slice (some ⟨bs, off, none⟩) l.length cap] 25) := ⟨_, rfl⟩
  have HBX : Hid (W0.heap[B]? = some (.cells #[.int .i64 sec, .slice (some ⟨bs, off, none⟩) l.length cap] 25 (0, 0))) := by show _ = _; rw [hW0, hB]; exact heap_alloc_new w _
  have HBL : Hid (Below B w W0) := by show Below _ _ _; rw [hW0]; exact (Below.refl B w).alloc (by omega) _
  have HR : Hid (SegsAt W0 (.slice (some ⟨bs, off, none⟩) l.length cap) l) := RowAt.below h HBL.out (by omega)
  have HO := Lib.hid (ordr W0 sec _ l HR.out hl hn)
  have H4 := Lib.hid h4
  have HB := Lib.hid hB
  obtain ⟨n, hnn⟩ : ∃ n, n = l.length := ⟨_, rfl⟩
  rw [← hnn] at hn hl h1 HO HBX HR ⊢
  have HN := Lib.hid hnn
  have b0 : W0.cell? ⟨B, 0, none⟩ = some (.int .i64 sec) := blk_cell HBX.out 0
  have b1 : W0.cell? ⟨B, 1, none⟩ = some (.slice (some ⟨bs, off, none⟩) n cap) := blk_cell HBX.out 1
  unfold maxLen at h2
  unfold ringV at HO ⊢
  rw [← hnn] at hW0
  rw [← hB] at h3
  clear h h4 hnn
  go_enter Try.func46, Try.ntmps46
  go_upto_region 1 with fail
  rw [← hB, ← hW0]
  clear hW0 hB
  go_wp2_with fail
  refine HO.out.mono ?_
  rintro e w1 ⟨u, rfl, hs, hbl⟩
  have HS := Lib.hid hs
  have HBW : Hid (Below B w w1) := HBL.out.trans (hbl.mono (by have := HBL.out.size; have := HB.out; omega))
  have hXB : w1.heap[B]? = some (.cells #[.int .i64 sec, .slice (some ⟨bs, off, none⟩) n cap] 25 (0, 0)) := (hbl.block B (Array.getElem?_eq_some_iff.1 HBX.out).1).trans HBX.out
  have c1 : w1.cell? ⟨B, 1, none⟩ = some (.slice (some ⟨bs, off, none⟩) n cap) := blk_cell hXB 1
  have hbx : ∀ k, w1.cell? ⟨bs, k, none⟩ = w.cell? ⟨bs, k, none⟩ := fun k => (Frm.cell (frm_of_below HBW.out) (p := ⟨bs, k, none⟩) (by have := HB.out; show bs < _; omega) (by show ¬ B ≤ bs; omega))
  clear hs hbl hXB b0 b1 HO
  rcases Nat.eq_zero_or_pos (order l).length with h0 | h0
  · have hz : order l = [] := List.length_eq_zero_iff.1 h0
    have hla : latestP l = none := by unfold latestP; rw [hz]; rfl
    have hu : ∃ a c, u = .slice a 0 c := by
      obtain ⟨a, c, h, _⟩ := HS.out.form
      rw [List.length_map, h0] at h
      exact ⟨a, c, h⟩
    obtain ⟨a, c, rfl⟩ := hu
    have HLI : Hid (lateI l = -1) := by show _ = _; unfold lateI; rw [hla]
    have HLG : Hid (lastGen l = 0) := by show _ = _; unfold lastGen; rw [hla]
    clear hla
    go_wp2_with fail
    go_ret2
    exact ⟨by rw [HLI.out, HLG.out]; rfl, by rw [← HB.out]; exact HBW.out⟩
  · have hu := HS.out
    obtain ⟨i, hi⟩ : ∃ i, i = (order l).getD ((order l).length - 1) 0 := ⟨_, rfl⟩
    have hla : latestP l = some i := by rw [hi]; exact getLast?_getD h0
    have hil : i < l.length := (mem_order.1 (List.mem_of_getLast? hla)).1
    have hui : ∃ b2 o2 c2, u = .slice (some ⟨b2, o2, none⟩) (order l).length c2 ∧ w1.cell? ⟨b2, o2 + ((order l).length - 1), none⟩ = some (.int .i64 i) ∧ (order l).length ≤ c2 ∧ c2 ≤ maxLen := by
      rcases hu with ⟨h, _⟩ | ⟨_, b2, o2, c2, h, h5, h6, _, h7⟩
      · rw [List.map_eq_nil_iff] at h; rw [h] at h0; exact absurd h0 (by simp)
      · rw [List.length_map] at h h5 h7
        refine ⟨b2, o2, c2, h, ?_, h5, h6⟩
        rw [h7 _ (by omega), List.getElem?_map, List.getElem?_eq_getElem (by omega), hi, List.getD_eq_getElem?_getD, List.getElem?_eq_getElem (by omega)]
        rfl
    obtain ⟨b2, o2, c2, rfl, hce, hc5, hc6⟩ := hui
    obtain ⟨q0, q1, q2⟩ := H4.out i hil
    rw [← hbx] at q1
    have HLI : Hid (lateI l = i) := by show _ = _; unfold lateI; rw [hla]
    have HLG : Hid (lastGen l = gen l i) := by show _ = _; unfold lastGen; rw [hla]
    rw [← HN.out] at hil
    have hgd : (at' l i).gen = gen l i := rfl
    rw [hgd] at q1
    generalize gen l i = gi at *
    generalize (order l).length = m at *
    unfold maxLen at hc6
    clear hu hi hla q0 q2 hbx hgd
    have hm1 : ((m : Int) - 1) = ((m - 1 : Nat) : Int) := by omega
    go_wp2_with fail
    go_quiet (fail)
    go_wp2_with fail
    go_ret2
    exact ⟨by rw [HLI.out, HLG.out]; rfl, by rw [← HB.out]; exact HBW.out.trans ((drewN_below w1 nq).mono (by have := HBW.out.size; have := HB.out; omega))⟩
end Go.Proofs.Ytlcdadnfcdjglaa
