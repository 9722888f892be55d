/- The first of a row of numbers whose segment has a state. Conditions: the segments and the row lie in memory. -/
import Derived.Test.YtlcdadnfcdjglaaLate
set_option linter.unusedVariables false
set_option linter.unusedSimpArgs false
namespace Go.Proofs.Ytlcdadnfcdjglaa
open Go.RowKit Go.Ice Go.Ring

def findI (o : Option Nat) : Int := match o with | none => 0 | some i => i

theorem findd (w : World) (sec : Int) (v : Value) (l : List Seg) (u : Value) (q : List Nat) (st : Int) (h : SegsAt w v l) (hl : 0 < l.length) (hn : l.length ≤ 16) (hq : IsSl w u (q.map intV)) (hm : ∀ i ∈ q, i < l.length) :
    Calls Try.prog 45 #[ringV sec v, .int .i64 st, u] w fun e w' => e = .returned (.tuple #[.int .i64 (findI (q.find? fun i => decide ((at' l i).st = st))), .bool (q.find? fun i => decide ((at' l i).st = st)).isSome]) ∧ Below w.heap.size w w' := by
  obtain ⟨bs, off, cap, rfl, h1, h2, h3, h4⟩ := h.cell hl
  obtain ⟨B, hB⟩ : ∃ B, B = w.heap.size := ⟨_, rfl⟩
  obtain ⟨W0, hW0⟩ : ∃ W0, W0 = w.alloc (.cells #[.int .i64 sec, .slice (some ⟨bs, off, none⟩) l.length cap] 25) := ⟨_, rfl⟩
  have HBX : Hid (W0.heap[B]? = some (.cells #[.int .i64 sec, .slice (some ⟨bs, off, none⟩) l.length cap] 25 (0, 0))) := by show _ = _; rw [hW0, hB]; exact heap_alloc_new w _
  have HBL : Hid (Below B w W0) := by show Below _ _ _; rw [hW0]; exact (Below.refl B w).alloc (by omega) _
  have HQ : Hid (IsSl W0 u (q.map intV)) := hq.below HBL.out (by omega)
  have hbx : ∀ k, W0.cell? ⟨bs, k, none⟩ = w.cell? ⟨bs, k, none⟩ := fun k => (Frm.cell (frm_of_below HBL.out) (p := ⟨bs, k, none⟩) h3 (by show ¬ B ≤ bs; omega))
  have H4 : Hid (∀ i, i < l.length → W0.cell? ⟨bs, off + i * 3, none⟩ = some (.int .i64 (at' l i).st)) := fun i hi => by rw [hbx]; exact (h4 i hi).1
  have HB := Lib.hid hB
  have HM := Lib.hid hm
  obtain ⟨n, hnn⟩ : ∃ n, n = l.length := ⟨_, rfl⟩
  rw [← hnn] at hn hl h1 HBX ⊢
  rw [← hnn] at hW0
  have HN := Lib.hid hnn
  have b1 : W0.cell? ⟨B, 1, none⟩ = some (.slice (some ⟨bs, off, none⟩) n cap) := blk_cell HBX.out 1
  unfold maxLen at h2
  unfold ringV
  obtain ⟨m, hmm⟩ : ∃ m, m = q.length := ⟨_, rfl⟩
  have hu : ∃ a c, u = .slice a m c ∧ m ≤ maxLen := by
    obtain ⟨a, c, h, h'⟩ := hq.form
    rw [List.length_map, ← hmm] at h h'
    exact ⟨a, c, h, h'⟩
  obtain ⟨a, c, rfl, hmx⟩ := hu
  have HQC : Hid (∀ j, j < m → ∃ b2 o2, a = some ⟨b2, o2, none⟩ ∧ W0.cell? ⟨b2, o2 + j, none⟩ = some (.int .i64 (q.getD j 0 : Nat))) := fun j hj => by
    rcases HQ.out with ⟨h, _⟩ | ⟨_, b2, o2, c2, h, h5, h6, _, h7⟩
    · rw [List.map_eq_nil_iff] at h; rw [h] at hmm; simp at hmm; omega
    · injection h with e1 e2 e3
      refine ⟨b2, o2, e1, ?_⟩
      rw [h7 _ (by simp; omega), List.getElem?_map, List.getElem?_eq_getElem (by omega), List.getD_eq_getElem?_getD, List.getElem?_eq_getElem (by omega)]
      rfl
  unfold maxLen at hmx
  have HMM := Lib.hid hmm
  clear h h4 hnn hbx hm hq HQ hmm
  go_enter Try.func45, Try.ntmps45
  go_upto_region 1 with fail
  rw [← hB, ← hW0]
  clear hW0 hB
  go_wp2_with fail
  go_loopg [9, 12] m (fun g pv iv wr => ∃ i : Nat, g = m - i ∧ i ≤ m ∧ iv = .int .i64 i ∧ wr = W0 ∧ Hid (q.find? (fun i => decide ((at' l i).st = st)) = (q.drop i).find? (fun i => decide ((at' l i).st = st))))
  case atStart => exact ⟨0, rfl, by omega, rfl, rfl, rfl⟩
  case round =>
    obtain ⟨i, rfl, hi, rfl, rfl, HF⟩ := hrel
    by_cases hlt : i < m
    · obtain ⟨b2, o2, rfl, hce⟩ := HQC.out i hlt
      have hiq : i < q.length := by rw [← HMM.out]; exact hlt
      have hdr : q.drop i = q.getD i 0 :: q.drop (i + 1) := by
        rw [List.drop_eq_getElem_cons hiq, List.getD_eq_getElem?_getD, List.getElem?_eq_getElem hiq]; rfl
      have hkl : q.getD i 0 < l.length := HM.out _ (by rw [List.getD_eq_getElem?_getD, List.getElem?_eq_getElem hiq]; exact List.getElem_mem hiq)
      have hc4 := H4.out _ hkl
      have hff := HF.out
      rw [hdr, List.find?_cons] at hff
      rw [← HN.out] at hkl
      generalize q.getD i 0 = k at *
      by_cases hst : (at' l k).st = st
      · have HFF := Lib.hid (show q.find? (fun i => decide ((at' l i).st = st)) = some k from by rw [hff]; simp [hst])
        rw [hst] at hc4
        clear hdr
        go_wp2_with fail
        go_ret2
        exact ⟨by rw [HFF.out]; rfl, by rw [← HB.out]; exact HBL.out⟩
      · have HFF := Lib.hid (show q.find? (fun i => decide ((at' l i).st = st)) = (q.drop (i + 1)).find? (fun i => decide ((at' l i).st = st)) from by rw [hff]; simp [hst])
        clear hff HF
        generalize (at' l k).st = sk at *
        have ne : (sk == st) = false := by simpa using hst
        clear hdr
        go_wp2_with fail
        go_roundg (m - (i + 1))
        case measure => omega
        case rel => exact ⟨i + 1, rfl, by omega, by go_num, rfl, HFF.out⟩
    · obtain rfl : i = m := by omega
      have HFF := Lib.hid (show q.find? (fun i => decide ((at' l i).st = st)) = none from by rw [HF.out, List.drop_eq_nil_of_le (by rw [← HMM.out]; omega)]; rfl)
      go_wp2_with fail
      go_ret2
      exact ⟨by rw [HFF.out]; rfl, by rw [← HB.out]; exact HBL.out⟩
end Go.Proofs.Ytlcdadnfcdjglaa
