/- slices.Concat of two slices of bytes; item.Join. Condition: both together hold 512 bytes at most. -/
import Derived.Test.YtkajopdpjdmfcaaNumW
import Derived.Lib.AppendZeros
set_option linter.unusedVariables false
namespace Go.Proofs.Ytkajopdpjdmfcaa
open Go.RowKit Go.Ice

theorem grow (n : Nat) (hn : n ≤ 1000000) (w : World) :
    Calls Try.prog 24 #[.slice none 0 0, .int .i64 n] w fun e w' => ∃ v, e = .returned v ∧ w'.ownsRow w.heap.size 5 1 v 0 [] ∧ Below w.heap.size w w' := by
  rcases Nat.eq_zero_or_pos n with rfl | h0
  · go_enter Try.func24, Try.ntmps24
    go_wp2_with fail
    go_ret
    exact ⟨_, rfl, World.ownsRow_nil _ _ _ _, Below.refl _ _⟩
  · obtain ⟨i, hi, hz, hs, hb⟩ := elemU8.hi
    have hr := Lib.run_append_nil_zeros (P := Try.prog) w 22 3 22 5 i (.int .u8 0) .i64 .i64 Try.underlying22 Try.underlying3 hi hz n h0 (by omega) (by omega) (by rw [hb]; omega)
    have hg := grownCap_ge w n 0 5
    have hg2 := grownCap_le_maxLen w n 0 5 (by unfold maxLen; omega)
    have hown := World.ownsRow_made (w := w.drew) (base := w.heap.size) (e := 5) (size := 1) (Builtin.zeroCells (Value.int .u8 0).cells n ++ Builtin.zeroCells (Value.int .u8 0).cells (grownCap w n 0 5 - n)) (grownCap w n 0 5) (Nat.le_refl _) hg2 (by
      rw [Array.size_append, size_zeroCells, size_zeroCells, show (Value.int .u8 0).cells.size = 1 from rfl]; omega)
    generalize hC : Builtin.zeroCells (Value.int .u8 0).cells n ++ Builtin.zeroCells (Value.int .u8 0).cells (grownCap w n 0 5 - n) = C at *
    generalize hG : grownCap w n 0 5 = G at *
    have HR := Lib.hid hr
    have HO := Lib.hid hown
    have hn0 : (0 : Int) < n := by omega
    clear hr hown hC hG hi hz hs hb
    go_enter Try.func24, Try.ntmps24
    go_wp2_with (at_builtin; refine Lib.wpList_append_run _ rfl _ _ 22 3 rfl _ _ rfl rfl _ _ HR.out ?_)
    go_ret
    exact ⟨_, rfl, HO.out, (Below.refl _ w).drew.alloc (Nat.le_refl _) _⟩

theorem concat (w : World) (b cap : Nat) (v1 v2 : Value) (xs ys : List UInt8) (hb : b < w.heap.size) (hc0 : w.cell? ⟨b, 0, none⟩ = some v1) (hc1 : w.cell? ⟨b, 1, none⟩ = some v2)
    (h1 : IsSl w v1 (xs.map u8v)) (h2 : IsSl w v2 (ys.map u8v)) (hl : xs.length + ys.length ≤ 512) :
    Calls Try.prog 23 #[.slice (some ⟨b, 0, none⟩) 2 cap] w fun e w' => ∃ v, e = .returned v ∧ IsSl w' v ((xs ++ ys).map u8v) ∧ Below w.heap.size w w' := by
  obtain ⟨a1, k1, rfl, _⟩ := h1.form
  obtain ⟨a2, k2, rfl, _⟩ := h2.form
  rw [List.length_map] at *
  have H1 := Lib.hid h1
  have H2 := Lib.hid h2
  have C0 := Lib.hid hc0
  have C1 := Lib.hid hc1
  clear h1 h2
  go_enter Try.func23, Try.ntmps23
  go_wp2_with fail
  refine wp_loop_rounds 3 ?_
  rw [rounds_succ]
  go_wp2_with fail
  rw [rounds_succ]
  go_wp2_with fail
  rw [rounds_succ]
  go_wp2_with fail
  rw [show (xs.length : Int) + ys.length = ((xs.length + ys.length : Nat) : Int) from by omega]
  refine (grow (xs.length + ys.length) (by omega) w).mono ?_
  rintro e w1 ⟨v, rfl, hown, hb1⟩
  have hs1 := hb1.size
  obtain ⟨va, wa, hra, howna, hga, _⟩ := append_sl (P := Try.prog) (ty := 22) elemU8 hown (H1.out.below hb1 (Nat.le_refl _)) (u8v_one xs) (by simp; omega) (by simp [maxLen]; omega) hs1
  have hba : Below w.heap.size w wa := hb1.grown hga hs1 (fun k hk => (hown.lt k hk).1)
  have hsa := hba.size
  obtain ⟨vb, wb, hrb, hownb, hgb, _⟩ := append_sl (P := Try.prog) (ty := 22) elemU8 howna (H2.out.below hba (Nat.le_refl _)) (u8v_one ys) (by simp; omega) (by simp [maxLen]; omega) hsa
  have hbb : Below w.heap.size w wb := hba.grown hgb hsa (fun k hk => (howna.lt k hk).1)
  have c0 : w1.cell? ⟨b, 0, none⟩ = some (.slice a1 xs.length k1) := by rw [hb1.cell (p := ⟨b, 0, none⟩) hb]; exact C0.out
  have c1 : wa.cell? ⟨b, 1, none⟩ = some (.slice a2 ys.length k2) := by rw [hba.cell (p := ⟨b, 1, none⟩) hb]; exact C1.out
  have HRA := Lib.hid hra
  have HRB := Lib.hid hrb
  have HO := Lib.hid (own_isSl hownb)
  have HBB := Lib.hid hbb
  clear hra hrb hown howna hga hownb hgb hb1 hba hbb
  go_wp2_with fail
  refine wp_loop_rounds 3 ?_
  rw [rounds_succ]
  go_wp2_with (at_builtin; refine wpList_append_eq rfl _ _ 22 rfl rfl rfl HRA.out ?_)
  rw [rounds_succ]
  go_wp2_with (at_builtin; refine wpList_append_eq rfl _ _ 22 rfl rfl rfl HRB.out ?_)
  rw [rounds_succ]
  go_wp2_with fail
  go_ret
  refine ⟨_, rfl, ?_, HBB.out⟩
  have := HO.out
  rw [List.map_append]
  simpa using this
end Go.Proofs.Ytkajopdpjdmfcaa
