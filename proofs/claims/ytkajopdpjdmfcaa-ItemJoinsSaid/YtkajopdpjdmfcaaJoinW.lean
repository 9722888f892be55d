/- item.Join and the walk of the law ItemJoins. Conditions: the slices have room in memory. -/
import Derived.Test.YtkajopdpjdmfcaaCat
set_option linter.unusedVariables false
namespace Go.Proofs.Ytkajopdpjdmfcaa
open Go.RowKit Go.Ice

theorem join_long (w : World) (a b : Option Addr) (n m c d : Nat) (h : 512 < n + m) (hn : n ≤ 140737488351232) (hm : m ≤ 140737488351232) :
    Calls Try.prog 20 #[.slice a n c, .slice b m d] w fun e w' => e = .returned (.tuple #[.slice none 0 0, .int .i64 3]) ∧ w = w' := by
  have h' : (512 : Int) < (n : Int) + m := by omega
  go_enter Try.func20, Try.ntmps20
  go_wp2_with fail
  go_ret2
  exact ⟨rfl, rfl⟩

theorem join_ok (w : World) (v1 v2 : Value) (xs ys : List UInt8) (h1 : IsSl w v1 (xs.map u8v)) (h2 : IsSl w v2 (ys.map u8v)) (hl : xs.length + ys.length ≤ 512) :
    Calls Try.prog 20 #[v1, v2] w fun e w' => ∃ v, e = .returned (.tuple #[v, .int .i64 0]) ∧ IsSl w' v ((xs ++ ys).map u8v) ∧ Below w.heap.size w w' := by
  obtain ⟨a1, k1, rfl, _⟩ := h1.form
  obtain ⟨a2, k2, rfl, _⟩ := h2.form
  rw [List.length_map] at *
  have h' : ¬ (512 : Int) < (xs.length : Int) + ys.length := by omega
  have H := Lib.hid (concat (w.alloc (.cells #[.slice a1 xs.length k1, .slice a2 ys.length k2] 22)) w.heap.size 2 _ _ xs ys (by simp)
    (by rw [World.cell?_alloc_at _ _ _ _ rfl]; rfl) (by rw [World.cell?_alloc_at _ _ _ _ rfl]; rfl) (h1.below ((Below.refl _ w).alloc (Nat.le_refl _) _) (Nat.le_refl _)) (h2.below ((Below.refl _ w).alloc (Nat.le_refl _) _) (Nat.le_refl _)) hl)
  clear h1 h2
  go_enter Try.func20, Try.ntmps20
  go_wp2_with fail
  refine H.out.mono ?_
  rintro e w1 ⟨v, rfl, hs, hb⟩
  go_wp2_with fail
  go_ret2
  exact ⟨_, rfl, hs, ((Below.refl w.heap.size w).alloc (Nat.le_refl _) _).trans (hb.mono (by simp))⟩

/-- What the law's last part does, over numbers. -/
theorem cases3 (n m : Nat) : (n = 0 ∨ (((n : Int) == 0) = false ∧ (250 : Int) < n) ∨ (((n : Int) == 0) = false ∧ 1 ≤ (n : Int) ∧ ¬ (250 : Int) < n)) ∧ ((512 : Int) < m ∨ ¬ (512 : Int) < m) := by
  refine ⟨?_, by omega⟩
  rcases Nat.eq_zero_or_pos n with h | h
  · exact .inl h
  · have : ((n : Int) == 0) = false := beq_eq_false_iff_ne.2 (by omega)
    by_cases h2 : 250 < n
    · exact .inr (.inl ⟨this, by omega⟩)
    · exact .inr (.inr ⟨this, by omega, by omega⟩)

theorem joins_long (a1 a2 : Option Addr) (n m k1 k2 : Nat) (w : World) (hl : 512 < n + m) (hx : n ≤ 140737488351232) (hy : m ≤ 140737488351232) :
    Calls Try.prog 9 #[.slice a1 n k1, .slice a2 m k2] w fun e w' => e = .returned (.bool true) ∧ Below w.heap.size w w' := by
  have hl' : (512 : Int) < (n : Int) + m := by omega
  obtain ⟨hn, hm⟩ := cases3 n m
  rcases hn with rfl | ⟨hn0, hn⟩ | ⟨hn0, hn1, hn⟩ <;> rcases hm with hm | hm
  all_goals
    go_enter Try.func9, Try.ntmps9
    go_wp2_with fail
    refine (wakes _).mono ?_
    rintro e wA ⟨rfl, hbA⟩
    go_wp2_with fail
    refine (join_long _ _ _ _ _ _ _ hl hx hy).mono ?_
    rintro e w1 ⟨rfl, rfl⟩
    go_wp2_with fail
    all_goals
      refine (check _ _ _ _ _ _ _ (by unfold maxLen; omega) (by unfold maxLen; omega)).mono ?_
      rintro e w1' ⟨rfl, rfl⟩
      first | rw [if_pos (by omega)] | (rw [if_neg (by omega)]; first | rw [if_pos (by omega)] | rw [if_neg (by omega)])
      go_wp2_with fail
      all_goals
        go_ret
        exact ⟨by first | rfl | simp, hbA⟩
set_option maxHeartbeats 4000000 in
theorem joins_ok (a1 a2 : Option Addr) (n m k1 k2 : Nat) (xs ys : List UInt8) (w : World) (hxn : xs.length = n) (hym : ys.length = m) (h1 : IsSl w (.slice a1 n k1) (xs.map u8v)) (h2 : IsSl w (.slice a2 m k2) (ys.map u8v)) (hl : n + m ≤ 512) :
    Calls Try.prog 9 #[.slice a1 n k1, .slice a2 m k2] w fun e w' => e = .returned (.bool true) ∧ Below w.heap.size w w' := by
  have H1 := Lib.hid h1
  have H2 := Lib.hid h2
  have HX := Lib.hid hxn
  have HY := Lib.hid hym
  have hadd : ∀ w, (Op.stringOp .add ⟨xs.toArray⟩ ⟨ys.toArray⟩).run Try.prog w = .ok (.string ⟨(xs ++ ys).toArray⟩) w := fun w => run_string_add_lists w xs ys (by omega) (by omega)
  have HA := Lib.hid hadd
  obtain ⟨hn, hm⟩ := cases3 n m
  clear hadd h1 h2 hxn hym
  have l1 : ¬ (512 : Int) < (n : Int) + m := by omega
  have l2 : ¬ (512 : Int) < (n : Int) := by omega
  have l3 : ¬ (512 : Int) < (m : Int) := by omega
  clear hm
  have HN := Lib.hid hn
  clear hn
  go_enter Try.func9, Try.ntmps9
  go_wp2_with fail
  refine (wakes _).mono ?_
  rintro e wA ⟨rfl, hbA⟩
  have HB := Lib.hid hbA
  have HA1 := Lib.hid (H1.out.below hbA (Nat.le_refl _))
  have HA2 := Lib.hid (H2.out.below hbA (Nat.le_refl _))
  clear hbA
  go_wp2_with fail
  refine (join_ok _ _ _ xs ys HA1.out HA2.out (by rw [HX.out, HY.out]; exact hl)).mono ?_
  rintro e w1 ⟨v, rfl, hs, hb1⟩
  have hc0 := convert_sl (P := Try.prog) 22 5 Try.underlying22 Try.underlying5 hs 9 Try.underlying9
  have hc1 := convert_sl (P := Try.prog) 22 5 Try.underlying22 Try.underlying5 (HA1.out.below hb1 (Nat.le_refl _)) 9 Try.underlying9
  have hc2 := convert_sl (P := Try.prog) 22 5 Try.underlying22 Try.underlying5 (HA2.out.below hb1 (Nat.le_refl _)) 9 Try.underlying9
  have HB1 : Hid (Below w.heap.size w w1) := HB.out.trans (hb1.mono HB.out.size)
  clear hs hb1
  have hadd := HA.out
  generalize (⟨(xs ++ ys).toArray⟩ : ByteArray) = U at *
  generalize (⟨xs.toArray⟩ : ByteArray) = S at *
  generalize (⟨ys.toArray⟩ : ByteArray) = T at *
  clear H1 H2 HA HX HY HA1 HA2 HB
  rcases HN.out with rfl | ⟨hn0, hn⟩ | ⟨hn0, hn1, hn⟩
  all_goals
    go_wp2_with fail
    refine (check _ _ _ _ _ _ _ (by unfold maxLen; omega) (by unfold maxLen; omega)).mono ?_
    rintro e w1' ⟨rfl, rfl⟩
    first | rw [if_pos (by omega)] | (rw [if_neg (by omega)]; first | rw [if_pos (by omega)] | rw [if_neg (by omega)])
    go_wp2_with fail
    all_goals
      go_ret
      exact ⟨by first | rfl | simp, HB1.out⟩

theorem itemJoinsW.walk (a0 : Option Addr) (len0 cap0 : Nat) (z0 : List Int) (a1 : Option Addr) (len1 cap1 : Nat) (z1 : List Int) (w : World) (w0 : IsRow .u8 w a0 len0 cap0 z0) (s0 : len0 * 1 ≤ 140737488351232)
    (w1 : IsRow .u8 w a1 len1 cap1 z1) (s1 : len1 * 1 ≤ 140737488351232) :
    Calls Try.prog 9 #[.slice a0 len0 cap0, .slice a1 len1 cap1] w fun e w' => e = .returned (.bool true) ∧ Below w.heap.size w w' := by
  by_cases h : 512 < len0 + len1
  · exact joins_long a0 a1 len0 len1 cap0 cap1 w h (by omega) (by omega)
  · obtain ⟨xs, hx, h0⟩ := w0.bytes
    obtain ⟨ys, hy, h1⟩ := w1.bytes
    exact joins_ok _ _ _ _ _ _ xs ys w hx hy h0 h1 (by omega)
end Go.Proofs.Ytkajopdpjdmfcaa
