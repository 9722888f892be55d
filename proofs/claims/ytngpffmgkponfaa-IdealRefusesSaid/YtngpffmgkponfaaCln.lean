/- slices.Clone at bytes and at versions; the test of two versions. Conditions: slices lie in memory, not too long. -/
import Derived.Test.YtngpffmgkponfaaVrs
set_option linter.unusedVariables false
set_option linter.unusedSimpArgs false
namespace Go.Proofs.Ytngpffmgkponfaa
open Go.RowKit Go.Ice Go.Idl

theorem elemTold : Elem Try.prog 54 49 4 40 (.agg #[.slice none 0 0, .int .u32 0, .int .u32 0, .int .u64 0]) :=
  ⟨Try.underlying54, by
    obtain ⟨i0, hi, hz0, hz1, hz2⟩ := info_parts (show (Try.prog.info? 49).map (fun i => (i.zero, i.size, i.bytes)) = some (some (.agg #[.slice none 0 0, .int .u32 0, .int .u32 0, .int .u64 0]), 4, 40) by kernel_rfl)
    exact ⟨i0, hi, hz0, hz1, hz2⟩, rfl, by decide⟩

set_option maxHeartbeats 4000000 in
set_option maxRecDepth 20000 in
theorem clone36 (w : World) (v : Value) (l : List UInt8) (hl : BytesAt w v l) (hm : l.length ≤ 1000000) :
    Calls Try.prog 36 #[v] w fun e w' => ∃ v', e = .returned v' ∧ w'.ownsRow w.heap.size 5 1 v' l.length (l.map u8v) ∧ Below w.heap.size w w' := by
  have key : ∀ a c, v = .slice (some a) l.length c → Calls Try.prog 36 #[v] w fun e w' => ∃ v', e = .returned v' ∧ w'.ownsRow w.heap.size 5 1 v' l.length (l.map u8v) ∧ Below w.heap.size w w' := by
    intro a c hv
    have h1 := own_new w 5 w.heap.size (Nat.le_refl _)
    obtain ⟨v', w', hr, ho, hg, _⟩ := append_sl (P := Try.prog) (t := 23) (ty := 23) elemByte h1 (IsSl.alloc hl (.cells #[] 5)) (by intro u hu; obtain ⟨c, _, rfl⟩ := List.mem_map.1 hu; rfl) (by simp; omega) (by unfold maxLen; simp; omega) (by simp)
    have HR := Lib.hid hr
    have hbel : Below w.heap.size w w' := ((Below.refl _ w).alloc (Nat.le_refl _) _).grown hg (by simp) (fun k hk => by cases hk; exact Nat.le_refl _)
    rw [List.nil_append, Nat.zero_add, List.length_map] at ho
    have HO := Lib.hid ho
    have HB := Lib.hid hbel
    subst hv
    have hnil := Lib.run_eql_slice_nil (P := Try.prog) w 23 5 (some a) l.length c 0 0 Try.underlying23
    clear hl h1 hr ho hg hbel
    go_enter Try.func36, Try.ntmps36
    go_wp2_with (at_builtin; refine wpList_append_eq rfl _ _ _ rfl rfl rfl HR.out ?_)
    go_ret
    exact ⟨v', rfl, HO.out, HB.out⟩
  rcases hl with ⟨h, rfl | ⟨a, cap, rfl⟩⟩ | ⟨h0, b, off, cap, rfl, _⟩
  · obtain rfl : l = [] := by simpa using h
    have hnil := Lib.run_eql_slice_nil (P := Try.prog) w 23 5 none 0 0 0 0 Try.underlying23
    clear key
    go_enter Try.func36, Try.ntmps36
    go_wp2
    go_ret
    exact ⟨_, rfl, ⟨rfl, .inl ⟨rfl, rfl⟩⟩, Below.refl _ _⟩
  · obtain rfl : l = [] := by simpa using h
    exact key _ _ rfl
  · rw [List.length_map] at key ⊢
    exact key _ _ rfl

theorem cellsR_one {rl : List (Value × Tv)} (h : ∀ p ∈ rl, ∃ a n c, p.1 = .slice a n c) : ∀ u ∈ cellsR rl, u.oneCell' = true := by
  intro u hu
  obtain ⟨p, hp, hu⟩ := List.mem_flatMap.1 hu
  obtain ⟨a, n, c, e⟩ := h p hp
  simp only [encR, e, List.mem_cons, List.mem_nil_iff, or_false] at hu
  rcases hu with rfl | rfl | rfl | rfl <;> rfl
theorem VersR.slices {w : World} {C : Nat → Prop} {v : Value} {rl : List (Value × Tv)} (h : VersR w C v rl) : ∀ p ∈ rl, ∃ a n c, p.1 = .slice a n c := fun p hp => by
  obtain ⟨a, c, e, _⟩ := (h.el p hp).1.form
  exact ⟨a, _, c, e⟩
theorem VersR.isSlK {w : World} {C : Nat → Prop} {v : Value} {rl : List (Value × Tv)} (h : VersR w C v rl) : IsSlK w 4 rl.length v (cellsR rl) := by
  refine ⟨cellsR_len rl, ?_⟩
  rcases h.sl with ⟨h1, h2⟩ | ⟨h0, b, off, cap, hv, h1, h2, h3, h4, h5⟩
  · exact .inl ⟨by rw [h1]; rfl, h2⟩
  · refine .inr ⟨h0, b, off, cap, hv, h1, h2, h3, fun j hj => ?_⟩
    rw [cellsR_len] at hj
    have hi : j / 4 < rl.length := by omega
    have hp := List.getElem?_eq_getElem hi
    have h6 := h5 (j / 4) _ hp
    have e : j = j / 4 * 4 + j % 4 := by omega
    have h7 := cellsR_at hp (j := j % 4) (by omega)
    rw [← e] at h7
    rw [h7]
    have : j % 4 = 0 ∨ j % 4 = 1 ∨ j % 4 = 2 ∨ j % 4 = 3 := by omega
    rcases this with r | r | r | r
    · rw [show off + j = off + j / 4 * 4 by omega, r]; exact h6.1
    · rw [show off + j = off + j / 4 * 4 + 1 by omega, r]; exact h6.2.1
    · rw [show off + j = off + j / 4 * 4 + 2 by omega, r]; exact h6.2.2.1
    · rw [show off + j = off + j / 4 * 4 + 3 by omega, r]; exact h6.2.2.2

set_option maxHeartbeats 4000000 in
theorem clone87 (w : World) (v : Value) (rl : List (Value × Tv)) (C : Nat → Prop) (hl : VersR w C v rl) (hm : rl.length ≤ 1000000) (h0 : 0 < rl.length) :
    Calls Try.prog 87 #[v] w fun e w' => ∃ v', e = .returned v' ∧ w'.ownsRow w.heap.size 49 4 v' rl.length (cellsR rl) ∧ Below w.heap.size w w' := by
  have hk := hl.isSlK
  obtain ⟨b, off, cap, rfl, h1, h2, h3, h4, h5⟩ := hl.at h0
  have q1 : (w.alloc (.cells #[] 49)).ownsRow w.heap.size 49 4 (.slice (some ⟨w.heap.size, 0, none⟩) 0 0) 0 [] := World.ownsRow_made w #[] 0 (Nat.le_refl _) (by decide) rfl
  have hk' : IsSlK (w.alloc (.cells #[] 49)) 4 rl.length (.slice (some ⟨b, off, none⟩) rl.length cap) (cellsR rl) := hk.below ((Below.refl w.heap.size w).alloc (Nat.le_refl _) _) (Nat.le_refl _)
  obtain ⟨v', w', hr, ho, hg, _⟩ := app_at (P := Try.prog) (t := 54) (ty := 54) elemTold q1 hk' (cellsR_one hl.slices) (by omega) (by unfold maxLen; omega) (by simp)
  have HR := Lib.hid hr
  have hbel : Below w.heap.size w w' := ((Below.refl _ w).alloc (Nat.le_refl _) _).grown hg (by simp) (fun k hk => by cases hk; exact Nat.le_refl _)
  rw [List.nil_append, Nat.zero_add] at ho
  have HO := Lib.hid ho
  have HB := Lib.hid hbel
  have hnil := Lib.run_eql_slice_nil (P := Try.prog) w 54 49 (some ⟨b, off, none⟩) rl.length cap 0 0 Try.underlying54
  clear hl q1 hr ho hg hbel hk hk' h5 h0 h4 h3 h1 h2 hm
  generalize rl.length = n at *
  go_enter Try.func87, Try.ntmps87
  go_wp2_with (at_builtin; refine wpList_append_eq rfl _ _ _ rfl rfl rfl HR.out ?_)
  go_ret
  exact ⟨v', rfl, HO.out, HB.out⟩

set_option maxHeartbeats 4000000 in
theorem same40 (w : World) (va vb : Value) (a b : Tv) (ha : BytesAt w va a.val) (hb : BytesAt w vb b.val) :
    Calls Try.prog 40 #[tvV va a, tvV vb b] w fun e w' => e = .returned (.bool (decide (a = b))) ∧ Below w.heap.size w w' := by
  obtain ⟨r, hr⟩ : ∃ r, r = decide (a = b) := ⟨_, rfl⟩
  rw [← hr]
  have HR := Lib.hid hr
  clear hr
  have hcon : ∀ w', Below w.heap.size w w' → Calls Try.prog 38 #[tvV va a, tvV vb b] w' fun e w'' => e = .returned (.int .i64 (cmpT a b)) ∧ Below w'.heap.size w' w'' := fun w' hb' =>
    (compare38 w' va vb a b (ha.below hb' (Nat.le_refl _)) (hb.below hb' (Nat.le_refl _))).mono fun e w'' ⟨he, q, os, hw⟩ => ⟨he, by
      rw [hw]
      exact ⟨rfl, rfl, rfl, by simp, fun k hk => by rw [Sort.heap_grow_old _ _ (by simpa using hk)]; rfl⟩⟩
  unfold tvV at hcon ⊢
  have HC := Lib.hid hcon
  clear hcon ha hb
  obtain ⟨c, hc⟩ : ∃ c, c = cmpT a b := ⟨_, rfl⟩
  rw [← hc] at HC
  obtain ⟨B, C, W, HB, HC', HW, HK, HZ⟩ := boxed2 w #[va, .int .u32 a.fl, .int .u32 a.ex, .int .u64 a.cas] 49 #[vb, .int .u32 b.fl, .int .u32 b.ex, .int .u64 b.cas] 49
  have a0 : W.cell? ⟨B, 0, none⟩ = some va := blk_cell HK.out.b0 0
  have a1 : W.cell? ⟨B, 1, none⟩ = some (.int .u32 a.fl) := blk_cell HK.out.b0 1
  have a2 : W.cell? ⟨B, 2, none⟩ = some (.int .u32 a.ex) := blk_cell HK.out.b0 2
  have a3 : W.cell? ⟨B, 3, none⟩ = some (.int .u64 a.cas) := blk_cell HK.out.b0 3
  have b0 : W.cell? ⟨C, 0, none⟩ = some vb := blk_cell HK.out.b1 0
  have b1 : W.cell? ⟨C, 1, none⟩ = some (.int .u32 b.fl) := blk_cell HK.out.b1 1
  have b2 : W.cell? ⟨C, 2, none⟩ = some (.int .u32 b.ex) := blk_cell HK.out.b1 2
  have b3 : W.cell? ⟨C, 3, none⟩ = some (.int .u64 b.cas) := blk_cell HK.out.b1 3
  by_cases h : a = b
  · have HX : Hid (r = true) := by show _ = _; rw [HR.out]; exact decide_eq_true h
    have hq : (c == 0) = true := by rw [hc, (cmpT_cmp.eq a b).2 h]; rfl
    clear hc h
    go_enter Try.func40, Try.ntmps40
    go_upto_region 1 with fail
    rw [HC'.out, HB.out, HW.out]
    go_wp2_with fail
    refine (HC.out _ HK.out.below).mono ?_
    rintro e w' ⟨rfl, hb1⟩
    have HB1 := Lib.hid hb1
    clear hb1
    go_wp2_with fail
    go_ret
    exact ⟨by rw [HX.out]; rfl, HK.out.below.trans (HB1.out.mono HK.out.below.size)⟩
  · have HX : Hid (r = false) := by show _ = _; rw [HR.out]; exact decide_eq_false h
    have hq : (c == 0) = false := by rw [hc]; simp; exact fun e => h ((cmpT_cmp.eq a b).1 e)
    clear hc h
    go_enter Try.func40, Try.ntmps40
    go_upto_region 1 with fail
    rw [HC'.out, HB.out, HW.out]
    go_wp2_with fail
    refine (HC.out _ HK.out.below).mono ?_
    rintro e w' ⟨rfl, hb1⟩
    have HB1 := Lib.hid hb1
    clear hb1
    go_wp2_with fail
    go_ret
    exact ⟨by rw [HX.out]; rfl, HK.out.below.trans (HB1.out.mono HK.out.below.size)⟩
end Go.Proofs.Ytngpffmgkponfaa
