/- Comparisons: cmp.Compare, slices.Compare at bytes, cmp.Or, ideal.compare. Conditions: slices lie in memory. -/
import Derived.Test.YtngpffmgkponfaaTld
import Derived.Test.YtngpffmgkponfaaPl
import Derived.StillTailTactics
import Derived.Sort.Grow
set_option linter.unusedVariables false
set_option linter.unusedSimpArgs false
namespace Go.Proofs.Ytngpffmgkponfaa
open Go.RowKit Go.Ice Go.Idl

theorem compare53 (w : World) (a b : Int) : Calls Try.prog 53 #[.int .u64 a, .int .u64 b] w fun e w' => e = .returned (.int .i64 (cmpI a b)) ∧ w' = w := by
  by_cases h1 : a < b
  · have hx : cmpI a b = -1 := by unfold cmpI; rw [if_pos h1]
    rw [hx]
    have hd : decide (a < b) = true := by simpa using h1
    clear hx
    go_enter Try.func53, Try.ntmps53
    go_wp2
    go_ret
    exact ⟨rfl, rfl⟩
  · by_cases h2 : b < a
    · have hx : cmpI a b = 1 := by unfold cmpI; rw [if_neg h1, if_pos h2]
      rw [hx]
      clear hx
      go_enter Try.func53, Try.ntmps53
      go_wp2
      go_ret
      exact ⟨rfl, rfl⟩
    · have hx : cmpI a b = 0 := by unfold cmpI; rw [if_neg h1, if_neg h2]
      rw [hx]
      clear hx
      go_enter Try.func53, Try.ntmps53
      go_wp2
      go_ret
      exact ⟨rfl, rfl⟩
theorem compare55 (w : World) (a b : Int) : Calls Try.prog 55 #[.int .u32 a, .int .u32 b] w fun e w' => e = .returned (.int .i64 (cmpI a b)) ∧ w' = w := by
  by_cases h1 : a < b
  · have hx : cmpI a b = -1 := by unfold cmpI; rw [if_pos h1]
    rw [hx]
    clear hx
    go_enter Try.func55, Try.ntmps55
    go_wp2
    go_ret
    exact ⟨rfl, rfl⟩
  · by_cases h2 : b < a
    · have hx : cmpI a b = 1 := by unfold cmpI; rw [if_neg h1, if_pos h2]
      rw [hx]
      clear hx
      go_enter Try.func55, Try.ntmps55
      go_wp2
      go_ret
      exact ⟨rfl, rfl⟩
    · have hx : cmpI a b = 0 := by unfold cmpI; rw [if_neg h1, if_neg h2]
      rw [hx]
      clear hx
      go_enter Try.func55, Try.ntmps55
      go_wp2
      go_ret
      exact ⟨rfl, rfl⟩
theorem compare83 (w : World) (a b : Int) : Calls Try.prog 83 #[.int .u8 a, .int .u8 b] w fun e w' => e = .returned (.int .i64 (cmpI a b)) ∧ w' = w := by
  by_cases h1 : a < b
  · have hx : cmpI a b = -1 := by unfold cmpI; rw [if_pos h1]
    rw [hx]
    clear hx
    go_enter Try.func83, Try.ntmps83
    go_wp2
    go_ret
    exact ⟨rfl, rfl⟩
  · by_cases h2 : b < a
    · have hx : cmpI a b = 1 := by unfold cmpI; rw [if_neg h1, if_pos h2]
      rw [hx]
      clear hx
      go_enter Try.func83, Try.ntmps83
      go_wp2
      go_ret
      exact ⟨rfl, rfl⟩
    · have hx : cmpI a b = 0 := by unfold cmpI; rw [if_neg h1, if_neg h2]
      rw [hx]
      clear hx
      go_enter Try.func83, Try.ntmps83
      go_wp2
      go_ret
      exact ⟨rfl, rfl⟩

/-- slices.Compare from a place on. -/
theorem cmpB_drop {a b : List UInt8} {k : Nat} (hp : cmpB a b = cmpB (a.drop k) (b.drop k)) (h1 : k < a.length) (h2 : k < b.length) :
    cmpB a b = orI (cmpI (a.getD k 0).toNat (b.getD k 0).toNat) (cmpB (a.drop (k + 1)) (b.drop (k + 1))) := by
  rw [hp, List.drop_eq_getElem_cons h1, List.drop_eq_getElem_cons h2]
  simp [cmpB, List.getD_eq_getElem?_getD, h1, h2]
theorem cmpB_end1 {a b : List UInt8} {k : Nat} (hp : cmpB a b = cmpB (a.drop k) (b.drop k)) (h1 : k < a.length) (h2 : b.length ≤ k) : cmpB a b = 1 := by
  rw [hp, List.drop_eq_getElem_cons h1, List.drop_of_length_le h2]; rfl
theorem cmpB_end2 {a b : List UInt8} {k : Nat} (hp : cmpB a b = cmpB (a.drop k) (b.drop k)) (h1 : a.length ≤ k) (h2 : k < b.length) : cmpB a b = -1 := by
  rw [hp, List.drop_eq_getElem_cons h2, List.drop_of_length_le h1]; rfl
theorem cmpB_end3 {a b : List UInt8} {k : Nat} (hp : cmpB a b = cmpB (a.drop k) (b.drop k)) (h1 : a.length ≤ k) (h2 : b.length ≤ k) : cmpB a b = 0 := by
  rw [hp, List.drop_of_length_le h2, List.drop_of_length_le h1]; rfl

set_option maxHeartbeats 4000000 in
theorem compareBytes (w : World) (va vb : Value) (la lb : List UInt8) (ha : BytesAt w va la) (hb : BytesAt w vb lb) :
    Calls Try.prog 54 #[va, vb] w fun e w' => e = .returned (.int .i64 (cmpB la lb)) ∧ w' = w := by
  obtain ⟨r, hr⟩ : ∃ r, r = cmpB la lb := ⟨_, rfl⟩
  rw [← hr]
  have HA := Lib.hid ha
  have HB := Lib.hid hb
  have HR := Lib.hid hr
  obtain ⟨a, ca, rfl, hma⟩ := ha.form
  obtain ⟨b, cb, rfl, hmb⟩ := hb.form
  unfold maxLen at hma hmb
  clear ha hb hr
  obtain ⟨n, hn⟩ : ∃ n, n = la.length := ⟨_, rfl⟩
  obtain ⟨m, hm⟩ : ∃ n, n = lb.length := ⟨_, rfl⟩
  rw [← hn] at hma ⊢
  rw [← hm] at hmb ⊢
  have HN := Lib.hid hn
  have HM := Lib.hid hm
  clear hn hm
  go_enter Try.func54, Try.ntmps54
  go_wp2_with fail
  go_loopg [5, 6, 7, 8, 11] n (fun g x5 x6 x7 x8 kv wr => ∃ k : Nat, g = n - k ∧ k ≤ n ∧ k ≤ m ∧ kv = .int .i64 k ∧ Hid (cmpB la lb = cmpB (la.drop k) (lb.drop k)) ∧ wr = w)
  case atStart => exact ⟨0, rfl, by omega, by omega, rfl, rfl, rfl⟩
  case round =>
    obtain ⟨k, rfl, hk, hkm, rfl, HJ, rfl⟩ := hrel
    by_cases hlt : k < n
    · obtain ⟨bs, off, cap, e1, h1, h2, h3, h4⟩ := HA.out.at (by have := HN.out; omega)
      have q0 := h4 k (by have := HN.out; omega)
      injection e1 with x1 x2 x3
      subst x1 x3
      clear h4 x2
      rw [← HN.out] at h1
      unfold maxLen at h2
      by_cases hlm : k < m
      · obtain ⟨bs', off', cap', e1', h1', h2', h3', h4'⟩ := HB.out.at (by have := HM.out; omega)
        have p0 := h4' k (by have := HM.out; omega)
        injection e1' with y1 y2 y3
        subst y1 y3
        clear h4' y2
        rw [← HM.out] at h1'
        unfold maxLen at h2'
        obtain ⟨sa, hsa⟩ : ∃ s, s = la.getD k 0 := ⟨_, rfl⟩
        obtain ⟨sb, hsb⟩ : ∃ s, s = lb.getD k 0 := ⟨_, rfl⟩
        rw [← hsa] at q0
        rw [← hsb] at p0
        have HS : Hid (cmpB la lb = orI (cmpI sa.toNat sb.toNat) (cmpB (la.drop (k + 1)) (lb.drop (k + 1)))) := by
          show _ = _
          rw [hsa, hsb]
          exact cmpB_drop HJ.out (by have := HN.out; omega) (by have := HM.out; omega)
        clear hsa hsb
        by_cases hc : cmpI sa.toNat sb.toNat = 0
        · have HK : Hid (cmpB la lb = cmpB (la.drop (k + 1)) (lb.drop (k + 1))) := by
            show _ = _
            have := HS.out
            rw [hc] at this
            exact this
          have HC := Lib.hid hc
          clear hc
          go_wp2_with (go_at_call 83; refine (compare83 _ _ _).mono ?_; rintro e w' ⟨rfl, rfl⟩; rw [HC.out])
          go_roundg (n - (k + 1))
          case measure => omega
          case rel => exact ⟨k + 1, rfl, by omega, by omega, by go_num, HK.out, rfl⟩
        · have HK : Hid (r = cmpI sa.toNat sb.toNat) := by
            show _ = _
            rw [HR.out, HS.out]
            unfold orI
            rw [if_pos hc]
          have hq : (cmpI sa.toNat sb.toNat != 0) = true := by simpa using hc
          clear hc
          go_wp2_with (go_at_call 83; refine (compare83 _ _ _).mono ?_; rintro e w' ⟨rfl, rfl⟩; generalize cmpI sa.toNat sb.toNat = cc at *)
          go_ret
          exact ⟨by rw [HK.out]; rfl, rfl⟩
      · have HK : Hid (r = 1) := by
          show _ = _
          rw [HR.out]
          exact cmpB_end1 HJ.out (by have := HN.out; omega) (by have := HM.out; omega)
        go_wp2_with fail
        go_ret
        exact ⟨by rw [HK.out]; rfl, rfl⟩
    · obtain rfl : k = n := by omega
      by_cases hlm : k < m
      · have HK : Hid (r = -1) := by
          show _ = _
          rw [HR.out]
          exact cmpB_end2 HJ.out (by have := HN.out; omega) (by have := HM.out; omega)
        go_wp2_with fail
        go_ret
        exact ⟨by rw [HK.out]; rfl, rfl⟩
      · have HK : Hid (r = 0) := by
          show _ = _
          rw [HR.out]
          exact cmpB_end3 HJ.out (by have := HN.out; omega) (by have := HM.out; omega)
        go_wp2_with fail
        go_ret
        exact ⟨by rw [HK.out]; rfl, rfl⟩

/-- cmp.Or of numbers: the first that is not 0. -/
def orL : List Int → Int
  | [] => 0
  | a :: r => orI a (orL r)
theorem orL_drop {l : List Int} {k : Nat} (hp : orL l = orL (l.drop k)) (h : k < l.length) : orL l = orI (l.getD k 0) (orL (l.drop (k + 1))) := by
  rw [hp, List.drop_eq_getElem_cons h]
  simp [orL, List.getD_eq_getElem?_getD, h]
def IntsAt (w : World) (v : Value) (l : List Int) : Prop := IsSl w v (l.map fun c => .int .i64 c)
theorem IntsAt.form {w : World} {v : Value} {l : List Int} (h : IntsAt w v l) : ∃ a cap, v = .slice a l.length cap ∧ l.length ≤ maxLen := by
  obtain ⟨a, c, h1, h2⟩ := IsSl.form h
  rw [List.length_map] at h1 h2
  exact ⟨a, c, h1, h2⟩
theorem IntsAt.at {w : World} {v : Value} {l : List Int} (h : IntsAt w v l) (hl : 0 < l.length) : ∃ b off cap, v = .slice (some ⟨b, off, none⟩) l.length cap ∧ l.length ≤ cap ∧ cap ≤ maxLen ∧ b < w.heap.size ∧ ∀ i, i < l.length → w.cell? ⟨b, off + i, none⟩ = some (.int .i64 (l.getD i 0)) := by
  rcases h with ⟨h, _⟩ | ⟨_, b, off, cap, h1, h2, h3, h4, h5⟩
  · rw [List.map_eq_nil_iff] at h; subst h; simp at hl
  · rw [List.length_map] at h1 h2 h5
    refine ⟨b, off, cap, h1, h2, h3, h4, fun i hi => ?_⟩
    rw [h5 i hi, List.getElem?_map, List.getElem?_eq_getElem hi]
    simp [List.getD_eq_getElem?_getD, hi]

set_option maxHeartbeats 4000000 in
theorem or52 (w : World) (va : Value) (la : List Int) (ha : IntsAt w va la) : Calls Try.prog 52 #[va] w fun e w' => e = .returned (.int .i64 (orL la)) ∧ w' = w := by
  obtain ⟨r, hr⟩ : ∃ r, r = orL la := ⟨_, rfl⟩
  rw [← hr]
  have HA := Lib.hid ha
  have HR := Lib.hid hr
  obtain ⟨a, ca, rfl, hma⟩ := ha.form
  unfold maxLen at hma
  clear ha hr
  obtain ⟨n, hn⟩ : ∃ n, n = la.length := ⟨_, rfl⟩
  rw [← hn] at hma ⊢
  have HN := Lib.hid hn
  clear hn
  go_enter Try.func52, Try.ntmps52
  go_wp2_with fail
  go_loopg [5, 8] n (fun g x5 kv wr => ∃ k : Nat, g = n - k ∧ k ≤ n ∧ kv = .int .i64 k ∧ Hid (orL la = orL (la.drop k)) ∧ wr = w)
  case atStart => exact ⟨0, rfl, by omega, rfl, rfl, rfl⟩
  case round =>
    obtain ⟨k, rfl, hk, rfl, HJ, rfl⟩ := hrel
    by_cases hlt : k < n
    · obtain ⟨bs, off, cap, e1, h1, h2, h3, h4⟩ := HA.out.at (by have := HN.out; omega)
      have q0 := h4 k (by have := HN.out; omega)
      injection e1 with x1 x2 x3
      subst x1 x3
      clear h4 x2
      rw [← HN.out] at h1
      unfold maxLen at h2
      obtain ⟨sa, hsa⟩ : ∃ s, s = la.getD k 0 := ⟨_, rfl⟩
      rw [← hsa] at q0
      have HS : Hid (orL la = orI sa (orL (la.drop (k + 1)))) := by
        show _ = _
        rw [hsa]
        exact orL_drop HJ.out (by have := HN.out; omega)
      clear hsa
      by_cases hc : sa = 0
      · have HK : Hid (orL la = orL (la.drop (k + 1))) := by
          show _ = _
          have := HS.out
          rw [hc] at this
          exact this
        have hq : (sa != 0) = false := by simp [hc]
        clear hc
        go_wp2_with fail
        go_roundg (n - (k + 1))
        case measure => omega
        case rel => exact ⟨k + 1, rfl, by omega, by go_num, HK.out, rfl⟩
      · have HK : Hid (r = sa) := by
          show _ = _
          rw [HR.out, HS.out]
          unfold orI
          rw [if_pos hc]
        have hq : (sa != 0) = true := by simpa using hc
        clear hc
        go_wp2_with fail
        go_ret
        exact ⟨by rw [HK.out]; rfl, rfl⟩
    · obtain rfl : k = n := by omega
      have HK : Hid (r = 0) := by
        show _ = _
        rw [HR.out, HJ.out, List.drop_of_length_le (by have := HN.out; omega)]; rfl
      go_wp2_with fail
      go_ret
      exact ⟨by rw [HK.out]; rfl, rfl⟩

theorem grow3 (w : World) (a b c : Obj) : ((w.alloc a).alloc b).drew.alloc c = Go.Sort.grow (w.drewN 1) #[a, b, c] := by
  rw [Go.Sort.alloc_eq_grow w a, Go.Sort.alloc_eq_grow _ b, Go.Sort.grow_grow, Go.Sort.drew_grow, Go.Sort.alloc_eq_grow _ c, Go.Sort.grow_grow]; rfl

/-- A version as a value. -/
def tvV (v : Value) (t : Tv) : Value := .agg #[v, .int .u32 t.fl, .int .u32 t.ex, .int .u64 t.cas]
set_option maxHeartbeats 4000000 in
set_option maxRecDepth 20000 in
theorem compare38 (w : World) (va vb : Value) (a b : Tv) (ha : BytesAt w va a.val) (hb : BytesAt w vb b.val) :
    Calls Try.prog 38 #[tvV va a, tvV vb b] w fun e w' => e = .returned (.int .i64 (cmpT a b)) ∧ ∃ q os, w' = Go.Sort.grow (w.drewN q) os := by
  obtain ⟨r, hr⟩ : ∃ r, r = cmpT a b := ⟨_, rfl⟩
  rw [← hr]
  have HR := Lib.hid hr
  clear hr
  unfold tvV
  obtain ⟨c0, hc0⟩ : ∃ c, c = cmpI a.cas b.cas := ⟨_, rfl⟩
  obtain ⟨c1, hc1⟩ : ∃ c, c = cmpB a.val b.val := ⟨_, rfl⟩
  obtain ⟨c2, hc2⟩ : ∃ c, c = cmpI a.fl b.fl := ⟨_, rfl⟩
  obtain ⟨c3, hc3⟩ : ∃ c, c = cmpI a.ex b.ex := ⟨_, rfl⟩
  have k0 := fun w => compare53 w a.cas b.cas
  have k2 := fun w => compare55 w a.fl b.fl
  have k3 := fun w => compare55 w a.ex b.ex
  have k1 : ∀ w', Below w.heap.size w w' → Calls Try.prog 54 #[va, vb] w' fun e w'' => e = .returned (.int .i64 c1) ∧ w'' = w' := fun w' hb' => by
    rw [hc1]; exact compareBytes w' va vb a.val b.val (ha.below hb' (Nat.le_refl _)) (hb.below hb' (Nat.le_refl _))
  rw [← hc0] at k0
  rw [← hc2] at k2
  rw [← hc3] at k3
  have HX : Hid (r = orL [c0, c1, c2, c3]) := by show _ = _; rw [HR.out, hc0, hc1, hc2, hc3]; unfold cmpT orL orL orL orL orL; congr 3; unfold orI; split <;> simp_all
  have K0 := Lib.hid k0
  have K1 := Lib.hid k1
  have K2 := Lib.hid k2
  have K3 := Lib.hid k3
  clear k0 k1 k2 k3 HR hc0 hc1 hc2 hc3 ha hb
  go_enter Try.func38, Try.ntmps38
  go_upto_region 1 with fail
  obtain ⟨B, C, W, HB, HC, HW, HK, HZ⟩ := boxed2 w #[va, .int .u32 a.fl, .int .u32 a.ex, .int .u64 a.cas] 49 #[vb, .int .u32 b.fl, .int .u32 b.ex, .int .u64 b.cas] 49
  rw [HC.out, HB.out, HW.out]
  have a0 : W.cell? ⟨B, 0, none⟩ = some va := blk_cell HK.out.b0 0
  have a1 : W.cell? ⟨B, 1, none⟩ = some (.int .u32 a.fl) := blk_cell HK.out.b0 1
  have a2 : W.cell? ⟨B, 2, none⟩ = some (.int .u32 a.ex) := blk_cell HK.out.b0 2
  have a3 : W.cell? ⟨B, 3, none⟩ = some (.int .u64 a.cas) := blk_cell HK.out.b0 3
  have b0 : W.cell? ⟨C, 0, none⟩ = some vb := blk_cell HK.out.b1 0
  have b1 : W.cell? ⟨C, 1, none⟩ = some (.int .u32 b.fl) := blk_cell HK.out.b1 1
  have b2 : W.cell? ⟨C, 2, none⟩ = some (.int .u32 b.ex) := blk_cell HK.out.b1 2
  have b3 : W.cell? ⟨C, 3, none⟩ = some (.int .u64 b.cas) := blk_cell HK.out.b1 3
  go_still_tail 20, (by kernel_rfl)
  still_call (K0.out _)
  repeat still_step
  still_call (K1.out _ HK.out.below.drew)
  repeat still_step
  still_call (K2.out _)
  repeat still_step
  still_call (K3.out _)
  repeat still_step
  refine wpStill_nil ?_
  change wpList _ _ _ _ _ W.drew
  have hi : IntsAt (W.drew.alloc (.cells #[.int .i64 c0, .int .i64 c1, .int .i64 c2, .int .i64 c3] 3)) (.slice (some ⟨W.heap.size, 0, none⟩) 4 4) [c0, c1, c2, c3] :=
    isSl_new W.drew [.int .i64 c0, .int .i64 c1, .int .i64 c2, .int .i64 c3] 3 4 (Nat.le_refl _) (by decide) (0, 0)
  have HI := Lib.hid hi
  clear hi
  go_wp2_with fail
  refine (or52 _ _ [c0, c1, c2, c3] HI.out).mono ?_
  rintro e w' ⟨rfl, rfl⟩
  rw [← HX.out]
  go_wp2_with fail
  go_ret
  exact ⟨rfl, 1, _, by rw [← HW.out]; exact grow3 w _ _ _⟩
end Go.Proofs.Ytngpffmgkponfaa
