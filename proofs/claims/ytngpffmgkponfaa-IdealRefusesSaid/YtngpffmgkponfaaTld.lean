/- Bytes, versions in memory; small functions. Conditions: numbers fit their kinds; slices lie in memory. -/
import Derived.Test.YtngpffmgkponfaaCalm
import Derived.Test.YtngpffmgkponfaaReg
set_option linter.unusedVariables false
set_option linter.unusedSimpArgs false
namespace Go.Proofs.Ytngpffmgkponfaa
open Go.RowKit Go.Ice

/-- Bytes, bools in memory. -/
def BytesAt (w : World) (v : Value) (l : List UInt8) : Prop := IsSl w v (l.map u8v)
theorem BytesAt.below {B : Nat} {w w' : World} {v : Value} {l : List UInt8} (h : BytesAt w v l) (hb : Below B w w') (hB : w.heap.size ≤ B) : BytesAt w' v l := IsSl.below h hb hB
theorem BytesAt.form {w : World} {v : Value} {l : List UInt8} (h : BytesAt w v l) : ∃ a cap, v = .slice a l.length cap ∧ l.length ≤ maxLen := by
  obtain ⟨a, c, h1, h2⟩ := IsSl.form h
  rw [List.length_map] at h1 h2
  exact ⟨a, c, h1, h2⟩
theorem BytesAt.at {w : World} {v : Value} {l : List UInt8} (h : BytesAt w v l) (hl : 0 < l.length) : ∃ b off cap, v = .slice (some ⟨b, off, none⟩) l.length cap ∧ l.length ≤ cap ∧ cap ≤ maxLen ∧ b < w.heap.size ∧ ∀ i, i < l.length → w.cell? ⟨b, off + i, none⟩ = some (.int .u8 (l.getD i 0).toNat) := by
  rcases h with ⟨h, _⟩ | ⟨_, b, off, cap, h1, h2, h3, h4, h5⟩
  · rw [List.map_eq_nil_iff] at h; subst h; simp at hl
  · rw [List.length_map] at h1 h2 h5
    refine ⟨b, off, cap, h1, h2, h3, h4, fun i hi => ?_⟩
    rw [h5 i hi, List.getElem?_map, List.getElem?_eq_getElem hi]
    simp [u8v, List.getD_eq_getElem?_getD, hi]
theorem list_eq_iff {α : Type} (d : α) {a b : List α} (h : a.length = b.length) : a = b ↔ ∀ i, i < a.length → a.getD i d = b.getD i d := by
  constructor
  · rintro rfl i _; rfl
  · intro hi
    refine List.ext_getElem h fun i h1 h2 => ?_
    have := hi i h1
    rwa [List.getD_eq_getElem?_getD, List.getD_eq_getElem?_getD, List.getElem?_eq_getElem h1, List.getElem?_eq_getElem h2] at this

set_option maxHeartbeats 4000000 in
theorem equalBytes (w : World) (va vb : Value) (la lb : List UInt8) (ha : BytesAt w va la) (hb : BytesAt w vb lb) :
    Calls Try.prog 65 #[va, vb] w fun e w' => e = .returned (.bool (decide (la = lb))) ∧ Below w.heap.size w w' := by
  have HA := Lib.hid ha
  have HB := Lib.hid hb
  obtain ⟨a, ca, rfl, hma⟩ := ha.form
  obtain ⟨b, cb, rfl, hmb⟩ := hb.form
  unfold maxLen at hma hmb
  clear ha hb
  by_cases hl : la.length = lb.length
  · have HE := Lib.hid (list_eq_iff 0 hl)
    have HLL := Lib.hid hl
    rw [← hl] at hmb ⊢
    obtain ⟨n, hn⟩ : ∃ n, n = la.length := ⟨_, rfl⟩
    rw [← hn] at hma hmb ⊢
    have HN := Lib.hid hn
    clear hn hl
    have hne : ((n : Int) != (n : Int)) = false := by simp
    go_enter Try.func65, Try.ntmps65
    go_wp2_with fail
    go_loopg [5, 13] n (fun g iv kv wr => ∃ k : Nat, g = n - k ∧ k ≤ n ∧ kv = .int .i64 k ∧ Hid (Below w.heap.size w wr ∧ ∀ i, i < k → la.getD i 0 = lb.getD i 0))
    case atStart => exact ⟨0, rfl, by omega, rfl, Below.refl _ _, fun i hi => by omega⟩
    case round =>
      obtain ⟨k, rfl, hk, rfl, HJ⟩ := hrel
      by_cases hlt : k < n
      · obtain ⟨bs, off, cap, e1, h1, h2, h3, h4⟩ := HA.out.at (by have := HN.out; omega)
        obtain ⟨bs', off', cap', e1', h1', h2', h3', h4'⟩ := HB.out.at (by have := HN.out; have := HLL.out; omega)
        have q0 := h4 k (by have := HN.out; omega)
        have p0 := h4' k (by have := HN.out; have := HLL.out; omega)
        rw [← HJ.out.1.cell (p := ⟨bs, _, none⟩) h3] at q0
        rw [← HJ.out.1.cell (p := ⟨bs', _, none⟩) h3'] at p0
        injection e1 with x1 x2 x3
        injection e1' with y1 y2 y3
        subst x1 x3 y1 y3
        clear h4 h4' x2 y2
        rw [← HN.out] at h1
        unfold maxLen at h2 h2'
        obtain ⟨sa, hsa⟩ : ∃ s, s = la.getD k 0 := ⟨_, rfl⟩
        obtain ⟨sb, hsb⟩ : ∃ s, s = lb.getD k 0 := ⟨_, rfl⟩
        rw [← hsa] at q0
        rw [← hsb] at p0
        have HSA := Lib.hid hsa
        have HSB := Lib.hid hsb
        have HJB : Hid (Below w.heap.size w wr) := HJ.out.1
        clear hsa hsb
        by_cases hs : sa = sb
        · have HK : Hid (∀ i, i < k + 1 → la.getD i 0 = lb.getD i 0) := fun i hi => by
            rcases Nat.lt_succ_iff_lt_or_eq.1 hi with h | rfl
            · exact HJ.out.2 i h
            · rw [← HSA.out, ← HSB.out, hs]
          have hq : ((sa.toNat : Int) != (sb.toNat : Int)) = false := by rw [hs]; simp
          clear hs
          go_upto_region 6 with fail
          go_quiet (fail)
          go_wp2_with fail
          go_roundg (n - (k + 1))
          case measure => omega
          case rel => exact ⟨k + 1, rfl, by omega, by go_num, HJB.out.trans ((drewN_below wr nq).mono HJB.out.size), HK.out⟩
        · have HK : Hid (la ≠ lb) := fun e => hs (by rw [HSA.out, HSB.out, e])
          have hq : ((sa.toNat : Int) != (sb.toNat : Int)) = true := by simp; exact fun e => hs (UInt8.toNat_inj.1 (by omega))
          clear hs
          all_goals
            go_upto_region 6 with fail
            go_quiet (fail)
            go_wp2_with fail
            go_ret
            exact ⟨by rw [decide_eq_false HK.out]; rfl, HJB.out.trans ((drewN_below wr nq).mono HJB.out.size)⟩
      · obtain rfl : k = n := by omega
        have HK : Hid (la = lb) := HE.out.2 fun i hi => HJ.out.2 i (by rw [HN.out]; exact hi)
        have HJB : Hid (Below w.heap.size w wr) := HJ.out.1
        go_wp2_with fail
        go_ret
        exact ⟨by rw [decide_eq_true HK.out]; rfl, HJB.out⟩
  · have hne : ((la.length : Int) != (lb.length : Int)) = true := by simp; omega
    have HK : Hid (la ≠ lb) := fun e => hl (by rw [e])
    clear hl
    generalize la.length = na at *
    generalize lb.length = nb at *
    go_enter Try.func65, Try.ntmps65
    go_wp2_with fail
    go_ret
    exact ⟨by rw [decide_eq_false HK.out]; rfl, Below.refl _ _⟩

def expiryF (now wish : Int) : Int := if wish = 0 then 0 else if 2592000 < wish then wish else if 4294967295 - now < wish then 4294967295 else now + wish
def expiredB (now x : Int) : Bool := decide (0 < x ∧ x ≤ now)

theorem expiry25 (a b : Int) (w : World) (h2 : 0 ≤ a) (h3 : a ≤ 4294967295) (h4 : 0 ≤ b) (h5 : b ≤ 4294967295) :
    Calls Try.prog 25 #[.int .u32 a, .int .u32 b] w fun e w' => e = .returned (.int .u32 (expiryF a b)) ∧ w' = w := by
  go_enter Try.func25, Try.ntmps25
  go_wp2
  all_goals
    go_ret
    refine ⟨ret_int ?_, rfl⟩
    simp only [beq_iff_eq, beq_eq_false_iff_ne] at *
    unfold expiryF
    (repeat' split) <;> first | rfl | omega

theorem expired16 (a b : Int) (w : World) (h2 : 0 ≤ a) (h3 : a ≤ 4294967295) (h4 : 0 ≤ b) (h5 : b ≤ 4294967295) :
    Calls Try.prog 16 #[.int .u32 a, .int .u32 b] w fun e w' => e = .returned (.bool (expiredB a b)) ∧ w' = w := by
  go_enter Try.func16, Try.ntmps16
  go_wp2
  all_goals
    go_ret
    refine ⟨ret_bool ?_, rfl⟩
    unfold expiredB
    first | (exact decide_eq_decide.2 (by omega)) | (symm; exact decide_eq_false (by omega))

/-- An answer that has nothing but a status. -/
def bareB (n : Nat) (fl cas num : Int) (m : Nat) (cl : Bool) : Bool := decide (n = 0) && decide (fl = 0) && decide (cas = 0) && decide (num = 0) && decide (m = 0) && !cl
def ansV (st : Int) (v : Value) (fl cas num : Int) (sv : Value) (cl : Bool) : Value := .agg #[.int .i64 st, v, .int .u32 fl, .int .u64 cas, .int .u64 num, sv, .bool cl]
set_option maxHeartbeats 4000000 in
set_option maxRecDepth 20000 in
theorem bare43 (w : World) (st fl cas num : Int) (a b : Option Addr) (n c m d : Nat) (cl : Bool) :
    Calls Try.prog 43 #[ansV st (.slice a n c) fl cas num (.slice b m d) cl] w fun e w' => e = .returned (.bool (bareB n fl cas num m cl)) ∧ Below w.heap.size w w' := by
  obtain ⟨rr, hrr⟩ : ∃ rr, rr = bareB n fl cas num m cl := ⟨_, rfl⟩
  rw [← hrr]
  have HR := Lib.hid hrr
  clear hrr
  unfold ansV
  obtain ⟨B, W0, HB, HW, HK, HZ⟩ := boxed1 w #[.int .i64 st, .slice a n c, .int .u32 fl, .int .u64 cas, .int .u64 num, .slice b m d, .bool cl] 38
  have b1 : W0.cell? ⟨B, 1, none⟩ = some (.slice a n c) := blk_cell HK.out.b0 1
  have b2 : W0.cell? ⟨B, 2, none⟩ = some (.int .u32 fl) := blk_cell HK.out.b0 2
  have b3 : W0.cell? ⟨B, 3, none⟩ = some (.int .u64 cas) := blk_cell HK.out.b0 3
  have b4 : W0.cell? ⟨B, 4, none⟩ = some (.int .u64 num) := blk_cell HK.out.b0 4
  have b5 : W0.cell? ⟨B, 5, none⟩ = some (.slice b m d) := blk_cell HK.out.b0 5
  have b6 : W0.cell? ⟨B, 6, none⟩ = some (.bool cl) := blk_cell HK.out.b0 6
  by_cases h1 : n = 0
  · by_cases h2 : fl = 0
    · by_cases h3 : cas = 0
      · by_cases h4 : num = 0
        · by_cases h5 : m = 0
          · cases cl with
            | false =>
              have HX : Hid (rr = true) := by show _ = _; rw [HR.out]; unfold bareB; simp [h1, h2, h3, h4, h5]
              have hb1 : ((n : Int) == 0) = true := by simp [h1]
              have hb2 : (fl == 0) = true := by simp [h2]
              have hb3 : (cas == 0) = true := by simp [h3]
              have hb4 : (num == 0) = true := by simp [h4]
              have hb5 : ((m : Int) == 0) = true := by simp [h5]
              clear h1 h2 h3 h4 h5
              go_enter Try.func43, Try.ntmps43
              go_upto_region 1 with fail
              rw [HB.out, HW.out]
              go_wp2_with fail
              go_ret
              exact ⟨by rw [HX.out]; rfl, HK.out.below⟩
            | true =>
              have HX : Hid (rr = false) := by show _ = _; rw [HR.out]; unfold bareB; simp [h1, h2, h3, h4, h5]
              have hb1 : ((n : Int) == 0) = true := by simp [h1]
              have hb2 : (fl == 0) = true := by simp [h2]
              have hb3 : (cas == 0) = true := by simp [h3]
              have hb4 : (num == 0) = true := by simp [h4]
              have hb5 : ((m : Int) == 0) = true := by simp [h5]
              clear h1 h2 h3 h4 h5
              go_enter Try.func43, Try.ntmps43
              go_upto_region 1 with fail
              rw [HB.out, HW.out]
              go_wp2_with fail
              go_ret
              exact ⟨by rw [HX.out]; rfl, HK.out.below⟩
          · have HX : Hid (rr = false) := by show _ = _; rw [HR.out]; unfold bareB; simp [h1, h2, h3, h4, h5]
            have hb1 : ((n : Int) == 0) = true := by simp [h1]
            have hb2 : (fl == 0) = true := by simp [h2]
            have hb3 : (cas == 0) = true := by simp [h3]
            have hb4 : (num == 0) = true := by simp [h4]
            have hb5 : ((m : Int) == 0) = false := by simp [h5]
            clear h1 h2 h3 h4 h5
            go_enter Try.func43, Try.ntmps43
            go_upto_region 1 with fail
            rw [HB.out, HW.out]
            go_wp2_with fail
            go_ret
            exact ⟨by rw [HX.out]; rfl, HK.out.below⟩
        · have HX : Hid (rr = false) := by show _ = _; rw [HR.out]; unfold bareB; simp [h1, h2, h3, h4]
          have hb1 : ((n : Int) == 0) = true := by simp [h1]
          have hb2 : (fl == 0) = true := by simp [h2]
          have hb3 : (cas == 0) = true := by simp [h3]
          have hb4 : (num == 0) = false := by simp [h4]
          clear h1 h2 h3 h4
          go_enter Try.func43, Try.ntmps43
          go_upto_region 1 with fail
          rw [HB.out, HW.out]
          go_wp2_with fail
          go_ret
          exact ⟨by rw [HX.out]; rfl, HK.out.below⟩
      · have HX : Hid (rr = false) := by show _ = _; rw [HR.out]; unfold bareB; simp [h1, h2, h3]
        have hb1 : ((n : Int) == 0) = true := by simp [h1]
        have hb2 : (fl == 0) = true := by simp [h2]
        have hb3 : (cas == 0) = false := by simp [h3]
        clear h1 h2 h3
        go_enter Try.func43, Try.ntmps43
        go_upto_region 1 with fail
        rw [HB.out, HW.out]
        go_wp2_with fail
        go_ret
        exact ⟨by rw [HX.out]; rfl, HK.out.below⟩
    · have HX : Hid (rr = false) := by show _ = _; rw [HR.out]; unfold bareB; simp [h1, h2]
      have hb1 : ((n : Int) == 0) = true := by simp [h1]
      have hb2 : (fl == 0) = false := by simp [h2]
      clear h1 h2
      go_enter Try.func43, Try.ntmps43
      go_upto_region 1 with fail
      rw [HB.out, HW.out]
      go_wp2_with fail
      go_ret
      exact ⟨by rw [HX.out]; rfl, HK.out.below⟩
  · have HX : Hid (rr = false) := by show _ = _; rw [HR.out]; unfold bareB; simp [h1]
    have hb1 : ((n : Int) == 0) = false := by simp [h1]
    clear h1
    go_enter Try.func43, Try.ntmps43
    go_upto_region 1 with fail
    rw [HB.out, HW.out]
    go_wp2_with fail
    go_ret
    exact ⟨by rw [HX.out]; rfl, HK.out.below⟩

theorem elemByte : Elem Try.prog 23 5 1 1 (.int .u8 0) :=
  ⟨Try.underlying23, by
    obtain ⟨i0, hi, hz0, hz1, hz2⟩ := info_parts (show (Try.prog.info? 5).map (fun i => (i.zero, i.size, i.bytes)) = some (some (.int .u8 0), 1, 1) by kernel_rfl)
    exact ⟨i0, hi, hz0, hz1, hz2⟩, rfl, by decide⟩
end Go.Proofs.Ytngpffmgkponfaa
