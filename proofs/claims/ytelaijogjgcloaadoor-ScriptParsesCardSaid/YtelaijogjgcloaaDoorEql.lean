/- slices.Equal at bytes and at bools. Conditions: both slices lie in memory. -/
import Derived.Test.YtelaijogjgcloaaDoorCalm
import Derived.Test.YtelaijogjgcloaaDoorReg
import Derived.Test.YtelaijogjgcloaaDoorPlain
set_option linter.unusedVariables false
set_option linter.unusedSimpArgs false
namespace Go.Proofs.YtelaijogjgcloaaDoor
open Go.RowKit Go.Ice Go.Scr

/-- Bytes, bools in memory. -/
def BytesAt (w : World) (v : Value) (l : List UInt8) : Prop := IsSl w v (l.map u8v)
def BoolsAt (w : World) (v : Value) (l : List Bool) : Prop := IsSl w v (l.map Value.bool)
theorem BytesAt.below {B : Nat} {w w' : World} {v : Value} {l : List UInt8} (h : BytesAt w v l) (hb : Below B w w') (hB : w.heap.size ≤ B) : BytesAt w' v l := IsSl.below h hb hB
theorem BoolsAt.below {B : Nat} {w w' : World} {v : Value} {l : List Bool} (h : BoolsAt w v l) (hb : Below B w w') (hB : w.heap.size ≤ B) : BoolsAt w' v l := IsSl.below h hb hB
theorem BytesAt.form {w : World} {v : Value} {l : List UInt8} (h : BytesAt w v l) : ∃ a cap, v = .slice a l.length cap ∧ l.length ≤ maxLen := by
  obtain ⟨a, c, h1, h2⟩ := IsSl.form h
  rw [List.length_map] at h1 h2
  exact ⟨a, c, h1, h2⟩
theorem BoolsAt.form {w : World} {v : Value} {l : List Bool} (h : BoolsAt w v l) : ∃ a cap, v = .slice a l.length cap ∧ l.length ≤ maxLen := by
  obtain ⟨a, c, h1, h2⟩ := IsSl.form h
  rw [List.length_map] at h1 h2
  exact ⟨a, c, h1, h2⟩
theorem BytesAt.at {w : World} {v : Value} {l : List UInt8} (h : BytesAt w v l) (hl : 0 < l.length) : ∃ b off cap, v = .slice (some ⟨b, off, none⟩) l.length cap ∧ l.length ≤ cap ∧ cap ≤ maxLen ∧ b < w.heap.size ∧ ∀ i, i < l.length → w.cell? ⟨b, off + i, none⟩ = some (.int .u8 (l.getD i 0).toNat) := by
  rcases h with ⟨h, _⟩ | ⟨_, b, off, cap, h1, h2, h3, h4, h5⟩
  · rw [List.map_eq_nil_iff] at h; subst h; simp at hl
  · rw [List.length_map] at h1 h2 h5
    refine ⟨b, off, cap, h1, h2, h3, h4, fun i hi => ?_⟩
    rw [h5 i hi, List.getElem?_map, List.getElem?_eq_getElem hi]
    simp [u8v, List.getD_eq_getElem?_getD, hi]
theorem BoolsAt.at {w : World} {v : Value} {l : List Bool} (h : BoolsAt w v l) (hl : 0 < l.length) : ∃ b off cap, v = .slice (some ⟨b, off, none⟩) l.length cap ∧ l.length ≤ cap ∧ cap ≤ maxLen ∧ b < w.heap.size ∧ ∀ i, i < l.length → w.cell? ⟨b, off + i, none⟩ = some (.bool (l.getD i false)) := by
  rcases h with ⟨h, _⟩ | ⟨_, b, off, cap, h1, h2, h3, h4, h5⟩
  · rw [List.map_eq_nil_iff] at h; subst h; simp at hl
  · rw [List.length_map] at h1 h2 h5
    refine ⟨b, off, cap, h1, h2, h3, h4, fun i hi => ?_⟩
    rw [h5 i hi, List.getElem?_map, List.getElem?_eq_getElem hi]
    simp [List.getD_eq_getElem?_getD, hi]
theorem list_eq_iff {α : Type} (d : α) {a b : List α} (h : a.length = b.length) : a = b ↔ ∀ i, i < a.length → a.getD i d = b.getD i d := by
  constructor
  · rintro rfl i _; rfl
  · intro hi
    refine List.ext_getElem h fun i h1 h2 => ?_
    have := hi i h1
    rwa [List.getD_eq_getElem?_getD, List.getD_eq_getElem?_getD, List.getElem?_eq_getElem h1, List.getElem?_eq_getElem h2] at this

set_option maxHeartbeats 4000000 in
theorem equalBytes (w : World) (va vb : Value) (la lb : List UInt8) (ha : BytesAt w va la) (hb : BytesAt w vb lb) :
    Calls Tryd.prog 68 #[va, vb] w fun e w' => e = .returned (.bool (decide (la = lb))) ∧ Below w.heap.size w w' := by
  have HA := Lib.hid ha
  have HB := Lib.hid hb
  obtain ⟨a, ca, rfl, hma⟩ := ha.form
  obtain ⟨b, cb, rfl, hmb⟩ := hb.form
  unfold maxLen at hma hmb
  clear ha hb
  by_cases hl : la.length = lb.length
  · have HE := Lib.hid (list_eq_iff 0 hl)
    have HLL := Lib.hid hl
    rw [← hl] at hmb ⊢
    obtain ⟨n, hn⟩ : ∃ n, n = la.length := ⟨_, rfl⟩
    rw [← hn] at hma hmb ⊢
    have HN := Lib.hid hn
    clear hn hl
    have hne : ((n : Int) != (n : Int)) = false := by simp
    go_enter Tryd.func68, Tryd.ntmps68
    go_wp2_with fail
    go_loopg [5, 13] n (fun g iv kv wr => ∃ k : Nat, g = n - k ∧ k ≤ n ∧ kv = .int .i64 k ∧ Hid (Below w.heap.size w wr ∧ ∀ i, i < k → la.getD i 0 = lb.getD i 0))
    case atStart => exact ⟨0, rfl, by omega, rfl, Below.refl _ _, fun i hi => by omega⟩
    case round =>
      obtain ⟨k, rfl, hk, rfl, HJ⟩ := hrel
      by_cases hlt : k < n
      · obtain ⟨bs, off, cap, e1, h1, h2, h3, h4⟩ := HA.out.at (by have := HN.out; omega)
        obtain ⟨bs', off', cap', e1', h1', h2', h3', h4'⟩ := HB.out.at (by have := HN.out; have := HLL.out; omega)
        have q0 := h4 k (by have := HN.out; omega)
        have p0 := h4' k (by have := HN.out; have := HLL.out; omega)
        rw [← HJ.out.1.cell (p := ⟨bs, _, none⟩) h3] at q0
        rw [← HJ.out.1.cell (p := ⟨bs', _, none⟩) h3'] at p0
        injection e1 with x1 x2 x3
        injection e1' with y1 y2 y3
        subst x1 x3 y1 y3
        clear h4 h4' x2 y2
        rw [← HN.out] at h1
        unfold maxLen at h2 h2'
        obtain ⟨sa, hsa⟩ : ∃ s, s = la.getD k 0 := ⟨_, rfl⟩
        obtain ⟨sb, hsb⟩ : ∃ s, s = lb.getD k 0 := ⟨_, rfl⟩
        rw [← hsa] at q0
        rw [← hsb] at p0
        have HSA := Lib.hid hsa
        have HSB := Lib.hid hsb
        have HJB : Hid (Below w.heap.size w wr) := HJ.out.1
        clear hsa hsb
        by_cases hs : sa = sb
        · have HK : Hid (∀ i, i < k + 1 → la.getD i 0 = lb.getD i 0) := fun i hi => by
            rcases Nat.lt_succ_iff_lt_or_eq.1 hi with h | rfl
            · exact HJ.out.2 i h
            · rw [← HSA.out, ← HSB.out, hs]
          have hq : ((sa.toNat : Int) != (sb.toNat : Int)) = false := by rw [hs]; simp
          clear hs
          go_upto_region 6 with fail
          go_quiet (fail)
          go_wp2_with fail
          go_roundg (n - (k + 1))
          case measure => omega
          case rel => exact ⟨k + 1, rfl, by omega, by go_num, HJB.out.trans ((drewN_below wr nq).mono HJB.out.size), HK.out⟩
        · have HK : Hid (la ≠ lb) := fun e => hs (by rw [HSA.out, HSB.out, e])
          have hq : ((sa.toNat : Int) != (sb.toNat : Int)) = true := by simp; exact fun e => hs (UInt8.toNat_inj.1 (by omega))
          clear hs
          all_goals
            go_upto_region 6 with fail
            go_quiet (fail)
            go_wp2_with fail
            go_ret
            exact ⟨by rw [decide_eq_false HK.out]; rfl, HJB.out.trans ((drewN_below wr nq).mono HJB.out.size)⟩
      · obtain rfl : k = n := by omega
        have HK : Hid (la = lb) := HE.out.2 fun i hi => HJ.out.2 i (by rw [HN.out]; exact hi)
        have HJB : Hid (Below w.heap.size w wr) := HJ.out.1
        go_wp2_with fail
        go_ret
        exact ⟨by rw [decide_eq_true HK.out]; rfl, HJB.out⟩
  · have hne : ((la.length : Int) != (lb.length : Int)) = true := by simp; omega
    have HK : Hid (la ≠ lb) := fun e => hl (by rw [e])
    clear hl
    generalize la.length = na at *
    generalize lb.length = nb at *
    go_enter Tryd.func68, Tryd.ntmps68
    go_wp2_with fail
    go_ret
    exact ⟨by rw [decide_eq_false HK.out]; rfl, Below.refl _ _⟩

set_option maxHeartbeats 4000000 in
theorem equalBools (w : World) (va vb : Value) (la lb : List Bool) (ha : BoolsAt w va la) (hb : BoolsAt w vb lb) :
    Calls Tryd.prog 69 #[va, vb] w fun e w' => e = .returned (.bool (decide (la = lb))) ∧ Below w.heap.size w w' := by
  have HA := Lib.hid ha
  have HB := Lib.hid hb
  obtain ⟨a, ca, rfl, hma⟩ := ha.form
  obtain ⟨b, cb, rfl, hmb⟩ := hb.form
  unfold maxLen at hma hmb
  clear ha hb
  by_cases hl : la.length = lb.length
  · have HE := Lib.hid (list_eq_iff false hl)
    have HLL := Lib.hid hl
    rw [← hl] at hmb ⊢
    obtain ⟨n, hn⟩ : ∃ n, n = la.length := ⟨_, rfl⟩
    rw [← hn] at hma hmb ⊢
    have HN := Lib.hid hn
    clear hn hl
    have hne : ((n : Int) != (n : Int)) = false := by simp
    go_enter Tryd.func69, Tryd.ntmps69
    go_wp2_with fail
    go_loopg [5, 13] n (fun g iv kv wr => ∃ k : Nat, g = n - k ∧ k ≤ n ∧ kv = .int .i64 k ∧ Hid (Below w.heap.size w wr ∧ ∀ i, i < k → la.getD i false = lb.getD i false))
    case atStart => exact ⟨0, rfl, by omega, rfl, Below.refl _ _, fun i hi => by omega⟩
    case round =>
      obtain ⟨k, rfl, hk, rfl, HJ⟩ := hrel
      by_cases hlt : k < n
      · obtain ⟨bs, off, cap, e1, h1, h2, h3, h4⟩ := HA.out.at (by have := HN.out; omega)
        obtain ⟨bs', off', cap', e1', h1', h2', h3', h4'⟩ := HB.out.at (by have := HN.out; have := HLL.out; omega)
        have q0 := h4 k (by have := HN.out; omega)
        have p0 := h4' k (by have := HN.out; have := HLL.out; omega)
        rw [← HJ.out.1.cell (p := ⟨bs, _, none⟩) h3] at q0
        rw [← HJ.out.1.cell (p := ⟨bs', _, none⟩) h3'] at p0
        injection e1 with x1 x2 x3
        injection e1' with y1 y2 y3
        subst x1 x3 y1 y3
        clear h4 h4' x2 y2
        rw [← HN.out] at h1
        unfold maxLen at h2 h2'
        obtain ⟨sa, hsa⟩ : ∃ s, s = la.getD k false := ⟨_, rfl⟩
        obtain ⟨sb, hsb⟩ : ∃ s, s = lb.getD k false := ⟨_, rfl⟩
        rw [← hsa] at q0
        rw [← hsb] at p0
        have HSA := Lib.hid hsa
        have HSB := Lib.hid hsb
        have HJB : Hid (Below w.heap.size w wr) := HJ.out.1
        clear hsa hsb
        by_cases hs : sa = sb
        · have HK : Hid (∀ i, i < k + 1 → la.getD i false = lb.getD i false) := fun i hi => by
            rcases Nat.lt_succ_iff_lt_or_eq.1 hi with h | rfl
            · exact HJ.out.2 i h
            · rw [← HSA.out, ← HSB.out, hs]
          subst hs
          go_upto_region 6 with fail
          go_quiet (fail)
          go_wp2_with fail
          go_roundg (n - (k + 1))
          case measure => omega
          case rel => exact ⟨k + 1, rfl, by omega, by go_num, HJB.out.trans ((drewN_below wr nq).mono HJB.out.size), HK.out⟩
        · have HK : Hid (la ≠ lb) := fun e => hs (by rw [HSA.out, HSB.out, e])
          clear HSA HSB
          cases sa <;> cases sb <;> (try exact absurd rfl hs)
          all_goals
            clear hs
            go_upto_region 6 with fail
            go_quiet (fail)
            go_wp2_with fail
            go_ret
            exact ⟨by rw [decide_eq_false HK.out]; rfl, HJB.out.trans ((drewN_below wr nq).mono HJB.out.size)⟩
      · obtain rfl : k = n := by omega
        have HK : Hid (la = lb) := HE.out.2 fun i hi => HJ.out.2 i (by rw [HN.out]; exact hi)
        have HJB : Hid (Below w.heap.size w wr) := HJ.out.1
        go_wp2_with fail
        go_ret
        exact ⟨by rw [decide_eq_true HK.out]; rfl, HJB.out⟩
  · have hne : ((la.length : Int) != (lb.length : Int)) = true := by simp; omega
    have HK : Hid (la ≠ lb) := fun e => hl (by rw [e])
    clear hl
    generalize la.length = na at *
    generalize lb.length = nb at *
    go_enter Tryd.func69, Tryd.ntmps69
    go_wp2_with fail
    go_ret
    exact ⟨by rw [decide_eq_false HK.out]; rfl, Below.refl _ _⟩
end Go.Proofs.YtelaijogjgcloaaDoor
