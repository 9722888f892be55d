/- When two rings are one: by the document, by the program. Conditions: the segments lie in memory. -/
import Derived.Test.YtlcdadnfcdjglaaCpy
set_option linter.unusedVariables false
set_option linter.unusedSimpArgs false
namespace Go.Proofs.Ytlcdadnfcdjglaa
open Go.RowKit Go.Ice Go.Ring

theorem segs_eq {a b : List Seg} (h : a.length = b.length) : a = b ↔ ∀ i, i < a.length → at' a i = at' b i := by
  constructor
  · rintro rfl i _; rfl
  · intro hi
    refine List.ext_getElem h fun i h1 h2 => ?_
    have := hi i h1
    unfold at' at this
    rwa [List.getD_eq_getElem?_getD, List.getD_eq_getElem?_getD, List.getElem?_eq_getElem h1, List.getElem?_eq_getElem h2] at this

def sameB (sa sb : Int) (la lb : List Seg) : Bool := decide (sa = sb ∧ la = lb)

set_option maxHeartbeats 4000000 in
theorem equal (w : World) (va vb : Value) (la lb : List Seg) (ha : SegsAt w va la) (hb : SegsAt w vb lb) :
    Calls Try.prog 44 #[va, vb] w fun e w' => e = .returned (.bool (decide (la = lb))) ∧ Below w.heap.size w w' := by
  have HA := Lib.hid ha
  have HB := Lib.hid hb
  obtain ⟨a, ca, rfl, hma⟩ := ha.form
  obtain ⟨b, cb, rfl, hmb⟩ := hb.form
  unfold maxLen at hma hmb
  clear ha hb
  by_cases hl : la.length = lb.length
  · have HE := Lib.hid (segs_eq hl)
    have HLL := Lib.hid hl
    rw [← hl] at hmb ⊢
    obtain ⟨n, hn⟩ : ∃ n, n = la.length := ⟨_, rfl⟩
    rw [← hn] at hma hmb ⊢
    have HN := Lib.hid hn
    clear hn hl
    have hne : ((n : Int) != (n : Int)) = false := by simp
    go_enter Try.func44, Try.ntmps44
    go_wp2_with fail
    go_loopg [5, 13] n (fun g iv kv wr => ∃ k : Nat, g = n - k ∧ k ≤ n ∧ kv = .int .i64 k ∧ Hid (Below w.heap.size w wr ∧ ∀ i, i < k → at' la i = at' lb i))
    case atStart => exact ⟨0, rfl, by omega, rfl, Below.refl _ _, fun i hi => by omega⟩
    case round =>
      obtain ⟨k, rfl, hk, rfl, HJ⟩ := hrel
      by_cases hlt : k < n
      · obtain ⟨bs, off, cap, e1, h1, h2, h3, h4⟩ := SegsAt.cell (show SegsAt wr _ la from RowAt.below HA.out HJ.out.1 (Nat.le_refl _)) (by have := HN.out; omega)
        obtain ⟨bs', off', cap', e1', h1', h2', h3', h4'⟩ := SegsAt.cell (show SegsAt wr _ lb from RowAt.below HB.out HJ.out.1 (Nat.le_refl _)) (by have := HN.out; have := HLL.out; omega)
        obtain ⟨q0, q1, q2⟩ := h4 k (by have := HN.out; omega)
        obtain ⟨p0, p1, p2⟩ := h4' k (by have := HN.out; have := HLL.out; omega)
        injection e1 with x1 x2 x3
        injection e1' with y1 y2 y3
        subst x1 x3 y1 y3
        clear h4 h4'
        rw [← HN.out] at h1
        unfold maxLen at h2 h2'
        obtain ⟨sa', hsa⟩ : ∃ s, s = at' la k := ⟨_, rfl⟩
        obtain ⟨sb', hsb⟩ : ∃ s, s = at' lb k := ⟨_, rfl⟩
        rw [← hsa] at q0 q1 q2
        rw [← hsb] at p0 p1 p2
        have HSA := Lib.hid hsa
        have HSB := Lib.hid hsb
        have HJB : Hid (Below w.heap.size w wr) := HJ.out.1
        obtain ⟨a1, a2, a3⟩ := sa'
        obtain ⟨b1, b2, b3⟩ := sb'
        dsimp only at q0 q1 q2 p0 p1 p2
        clear hsa hsb
        by_cases c1 : a1 = b1
        · by_cases c2 : a2 = b2
          · by_cases c3 : a3 = b3
            · subst c1 c2 c3
              go_upto_region 6 with fail
              go_quiet (fail)
              go_wp2_with fail
              go_roundg (n - (k + 1))
              case measure => omega
              case rel => exact ⟨k + 1, rfl, by omega, by go_num, HJ.out.1.trans ((drewN_below wr nq).mono HJB.out.size), fun i hi => by
                rcases Nat.lt_succ_iff_lt_or_eq.1 hi with h | rfl
                · exact HJ.out.2 i h
                · rw [← HSA.out, ← HSB.out]⟩
            · subst c1 c2
              have HNE := Lib.hid (show la ≠ lb from fun h => by have h2 := HE.out.1 h k (by have := HN.out; omega); rw [← HSA.out, ← HSB.out] at h2; simp at h2; omega)
              clear HE HJ
              go_upto_region 6 with fail
              go_quiet (fail)
              go_wp2_with fail
              go_ret
              exact ⟨by rw [decide_eq_false HNE.out]; rfl, by exact (HJB.out).trans ((drewN_below wr nq).mono HJB.out.size)⟩
          · subst c1
            have c2' : ((a2 : Int) = (b2 : Int)) = False := by simp; omega
            have HNE := Lib.hid (show la ≠ lb from fun h => by have h2 := HE.out.1 h k (by have := HN.out; omega); rw [← HSA.out, ← HSB.out] at h2; simp at h2; omega)
            clear HE HJ
            go_upto_region 6 with fail
            go_quiet (fail)
            go_wp2_with fail
            go_ret
            exact ⟨by rw [decide_eq_false HNE.out]; rfl, by exact (HJB.out).trans ((drewN_below wr nq).mono HJB.out.size)⟩
        · have HNE := Lib.hid (show la ≠ lb from fun h => by have h2 := HE.out.1 h k (by have := HN.out; omega); rw [← HSA.out, ← HSB.out] at h2; simp at h2; omega)
          clear HE HJ
          go_upto_region 6 with fail
          go_quiet (fail)
          go_wp2_with fail
          go_ret
          exact ⟨by rw [decide_eq_false HNE.out]; rfl, by exact (HJB.out).trans ((drewN_below wr nq).mono HJB.out.size)⟩
      · obtain rfl : k = n := by omega
        have HEQ := Lib.hid (show la = lb from HE.out.2 (by rw [← HN.out]; exact HJ.out.2))
        go_wp2_with fail
        go_ret
        exact ⟨by rw [decide_eq_true HEQ.out]; rfl, HJ.out.1⟩
  · have HNE := Lib.hid (show la ≠ lb from fun h => hl (by rw [h]))
    have hne : ((la.length : Int) == (lb.length : Int)) = false := by simp; omega
    have hne2 : ((la.length : Int) != (lb.length : Int)) = true := by simp; omega
    go_enter Try.func44, Try.ntmps44
    go_wp2_with fail
    go_ret
    exact ⟨by rw [decide_eq_false HNE.out]; rfl, Below.refl _ _⟩

set_option maxHeartbeats 4000000 in
theorem sameR (w : World) (sa sb : Int) (va vb : Value) (la lb : List Seg) (ha : SegsAt w va la) (hb : SegsAt w vb lb) :
    Calls Try.prog 12 #[ringV sa va, ringV sb vb] w fun e w' => e = .returned (.bool (sameB sa sb la lb)) ∧ Below w.heap.size w w' := by
  obtain ⟨B, C, W0, HB, HC, HW, HK, HZ⟩ := boxed2 w #[.int .i64 sa, va] 25 #[.int .i64 sb, vb] 25
  have HAA : Hid (SegsAt W0 va la) := RowAt.below ha HK.out.below (Nat.le_refl _)
  have HBB : Hid (SegsAt W0 vb lb) := RowAt.below hb HK.out.below (Nat.le_refl _)
  obtain ⟨a, ca, rfl, hma⟩ := ha.form
  obtain ⟨b, cb, rfl, hmb⟩ := hb.form
  unfold maxLen at hma hmb
  have b0 : W0.cell? ⟨B, 0, none⟩ = some (.int .i64 sa) := blk_cell HK.out.b0 0
  have b1 : W0.cell? ⟨B, 1, none⟩ = some (.slice a la.length ca) := blk_cell HK.out.b0 1
  have c0 : W0.cell? ⟨C, 0, none⟩ = some (.int .i64 sb) := blk_cell HK.out.b1 0
  have c1 : W0.cell? ⟨C, 1, none⟩ = some (.slice b lb.length cb) := blk_cell HK.out.b1 1
  clear ha hb
  unfold ringV
  by_cases hs : sa = sb
  · subst hs
    have hseq : (sa != sa) = false := by simp
    by_cases hl : la.length = lb.length
    · have HE := Lib.hid (segs_eq hl)
      have HLL := Lib.hid hl
      rw [← hl] at hmb c1 HK HW ⊢
      obtain ⟨n, hn⟩ : ∃ n, n = la.length := ⟨_, rfl⟩
      rw [← hn] at hma hmb b1 c1 HK HW ⊢
      have HN := Lib.hid hn
      clear hn hl
      have hne : ((n : Int) != (n : Int)) = false := by simp
      go_enter Try.func12, Try.ntmps12
      go_upto_region 1 with fail
      rw [HC.out, HB.out, HW.out]
      go_wp2_with fail
      go_loopg [5, 23] n (fun g iv kv wr => ∃ k : Nat, g = n - k ∧ k ≤ n ∧ kv = .int .i64 k ∧ Hid (Below w.heap.size w wr ∧ Below W0.heap.size W0 wr ∧ ∀ i, i < k → at' la i = at' lb i))
      case atStart => exact ⟨0, rfl, by omega, rfl, HK.out.below, Below.refl _ _, fun i hi => by omega⟩
      case round =>
        clear b0 b1 c0 c1
        obtain ⟨k, rfl, hk, rfl, HJ⟩ := hrel
        by_cases hlt : k < n
        · obtain ⟨bs, off, cap, e1, h1, h2, h3, h4⟩ := SegsAt.cell (show SegsAt wr _ la from RowAt.below HAA.out HJ.out.2.1 (Nat.le_refl _)) (by have := HN.out; omega)
          obtain ⟨bs', off', cap', e1', h1', h2', h3', h4'⟩ := SegsAt.cell (show SegsAt wr _ lb from RowAt.below HBB.out HJ.out.2.1 (Nat.le_refl _)) (by have := HN.out; have := HLL.out; omega)
          obtain ⟨q0, q1, q2⟩ := h4 k (by have := HN.out; omega)
          obtain ⟨p0, p1, p2⟩ := h4' k (by have := HN.out; have := HLL.out; omega)
          have b1 : wr.cell? ⟨B, 1, none⟩ = some (.slice a n ca) := blk_cell (HK.out.step HJ.out.2.1).b0 1
          have c1 : wr.cell? ⟨C, 1, none⟩ = some (.slice b n cb) := blk_cell (HK.out.step HJ.out.2.1).b1 1
          injection e1 with x1 x2 x3
          injection e1' with y1 y2 y3
          subst x1 x3 y1 y3
          clear h4 h4'
          rw [← HN.out] at h1
          unfold maxLen at h2 h2'
          obtain ⟨sa', hsa⟩ : ∃ s, s = at' la k := ⟨_, rfl⟩
          obtain ⟨sb', hsb⟩ : ∃ s, s = at' lb k := ⟨_, rfl⟩
          rw [← hsa] at q0 q1 q2
          rw [← hsb] at p0 p1 p2
          have HSA := Lib.hid hsa
          have HSB := Lib.hid hsb
          have HJB : Hid (Below w.heap.size w wr) := HJ.out.1
          obtain ⟨a1, a2, a3⟩ := sa'
          obtain ⟨b1, b2, b3⟩ := sb'
          dsimp only at q0 q1 q2 p0 p1 p2
          clear hsa hsb
          by_cases d1 : a1 = b1
          · by_cases d2 : a2 = b2
            · by_cases d3 : a3 = b3
              · subst d1 d2 d3
                go_upto_region 6 with fail
                go_quiet (fail)
                go_wp2_with fail
                go_roundg (n - (k + 1))
                case measure => omega
                case rel => exact ⟨k + 1, rfl, by omega, by go_num, HJ.out.1.trans ((drewN_below wr nq).mono HJB.out.size), HJ.out.2.1.trans ((drewN_below wr nq).mono HJ.out.2.1.size), fun i hi => by
                  rcases Nat.lt_succ_iff_lt_or_eq.1 hi with h | rfl
                  · exact HJ.out.2.2 i h
                  · rw [← HSA.out, ← HSB.out]⟩
              · subst d1 d2
                have HNE := Lib.hid (show la ≠ lb from fun h => by have h2 := HE.out.1 h k (by have := HN.out; omega); rw [← HSA.out, ← HSB.out] at h2; simp at h2; omega)
                clear HE HJ
                go_upto_region 6 with fail
                go_quiet (fail)
                go_wp2_with fail
                go_ret
                exact ⟨by unfold sameB; rw [decide_eq_false (fun h => HNE.out h.2)]; rfl, by exact (HJB.out).trans ((drewN_below wr nq).mono HJB.out.size)⟩
            · subst d1
              have d2' : ((a2 : Int) = (b2 : Int)) = False := by simp; omega
              have HNE := Lib.hid (show la ≠ lb from fun h => by have h2 := HE.out.1 h k (by have := HN.out; omega); rw [← HSA.out, ← HSB.out] at h2; simp at h2; omega)
              clear HE HJ
              go_upto_region 6 with fail
              go_quiet (fail)
              go_wp2_with fail
              go_ret
              exact ⟨by unfold sameB; rw [decide_eq_false (fun h => HNE.out h.2)]; rfl, by exact (HJB.out).trans ((drewN_below wr nq).mono HJB.out.size)⟩
          · have HNE := Lib.hid (show la ≠ lb from fun h => by have h2 := HE.out.1 h k (by have := HN.out; omega); rw [← HSA.out, ← HSB.out] at h2; simp at h2; omega)
            clear HE HJ
            go_upto_region 6 with fail
            go_quiet (fail)
            go_wp2_with fail
            go_ret
            exact ⟨by unfold sameB; rw [decide_eq_false (fun h => HNE.out h.2)]; rfl, by exact (HJB.out).trans ((drewN_below wr nq).mono HJB.out.size)⟩
        · obtain rfl : k = n := by omega
          have HEQ := Lib.hid (show la = lb from HE.out.2 (by rw [← HN.out]; exact HJ.out.2.2))
          have b1 : wr.cell? ⟨B, 1, none⟩ = some (.slice a k ca) := blk_cell (HK.out.step HJ.out.2.1).b0 1
          go_wp2_with fail
          go_ret
          exact ⟨by unfold sameB; rw [decide_eq_true ⟨rfl, HEQ.out⟩]; rfl, HJ.out.1⟩
    · have HNE := Lib.hid (show sameB sa sa la lb = false from decide_eq_false fun h => hl (by rw [h.2]))
      have hne : ((la.length : Int) == (lb.length : Int)) = false := by simp; omega
      have hne2 : ((la.length : Int) != (lb.length : Int)) = true := by simp; omega
      generalize la.length = na at *
      generalize lb.length = nb at *
      go_enter Try.func12, Try.ntmps12
      go_upto_region 1 with fail
      rw [HC.out, HB.out, HW.out]
      go_wp2_with fail
      go_ret
      exact ⟨by rw [HNE.out]; rfl, HK.out.below⟩
  · have HNE := Lib.hid (show sameB sa sb la lb = false from decide_eq_false fun h => hs h.1)
    have hne2 : (sa != sb) = true := by simpa using hs
    generalize la.length = na at *
    generalize lb.length = nb at *
    go_enter Try.func12, Try.ntmps12
    go_upto_region 1 with fail
    rw [HC.out, HB.out, HW.out]
    go_wp2_with fail
    go_ret
    exact ⟨by rw [HNE.out]; rfl, HK.out.below⟩
end Go.Proofs.Ytlcdadnfcdjglaa
