/- slices.EqualFunc at events by script.same, script.Same. Condition: the events lie in memory. -/
import Derived.Test.YtelaijogjgcloaaDoorChk
set_option linter.unusedVariables false
set_option linter.unusedSimpArgs false
namespace Go.Proofs.YtelaijogjgcloaaDoor
open Go.RowKit Go.Ice Go.Scr

theorem list_eq_iff' {α : Type} {a b : List α} (h : a.length = b.length) : a = b ↔ ∀ (i : Nat) (x y : α), a[i]? = some x → b[i]? = some y → x = y := by
  constructor
  · rintro rfl i x y hx hy
    rw [hx] at hy; injection hy
  · intro hi
    refine List.ext_getElem h fun i h1 h2 => hi i _ _ (List.getElem?_eq_getElem h1) (List.getElem?_eq_getElem h2)

set_option maxHeartbeats 8000000 in
set_option maxRecDepth 20000 in
theorem equalFunc45 (w : World) (va vb : Value) (la lb : List Ev) (ha : EvsAt w va la) (hb : EvsAt w vb lb) :
    Calls Tryd.prog 45 #[va, vb, .func (.func 46) #[] #[]] w fun e w' => e = .returned (.bool (decide (la = lb))) ∧ Below w.heap.size w w' := by
  have HA := Lib.hid ha
  have HB := Lib.hid hb
  obtain ⟨a, ca, rfl, hma⟩ := ha.form
  obtain ⟨b, cb, rfl, hmb⟩ := hb.form
  unfold maxLen at hma hmb
  clear ha hb
  by_cases hl : la.length = lb.length
  · have HE := Lib.hid (list_eq_iff' hl)
    have HLL := Lib.hid hl
    rw [← hl] at hmb ⊢
    obtain ⟨n, hn⟩ : ∃ n, n = la.length := ⟨_, rfl⟩
    rw [← hn] at hma hmb ⊢
    have HN := Lib.hid hn
    clear hn hl
    have hne : ((n : Int) != (n : Int)) = false := by simp
    go_enter Tryd.func45, Tryd.ntmps45
    go_wp2_with fail
    go_loopg [7, 8, 9, 17] n (fun g iv pv qv kv wr => ∃ k : Nat, g = n - k ∧ k ≤ n ∧ kv = .int .i64 k ∧ Hid (Below w.heap.size w wr ∧ ∀ (i : Nat) (x y : Ev), i < k → la[i]? = some x → lb[i]? = some y → x = y))
    case atStart => exact ⟨0, rfl, by omega, rfl, Below.refl _ _, fun i x y hi => by omega⟩
    case round =>
      obtain ⟨k, rfl, hk, rfl, HJ⟩ := hrel
      by_cases hlt : k < n
      · have hkl : k < la.length := by rw [← HN.out]; exact hlt
        have hkl' : k < lb.length := by rw [← HLL.out, ← HN.out]; exact hlt
        obtain ⟨x, hx⟩ : ∃ x, la[k]? = some x := ⟨la[k], List.getElem?_eq_getElem hkl⟩
        obtain ⟨y, hy⟩ : ∃ y, lb[k]? = some y := ⟨lb[k], List.getElem?_eq_getElem hkl'⟩
        have HX := Lib.hid hx
        have HY := Lib.hid hy
        obtain ⟨bx, ox, cx, vbx, vkx, e1, e2, e3, e4, q0, q1, q2, q3, q4, hxb, hxk⟩ := HA.out.at hx
        obtain ⟨by_, oy, cy, vby, vky, f1, f2, f3, f4, p0, p1, p2, p3, p4, hyb, hyk⟩ := HB.out.at hy
        have HWX := Lib.hid (show w.heap.size ≤ wr.heap.size from HJ.out.1.size)
        rw [← HN.out] at e1
        rw [← HLL.out, ← HN.out] at f1
        injection e1 with x1 x2 x3
        injection f1 with y1 y2 y3
        subst x1 x3 y1 y3
        rw [← HJ.out.1.cell (p := ⟨bx, _, none⟩) e4] at q0 q1 q2 q3 q4
        rw [← HJ.out.1.cell (p := ⟨by_, _, none⟩) f4] at p0 p1 p2 p3 p4
        obtain ⟨xb, xcb, rfl, hmxb⟩ := hxb.form
        obtain ⟨xk, xck, rfl, hmxk⟩ := hxk.form
        obtain ⟨yb, ycb, rfl, hmyb⟩ := hyb.form
        obtain ⟨yk, yck, rfl, hmyk⟩ := hyk.form
        have HR : Hid (∀ W, Below wr.heap.size wr W → Calls Tryd.prog 46 #[evV x.kind x.conn x.n (.slice xb x.bytes.length xcb) (.slice xk x.keep.length xck), evV y.kind y.conn y.n (.slice yb y.bytes.length ycb) (.slice yk y.keep.length yck)] W fun e w' => e = .returned (.bool (decide (x = y))) ∧ Below W.heap.size W w') := fun W hW =>
          have h := HJ.out.1.trans (hW.mono HJ.out.1.size)
          same46 W _ _ x y ⟨_, _, rfl, hxb.below h (Nat.le_refl _), hxk.below h (Nat.le_refl _)⟩ ⟨_, _, rfl, hyb.below h (Nat.le_refl _), hyk.below h (Nat.le_refl _)⟩
        have HJB : Hid (Below w.heap.size w wr) := HJ.out.1
        have HF : Hid (by_ < wr.heap.size) := by show _ < _; have := HJB.out.size; omega
        rw [← HN.out] at e2
        rw [← HLL.out, ← HN.out] at f2
        have HP : Hid (∀ i, wr.cell? ⟨by_, i, none⟩ = wr.cell? ⟨by_, i, none⟩) := fun _ => rfl
        clear hx hy hxb hxk hyb hyk hmxb hmxk hmyb hmyk e4 f4 hkl hkl' x2 y2 HP
        unfold maxLen at e3 f3
        unfold evV at HR
        obtain ⟨rr, hrr⟩ : ∃ rr, rr = decide (x = y) := ⟨_, rfl⟩
        rw [← hrr] at HR
        have HRR := Lib.hid hrr
        clear hrr
        obtain ⟨k0, c0, n0, xbytes, xkeep⟩ := x
        obtain ⟨k1, c1, n1, ybytes, ykeep⟩ := y
        dsimp only at HR q0 q1 q2 p0 p1 p2
        generalize xbytes.length = xn at HR q0 q1 q2 q3 q4
        generalize xkeep.length = xm at HR q0 q1 q2 q3 q4
        generalize ybytes.length = yn at HR p0 p1 p2 p3 p4
        generalize ykeep.length = ym at HR p0 p1 p2 p3 p4
        have HPP : Hid (wr.cell? ⟨by_, oy + k * 5, none⟩ = some (.int .i64 k1) ∧ wr.cell? ⟨by_, oy + k * 5 + 1, none⟩ = some (.int .i64 c1) ∧ wr.cell? ⟨by_, oy + k * 5 + 2, none⟩ = some (.int .i64 n1) ∧ wr.cell? ⟨by_, oy + k * 5 + 3, none⟩ = some (.slice yb yn ycb) ∧ wr.cell? ⟨by_, oy + k * 5 + 4, none⟩ = some (.slice yk ym yck)) := ⟨p0, p1, p2, p3, p4⟩
        clear p0 p1 p2 p3 p4
        have HK0 : Hid (Kp wr [(wr.heap.size, .cells #[.int .i64 k0, .int .i64 c0, .int .i64 n0, .slice xb xn xcb, .slice xk xm xck] 41)] (wr.alloc (.cells #[.int .i64 k0, .int .i64 c0, .int .i64 n0, .slice xb xn xcb, .slice xk xm xck] 41))) := (Kp.nil wr).alloc _
        go_upto_region 6 with fail
        obtain ⟨D, hD⟩ : ∃ D, wr.heap.size = D := ⟨_, rfl⟩
        have HD := Lib.hid hD
        rw [hD] at HK0 ⊢
        clear hD
        refine wp_world (R := fun W => Kp wr [(D, .cells #[.int .i64 k0, .int .i64 c0, .int .i64 n0, .slice xb xn xcb, .slice xk xm xck] 41)] W) HK0.out ?_
        intro w1 hk1
        have HK1 := Lib.hid hk1
        clear hk1 HK0 q0 q1 q2 q3 q4
        obtain ⟨p0, p1, p2, p3, p4⟩ := HPP.out
        rw [← HK1.out.below.cell (p := ⟨by_, _, none⟩) HF.out] at p0 p1 p2 p3 p4
        have HK3 : Hid (Kp wr [(w1.heap.size, .cells #[.int .i64 k1, .int .i64 c1, .int .i64 n1, .slice yb yn ycb, .slice yk ym yck] 41), (D, .cells #[.int .i64 k0, .int .i64 c0, .int .i64 n0, .slice xb xn xcb, .slice xk xm xck] 41)] (w1.alloc (.cells #[.int .i64 k1, .int .i64 c1, .int .i64 n1, .slice yb yn ycb, .slice yk ym yck] 41))) := HK1.out.alloc _
        go_upto_region 7 with fail
        obtain ⟨E, hE⟩ : ∃ E, w1.heap.size = E := ⟨_, rfl⟩
        rw [hE] at HK3 ⊢
        clear hE
        refine wp_world (R := fun W => Kp wr [(E, .cells #[.int .i64 k1, .int .i64 c1, .int .i64 n1, .slice yb yn ycb, .slice yk ym yck] 41), (D, .cells #[.int .i64 k0, .int .i64 c0, .int .i64 n0, .slice xb xn xcb, .slice xk xm xck] 41)] W) HK3.out ?_
        intro w2 hk2
        have HK2 := Lib.hid hk2
        clear hk2 HK3 HK1 p0 p1 p2 p3 p4
        have d0 : w2.cell? ⟨D, 0, none⟩ = some (.int .i64 k0) := blk_cell HK2.out.b1 0
        have d1 : w2.cell? ⟨D, 1, none⟩ = some (.int .i64 c0) := blk_cell HK2.out.b1 1
        have d2 : w2.cell? ⟨D, 2, none⟩ = some (.int .i64 n0) := blk_cell HK2.out.b1 2
        have d3 : w2.cell? ⟨D, 3, none⟩ = some (.slice xb xn xcb) := blk_cell HK2.out.b1 3
        have d4 : w2.cell? ⟨D, 4, none⟩ = some (.slice xk xm xck) := blk_cell HK2.out.b1 4
        have e0' : w2.cell? ⟨E, 0, none⟩ = some (.int .i64 k1) := blk_cell HK2.out.b0 0
        have e1' : w2.cell? ⟨E, 1, none⟩ = some (.int .i64 c1) := blk_cell HK2.out.b0 1
        have e2' : w2.cell? ⟨E, 2, none⟩ = some (.int .i64 n1) := blk_cell HK2.out.b0 2
        have e3' : w2.cell? ⟨E, 3, none⟩ = some (.slice yb yn ycb) := blk_cell HK2.out.b0 3
        have e4' : w2.cell? ⟨E, 4, none⟩ = some (.slice yk ym yck) := blk_cell HK2.out.b0 4
        have HR2 := Lib.hid (HR.out w2 HK2.out.below)
        clear HR
        go_wp2_with fail
        refine HR2.out.mono ?_
        rintro e w3 ⟨rfl, hb3⟩
        have HB3 : Hid (Below w.heap.size w w3) := HJB.out.trans ((HK2.out.below.trans (hb3.mono HK2.out.below.size)).mono HJB.out.size)
        clear hb3 HR2
        cases rr with
        | true =>
          go_wp2_with fail
          go_roundg (n - (k + 1))
          case measure => omega
          case rel =>
            refine ⟨k + 1, rfl, by omega, by go_num, HB3.out, fun i x y hi hx hy => ?_⟩
            rcases Nat.lt_succ_iff_lt_or_eq.1 hi with h | rfl
            · exact HJ.out.2 i x y h hx hy
            · have a1 := HX.out.symm.trans hx
              have a2 := HY.out.symm.trans hy
              injection a1 with a1
              injection a2 with a2
              rw [← a1, ← a2]
              exact of_decide_eq_true HRR.out.symm
        | false =>
          have HK : Hid (la ≠ lb) := fun e => of_decide_eq_false HRR.out.symm (HE.out.1 e k _ _ HX.out HY.out)
          go_wp2_with fail
          go_ret
          exact ⟨by rw [decide_eq_false HK.out]; rfl, HB3.out⟩
      · obtain rfl : k = n := by omega
        have HK : Hid (la = lb) := HE.out.2 fun i x y hx hy => HJ.out.2 i x y (by rw [HN.out]; exact (List.getElem?_eq_some_iff.1 hx).1) hx hy
        have HJB : Hid (Below w.heap.size w wr) := HJ.out.1
        go_wp2_with fail
        go_ret
        exact ⟨by rw [decide_eq_true HK.out]; rfl, HJB.out⟩
  · have hne : ((la.length : Int) != (lb.length : Int)) = true := by simp; omega
    have HK : Hid (la ≠ lb) := fun e => hl (by rw [e])
    clear hl
    generalize la.length = na at *
    generalize lb.length = nb at *
    go_enter Tryd.func45, Tryd.ntmps45
    go_wp2_with fail
    go_ret
    exact ⟨by rw [decide_eq_false HK.out]; rfl, Below.refl _ _⟩
end Go.Proofs.YtelaijogjgcloaaDoor
