/- Events: in memory, script.same, script.only. No condition but that they lie in memory. -/
import Derived.Test.YtelaijogjgcloaaDoorPln
set_option linter.unusedVariables false
set_option linter.unusedSimpArgs false
namespace Go.Proofs.YtelaijogjgcloaaDoor
open Go.RowKit Go.Ice Go.Scr

def evV (k c n : Int) (vb vk : Value) : Value := .agg #[.int .i64 k, .int .i64 c, .int .i64 n, vb, vk]
/-- An event in memory. -/
def EvAt (w : World) (v : Value) (x : Ev) : Prop := ∃ vb vk, v = evV x.kind x.conn x.n vb vk ∧ BytesAt w vb x.bytes ∧ BoolsAt w vk x.keep
theorem EvAt.below {B : Nat} {w w' : World} {v : Value} {x : Ev} (h : EvAt w v x) (hb : Below B w w') (hB : w.heap.size ≤ B) : EvAt w' v x := by
  obtain ⟨vb, vk, h1, h2, h3⟩ := h
  exact ⟨vb, vk, h1, h2.below hb hB, h3.below hb hB⟩
theorem bytesNil (w : World) : BytesAt w (.slice none 0 0) [] := .inl ⟨rfl, .inl rfl⟩
theorem boolsNil (w : World) : BoolsAt w (.slice none 0 0) [] := .inl ⟨rfl, .inl rfl⟩

/-- A block of five cells, told anew. -/
theorem set_at {w : World} {b k : Nat} {cs : Array Value} {e : TypeId} (h : w.heap[b]? = some (.cells cs e (0, 0))) (v : Value) : (w.setCell ⟨b, k, none⟩ v).heap[b]? = some (.cells (cs.setIfInBounds k v) e (0, 0)) := by
  have hlt := blk_lt h
  simp [World.setCell, Array.getElem?_modify, h]
theorem set5 {w : World} {b : Nat} {a0 a1 a2 a3 a4 v0 v1 v2 v3 v4 : Value} {e : TypeId} (h : w.heap[b]? = some (.cells #[a0, a1, a2, a3, a4] e (0, 0))) :
    (((((w.setCell ⟨b, 0, none⟩ v0).setCell ⟨b, 1, none⟩ v1).setCell ⟨b, 2, none⟩ v2).setCell ⟨b, 3, none⟩ v3).setCell ⟨b, 4, none⟩ v4).heap[b]? = some (.cells #[v0, v1, v2, v3, v4] e (0, 0)) :=
  set_at (set_at (set_at (set_at (set_at h v0) v1) v2) v3) v4
theorem Kp.put {w W W' : World} {b : Nat} {o o' : Obj} {L : List (Nat × Obj)} (h : Kp w ((b, o) :: L) W) (hb : w.heap.size ≤ b) (hL : ∀ p ∈ L, p.1 ≠ b) (hf : Frm (fun k => k = b) W W') (h' : W'.heap[b]? = some o') : Kp w ((b, o') :: L) W' := by
  have hk := h.tail.frm hf (fun k hk e => by omega) (fun p hp e => hL p hp e)
  exact ⟨hk.below, fun p hp => by
    rcases List.mem_cons.1 hp with rfl | hp
    · exact h'
    · exact hk.blks p hp⟩

set_option maxHeartbeats 8000000 in
set_option maxRecDepth 20000 in
theorem same46 (w : World) (va vb : Value) (x y : Ev) (hx : EvAt w va x) (hy : EvAt w vb y) :
    Calls Tryd.prog 46 #[va, vb] w fun e w' => e = .returned (.bool (decide (x = y))) ∧ Below w.heap.size w w' := by
  obtain ⟨xb, xk, rfl, hxb, hxk⟩ := hx
  obtain ⟨yb, yk, rfl, hyb, hyk⟩ := hy
  obtain ⟨rr, hrr⟩ : ∃ rr, rr = decide (x = y) := ⟨_, rfl⟩
  rw [← hrr]
  obtain ⟨k, c, n, b, l⟩ := x
  obtain ⟨k', c', n', b', l'⟩ := y
  rw [show (decide ((⟨k, c, n, b, l⟩ : Ev) = ⟨k', c', n', b', l'⟩)) = decide (k = k' ∧ c = c' ∧ n = n' ∧ b = b' ∧ l = l') by congr 1; rw [Ev.mk.injEq]] at hrr
  have HR := Lib.hid hrr
  dsimp only at hxb hxk hyb hyk
  clear hrr
  unfold evV
  dsimp only
  obtain ⟨B, C, W0, HB, HC, HW, HK, HZ⟩ := boxed2 w #[.int .i64 k, .int .i64 c, .int .i64 n, xb, xk] 41 #[.int .i64 k', .int .i64 c', .int .i64 n', yb, yk] 41
  have HE1 := Lib.hid (equalBytes W0 xb yb b b' (hxb.below HK.out.below (Nat.le_refl _)) (hyb.below HK.out.below (Nat.le_refl _)))
  have HXK := Lib.hid (hxk.below HK.out.below (Nat.le_refl _))
  have HYK := Lib.hid (hyk.below HK.out.below (Nat.le_refl _))
  obtain ⟨z1, hz1⟩ : ∃ z, z = decide (b = b') := ⟨_, rfl⟩
  obtain ⟨z2, hz2⟩ : ∃ z, z = decide (l = l') := ⟨_, rfl⟩
  rw [← hz1] at HE1
  have HZ1 := Lib.hid hz1
  have HZ2 := Lib.hid hz2
  clear hxb hyb hxk hyk hz1 hz2
  have b0 : W0.cell? ⟨B, 0, none⟩ = some (.int .i64 k) := blk_cell HK.out.b0 0
  have b1 : W0.cell? ⟨B, 1, none⟩ = some (.int .i64 c) := blk_cell HK.out.b0 1
  have b2 : W0.cell? ⟨B, 2, none⟩ = some (.int .i64 n) := blk_cell HK.out.b0 2
  have b3 : W0.cell? ⟨B, 3, none⟩ = some (xb) := blk_cell HK.out.b0 3
  have b4 : W0.cell? ⟨B, 4, none⟩ = some (xk) := blk_cell HK.out.b0 4
  have c0 : W0.cell? ⟨C, 0, none⟩ = some (.int .i64 k') := blk_cell HK.out.b1 0
  have c1 : W0.cell? ⟨C, 1, none⟩ = some (.int .i64 c') := blk_cell HK.out.b1 1
  have c2 : W0.cell? ⟨C, 2, none⟩ = some (.int .i64 n') := blk_cell HK.out.b1 2
  have c3 : W0.cell? ⟨C, 3, none⟩ = some (yb) := blk_cell HK.out.b1 3
  have c4 : W0.cell? ⟨C, 4, none⟩ = some (yk) := blk_cell HK.out.b1 4
  go_enter Tryd.func46, Tryd.ntmps46
  go_upto_region 1 with fail
  rw [HC.out, HB.out, HW.out]
  clear HC HB HW
  by_cases hk : k = k'
  · subst hk
    by_cases hc : c = c'
    · subst hc
      by_cases hn : n = n'
      · subst hn
        go_wp2_with fail
        refine HE1.out.mono ?_
        rintro e w1 ⟨rfl, hb⟩
        have HK1 := Lib.hid (HK.out.step hb)
        clear HE1
        replace b0 : w1.cell? ⟨B, 0, none⟩ = some (.int .i64 k) := blk_cell HK1.out.b0 0
        replace b1 : w1.cell? ⟨B, 1, none⟩ = some (.int .i64 c) := blk_cell HK1.out.b0 1
        replace b2 : w1.cell? ⟨B, 2, none⟩ = some (.int .i64 n) := blk_cell HK1.out.b0 2
        replace b3 : w1.cell? ⟨B, 3, none⟩ = some (xb) := blk_cell HK1.out.b0 3
        replace b4 : w1.cell? ⟨B, 4, none⟩ = some (xk) := blk_cell HK1.out.b0 4
        replace c0 : w1.cell? ⟨C, 0, none⟩ = some (.int .i64 k) := blk_cell HK1.out.b1 0
        replace c1 : w1.cell? ⟨C, 1, none⟩ = some (.int .i64 c) := blk_cell HK1.out.b1 1
        replace c2 : w1.cell? ⟨C, 2, none⟩ = some (.int .i64 n) := blk_cell HK1.out.b1 2
        replace c3 : w1.cell? ⟨C, 3, none⟩ = some (yb) := blk_cell HK1.out.b1 3
        replace c4 : w1.cell? ⟨C, 4, none⟩ = some (yk) := blk_cell HK1.out.b1 4
        have HE2 := Lib.hid (equalBools w1 xk yk l l' (HXK.out.below hb (Nat.le_refl _)) (HYK.out.below hb (Nat.le_refl _)))
        rw [← HZ2.out] at HE2
        clear hb
        cases z1 with
        | false =>
          have HX : Hid (rr = false) := by
            show _ = _
            rw [HR.out]; exact decide_eq_false fun h => by have := HZ1.out; simp [h] at this
          go_wp2_with fail
          go_ret
          exact ⟨by rw [HX.out]; rfl, HK1.out.below⟩
        | true =>
          have HX : Hid (rr = z2) := by
            show _ = _
            rw [HR.out, HZ2.out]; have := of_decide_eq_true HZ1.out.symm; simp [this]
          go_wp2_with fail
          refine HE2.out.mono ?_
          rintro e w2 ⟨rfl, hb⟩
          have HK2 := Lib.hid (HK1.out.step hb)
          clear hb HE2
          go_wp2_with fail
          go_ret
          exact ⟨by rw [HX.out]; rfl, HK2.out.below⟩
      · have HX : Hid (rr = false) := by
          show _ = _
          rw [HR.out]; simp [hn]
        have hq : (n == n') = false := by simp [hn]
        clear hn
        go_wp2_with fail
        go_ret
        exact ⟨by rw [HX.out]; rfl, HK.out.below⟩
    · have HX : Hid (rr = false) := by
        show _ = _
        rw [HR.out]; simp [hc]
      have hq : (c == c') = false := by simp [hc]
      clear hc
      go_wp2_with fail
      go_ret
      exact ⟨by rw [HX.out]; rfl, HK.out.below⟩
  · have HX : Hid (rr = false) := by
      show _ = _
      rw [HR.out]; simp [hk]
    have hq : (k == k') = false := by simp [hk]
    clear hk
    go_wp2_with fail
    go_ret
    exact ⟨by rw [HX.out]; rfl, HK.out.below⟩
end Go.Proofs.YtelaijogjgcloaaDoor
