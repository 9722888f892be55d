/- The laws' helpers spoil and turned. Conditions: what is written over lies in memory of its own. -/
import Derived.Test.YtlcdadnfcdjglaaSameW
set_option linter.unusedVariables false
set_option linter.unusedSimpArgs false
namespace Go.Proofs.Ytlcdadnfcdjglaa
open Go.RowKit Go.Ice Go.Ring

set_option maxHeartbeats 4000000 in
theorem spoil (w : World) (base : Nat) (sec : Int) (v : Value) (l : List Seg) (h : OwnSegs w base v l) (hbase : base ≤ w.heap.size) :
    Calls Try.prog 53 #[ringV sec v] w fun e w' => e = .returned (.tuple #[]) ∧ Frm (fun k => v.ownBlock = some k ∨ w.heap.size ≤ k) w w' := by
  obtain ⟨B, W0, HB, HW, HK, HZ⟩ := boxed1 w #[.int .i64 sec, v] 25
  have HO0 : Hid (OwnSegs W0 base v l) := OwnSegs.below h HK.out.below
  obtain ⟨a, cap, rfl, hm⟩ := h.segs.form
  have HH := Lib.hid h
  have HBS := Lib.hid hbase
  have b1 : W0.cell? ⟨B, 1, none⟩ = some (.slice a l.length cap) := blk_cell HK.out.b0 1
  obtain ⟨n, hn⟩ : ∃ n, n = l.length := ⟨_, rfl⟩
  have HN := Lib.hid hn
  rw [← hn] at b1 hm HW HK HO0 HH ⊢
  unfold maxLen at hm
  clear h hbase hn
  unfold ringV
  go_enter Try.func53, Try.ntmps53
  go_upto_region 1 with fail
  rw [HB.out, HW.out]
  go_wp2_with fail
  clear b1
  go_loopg [2, 6] n (fun g pv iv wr => ∃ i : Nat, g = n - i ∧ i ≤ n ∧ iv = .int .i64 i ∧ Hid (Frm (fun k => (Value.slice a n cap).ownBlock = some k ∨ w.heap.size ≤ k) w wr ∧ wr.heap[B]? = some (.cells #[.int .i64 sec, .slice a n cap] 25 (0, 0)) ∧ (0 < n → ∃ g cur, a = some ⟨g, 0, none⟩ ∧ base ≤ g ∧ g < B ∧ n ≤ cap ∧ cap ≤ maxLen ∧ wr.heap[g]? = some (.cells cur 46 (0, 0)) ∧ cur.size = cap * 3)))
  case atStart =>
    refine ⟨0, rfl, by omega, rfl, frm_below HK.out.below, HK.out.b0, fun hpos => ?_⟩
    obtain ⟨g, cap', cur, hv, h1, h2, h3, h4, h5, _⟩ := own_nonempty HO0.out (by have := HN.out; omega)
    injection hv with e1 e2 e3
    subst e3
    have hlt : g < w.heap.size := (HH.out.lt g (by rw [e1]; rfl)).2
    exact ⟨g, cur, e1, h1, by have := HB.out; omega, by have := HN.out; omega, h4, h2, h5⟩
  case round =>
    clear HK HO0
    obtain ⟨i, rfl, hi, rfl, HS⟩ := hrel
    by_cases hlt : i < n
    · obtain ⟨hb, hx, hg⟩ := HS.out
      obtain ⟨g, cur, rfl, g1, g2, g3, g4, g5, g6⟩ := hg (by omega)
      have b1 : wr.cell? ⟨B, 1, none⟩ = some (.slice (some ⟨g, 0, none⟩) n cap) := blk_cell hx 1
      obtain ⟨y0, c0⟩ : ∃ y, wr.cell? ⟨g, i * 3, none⟩ = some y := ⟨cur[i * 3]'(by omega), by simp [World.cell?, g5]⟩
      obtain ⟨y1, c1⟩ : ∃ y, wr.cell? ⟨g, i * 3 + 1, none⟩ = some y := ⟨cur[i * 3 + 1]'(by omega), by simp [World.cell?, g5]⟩
      obtain ⟨y2, c2⟩ : ∃ y, wr.cell? ⟨g, i * 3 + 2, none⟩ = some y := ⟨cur[i * 3 + 2]'(by omega), by simp [World.cell?, g5]⟩
      have fg := fun r => blk_frozen g5 r
      have HG := Lib.hid g5
      have HG6 := Lib.hid g6
      have HX := Lib.hid hx
      have HB1 := Lib.hid hb
      unfold maxLen at g4
      have HGB := Lib.hid g2
      have HG1 := Lib.hid g1
      have HG3 := Lib.hid g3
      clear hb hx hg g5 g6 HS g1 g2
      go_wp2_with fail
      go_roundg (n - (i + 1))
      case measure => omega
      case rel =>
        refine ⟨i + 1, rfl, by omega, by go_num, ((HB1.out.setCell (p := ⟨g, i * 3, none⟩) (.inl (.inl rfl)) _).setCell (p := ⟨g, i * 3 + 1, none⟩) (.inl (.inl rfl)) _).setCell (p := ⟨g, i * 3 + 2, none⟩) (.inl (.inl rfl)) _, ?_, fun _ => ⟨g, _, rfl, HG1.out, HGB.out, HG3.out, by unfold maxLen; omega, set_heap (set_heap (set_heap HG.out _ _) _ _) _ _, by simp; exact HG6.out⟩⟩
        have : B ≠ g := by have := HGB.out; omega
        exact blk_set (blk_set (blk_set HX.out this _) this _) this _
    · obtain rfl : i = n := by omega
      go_wp2_with fail
      go_end0
      exact ⟨rfl, HS.out.1⟩

theorem turned (w : World) (base : Nat) (sa sb : Int) (va vb : Value) (la lb : List Seg) (x : Int) (ha : OwnSegs w base va la) (hb : SegsAt w vb lb) (hbase : base ≤ w.heap.size) (hs : sameB sa sb la lb = true) :
    Calls Try.prog 33 #[ringV sa va, ringV sb vb, .int .i64 x, .int .i64 x] w fun e w' => e = .returned (.bool true) ∧ Frm (fun k => va.ownBlock = some k ∨ w.heap.size ≤ k) w w' := by
  obtain ⟨B, C, W0, HB, HC, HW, HK, HZ⟩ := boxed2 w #[.int .i64 sa, va] 25 #[.int .i64 sb, vb] 25
  have HA : Hid (OwnSegs W0 base va la) := OwnSegs.below ha HK.out.below
  have HSM := Lib.hid (sameR W0 sa sb va vb la lb HA.out.segs (RowAt.below hb HK.out.below (Nat.le_refl _)))
  rw [hs] at HSM
  have b0 : W0.cell? ⟨B, 0, none⟩ = some (.int .i64 sa) := blk_cell HK.out.b0 0
  have b1 : W0.cell? ⟨B, 1, none⟩ = some va := blk_cell HK.out.b0 1
  have c0 : W0.cell? ⟨C, 0, none⟩ = some (.int .i64 sb) := blk_cell HK.out.b1 0
  have c1 : W0.cell? ⟨C, 1, none⟩ = some vb := blk_cell HK.out.b1 1
  have hxx : (x != x) = false := by simp
  have HBS := Lib.hid hbase
  clear ha hb hs hbase
  unfold ringV at *
  go_enter Try.func33, Try.ntmps33
  go_upto_region 1 with fail
  rw [HC.out, HB.out, HW.out]
  go_wp2_with fail
  refine HSM.out.mono ?_
  rintro e w1 ⟨rfl, hbl⟩
  have HK1 := Lib.hid (HK.out.step hbl)
  have HA1 : Hid (OwnSegs w1 base va la) := OwnSegs.below HA.out hbl
  have d0 : w1.cell? ⟨B, 0, none⟩ = some (.int .i64 sa) := blk_cell HK1.out.b0 0
  have d1 : w1.cell? ⟨B, 1, none⟩ = some va := blk_cell HK1.out.b0 1
  have HSP := Lib.hid (spoil w1 base sa va la HA1.out (by have := HBS.out; have := HK1.out.below.size; omega))
  unfold ringV at HSP
  clear hbl b0 b1 c0 c1
  go_wp2_with fail
  refine HSP.out.mono ?_
  rintro e w2 ⟨rfl, hbl⟩
  have HBB : Hid (Frm (fun k => va.ownBlock = some k ∨ w.heap.size ≤ k) w w2) := (frm_below HK1.out.below).trans (hbl.mono fun k _ hk => hk.imp_right fun h => by have := HK1.out.below.size; omega)
  clear hbl
  go_wp2_with fail
  go_ret
  exact ⟨rfl, HBB.out⟩
end Go.Proofs.Ytlcdadnfcdjglaa
