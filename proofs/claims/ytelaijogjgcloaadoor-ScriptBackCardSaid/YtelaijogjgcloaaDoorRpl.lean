/- reader.plan, its walk. Conditions: the reader's parts lie in memory, beside it; the parts are not too long; the three variables are as laid. -/
import Derived.Test.YtelaijogjgcloaaDoorRev2
set_option linter.unusedVariables false
set_option linter.unusedSimpArgs false
namespace Go.Proofs.YtelaijogjgcloaaDoor
open Go.RowKit Go.Ice Go.Scr

theorem RdAt.mark {w : World} {R : Nat} {l : List Txt} {bad : Bool} (h : RdAt w R l bad) (b : Bool) : RdAt (w.setCell ⟨R, 1, none⟩ (.bool b)) R l b ∧ Frm (fun k => k = R) w (w.setCell ⟨R, 1, none⟩ (.bool b)) := by
  obtain ⟨v, h1, h2, h3⟩ := h
  have hf : Frm (fun k => k = R) w (w.setCell ⟨R, 1, none⟩ (.bool b)) := (Frm.refl (fun k => k = R) w).setCell (p := ⟨R, _, none⟩) (.inl rfl) _
  exact ⟨⟨v, set_at h1 _, isSl_frm h2 h3 hf, h3⟩, hf⟩
/-- While a plan is read: the reader, the result's block. -/
structure PlS (w : World) (R B : Nat) (l : List Txt) (bad : Bool) (W : World) : Prop where
  frm : Frm (fun k => k = R) w W
  rd : RdAt W R l bad
  b : W.heap[B]? = some (.cells #[.int .i64 0, .int .i64 0, .int .i64 0, .int .i64 0, .int .i64 0] 23 (0, 0))
  hB : B = w.heap.size
  hR : R < B
theorem PlS.call {w : World} {R B : Nat} {l l' : List Txt} {bad bad' : Bool} {W W' : World} (h : PlS w R B l bad W) (hr : RdAt W' R l' bad') (hf : Frm (fun k => k = R) W W') : PlS w R B l' bad' W' := by
  have h1 := h.hR
  exact ⟨h.frm.trans hf, hr, (hf.block B (blk_lt h.b) (by omega)).trans h.b, h.hB, h.hR⟩
theorem PlS.fin {w : World} {R B : Nat} {rest : List Txt} {bad : Bool} {W : World} (h : PlS w R B rest bad W) {wz : World} (hz : Frm (fun k => k = B) W wz) : RdAt wz R rest bad ∧ Frm (fun k => k = R) w wz := by
  have h1 := h.hR
  have h3 := h.hB
  refine ⟨?_, ?_⟩
  · obtain ⟨v, g1, g2, g3⟩ := h.rd
    exact ⟨v, (hz.block R (blk_lt g1) (by omega)).trans g1, isSl_ne g2 (fun a n c hv => by have := g3 a n c hv; omega) hz, g3⟩
  · have f := h.frm
    exact ⟨hz.os.trans f.os, hz.tape.trans f.tape, hz.output.trans f.output, Nat.le_trans f.size hz.size, fun k hk hs => (hz.block k (Nat.lt_of_lt_of_le hk f.size) (by omega)).trans (f.block k hk hs)⟩

set_option maxHeartbeats 16000000 in
set_option maxRecDepth 100000 in
theorem plan42 (w0 w : World) (R : Nat) (L : List Txt) (hL : L ≠ []) (hl : Laid w0) (hb : Below w0.heap.size w0 w) (hR : w0.heap.size ≤ R) (h : RdAt w R L false) (hs : ∀ a ∈ L, a.length ≤ 1000000) :
    Calls Tryd.prog 42 #[.pointer (some ⟨R, 0, none⟩)] w fun e w' => ∃ p bad rest, e = .returned (planV p) ∧ RdAt w' R rest bad ∧ PlOut L p bad rest ∧ Frm (fun k => k = R) w w' := by
  have HPO := Lib.hid (plOut L hL)
  have HL := Lib.hid hl
  have HB0 := Lib.hid hb
  have HR0 := Lib.hid hR
  obtain ⟨s, hsd⟩ : ∃ s, s = L.headD [] := ⟨_, rfl⟩
  have HRL := Lib.hid h.lt
  obtain ⟨B, W0, hB, hW, HB, HBZ, HBW, HBS⟩ := boxed w #[.int .i64 0, .int .i64 0, .int .i64 0, .int .i64 0, .int .i64 0] 23
  have HW := Lib.hid hW
  have HS0 : Hid (PlS w R B L false W0) := ⟨frm_below (HB.out ▸ HBW.out), h.below (HB.out ▸ HBW.out), HBZ.out, HB.out, by have := HRL.out; have := HB.out; omega⟩
  have HLN : Hid (∀ a ∈ L.tail, a.length ≤ 281474976710656) := fun a ha => Nat.le_trans (hs a (List.mem_of_mem_tail ha)) (by decide)
  have HNX := Lib.hid (next62 W0 R L false HS0.out.rd)
  rw [← hsd] at HPO HNX
  obtain ⟨l, hll⟩ : ∃ l, l = L.tail := ⟨_, rfl⟩
  rw [← hll] at HPO HNX HLN
  generalize L.isEmpty = le at HNX
  unfold strV at HNX
  clear hB hW hl hb hR h hs hsd hll
  go_enter Tryd.func42, Tryd.ntmps42
  go_upto_region 1 with fail
  rw [← HB.out, ← HW.out]
  go_wp2_with fail
  refine HNX.out.mono ?_
  rintro e w1 ⟨rfl, h1, f1⟩
  have HS1 := Lib.hid (HS0.out.call h1 f1)
  obtain ⟨pv, g1, _⟩ := h1
  have c1 : w1.cell? ⟨R, 1, none⟩ = some (.bool (false || le)) := blk_cell g1 1
  have fz1 := blk_frozen g1 1
  clear HNX f1 g1
  obtain ⟨q, hq⟩ : ∃ q, q = (s == [112, 108, 97, 110]) := ⟨_, rfl⟩
  have HQ := Lib.hid hq
  clear hq
  go_wp2_with fail
  have HM := HS1.out.rd.mark (!(s == [112, 108, 97, 110]))
  have HS2 := Lib.hid (HS1.out.call HM.1 HM.2)
  rw [← HQ.out] at HS2 ⊢
  generalize w1.setCell ⟨R, 1, none⟩ (.bool (!q)) = V at HS2 ⊢
  clear HM HS1 c1 fz1

  obtain ⟨n1, hn1⟩ : ∃ n, n = numV l := ⟨_, rfl⟩
  obtain ⟨b1, hb1⟩ : ∃ b, b = ((!q) || (numO l).isNone) := ⟨_, rfl⟩
  have HC1 := number63 w0 V R l (!q) HL.out (HB0.out.trans (HS2.out.frm.below (fun k hk e => by have := HR0.out; omega) HB0.out.size)) HR0.out HS2.out.rd (fun a ha => HLN.out a ha)
  rw [show (numP (l.headD [])).getD 0 = numV l from rfl, show numP (l.headD []) = numO l from rfl, ← hn1, ← hb1] at HC1
  have HN1 := Lib.hid hn1
  have HBB1 := Lib.hid hb1
  clear hn1 hb1
  refine HC1.mono ?_
  rintro e w3 ⟨rfl, h3, f3⟩
  have HS3 := Lib.hid (HS2.out.call h3 f3)
  clear h3 f3 HC1 HS2
  go_wp2_with fail
  obtain ⟨n2, hn2⟩ : ∃ n, n = numV l.tail := ⟨_, rfl⟩
  obtain ⟨b2, hb2⟩ : ∃ b, b = (b1 || (numO l.tail).isNone) := ⟨_, rfl⟩
  have HC2 := number63 w0 w3 R l.tail b1 HL.out (HB0.out.trans (HS3.out.frm.below (fun k hk e => by have := HR0.out; omega) HB0.out.size)) HR0.out HS3.out.rd (fun a ha => HLN.out a (List.mem_of_mem_tail ha))
  rw [show (numP (l.tail.headD [])).getD 0 = numV l.tail from rfl, show numP (l.tail.headD []) = numO l.tail from rfl, ← hn2, ← hb2] at HC2
  have HN2 := Lib.hid hn2
  have HBB2 := Lib.hid hb2
  clear hn2 hb2
  refine HC2.mono ?_
  rintro e w4 ⟨rfl, h4, f4⟩
  have HS4 := Lib.hid (HS3.out.call h4 f4)
  clear h4 f4 HC2 HS3
  go_wp2_with fail
  obtain ⟨n3, hn3⟩ : ∃ n, n = numV l.tail.tail := ⟨_, rfl⟩
  obtain ⟨b3, hb3⟩ : ∃ b, b = (b2 || (numO l.tail.tail).isNone) := ⟨_, rfl⟩
  have HC3 := number63 w0 w4 R l.tail.tail b2 HL.out (HB0.out.trans (HS4.out.frm.below (fun k hk e => by have := HR0.out; omega) HB0.out.size)) HR0.out HS4.out.rd (fun a ha => HLN.out a (List.mem_of_mem_tail (List.mem_of_mem_tail ha)))
  rw [show (numP (l.tail.tail.headD [])).getD 0 = numV l.tail.tail from rfl, show numP (l.tail.tail.headD []) = numO l.tail.tail from rfl, ← hn3, ← hb3] at HC3
  have HN3 := Lib.hid hn3
  have HBB3 := Lib.hid hb3
  clear hn3 hb3
  refine HC3.mono ?_
  rintro e w5 ⟨rfl, h5, f5⟩
  have HS5 := Lib.hid (HS4.out.call h5 f5)
  clear h5 f5 HC3 HS4
  go_wp2_with fail
  obtain ⟨n4, hn4⟩ : ∃ n, n = numV l.tail.tail.tail := ⟨_, rfl⟩
  obtain ⟨b4, hb4⟩ : ∃ b, b = (b3 || (numO l.tail.tail.tail).isNone) := ⟨_, rfl⟩
  have HC4 := number63 w0 w5 R l.tail.tail.tail b3 HL.out (HB0.out.trans (HS5.out.frm.below (fun k hk e => by have := HR0.out; omega) HB0.out.size)) HR0.out HS5.out.rd (fun a ha => HLN.out a (List.mem_of_mem_tail (List.mem_of_mem_tail (List.mem_of_mem_tail ha))))
  rw [show (numP (l.tail.tail.tail.headD [])).getD 0 = numV l.tail.tail.tail from rfl, show numP (l.tail.tail.tail.headD []) = numO l.tail.tail.tail from rfl, ← hn4, ← hb4] at HC4
  have HN4 := Lib.hid hn4
  have HBB4 := Lib.hid hb4
  clear hn4 hb4
  refine HC4.mono ?_
  rintro e w6 ⟨rfl, h6, f6⟩
  have HS6 := Lib.hid (HS5.out.call h6 f6)
  clear h6 f6 HC4 HS5
  go_wp2_with fail
  obtain ⟨n5, hn5⟩ : ∃ n, n = numV l.tail.tail.tail.tail := ⟨_, rfl⟩
  obtain ⟨b5, hb5⟩ : ∃ b, b = (b4 || (numO l.tail.tail.tail.tail).isNone) := ⟨_, rfl⟩
  have HC5 := number63 w0 w6 R l.tail.tail.tail.tail b4 HL.out (HB0.out.trans (HS6.out.frm.below (fun k hk e => by have := HR0.out; omega) HB0.out.size)) HR0.out HS6.out.rd (fun a ha => HLN.out a (List.mem_of_mem_tail (List.mem_of_mem_tail (List.mem_of_mem_tail (List.mem_of_mem_tail ha)))))
  rw [show (numP (l.tail.tail.tail.tail.headD [])).getD 0 = numV l.tail.tail.tail.tail from rfl, show numP (l.tail.tail.tail.tail.headD []) = numO l.tail.tail.tail.tail from rfl, ← hn5, ← hb5] at HC5
  have HN5 := Lib.hid hn5
  have HBB5 := Lib.hid hb5
  clear hn5 hb5
  refine HC5.mono ?_
  rintro e w7 ⟨rfl, h7, f7⟩
  have HS7 := Lib.hid (HS6.out.call h7 f7)
  clear h7 f7 HC5 HS6
  have z0 : w7.cell? ⟨B, 0, none⟩ = some (.int .i64 0) := blk_cell HS7.out.b 0
  have z1 : w7.cell? ⟨B, 1, none⟩ = some (.int .i64 0) := blk_cell HS7.out.b 1
  have z2 : w7.cell? ⟨B, 2, none⟩ = some (.int .i64 0) := blk_cell HS7.out.b 2
  have z3 : w7.cell? ⟨B, 3, none⟩ = some (.int .i64 0) := blk_cell HS7.out.b 3
  have z4 : w7.cell? ⟨B, 4, none⟩ = some (.int .i64 0) := blk_cell HS7.out.b 4
  have fz := fun r => blk_frozen HS7.out.b r
  go_wp2_with fail
  have hz := set5 (v0 := .int .i64 n1) (v1 := .int .i64 n2) (v2 := .int .i64 n3) (v3 := .int .i64 n4) (v4 := .int .i64 n5) HS7.out.b
  have r0 := blk_cell hz 0
  have r1 := blk_cell hz 1
  have r2 := blk_cell hz 2
  have r3 := blk_cell hz 3
  have r4 := blk_cell hz 4
  refine bodyPost_ret (v := .agg #[.int .i64 n1, .int .i64 n2, .int .i64 n3, .int .i64 n4, .int .i64 n5]) (by simp [results, Tryd.f42, go_sem, r0, r1, r2, r3, r4]) rfl ?_
  obtain ⟨k1, k2⟩ := HS7.out.fin (frm_set5 B (.int .i64 n1) (.int .i64 n2) (.int .i64 n3) (.int .i64 n4) (.int .i64 n5))
  refine ⟨⟨n1, n2, n3, n4, n5⟩, b5, l.tail.tail.tail.tail.tail, rfl, k1, ?_, k2⟩
  have hp := HPO.out
  rw [← HN1.out, ← HN2.out, ← HN3.out, ← HN4.out, ← HN5.out] at hp
  have hb : b5 = (decide (s ≠ wPlan) || (numO l).isNone || (numO l.tail).isNone || (numO l.tail.tail).isNone || (numO l.tail.tail.tail).isNone || (numO l.tail.tail.tail.tail).isNone) := by
    rw [HBB5.out, HBB4.out, HBB3.out, HBB2.out, HBB1.out, HQ.out]
    have : (!(s == [112, 108, 97, 110])) = decide (s ≠ wPlan) := by
      by_cases h : s = wPlan
      · subst h; decide
      · have h' : (s == [112, 108, 97, 110]) = false := by simpa [wPlan] using h
        rw [h']; simp [h]
    rw [this]
  rw [hb]
  exact hp
end Go.Proofs.YtelaijogjgcloaaDoor
