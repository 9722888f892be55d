/- The walk of the law RingTurns. No condition. -/
import Derived.Test.YtlcdadnfcdjglaaWhl
import Derived.Test.YtlcdadnfcdjglaaOpR
set_option linter.unusedVariables false
set_option linter.unusedSimpArgs false
namespace Go.Proofs.Ytlcdadnfcdjglaa
open Go.RowKit Go.Ice Go.Ring Go.ChangeShapes Go.WideShapes

/-- The ring at hand and the one that it was, in blocks of the call's own. -/
structure TS (w : World) (L : List (Nat × Obj)) (g : Nat) (l : List Seg) (vw : Value) (W : World) : Prop where
  kp : Kp w L W
  sht : Sht W w.heap.size g l
  was : OwnSegs W w.heap.size vw l
theorem TS.step {w W W' : World} {L : List (Nat × Obj)} {g : Nat} {l : List Seg} {vw : Value} (h : TS w L g l vw W) (hb : Below W.heap.size W W') : TS w L g l vw W' :=
  ⟨h.kp.step hb, h.sht.below hb, h.was.below hb⟩
theorem TS.alloc {w W : World} {L : List (Nat × Obj)} {g : Nat} {l : List Seg} {vw : Value} (h : TS w L g l vw W) (o : Obj) : TS w ((W.heap.size, o) :: L) g l vw (W.alloc o) :=
  ⟨h.kp.alloc o, h.sht.below ((Below.refl _ W).alloc (Nat.le_refl _) o), h.was.below ((Below.refl _ W).alloc (Nat.le_refl _) o)⟩
theorem own_far {w w' : World} {base e size n : Nat} {v : Value} {xs : List Value} {S : Nat → Prop} (h : w.ownsRow base e size v n xs) (hf : Frm S w w') (hS : ∀ k, v.ownBlock = some k → ¬ S k) : w'.ownsRow base e size v n xs := by
  obtain ⟨h1, h2⟩ := h
  refine ⟨h1, ?_⟩
  rcases h2 with h2 | ⟨g, cap, cur, hv, hb, hg, r⟩
  · exact .inl h2
  · exact .inr ⟨g, cap, cur, hv, hb, (hf.block g (Array.getElem?_eq_some_iff.1 hg).1 (hS g (by rw [hv]; rfl))).trans hg, r⟩
/-- Other blocks are written. -/
theorem TS.frm {w W W' : World} {L : List (Nat × Obj)} {g : Nat} {l : List Seg} {vw : Value} {S : Nat → Prop} (h : TS w L g l vw W) (hf : Frm S W W') (h1 : ∀ k, k < w.heap.size → ¬ S k) (h2 : ∀ p ∈ L, ¬ S p.1) (h3 : ¬ S g) (h4 : ∀ k, vw.ownBlock = some k → ¬ S k) : TS w L g l vw W' :=
  ⟨h.kp.frm hf h1 h2, own_far h.sht hf (fun k hk => by injection hk with hk; rw [← hk]; exact h3), own_far h.was hf h4⟩
theorem set_two {w : World} {b : Nat} {cs : Array Value} (h : w.heap[b]? = some (.cells cs 25 (0, 0))) (hs : cs.size = 2) (v0 v1 : Value) : ((w.setCell ⟨b, 0, none⟩ v0).setCell ⟨b, 1, none⟩ v1).heap[b]? = some (.cells #[v0, v1] 25 (0, 0)) := by
  have := set_heap (set_heap h 0 v0) 1 v1
  rw [this]
  obtain ⟨c⟩ := cs
  match c, hs with
  | [a, b], _ => rfl
theorem frm_two (w : World) (b : Nat) (v0 v1 : Value) : Frm (· = b) w ((w.setCell ⟨b, 0, none⟩ v0).setCell ⟨b, 1, none⟩ v1) := (frm_set w b 0 v0).trans (frm_set _ b 1 v1)
/-- One of the blocks, a ring's, is laid anew. -/
theorem TS.lay {w W : World} {L1 L2 : List (Nat × Obj)} {b g : Nat} {cs : Array Value} {l : List Seg} {vw : Value} (h : TS w (L1 ++ (b, .cells cs 25 (0, 0)) :: L2) g l vw W) (hs : cs.size = 2) (hb : w.heap.size ≤ b) (hd1 : ∀ p ∈ L1, p.1 ≠ b) (hd2 : ∀ p ∈ L2, p.1 ≠ b) (hg : g ≠ b) (hvw : ∀ k, vw.ownBlock = some k → k ≠ b) (v0 v1 : Value) :
    TS w (L1 ++ (b, .cells #[v0, v1] 25 (0, 0)) :: L2) g l vw ((W.setCell ⟨b, 0, none⟩ v0).setCell ⟨b, 1, none⟩ v1) := by
  have hf := frm_two W b v0 v1
  have hx : W.heap[b]? = some (.cells cs 25 (0, 0)) := h.kp.blks (b, _) (by simp)
  refine ⟨⟨(h.kp.below.setCell hb v0).setCell hb v1, fun p hp => ?_⟩, own_far h.sht hf (fun k hk => by injection hk with hk; rw [← hk]; exact hg), own_far h.was hf hvw⟩
  rw [List.mem_append, List.mem_cons] at hp
  rcases hp with hp | rfl | hp
  · have hq := h.kp.blks p (by simp [hp])
    exact (hf.block p.1 (blk_lt hq) (hd1 p hp)).trans hq
  · exact set_two hx hs v0 v1
  · have hq := h.kp.blks p (by simp [hp])
    exact (hf.block p.1 (blk_lt hq) (hd2 p hp)).trans hq

set_option maxRecDepth 100000 in
set_option maxHeartbeats 20000000 in
theorem ringTurns (w : World) (sec : Int) (v : Value) (l0 : List Seg) (gn : Nat) (m : Int) (h : SegsAt w v l0) :
    Calls Try.prog 6 #[ringV sec v, .int .u64 gn, .int .i64 m] w fun e w' => e = .returned (.bool true) ∧ Below w.heap.size w w' := by
  obtain ⟨B, W0, HB, HW, HK, HZ⟩ := boxed1 w #[.int .i64 sec, v] 25
  have HR0 := Lib.hid h
  have HWK := Lib.hid (wakes W0)
  clear h
  unfold ringV
  go_enter Try.func6, Try.ntmps6
  go_upto_region 1 with fail
  rw [HB.out, HW.out]
  go_wp2_with fail
  refine HWK.out.mono ?_
  rintro e w1 ⟨rfl, hb⟩
  have HK1 := Lib.hid (HK.out.step hb)
  have HSH := Lib.hid (short w1 sec v l0 (RowAt.below HR0.out HK1.out.below (Nat.le_refl _)))
  have b0 : w1.cell? ⟨B, 0, none⟩ = some (.int .i64 sec) := blk_cell HK1.out.b0 0
  have b1 : w1.cell? ⟨B, 1, none⟩ = some v := blk_cell HK1.out.b0 1
  unfold ringV at HSH
  clear hb HWK HK
  go_wp2_with fail
  refine HSH.out.mono ?_
  rintro e w2 ⟨g, rfl, hs, hb⟩
  have HK2 := Lib.hid (HK1.out.step hb)
  have hle : (l0.take 40).length ≤ 40 := by rw [List.length_take]; omega
  have H1000 : Hid ((l0.take 40).length ≤ 1000) := (show (l0.take 40).length ≤ 1000 by omega)
  generalize hl : l0.take 40 = l at *
  have HS := Lib.hid hs
  have HSW : Hid (w1.heap.size ≤ w2.heap.size ∧ B < w1.heap.size) := ⟨hb.size, blk_lt HK1.out.b0⟩
  have d0 : w2.cell? ⟨B, 0, none⟩ = some (.int .i64 sec) := blk_cell HK2.out.b0 0
  have d1 : w2.cell? ⟨B, 1, none⟩ = some v := blk_cell HK2.out.b0 1
  have fd := fun r => blk_frozen HK2.out.b0 r
  clear hs hb b0 b1 HSH hl
  obtain ⟨n, hn⟩ : ∃ n, n = l.length := ⟨_, rfl⟩
  have HN := Lib.hid hn
  unfold shtV
  rw [← hn]
  clear hn
  go_upto_region 4 with fail
  obtain ⟨w3, hw3⟩ : ∃ w3, w3 = (w2.setCell ⟨B, 0, none⟩ (.int .i64 sec)).setCell ⟨B, 1, none⟩ (.slice (some ⟨g, 0, none⟩) n (n + 2)) := ⟨_, rfl⟩
  have HK3 : Hid (Kp w [(B, .cells #[.int .i64 sec, .slice (some ⟨g, 0, none⟩) n (n + 2)] 25)] w3) := by
    show Kp _ _ _
    rw [hw3]
    have := (HK2.out.set0 (k := 0) (Nat.le_of_eq HB.out) (fun p hp => by cases hp) (.int .i64 sec)).set0 (k := 1) (Nat.le_of_eq HB.out) (fun p hp => by cases hp) (.slice (some ⟨g, 0, none⟩) n (n + 2))
    simpa using this
  have HS3 : Hid (Sht w3 w1.heap.size g l) := by
    show Sht _ _ _ _
    rw [hw3]
    have h1 := (HS.out.lt g rfl).1
    exact ring_set2 HS.out (by have := HSW.out; omega) _ _
  rw [← hw3]
  have HC3 : Hid (Calls Try.prog 16 #[.agg #[.int .i64 sec, .slice (some ⟨g, 0, none⟩) n (n + 2)]] w3 fun e w' => ∃ u, e = .returned (ringV sec u) ∧ OwnSegs w' w3.heap.size u l ∧ Below w3.heap.size w3 w') := by
    have := copy w3 sec (shtV g l) l HS3.out.segs H1000.out
    unfold shtV at this
    rw [← HN.out] at this
    exact this
  have b0 : w3.cell? ⟨B, 0, none⟩ = some (.int .i64 sec) := blk_cell HK3.out.b0 0
  have b1 : w3.cell? ⟨B, 1, none⟩ = some (.slice (some ⟨g, 0, none⟩) n (n + 2)) := blk_cell HK3.out.b0 1
  have HSW3 : Hid (w3.heap.size = w2.heap.size) := (show w3.heap.size = _ by rw [hw3]; simp [World.setCell])
  clear hw3 d0 d1 fd HK2 HS
  go_wp2_with fail
  refine HC3.out.mono ?_
  rintro e w4 ⟨vw, rfl, ho, hb⟩
  have HK4 := Lib.hid (HK3.out.step hb)
  have HS4 : Hid (Sht w4 w1.heap.size g l) := HS3.out.below hb
  have HO4 := Lib.hid ho
  have HW43 : Hid (w3.heap.size ≤ w4.heap.size) := hb.size
  obtain ⟨av, nv, cv, hvw⟩ := own_sl ho
  unfold ringV
  clear ho hb b0 b1 HC3 HK3 HS3
  subst hvw
  go_upto_region 5 with fail
  obtain ⟨D, hD⟩ : ∃ D, D = w4.heap.size := ⟨_, rfl⟩
  obtain ⟨Y0, hY0⟩ : ∃ Y, Y = w4.alloc (.cells #[.int .i64 sec, .slice av nv cv] 25) := ⟨_, rfl⟩
  obtain ⟨vw, hvw⟩ : ∃ vw, vw = Value.slice av nv cv := ⟨_, rfl⟩
  have HY0 : Hid (TS w [(D, .cells #[.int .i64 sec, vw] 25), (B, .cells #[.int .i64 sec, .slice (some ⟨g, 0, none⟩) n (n + 2)] 25)] g l vw Y0) := by
    have hb4 : Below w4.heap.size w4 Y0 := by rw [hY0]; exact (Below.refl _ w4).alloc (Nat.le_refl _) _
    refine ⟨?_, own_base (own_below HS4.out hb4) (by have := HK1.out.below.size; omega), by rw [hvw]; exact own_base (own_below HO4.out hb4) (by have := HK1.out.below.size; have := HSW.out; have := HSW3.out; omega)⟩
    rw [hY0, hD, hvw]; exact HK4.out.alloc _
  have HDW : Hid (w3.heap.size ≤ D) := (show w3.heap.size ≤ D by have := HW43.out; omega)
  have HBW : Hid (B < D ∧ w.heap.size ≤ B ∧ w.heap.size ≤ D) := ⟨by have := HSW.out; have := HSW3.out; have := HDW.out; omega, Nat.le_of_eq HB.out, by have := HK1.out.below.size; have := HSW.out; have := HSW3.out; have := HDW.out; omega⟩
  have HGB : Hid (g ≠ B ∧ g < D ∧ ∀ k, vw.ownBlock = some k → k ≠ B ∧ k < D) := by
    refine ⟨?_, ?_, fun k hk => ?_⟩
    · have := (HS4.out.lt g rfl).1; have := HSW.out; omega
    · have := (HS4.out.lt g rfl).2; omega
    · rw [hvw] at hk
      have := HO4.out.lt k hk
      have := HSW.out; have := HSW3.out
      omega
  rw [← hD, ← hY0, ← hvw]
  clear hD hY0 hvw HK4 HS4 HO4
  have HG1 := Lib.hid (openg Y0 sec (shtV g l) l gn HY0.out.sht.segs)
  obtain ⟨F1, hF1⟩ : ∃ x, x = openF sec l gn := ⟨_, rfl⟩
  have HR1 : Hid (∀ W', Sht W' w.heap.size g l → Calls Try.prog 32 #[.agg #[.int .i64 sec, .slice (some ⟨g, 0, none⟩) n (n + 2)], .int .u64 gn] W' fun e w' => ∃ u, e = .returned (.tuple #[.agg #[.int .i64 (secOf sec (F1.2.map (·.1))), u], .int .i64 (idxOf F1.2), .int .i64 F1.1]) ∧ OwnSegs w' W'.heap.size u (segsOf (F1.2.map (·.1))) ∧ Below W'.heap.size W' w') := fun W' h' => by
    have := openRef W' sec (shtV g l) l gn h'.segs
    rw [← hF1] at this
    unfold shtV ringV at this
    rw [← HN.out] at this
    exact this
  rw [← hF1] at HG1
  unfold shtV ringV at HG1
  rw [← HN.out] at HG1
  have b0 : Y0.cell? ⟨B, 0, none⟩ = some (.int .i64 sec) := blk_cell HY0.out.kp.b1 0
  have b1 : Y0.cell? ⟨B, 1, none⟩ = some (.slice (some ⟨g, 0, none⟩) n (n + 2)) := blk_cell HY0.out.kp.b1 1
  have HDB : Hid (D < Y0.heap.size ∧ B < Y0.heap.size ∧ g < Y0.heap.size ∧ w.heap.size ≤ Y0.heap.size) := ⟨blk_lt HY0.out.kp.b0, blk_lt HY0.out.kp.b1, (HY0.out.sht.lt g rfl).2, HY0.out.kp.below.size⟩
  have HVW : Hid (∀ k, vw.ownBlock = some k → k < Y0.heap.size) := fun k hk => (HY0.out.was.lt k hk).2
  generalize secOf sec (F1.2.map (·.1)) = s1 at *
  generalize segsOf (F1.2.map (·.1)) = l1 at *
  generalize idxOf F1.2 = i1 at *
  generalize F1.1 = r1 at *
  have hii : (i1 != i1) = false := by simp
  clear hF1
  go_wp2_with fail
  refine HG1.out.mono ?_
  rintro e Wa ⟨u, rfl, ho, hbl⟩
  have HTa := Lib.hid (HY0.out.step hbl)
  obtain ⟨au, nu, cu, rfl⟩ := own_sl ho
  have HO := Lib.hid ho
  have HWA : Hid (Y0.heap.size ≤ Wa.heap.size) := hbl.size
  have HUB : Hid (∀ k, (Value.slice au nu cu).ownBlock = some k → Y0.heap.size ≤ k ∧ k < Wa.heap.size) := fun k hk => ho.lt k hk
  clear hbl ho b0 b1 HG1
  go_upto_region 6 with fail
  obtain ⟨E, hE⟩ : ∃ E, E = Wa.heap.size := ⟨_, rfl⟩
  obtain ⟨Wb, hWb⟩ : ∃ Wb, Wb = Wa.alloc (.cells #[.int .i64 s1, .slice au nu cu] 25) := ⟨_, rfl⟩
  have HTb0 := HTa.out.alloc (.cells #[.int .i64 s1, .slice au nu cu] 25)
  rw [← hWb, ← hE] at HTb0
  have HTb := Lib.hid HTb0
  have HOb : Hid (OwnSegs Wb Y0.heap.size (.slice au nu cu) l1) := by show World.ownsRow _ _ _ _ _ _ _; rw [hWb]; exact HO.out.alloc _
  have HWB : Hid (Wb.heap.size = E + 1) := (show Wb.heap.size = _ by rw [hWb, hE]; simp)
  have HEA : Hid (E = Wa.heap.size) := hE
  rw [← hE, ← hWb]
  have HR := Lib.hid (HR1.out Wb HTb.out.sht)
  have b0 : Wb.cell? ⟨B, 0, none⟩ = some (.int .i64 sec) := blk_cell HTb.out.kp.b2 0
  have b1 : Wb.cell? ⟨B, 1, none⟩ = some (.slice (some ⟨g, 0, none⟩) n (n + 2)) := blk_cell HTb.out.kp.b2 1
  clear hE hWb HTb0 HR1 HTa HO
  go_wp2_with fail
  refine HR.out.mono ?_
  rintro e Wc ⟨u, rfl, ho, hbl⟩
  have HTc := Lib.hid (HTb.out.step hbl)
  have HOc : Hid (OwnSegs Wc Y0.heap.size (.slice au nu cu) l1) := HOb.out.below hbl
  obtain ⟨a2, n2, c2, rfl⟩ := own_sl ho
  have HP := Lib.hid ho
  have HWC : Hid (Wb.heap.size ≤ Wc.heap.size) := hbl.size
  clear hbl ho b0 b1 HR
  go_upto_region 7 with fail
  obtain ⟨F, hF⟩ : ∃ F, F = Wc.heap.size := ⟨_, rfl⟩
  obtain ⟨Wd, hWd⟩ : ∃ Wd, Wd = Wc.alloc (.cells #[.int .i64 s1, .slice a2 n2 c2] 25) := ⟨_, rfl⟩
  have HTd0 := HTc.out.alloc (.cells #[.int .i64 s1, .slice a2 n2 c2] 25)
  rw [← hWd, ← hF] at HTd0
  have HQ := Lib.hid HTd0
  have HOG : Hid (OwnSegs Wd Y0.heap.size (.slice au nu cu) l1) := by show World.ownsRow _ _ _ _ _ _ _; rw [hWd]; exact HOc.out.alloc _
  have HWN : Hid (SegsAt Wd (.slice a2 n2 c2) l1) := by
    have : OwnSegs Wd Wb.heap.size (.slice a2 n2 c2) l1 := by show World.ownsRow _ _ _ _ _ _ _; rw [hWd]; exact HP.out.alloc _
    exact this.segs
  have HFC : Hid (F = Wc.heap.size ∧ Wd.heap.size = F + 1) := ⟨hF, by rw [hWd, hF]; simp⟩
  rw [← hF, ← hWd]
  have HBG : Hid (Y0.heap.size ≤ Wd.heap.size) := (show Y0.heap.size ≤ Wd.heap.size by have := HFC.out; have := HWC.out; have := HWB.out; have := HEA.out; have := HWA.out; omega)
  have HNE : Hid (∀ k, (Value.slice au nu cu).ownBlock = some k → k ≠ B ∧ k ≠ D ∧ k ≠ E ∧ k ≠ F ∧ k ≠ g ∧ w.heap.size ≤ k ∧ (∀ k', vw.ownBlock = some k' → k' ≠ k)) := fun k hk => by
    have := HUB.out k hk; have := HDB.out; have := HFC.out; have := HWC.out; have := HWB.out; have := HEA.out; have := HWA.out
    refine ⟨by omega, by omega, by omega, by omega, by omega, by omega, fun k' hk' => ?_⟩
    have := HVW.out k' hk'; omega
  generalize hbg : Y0.heap.size = bg1 at *
  clear hF hWd HTd0 HTc HP HOb HOc HUB HTb HVW hbg
  have HEF : Hid (w.heap.size ≤ E ∧ w.heap.size ≤ F ∧ g ≠ E ∧ (∀ k, vw.ownBlock = some k → k ≠ E) ∧ F ≠ E ∧ D ≠ E ∧ B ≠ E ∧ g ≠ F ∧ (∀ k, vw.ownBlock = some k → k ≠ F) ∧ D ≠ F ∧ B ≠ F) := by
    have := HDB.out; have := HFC.out; have := HWC.out; have := HWB.out; have := HEA.out; have := HWA.out; have h9 := HGB.out
    refine ⟨by omega, by omega, by omega, fun k hk => ?_, by omega, by omega, by omega, by omega, fun k hk => ?_, by omega, by omega⟩
    · have := h9.2.2 k hk; omega
    · have := h9.2.2 k hk; omega
  clear HDB HFC HWC HWB HEA HWA
  have HTU := Lib.hid (turned Wd bg1 s1 s1 (.slice au nu cu) (.slice a2 n2 c2) l1 l1 r1 HOG.out HWN.out HBG.out (by simp [sameB]))
  have e0 : Wd.cell? ⟨E, 0, none⟩ = some (.int .i64 s1) := blk_cell HQ.out.kp.b1 0
  have e1 : Wd.cell? ⟨E, 1, none⟩ = some (.slice au nu cu) := blk_cell HQ.out.kp.b1 1
  have f0 : Wd.cell? ⟨F, 0, none⟩ = some (.int .i64 s1) := blk_cell HQ.out.kp.b0 0
  have f1 : Wd.cell? ⟨F, 1, none⟩ = some (.slice a2 n2 c2) := blk_cell HQ.out.kp.b0 1
  unfold ringV at HTU
  go_wp2_with fail
  refine HTU.out.mono ?_
  rintro e X1 ⟨rfl, hf⟩
  have HX1 : Hid (TS w [(F, .cells #[.int .i64 s1, .slice a2 n2 c2] 25), (E, .cells #[.int .i64 s1, .slice au nu cu] 25), (D, .cells #[.int .i64 sec, vw] 25), (B, .cells #[.int .i64 sec, .slice (some ⟨g, 0, none⟩) n (n + 2)] 25)] g l vw X1) := by
    have hs1 := blk_lt HQ.out.kp.b0
    have hs2 := blk_lt HQ.out.kp.b1
    have hs3 := blk_lt HQ.out.kp.b2
    have hs4 := blk_lt HQ.out.kp.b3
    have hs5 := (HQ.out.sht.lt g rfl).2
    have hs0 := HQ.out.kp.below.size
    refine HQ.out.frm hf (fun k hk h => ?_) (fun p hp h => ?_) (fun h => ?_) (fun k hk h => ?_)
    · rcases h with h | h
      · have := HNE.out k h; omega
      · omega
    · simp only [List.mem_cons, List.mem_nil_iff, or_false] at hp
      rcases h with h | h
      · have h2 := HNE.out _ h
        rcases hp with rfl | rfl | rfl | rfl
        · exact h2.2.2.2.1 rfl
        · exact h2.2.2.1 rfl
        · exact h2.2.1 rfl
        · exact h2.1 rfl
      · rcases hp with rfl | rfl | rfl | rfl <;> simp only at h <;> omega
    · rcases h with h | h
      · exact (HNE.out g h).2.2.2.2.1 rfl
      · omega
    · rcases h with h | h
      · exact (HNE.out k h).2.2.2.2.2.2 k hk rfl
      · have := (HQ.out.was.lt k hk).2; omega
  have HWH1 : Hid (Calls Try.prog 23 #[.agg #[.int .i64 sec, .slice (some ⟨g, 0, none⟩) n (n + 2)], .agg #[.int .i64 sec, vw]] X1 fun e w' => e = .returned (.bool true) ∧ Below X1.heap.size X1 w') := by
    have := whole X1 w.heap.size g sec vw l HX1.out.sht HX1.out.was.segs H1000.out
    unfold shtV ringV at this
    rw [← HN.out] at this
    exact this
  have d0 : X1.cell? ⟨D, 0, none⟩ = some (.int .i64 sec) := blk_cell HX1.out.kp.b2 0
  have d1 : X1.cell? ⟨D, 1, none⟩ = some vw := blk_cell HX1.out.kp.b2 1
  have b0 : X1.cell? ⟨B, 0, none⟩ = some (.int .i64 sec) := blk_cell HX1.out.kp.b3 0
  have b1 : X1.cell? ⟨B, 1, none⟩ = some (.slice (some ⟨g, 0, none⟩) n (n + 2)) := blk_cell HX1.out.kp.b3 1
  clear hf HTU HOG HWN HNE HBG e0 e1 f0 f1 HQ
  go_wp2_with fail
  refine HWH1.out.mono ?_
  rintro e Y1 ⟨rfl, hbl⟩
  have HY1 := Lib.hid (HX1.out.step hbl)
  clear hbl HWH1 HX1 d0 d1 b0 b1
  have HG2 := Lib.hid (used Y1 sec (shtV g l) l m HY1.out.sht.segs)
  obtain ⟨F2, hF2⟩ : ∃ x, x = useF sec l m := ⟨_, rfl⟩
  have HR2 : Hid (∀ W', Sht W' w.heap.size g l → Calls Try.prog 35 #[.agg #[.int .i64 sec, .slice (some ⟨g, 0, none⟩) n (n + 2)], .int .i64 m] W' fun e w' => ∃ u, e = .returned (.tuple #[.agg #[.int .i64 (secOf sec F2.2), u], .int .i64 F2.1]) ∧ OwnSegs w' W'.heap.size u (segsOf F2.2) ∧ Below W'.heap.size W' w') := fun W' h' => by
    have := useRef W' sec (shtV g l) l m h'.segs
    rw [← hF2] at this
    unfold shtV ringV at this
    rw [← HN.out] at this
    exact this
  rw [← hF2] at HG2
  unfold shtV ringV at HG2
  rw [← HN.out] at HG2
  have b0 : Y1.cell? ⟨B, 0, none⟩ = some (.int .i64 sec) := blk_cell HY1.out.kp.b3 0
  have b1 : Y1.cell? ⟨B, 1, none⟩ = some (.slice (some ⟨g, 0, none⟩) n (n + 2)) := blk_cell HY1.out.kp.b3 1
  have HLTS : Hid (F < Y1.heap.size ∧ E < Y1.heap.size ∧ D < Y1.heap.size ∧ B < Y1.heap.size ∧ g < Y1.heap.size ∧ w.heap.size ≤ Y1.heap.size) := ⟨blk_lt HY1.out.kp.b0, blk_lt HY1.out.kp.b1, blk_lt HY1.out.kp.b2, blk_lt HY1.out.kp.b3, (HY1.out.sht.lt g rfl).2, HY1.out.kp.below.size⟩
  have HVW : Hid (∀ k, vw.ownBlock = some k → k < Y1.heap.size) := fun k hk => (HY1.out.was.lt k hk).2
  generalize secOf sec F2.2 = s2 at *
  generalize segsOf F2.2 = l2 at *
  generalize F2.1 = r2 at *
  clear hF2
  go_wp2_with fail
  refine HG2.out.mono ?_
  rintro e Wa2 ⟨u, rfl, ho, hbl⟩
  have HTa := Lib.hid (HY1.out.step hbl)
  obtain ⟨q2, m2, p2, rfl⟩ := own_sl ho
  have HO := Lib.hid ho
  have HWA : Hid (Y1.heap.size ≤ Wa2.heap.size) := hbl.size
  have HUB : Hid (∀ k, (Value.slice q2 m2 p2).ownBlock = some k → Y1.heap.size ≤ k) := fun k hk => (ho.lt k hk).1
  have x0 : Wa2.cell? ⟨E, 0, none⟩ = some (.int .i64 s1) := blk_cell HTa.out.kp.b1 0
  have x1 : Wa2.cell? ⟨E, 1, none⟩ = some (.slice au nu cu) := blk_cell HTa.out.kp.b1 1
  have fx := fun r => blk_frozen HTa.out.kp.b1 r
  clear hbl ho b0 b1 HG2
  go_upto_region 10 with fail
  obtain ⟨Wb2, hWb⟩ : ∃ Wb, Wb = (Wa2.setCell ⟨E, 0, none⟩ (.int .i64 s2)).setCell ⟨E, 1, none⟩ (.slice q2 m2 p2) := ⟨_, rfl⟩
  have HTb : Hid (TS w [(F, .cells #[.int .i64 s1, .slice a2 n2 c2] 25), (E, .cells #[.int .i64 s2, .slice q2 m2 p2] 25), (D, .cells #[.int .i64 sec, vw] 25), (B, .cells #[.int .i64 sec, .slice (some ⟨g, 0, none⟩) n (n + 2)] 25)] g l vw Wb2) := by
    show TS _ _ _ _ _ _
    rw [hWb]
    have hl := HLTS.out
    refine TS.lay (L1 := [(F, _)]) (L2 := [(D, _), (B, _)]) HTa.out rfl HEF.out.1 (fun p hp => ?_) (fun p hp => ?_) HEF.out.2.2.1 (fun k hk => HEF.out.2.2.2.1 k hk) _ _
    · simp only [List.mem_cons, List.mem_nil_iff, or_false] at hp; subst hp; exact HEF.out.2.2.2.2.1
    · simp only [List.mem_cons, List.mem_nil_iff, or_false] at hp
      rcases hp with rfl | rfl
      · exact HEF.out.2.2.2.2.2.1
      · exact HEF.out.2.2.2.2.2.2.1
  have HOb : Hid (OwnSegs Wb2 Y1.heap.size (.slice q2 m2 p2) l2) := by
    show World.ownsRow _ _ _ _ _ _ _
    rw [hWb]
    exact own_set (own_set HO.out HLTS.out.2.1 _) HLTS.out.2.1 _
  have HWB : Hid (Wb2.heap.size = Wa2.heap.size) := (show Wb2.heap.size = _ by rw [hWb]; simp [World.setCell])
  rw [← hWb]
  have HR := Lib.hid (HR2.out Wb2 HTb.out.sht)
  have b0 : Wb2.cell? ⟨B, 0, none⟩ = some (.int .i64 sec) := blk_cell HTb.out.kp.b3 0
  have b1 : Wb2.cell? ⟨B, 1, none⟩ = some (.slice (some ⟨g, 0, none⟩) n (n + 2)) := blk_cell HTb.out.kp.b3 1
  clear hWb HR2 HTa HO x0 x1 fx
  go_wp2_with fail
  refine HR.out.mono ?_
  rintro e Wc2 ⟨u, rfl, ho, hbl⟩
  have HTc := Lib.hid (HTb.out.step hbl)
  have HOc : Hid (OwnSegs Wc2 Y1.heap.size (.slice q2 m2 p2) l2) := HOb.out.below hbl
  obtain ⟨x2, y2, z2, rfl⟩ := own_sl ho
  have HP := Lib.hid ho
  have HWC : Hid (Wb2.heap.size ≤ Wc2.heap.size) := hbl.size
  have x0 : Wc2.cell? ⟨F, 0, none⟩ = some (.int .i64 s1) := blk_cell HTc.out.kp.b0 0
  have x1 : Wc2.cell? ⟨F, 1, none⟩ = some (.slice a2 n2 c2) := blk_cell HTc.out.kp.b0 1
  have fx := fun r => blk_frozen HTc.out.kp.b0 r
  clear hbl ho b0 b1 HR
  go_upto_region 11 with fail
  obtain ⟨Wd2, hWd⟩ : ∃ Wd, Wd = (Wc2.setCell ⟨F, 0, none⟩ (.int .i64 s2)).setCell ⟨F, 1, none⟩ (.slice x2 y2 z2) := ⟨_, rfl⟩
  have HQ : Hid (TS w [(F, .cells #[.int .i64 s2, .slice x2 y2 z2] 25), (E, .cells #[.int .i64 s2, .slice q2 m2 p2] 25), (D, .cells #[.int .i64 sec, vw] 25), (B, .cells #[.int .i64 sec, .slice (some ⟨g, 0, none⟩) n (n + 2)] 25)] g l vw Wd2) := by
    show TS _ _ _ _ _ _
    rw [hWd]
    refine TS.lay (L1 := []) (L2 := [(E, _), (D, _), (B, _)]) HTc.out rfl HEF.out.2.1 (fun p hp => by cases hp) (fun p hp => ?_) HEF.out.2.2.2.2.2.2.2.1 (fun k hk => HEF.out.2.2.2.2.2.2.2.2.1 k hk) _ _
    simp only [List.mem_cons, List.mem_nil_iff, or_false] at hp
    rcases hp with rfl | rfl | rfl
    · exact Ne.symm HEF.out.2.2.2.2.1
    · exact HEF.out.2.2.2.2.2.2.2.2.2.1
    · exact HEF.out.2.2.2.2.2.2.2.2.2.2
  have HOG : Hid (OwnSegs Wd2 Y1.heap.size (.slice q2 m2 p2) l2) := by
    show World.ownsRow _ _ _ _ _ _ _
    rw [hWd]
    exact own_set (own_set HOc.out HLTS.out.1 _) HLTS.out.1 _
  have HWN : Hid (SegsAt Wd2 (.slice x2 y2 z2) l2) := by
    have : OwnSegs Wd2 Wb2.heap.size (.slice x2 y2 z2) l2 := by
      show World.ownsRow _ _ _ _ _ _ _
      rw [hWd]
      have h1 := HLTS.out.1
      have h2 := HWB.out
      have h3 := HWA.out
      exact own_set (own_set HP.out (by show F < _; omega) _) (by show F < _; omega) _
    exact this.segs
  have HWD : Hid (Wd2.heap.size = Wc2.heap.size) := (show Wd2.heap.size = _ by rw [hWd]; simp [World.setCell])
  rw [← hWd]
  have HBG : Hid (Y1.heap.size ≤ Wd2.heap.size) := (show Y1.heap.size ≤ Wd2.heap.size by have := HWD.out; have := HWC.out; have := HWB.out; have := HWA.out; omega)
  have HNE : Hid (∀ k, (Value.slice q2 m2 p2).ownBlock = some k → k ≠ B ∧ k ≠ D ∧ k ≠ E ∧ k ≠ F ∧ k ≠ g ∧ w.heap.size ≤ k ∧ (∀ k', vw.ownBlock = some k' → k' ≠ k)) := fun k hk => by
    have := HUB.out k hk; have := HLTS.out
    refine ⟨by omega, by omega, by omega, by omega, by omega, by omega, fun k' hk' => ?_⟩
    have := HVW.out k' hk'; omega
  generalize hbg : Y1.heap.size = bg2 at *
  clear hWd HTc HP HOb HOc HUB HTb HVW HLTS hbg x0 x1 fx HWA HWB HWC HWD
  have HTU := Lib.hid (turned Wd2 bg2 s2 s2 (.slice q2 m2 p2) (.slice x2 y2 z2) l2 l2 r2 HOG.out HWN.out HBG.out (by simp [sameB]))
  have e0 : Wd2.cell? ⟨E, 0, none⟩ = some (.int .i64 s2) := blk_cell HQ.out.kp.b1 0
  have e1 : Wd2.cell? ⟨E, 1, none⟩ = some (.slice q2 m2 p2) := blk_cell HQ.out.kp.b1 1
  have f0 : Wd2.cell? ⟨F, 0, none⟩ = some (.int .i64 s2) := blk_cell HQ.out.kp.b0 0
  have f1 : Wd2.cell? ⟨F, 1, none⟩ = some (.slice x2 y2 z2) := blk_cell HQ.out.kp.b0 1
  unfold ringV at HTU
  go_wp2_with fail
  refine HTU.out.mono ?_
  rintro e X2 ⟨rfl, hf⟩
  have HX2 : Hid (TS w [(F, .cells #[.int .i64 s2, .slice x2 y2 z2] 25), (E, .cells #[.int .i64 s2, .slice q2 m2 p2] 25), (D, .cells #[.int .i64 sec, vw] 25), (B, .cells #[.int .i64 sec, .slice (some ⟨g, 0, none⟩) n (n + 2)] 25)] g l vw X2) := by
    have hs1 := blk_lt HQ.out.kp.b0
    have hs2 := blk_lt HQ.out.kp.b1
    have hs3 := blk_lt HQ.out.kp.b2
    have hs4 := blk_lt HQ.out.kp.b3
    have hs5 := (HQ.out.sht.lt g rfl).2
    have hs0 := HQ.out.kp.below.size
    refine HQ.out.frm hf (fun k hk h => ?_) (fun p hp h => ?_) (fun h => ?_) (fun k hk h => ?_)
    · rcases h with h | h
      · have := HNE.out k h; omega
      · omega
    · simp only [List.mem_cons, List.mem_nil_iff, or_false] at hp
      rcases h with h | h
      · have h2 := HNE.out _ h
        rcases hp with rfl | rfl | rfl | rfl
        · exact h2.2.2.2.1 rfl
        · exact h2.2.2.1 rfl
        · exact h2.2.1 rfl
        · exact h2.1 rfl
      · rcases hp with rfl | rfl | rfl | rfl <;> simp only at h <;> omega
    · rcases h with h | h
      · exact (HNE.out g h).2.2.2.2.1 rfl
      · omega
    · rcases h with h | h
      · exact (HNE.out k h).2.2.2.2.2.2 k hk rfl
      · have := (HQ.out.was.lt k hk).2; omega
  have HWH2 : Hid (Calls Try.prog 23 #[.agg #[.int .i64 sec, .slice (some ⟨g, 0, none⟩) n (n + 2)], .agg #[.int .i64 sec, vw]] X2 fun e w' => e = .returned (.bool true) ∧ Below X2.heap.size X2 w') := by
    have := whole X2 w.heap.size g sec vw l HX2.out.sht HX2.out.was.segs H1000.out
    unfold shtV ringV at this
    rw [← HN.out] at this
    exact this
  have d0 : X2.cell? ⟨D, 0, none⟩ = some (.int .i64 sec) := blk_cell HX2.out.kp.b2 0
  have d1 : X2.cell? ⟨D, 1, none⟩ = some vw := blk_cell HX2.out.kp.b2 1
  have b0 : X2.cell? ⟨B, 0, none⟩ = some (.int .i64 sec) := blk_cell HX2.out.kp.b3 0
  have b1 : X2.cell? ⟨B, 1, none⟩ = some (.slice (some ⟨g, 0, none⟩) n (n + 2)) := blk_cell HX2.out.kp.b3 1
  clear hf HTU HOG HWN HNE HBG e0 e1 f0 f1 HQ
  go_wp2_with fail
  refine HWH2.out.mono ?_
  rintro e Y2 ⟨rfl, hbl⟩
  have HY2 := Lib.hid (HX2.out.step hbl)
  clear hbl HWH2 HX2 d0 d1 b0 b1
  have HG3 := Lib.hid (seald Y2 sec (shtV g l) l HY2.out.sht.segs)
  obtain ⟨F3, hF3⟩ : ∃ x, x = sealF sec l := ⟨_, rfl⟩
  have HR3 : Hid (∀ W', Sht W' w.heap.size g l → Calls Try.prog 37 #[.agg #[.int .i64 sec, .slice (some ⟨g, 0, none⟩) n (n + 2)]] W' fun e w' => ∃ u, e = .returned (.tuple #[.agg #[.int .i64 (secOf sec F3.2), u], .int .i64 F3.1]) ∧ OwnSegs w' W'.heap.size u (segsOf F3.2) ∧ Below W'.heap.size W' w') := fun W' h' => by
    have := sealRef W' sec (shtV g l) l h'.segs
    rw [← hF3] at this
    unfold shtV ringV at this
    rw [← HN.out] at this
    exact this
  rw [← hF3] at HG3
  unfold shtV ringV at HG3
  rw [← HN.out] at HG3
  have b0 : Y2.cell? ⟨B, 0, none⟩ = some (.int .i64 sec) := blk_cell HY2.out.kp.b3 0
  have b1 : Y2.cell? ⟨B, 1, none⟩ = some (.slice (some ⟨g, 0, none⟩) n (n + 2)) := blk_cell HY2.out.kp.b3 1
  have HLTS : Hid (F < Y2.heap.size ∧ E < Y2.heap.size ∧ D < Y2.heap.size ∧ B < Y2.heap.size ∧ g < Y2.heap.size ∧ w.heap.size ≤ Y2.heap.size) := ⟨blk_lt HY2.out.kp.b0, blk_lt HY2.out.kp.b1, blk_lt HY2.out.kp.b2, blk_lt HY2.out.kp.b3, (HY2.out.sht.lt g rfl).2, HY2.out.kp.below.size⟩
  have HVW : Hid (∀ k, vw.ownBlock = some k → k < Y2.heap.size) := fun k hk => (HY2.out.was.lt k hk).2
  generalize secOf sec F3.2 = s3 at *
  generalize segsOf F3.2 = l3 at *
  generalize F3.1 = r3 at *
  clear hF3
  go_wp2_with fail
  refine HG3.out.mono ?_
  rintro e Wa3 ⟨u, rfl, ho, hbl⟩
  have HTa := Lib.hid (HY2.out.step hbl)
  obtain ⟨q3, m3, p3, rfl⟩ := own_sl ho
  have HO := Lib.hid ho
  have HWA : Hid (Y2.heap.size ≤ Wa3.heap.size) := hbl.size
  have HUB : Hid (∀ k, (Value.slice q3 m3 p3).ownBlock = some k → Y2.heap.size ≤ k) := fun k hk => (ho.lt k hk).1
  have x0 : Wa3.cell? ⟨E, 0, none⟩ = some (.int .i64 s2) := blk_cell HTa.out.kp.b1 0
  have x1 : Wa3.cell? ⟨E, 1, none⟩ = some (.slice q2 m2 p2) := blk_cell HTa.out.kp.b1 1
  have fx := fun r => blk_frozen HTa.out.kp.b1 r
  clear hbl ho b0 b1 HG3
  go_upto_region 14 with fail
  obtain ⟨Wb3, hWb⟩ : ∃ Wb, Wb = (Wa3.setCell ⟨E, 0, none⟩ (.int .i64 s3)).setCell ⟨E, 1, none⟩ (.slice q3 m3 p3) := ⟨_, rfl⟩
  have HTb : Hid (TS w [(F, .cells #[.int .i64 s2, .slice x2 y2 z2] 25), (E, .cells #[.int .i64 s3, .slice q3 m3 p3] 25), (D, .cells #[.int .i64 sec, vw] 25), (B, .cells #[.int .i64 sec, .slice (some ⟨g, 0, none⟩) n (n + 2)] 25)] g l vw Wb3) := by
    show TS _ _ _ _ _ _
    rw [hWb]
    have hl := HLTS.out
    refine TS.lay (L1 := [(F, _)]) (L2 := [(D, _), (B, _)]) HTa.out rfl HEF.out.1 (fun p hp => ?_) (fun p hp => ?_) HEF.out.2.2.1 (fun k hk => HEF.out.2.2.2.1 k hk) _ _
    · simp only [List.mem_cons, List.mem_nil_iff, or_false] at hp; subst hp; exact HEF.out.2.2.2.2.1
    · simp only [List.mem_cons, List.mem_nil_iff, or_false] at hp
      rcases hp with rfl | rfl
      · exact HEF.out.2.2.2.2.2.1
      · exact HEF.out.2.2.2.2.2.2.1
  have HOb : Hid (OwnSegs Wb3 Y2.heap.size (.slice q3 m3 p3) l3) := by
    show World.ownsRow _ _ _ _ _ _ _
    rw [hWb]
    exact own_set (own_set HO.out HLTS.out.2.1 _) HLTS.out.2.1 _
  have HWB : Hid (Wb3.heap.size = Wa3.heap.size) := (show Wb3.heap.size = _ by rw [hWb]; simp [World.setCell])
  rw [← hWb]
  have HR := Lib.hid (HR3.out Wb3 HTb.out.sht)
  have b0 : Wb3.cell? ⟨B, 0, none⟩ = some (.int .i64 sec) := blk_cell HTb.out.kp.b3 0
  have b1 : Wb3.cell? ⟨B, 1, none⟩ = some (.slice (some ⟨g, 0, none⟩) n (n + 2)) := blk_cell HTb.out.kp.b3 1
  clear hWb HR3 HTa HO x0 x1 fx
  go_wp2_with fail
  refine HR.out.mono ?_
  rintro e Wc3 ⟨u, rfl, ho, hbl⟩
  have HTc := Lib.hid (HTb.out.step hbl)
  have HOc : Hid (OwnSegs Wc3 Y2.heap.size (.slice q3 m3 p3) l3) := HOb.out.below hbl
  obtain ⟨x3, y3, z3, rfl⟩ := own_sl ho
  have HP := Lib.hid ho
  have HWC : Hid (Wb3.heap.size ≤ Wc3.heap.size) := hbl.size
  have x0 : Wc3.cell? ⟨F, 0, none⟩ = some (.int .i64 s2) := blk_cell HTc.out.kp.b0 0
  have x1 : Wc3.cell? ⟨F, 1, none⟩ = some (.slice x2 y2 z2) := blk_cell HTc.out.kp.b0 1
  have fx := fun r => blk_frozen HTc.out.kp.b0 r
  clear hbl ho b0 b1 HR
  go_upto_region 15 with fail
  obtain ⟨Wd3, hWd⟩ : ∃ Wd, Wd = (Wc3.setCell ⟨F, 0, none⟩ (.int .i64 s3)).setCell ⟨F, 1, none⟩ (.slice x3 y3 z3) := ⟨_, rfl⟩
  have HQ : Hid (TS w [(F, .cells #[.int .i64 s3, .slice x3 y3 z3] 25), (E, .cells #[.int .i64 s3, .slice q3 m3 p3] 25), (D, .cells #[.int .i64 sec, vw] 25), (B, .cells #[.int .i64 sec, .slice (some ⟨g, 0, none⟩) n (n + 2)] 25)] g l vw Wd3) := by
    show TS _ _ _ _ _ _
    rw [hWd]
    refine TS.lay (L1 := []) (L2 := [(E, _), (D, _), (B, _)]) HTc.out rfl HEF.out.2.1 (fun p hp => by cases hp) (fun p hp => ?_) HEF.out.2.2.2.2.2.2.2.1 (fun k hk => HEF.out.2.2.2.2.2.2.2.2.1 k hk) _ _
    simp only [List.mem_cons, List.mem_nil_iff, or_false] at hp
    rcases hp with rfl | rfl | rfl
    · exact Ne.symm HEF.out.2.2.2.2.1
    · exact HEF.out.2.2.2.2.2.2.2.2.2.1
    · exact HEF.out.2.2.2.2.2.2.2.2.2.2
  have HOG : Hid (OwnSegs Wd3 Y2.heap.size (.slice q3 m3 p3) l3) := by
    show World.ownsRow _ _ _ _ _ _ _
    rw [hWd]
    exact own_set (own_set HOc.out HLTS.out.1 _) HLTS.out.1 _
  have HWN : Hid (SegsAt Wd3 (.slice x3 y3 z3) l3) := by
    have : OwnSegs Wd3 Wb3.heap.size (.slice x3 y3 z3) l3 := by
      show World.ownsRow _ _ _ _ _ _ _
      rw [hWd]
      have h1 := HLTS.out.1
      have h2 := HWB.out
      have h3 := HWA.out
      exact own_set (own_set HP.out (by show F < _; omega) _) (by show F < _; omega) _
    exact this.segs
  have HWD : Hid (Wd3.heap.size = Wc3.heap.size) := (show Wd3.heap.size = _ by rw [hWd]; simp [World.setCell])
  rw [← hWd]
  have HBG : Hid (Y2.heap.size ≤ Wd3.heap.size) := (show Y2.heap.size ≤ Wd3.heap.size by have := HWD.out; have := HWC.out; have := HWB.out; have := HWA.out; omega)
  have HNE : Hid (∀ k, (Value.slice q3 m3 p3).ownBlock = some k → k ≠ B ∧ k ≠ D ∧ k ≠ E ∧ k ≠ F ∧ k ≠ g ∧ w.heap.size ≤ k ∧ (∀ k', vw.ownBlock = some k' → k' ≠ k)) := fun k hk => by
    have := HUB.out k hk; have := HLTS.out
    refine ⟨by omega, by omega, by omega, by omega, by omega, by omega, fun k' hk' => ?_⟩
    have := HVW.out k' hk'; omega
  generalize hbg : Y2.heap.size = bg3 at *
  clear hWd HTc HP HOb HOc HUB HTb HVW HLTS hbg x0 x1 fx HWA HWB HWC HWD
  have HTU := Lib.hid (turned Wd3 bg3 s3 s3 (.slice q3 m3 p3) (.slice x3 y3 z3) l3 l3 r3 HOG.out HWN.out HBG.out (by simp [sameB]))
  have e0 : Wd3.cell? ⟨E, 0, none⟩ = some (.int .i64 s3) := blk_cell HQ.out.kp.b1 0
  have e1 : Wd3.cell? ⟨E, 1, none⟩ = some (.slice q3 m3 p3) := blk_cell HQ.out.kp.b1 1
  have f0 : Wd3.cell? ⟨F, 0, none⟩ = some (.int .i64 s3) := blk_cell HQ.out.kp.b0 0
  have f1 : Wd3.cell? ⟨F, 1, none⟩ = some (.slice x3 y3 z3) := blk_cell HQ.out.kp.b0 1
  unfold ringV at HTU
  go_wp2_with fail
  refine HTU.out.mono ?_
  rintro e X3 ⟨rfl, hf⟩
  have HX3 : Hid (TS w [(F, .cells #[.int .i64 s3, .slice x3 y3 z3] 25), (E, .cells #[.int .i64 s3, .slice q3 m3 p3] 25), (D, .cells #[.int .i64 sec, vw] 25), (B, .cells #[.int .i64 sec, .slice (some ⟨g, 0, none⟩) n (n + 2)] 25)] g l vw X3) := by
    have hs1 := blk_lt HQ.out.kp.b0
    have hs2 := blk_lt HQ.out.kp.b1
    have hs3 := blk_lt HQ.out.kp.b2
    have hs4 := blk_lt HQ.out.kp.b3
    have hs5 := (HQ.out.sht.lt g rfl).2
    have hs0 := HQ.out.kp.below.size
    refine HQ.out.frm hf (fun k hk h => ?_) (fun p hp h => ?_) (fun h => ?_) (fun k hk h => ?_)
    · rcases h with h | h
      · have := HNE.out k h; omega
      · omega
    · simp only [List.mem_cons, List.mem_nil_iff, or_false] at hp
      rcases h with h | h
      · have h2 := HNE.out _ h
        rcases hp with rfl | rfl | rfl | rfl
        · exact h2.2.2.2.1 rfl
        · exact h2.2.2.1 rfl
        · exact h2.2.1 rfl
        · exact h2.1 rfl
      · rcases hp with rfl | rfl | rfl | rfl <;> simp only at h <;> omega
    · rcases h with h | h
      · exact (HNE.out g h).2.2.2.2.1 rfl
      · omega
    · rcases h with h | h
      · exact (HNE.out k h).2.2.2.2.2.2 k hk rfl
      · have := (HQ.out.was.lt k hk).2; omega
  have HWH3 : Hid (Calls Try.prog 23 #[.agg #[.int .i64 sec, .slice (some ⟨g, 0, none⟩) n (n + 2)], .agg #[.int .i64 sec, vw]] X3 fun e w' => e = .returned (.bool true) ∧ Below X3.heap.size X3 w') := by
    have := whole X3 w.heap.size g sec vw l HX3.out.sht HX3.out.was.segs H1000.out
    unfold shtV ringV at this
    rw [← HN.out] at this
    exact this
  have d0 : X3.cell? ⟨D, 0, none⟩ = some (.int .i64 sec) := blk_cell HX3.out.kp.b2 0
  have d1 : X3.cell? ⟨D, 1, none⟩ = some vw := blk_cell HX3.out.kp.b2 1
  have b0 : X3.cell? ⟨B, 0, none⟩ = some (.int .i64 sec) := blk_cell HX3.out.kp.b3 0
  have b1 : X3.cell? ⟨B, 1, none⟩ = some (.slice (some ⟨g, 0, none⟩) n (n + 2)) := blk_cell HX3.out.kp.b3 1
  clear hf HTU HOG HWN HNE HBG e0 e1 f0 f1 HQ
  go_wp2_with fail
  refine HWH3.out.mono ?_
  rintro e Y3 ⟨rfl, hbl⟩
  have HY3 := Lib.hid (HX3.out.step hbl)
  clear hbl HWH3 HX3 d0 d1 b0 b1
  have HG4 := Lib.hid (freed Y3 sec (shtV g l) l m HY3.out.sht.segs)
  obtain ⟨F4, hF4⟩ : ∃ x, x = freeF sec l m := ⟨_, rfl⟩
  have HR4 : Hid (∀ W', Sht W' w.heap.size g l → Calls Try.prog 39 #[.agg #[.int .i64 sec, .slice (some ⟨g, 0, none⟩) n (n + 2)], .int .i64 m] W' fun e w' => ∃ u, e = .returned (.tuple #[.agg #[.int .i64 (secOf sec F4.2), u], .int .i64 F4.1]) ∧ OwnSegs w' W'.heap.size u (segsOf F4.2) ∧ Below W'.heap.size W' w') := fun W' h' => by
    have := freedRef W' sec (shtV g l) l m h'.segs
    rw [← hF4] at this
    unfold shtV ringV at this
    rw [← HN.out] at this
    exact this
  rw [← hF4] at HG4
  unfold shtV ringV at HG4
  rw [← HN.out] at HG4
  have b0 : Y3.cell? ⟨B, 0, none⟩ = some (.int .i64 sec) := blk_cell HY3.out.kp.b3 0
  have b1 : Y3.cell? ⟨B, 1, none⟩ = some (.slice (some ⟨g, 0, none⟩) n (n + 2)) := blk_cell HY3.out.kp.b3 1
  have HLTS : Hid (F < Y3.heap.size ∧ E < Y3.heap.size ∧ D < Y3.heap.size ∧ B < Y3.heap.size ∧ g < Y3.heap.size ∧ w.heap.size ≤ Y3.heap.size) := ⟨blk_lt HY3.out.kp.b0, blk_lt HY3.out.kp.b1, blk_lt HY3.out.kp.b2, blk_lt HY3.out.kp.b3, (HY3.out.sht.lt g rfl).2, HY3.out.kp.below.size⟩
  have HVW : Hid (∀ k, vw.ownBlock = some k → k < Y3.heap.size) := fun k hk => (HY3.out.was.lt k hk).2
  generalize secOf sec F4.2 = s4 at *
  generalize segsOf F4.2 = l4 at *
  generalize F4.1 = r4 at *
  clear hF4
  go_wp2_with fail
  refine HG4.out.mono ?_
  rintro e Wa4 ⟨u, rfl, ho, hbl⟩
  have HTa := Lib.hid (HY3.out.step hbl)
  obtain ⟨q4, m4, p4, rfl⟩ := own_sl ho
  have HO := Lib.hid ho
  have HWA : Hid (Y3.heap.size ≤ Wa4.heap.size) := hbl.size
  have HUB : Hid (∀ k, (Value.slice q4 m4 p4).ownBlock = some k → Y3.heap.size ≤ k) := fun k hk => (ho.lt k hk).1
  have x0 : Wa4.cell? ⟨E, 0, none⟩ = some (.int .i64 s3) := blk_cell HTa.out.kp.b1 0
  have x1 : Wa4.cell? ⟨E, 1, none⟩ = some (.slice q3 m3 p3) := blk_cell HTa.out.kp.b1 1
  have fx := fun r => blk_frozen HTa.out.kp.b1 r
  clear hbl ho b0 b1 HG4
  go_upto_region 18 with fail
  obtain ⟨Wb4, hWb⟩ : ∃ Wb, Wb = (Wa4.setCell ⟨E, 0, none⟩ (.int .i64 s4)).setCell ⟨E, 1, none⟩ (.slice q4 m4 p4) := ⟨_, rfl⟩
  have HTb : Hid (TS w [(F, .cells #[.int .i64 s3, .slice x3 y3 z3] 25), (E, .cells #[.int .i64 s4, .slice q4 m4 p4] 25), (D, .cells #[.int .i64 sec, vw] 25), (B, .cells #[.int .i64 sec, .slice (some ⟨g, 0, none⟩) n (n + 2)] 25)] g l vw Wb4) := by
    show TS _ _ _ _ _ _
    rw [hWb]
    have hl := HLTS.out
    refine TS.lay (L1 := [(F, _)]) (L2 := [(D, _), (B, _)]) HTa.out rfl HEF.out.1 (fun p hp => ?_) (fun p hp => ?_) HEF.out.2.2.1 (fun k hk => HEF.out.2.2.2.1 k hk) _ _
    · simp only [List.mem_cons, List.mem_nil_iff, or_false] at hp; subst hp; exact HEF.out.2.2.2.2.1
    · simp only [List.mem_cons, List.mem_nil_iff, or_false] at hp
      rcases hp with rfl | rfl
      · exact HEF.out.2.2.2.2.2.1
      · exact HEF.out.2.2.2.2.2.2.1
  have HOb : Hid (OwnSegs Wb4 Y3.heap.size (.slice q4 m4 p4) l4) := by
    show World.ownsRow _ _ _ _ _ _ _
    rw [hWb]
    exact own_set (own_set HO.out HLTS.out.2.1 _) HLTS.out.2.1 _
  have HWB : Hid (Wb4.heap.size = Wa4.heap.size) := (show Wb4.heap.size = _ by rw [hWb]; simp [World.setCell])
  rw [← hWb]
  have HR := Lib.hid (HR4.out Wb4 HTb.out.sht)
  have b0 : Wb4.cell? ⟨B, 0, none⟩ = some (.int .i64 sec) := blk_cell HTb.out.kp.b3 0
  have b1 : Wb4.cell? ⟨B, 1, none⟩ = some (.slice (some ⟨g, 0, none⟩) n (n + 2)) := blk_cell HTb.out.kp.b3 1
  clear hWb HR4 HTa HO x0 x1 fx
  go_wp2_with fail
  refine HR.out.mono ?_
  rintro e Wc4 ⟨u, rfl, ho, hbl⟩
  have HTc := Lib.hid (HTb.out.step hbl)
  have HOc : Hid (OwnSegs Wc4 Y3.heap.size (.slice q4 m4 p4) l4) := HOb.out.below hbl
  obtain ⟨x4, y4, z4, rfl⟩ := own_sl ho
  have HP := Lib.hid ho
  have HWC : Hid (Wb4.heap.size ≤ Wc4.heap.size) := hbl.size
  have x0 : Wc4.cell? ⟨F, 0, none⟩ = some (.int .i64 s3) := blk_cell HTc.out.kp.b0 0
  have x1 : Wc4.cell? ⟨F, 1, none⟩ = some (.slice x3 y3 z3) := blk_cell HTc.out.kp.b0 1
  have fx := fun r => blk_frozen HTc.out.kp.b0 r
  clear hbl ho b0 b1 HR
  go_upto_region 19 with fail
  obtain ⟨Wd4, hWd⟩ : ∃ Wd, Wd = (Wc4.setCell ⟨F, 0, none⟩ (.int .i64 s4)).setCell ⟨F, 1, none⟩ (.slice x4 y4 z4) := ⟨_, rfl⟩
  have HQ : Hid (TS w [(F, .cells #[.int .i64 s4, .slice x4 y4 z4] 25), (E, .cells #[.int .i64 s4, .slice q4 m4 p4] 25), (D, .cells #[.int .i64 sec, vw] 25), (B, .cells #[.int .i64 sec, .slice (some ⟨g, 0, none⟩) n (n + 2)] 25)] g l vw Wd4) := by
    show TS _ _ _ _ _ _
    rw [hWd]
    refine TS.lay (L1 := []) (L2 := [(E, _), (D, _), (B, _)]) HTc.out rfl HEF.out.2.1 (fun p hp => by cases hp) (fun p hp => ?_) HEF.out.2.2.2.2.2.2.2.1 (fun k hk => HEF.out.2.2.2.2.2.2.2.2.1 k hk) _ _
    simp only [List.mem_cons, List.mem_nil_iff, or_false] at hp
    rcases hp with rfl | rfl | rfl
    · exact Ne.symm HEF.out.2.2.2.2.1
    · exact HEF.out.2.2.2.2.2.2.2.2.2.1
    · exact HEF.out.2.2.2.2.2.2.2.2.2.2
  have HOG : Hid (OwnSegs Wd4 Y3.heap.size (.slice q4 m4 p4) l4) := by
    show World.ownsRow _ _ _ _ _ _ _
    rw [hWd]
    exact own_set (own_set HOc.out HLTS.out.1 _) HLTS.out.1 _
  have HWN : Hid (SegsAt Wd4 (.slice x4 y4 z4) l4) := by
    have : OwnSegs Wd4 Wb4.heap.size (.slice x4 y4 z4) l4 := by
      show World.ownsRow _ _ _ _ _ _ _
      rw [hWd]
      have h1 := HLTS.out.1
      have h2 := HWB.out
      have h3 := HWA.out
      exact own_set (own_set HP.out (by show F < _; omega) _) (by show F < _; omega) _
    exact this.segs
  have HWD : Hid (Wd4.heap.size = Wc4.heap.size) := (show Wd4.heap.size = _ by rw [hWd]; simp [World.setCell])
  rw [← hWd]
  have HBG : Hid (Y3.heap.size ≤ Wd4.heap.size) := (show Y3.heap.size ≤ Wd4.heap.size by have := HWD.out; have := HWC.out; have := HWB.out; have := HWA.out; omega)
  have HNE : Hid (∀ k, (Value.slice q4 m4 p4).ownBlock = some k → k ≠ B ∧ k ≠ D ∧ k ≠ E ∧ k ≠ F ∧ k ≠ g ∧ w.heap.size ≤ k ∧ (∀ k', vw.ownBlock = some k' → k' ≠ k)) := fun k hk => by
    have := HUB.out k hk; have := HLTS.out
    refine ⟨by omega, by omega, by omega, by omega, by omega, by omega, fun k' hk' => ?_⟩
    have := HVW.out k' hk'; omega
  generalize hbg : Y3.heap.size = bg4 at *
  clear hWd HTc HP HOb HOc HUB HTb HVW HLTS hbg x0 x1 fx HWA HWB HWC HWD
  have HTU := Lib.hid (turned Wd4 bg4 s4 s4 (.slice q4 m4 p4) (.slice x4 y4 z4) l4 l4 r4 HOG.out HWN.out HBG.out (by simp [sameB]))
  have e0 : Wd4.cell? ⟨E, 0, none⟩ = some (.int .i64 s4) := blk_cell HQ.out.kp.b1 0
  have e1 : Wd4.cell? ⟨E, 1, none⟩ = some (.slice q4 m4 p4) := blk_cell HQ.out.kp.b1 1
  have f0 : Wd4.cell? ⟨F, 0, none⟩ = some (.int .i64 s4) := blk_cell HQ.out.kp.b0 0
  have f1 : Wd4.cell? ⟨F, 1, none⟩ = some (.slice x4 y4 z4) := blk_cell HQ.out.kp.b0 1
  unfold ringV at HTU
  go_wp2_with fail
  refine HTU.out.mono ?_
  rintro e X4 ⟨rfl, hf⟩
  have HX4 : Hid (TS w [(F, .cells #[.int .i64 s4, .slice x4 y4 z4] 25), (E, .cells #[.int .i64 s4, .slice q4 m4 p4] 25), (D, .cells #[.int .i64 sec, vw] 25), (B, .cells #[.int .i64 sec, .slice (some ⟨g, 0, none⟩) n (n + 2)] 25)] g l vw X4) := by
    have hs1 := blk_lt HQ.out.kp.b0
    have hs2 := blk_lt HQ.out.kp.b1
    have hs3 := blk_lt HQ.out.kp.b2
    have hs4 := blk_lt HQ.out.kp.b3
    have hs5 := (HQ.out.sht.lt g rfl).2
    have hs0 := HQ.out.kp.below.size
    refine HQ.out.frm hf (fun k hk h => ?_) (fun p hp h => ?_) (fun h => ?_) (fun k hk h => ?_)
    · rcases h with h | h
      · have := HNE.out k h; omega
      · omega
    · simp only [List.mem_cons, List.mem_nil_iff, or_false] at hp
      rcases h with h | h
      · have h2 := HNE.out _ h
        rcases hp with rfl | rfl | rfl | rfl
        · exact h2.2.2.2.1 rfl
        · exact h2.2.2.1 rfl
        · exact h2.2.1 rfl
        · exact h2.1 rfl
      · rcases hp with rfl | rfl | rfl | rfl <;> simp only at h <;> omega
    · rcases h with h | h
      · exact (HNE.out g h).2.2.2.2.1 rfl
      · omega
    · rcases h with h | h
      · exact (HNE.out k h).2.2.2.2.2.2 k hk rfl
      · have := (HQ.out.was.lt k hk).2; omega
  have HWH4 : Hid (Calls Try.prog 23 #[.agg #[.int .i64 sec, .slice (some ⟨g, 0, none⟩) n (n + 2)], .agg #[.int .i64 sec, vw]] X4 fun e w' => e = .returned (.bool true) ∧ Below X4.heap.size X4 w') := by
    have := whole X4 w.heap.size g sec vw l HX4.out.sht HX4.out.was.segs H1000.out
    unfold shtV ringV at this
    rw [← HN.out] at this
    exact this
  have d0 : X4.cell? ⟨D, 0, none⟩ = some (.int .i64 sec) := blk_cell HX4.out.kp.b2 0
  have d1 : X4.cell? ⟨D, 1, none⟩ = some vw := blk_cell HX4.out.kp.b2 1
  have b0 : X4.cell? ⟨B, 0, none⟩ = some (.int .i64 sec) := blk_cell HX4.out.kp.b3 0
  have b1 : X4.cell? ⟨B, 1, none⟩ = some (.slice (some ⟨g, 0, none⟩) n (n + 2)) := blk_cell HX4.out.kp.b3 1
  clear hf HTU HOG HWN HNE HBG e0 e1 f0 f1 HQ
  go_wp2_with fail
  refine HWH4.out.mono ?_
  rintro e Y4 ⟨rfl, hbl⟩
  have HY4 := Lib.hid (HX4.out.step hbl)
  clear hbl HWH4 HX4 d0 d1 b0 b1
  go_wp2_with fail
  go_ret
  exact ⟨rfl, HY4.out.kp.below⟩

theorem ringTurnsW.walk (v0 : Value) (a1 a2 : Int) (w : World) {H : Type} {enc : TypeId × Value → H} {base b0 : Nat} {spare : Nat → Bool} {held : Bool} {d0 : DataW H} {p0 : List MemPlace} {r : Reach}
    (w0 : Value.okWide Try.prog w r b0 25 v0) (h0 : DataW.Trod enc Try.prog w base spare held 25 v0 d0 p0) (w1 : (Lit.int .u64 a1).wf = true) (w2 : (Lit.int .i64 a2).wf = true) :
    Calls Try.prog 6 #[v0, .int .u64 a1, .int .i64 a2] w fun e w' => e = .returned (.bool true) ∧ Below w.heap.size w w' := by
  obtain ⟨sa, va, la, rfl, ha⟩ := open_ring w0 h0
  obtain ⟨g, rfl⟩ := Int.eq_ofNat_of_zero_le (bounds_u64 w1).1
  exact ringTurns w sa va la g a2 ha
end Go.Proofs.Ytlcdadnfcdjglaa
