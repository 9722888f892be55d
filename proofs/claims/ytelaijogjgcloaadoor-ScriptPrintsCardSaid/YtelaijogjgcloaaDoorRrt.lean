/- The document's Right: may a script be? Condition: the script lies in memory. -/
import Derived.Test.YtelaijogjgcloaaDoorRri
import Derived.Test.YtelaijogjgcloaaDoorRre
set_option linter.unusedVariables false
set_option linter.unusedSimpArgs false
namespace Go.Proofs.YtelaijogjgcloaaDoor
open Go.RowKit Go.Ice Go.Scr

set_option maxHeartbeats 16000000 in
set_option maxRecDepth 20000 in
theorem right14 (w : World) (u : Value) (sc : Scr) (hs : ScrAt w u sc) :
    Calls Tryd.prog 14 #[u] w fun e w' => e = .returned (.bool (checkS sc)) ∧ Below w.heap.size w w' := by
  obtain ⟨v, rfl, hv⟩ := hs
  obtain ⟨rr, hrr⟩ : ∃ rr, rr = checkS sc := ⟨_, rfl⟩
  rw [← hrr]
  have HR := Lib.hid hrr
  have HV := Lib.hid hv
  obtain ⟨a, cap, rfl, hm⟩ := hv.form
  obtain ⟨S, W0, HB, HW, HK, HZ⟩ := boxed1 w #[.int .i64 sc.plan.g, .int .i64 sc.plan.s, .int .i64 sc.plan.l, .int .i64 sc.plan.p, .int .i64 sc.plan.c, .slice a sc.evs.length cap] 26
  have HPC := rightPlan34 W0 sc.plan
  clear hrr hv
  unfold scrV
  obtain ⟨ne, hne⟩ : ∃ ne, ne = sc.evs.length := ⟨_, rfl⟩
  rw [← hne] at HW HK HV hm ⊢
  have HNE := Lib.hid hne
  clear hne
  unfold maxLen at hm
  obtain ⟨p, evs⟩ := sc
  dsimp only at HPC HW HK HV HNE ⊢
  obtain ⟨pb, hpb⟩ : ∃ pb, pb = planB p := ⟨_, rfl⟩
  rw [← hpb] at HPC
  have HPB := Lib.hid hpb
  clear hpb
  have b0 : W0.cell? ⟨S, 0, none⟩ = some (.int .i64 p.g) := blk_cell HK.out.b0 0
  have b1 : W0.cell? ⟨S, 1, none⟩ = some (.int .i64 p.s) := blk_cell HK.out.b0 1
  have b2 : W0.cell? ⟨S, 2, none⟩ = some (.int .i64 p.l) := blk_cell HK.out.b0 2
  have b3 : W0.cell? ⟨S, 3, none⟩ = some (.int .i64 p.p) := blk_cell HK.out.b0 3
  have b4 : W0.cell? ⟨S, 4, none⟩ = some (.int .i64 p.c) := blk_cell HK.out.b0 4
  go_enter Tryd.func14, Tryd.ntmps14
  go_upto_region 1 with fail
  rw [HB.out, HW.out]
  clear HB HW
  go_wp2_with fail
  refine HPC.mono ?_
  rintro e w1 ⟨rfl, hb1⟩
  have HK1 := Lib.hid (HK.out.step hb1)
  clear b0 b1 b2 b3 b4 hb1 HPC
  cases pb with
  | false =>
    have HX : Hid (rr = false) := by show _ = _; rw [HR.out]; unfold checkS; dsimp only; rw [← HPB.out]; rfl
    go_wp2_with fail
    go_ret
    exact ⟨by rw [HX.out]; rfl, HK1.out.below⟩
  | true =>
    have b5 : w1.cell? ⟨S, 5, none⟩ = some (.slice a ne cap) := blk_cell HK1.out.b0 5
    by_cases hl : (200 : Int) < (ne : Nat)
    · have HX : Hid (rr = false) := by
        show _ = _
        rw [HR.out]; unfold checkS; dsimp only
        rw [decide_eq_false (by rw [← HNE.out]; omega)]; simp
      go_wp2_with fail
      go_ret
      exact ⟨by rw [HX.out]; rfl, HK1.out.below⟩
    · have HX : Hid (rr = evs.all (rightE p)) := by
        show _ = _
        rw [HR.out]; unfold checkS; dsimp only
        rw [← HPB.out, decide_eq_true (by rw [← HNE.out]; omega)]; simp
      go_wp2_with fail
      go_loopg [4, 18] ne (fun g xv kv wr => ∃ (k : Nat), g = ne - k ∧ k ≤ ne ∧ kv = .int .i64 k ∧ Hid (Below w1.heap.size w1 wr ∧ (evs.take k).all (rightE p) = true))
      case atStart => exact ⟨0, rfl, by omega, rfl, Below.refl _ _, by simp⟩
      case round =>
        clear b5 hl
        obtain ⟨k, rfl, hk, rfl, HJ⟩ := hrel
        by_cases hlt : k < ne
        · have hkl : k < evs.length := by rw [← HNE.out]; exact hlt
          obtain ⟨x, hx⟩ : ∃ x, evs[k]? = some x := ⟨evs[k], List.getElem?_eq_getElem hkl⟩
          have HX9 := Lib.hid hx
          obtain ⟨bs, off, cap', vb, vk, e1, e2, e3, e4, q0, q1, q2, q3, q4, hb, hk'⟩ := HV.out.at hx
          have HJW : Hid (Below w.heap.size w wr) := HK1.out.below.trans (HJ.out.1.mono HK1.out.below.size)
          rw [← HJW.out.cell (p := ⟨bs, _, none⟩) e4] at q0 q1 q2 q3 q4
          rw [← HNE.out] at e1 e2
          injection e1 with x1 x2 x3
          subst x1 x3
          obtain ⟨ab, cb, rfl, hmb⟩ := hb.form
          obtain ⟨ak, ck, rfl, hmk⟩ := hk'.form
          obtain ⟨X, W6, HXE, HW6, HK6, HZ6⟩ := boxed1 wr #[.int .i64 x.kind, .int .i64 x.conn, .int .i64 x.n, .slice ab x.bytes.length cb, .slice ak x.keep.length ck] 41
          have HB6 := Lib.hid (HJW.out.trans (HK6.out.below.mono HJW.out.size))
          have HC := event35 W6 p (.agg #[.int .i64 x.kind, .int .i64 x.conn, .int .i64 x.n, .slice ab x.bytes.length cb, .slice ak x.keep.length ck]) x ⟨_, _, rfl, hb.below HB6.out (Nat.le_refl _), hk'.below HB6.out (Nat.le_refl _)⟩
          have HK16 := Lib.hid (HK1.out.step (HJ.out.1.trans (HK6.out.below.mono HJ.out.1.size)))
          clear hx hb hk' x2 e4 hmb hmk
          unfold maxLen at e3
          obtain ⟨rb, hrb⟩ : ∃ rb, rb = rightE p x := ⟨_, rfl⟩
          rw [← hrb] at HC
          have HRB := Lib.hid hrb
          clear hrb
          have HTK : Hid ((evs.take (k + 1)).all (rightE p) = ((evs.take k).all (rightE p) && rb)) := by
            show _ = _
            rw [List.take_add_one, HX9.out, HRB.out]; simp
          have HXF : Hid (rb = false → rr = false) := fun h => by
            rw [HX.out, Bool.eq_false_iff]
            intro h2
            have := List.all_eq_true.1 h2 x (List.mem_of_getElem? HX9.out)
            rw [← HRB.out, h] at this
            cases this
          clear HX9
          generalize x.bytes.length = nb at *
          generalize x.keep.length = nk at *
          obtain ⟨kind, conn, n, bytes, keep⟩ := x
          dsimp only at q0 q1 q2 q3 q4 HW6 HK6 HC
          have x0 : W6.cell? ⟨X, 0, none⟩ = some (.int .i64 kind) := blk_cell HK6.out.b0 0
          have x1 : W6.cell? ⟨X, 1, none⟩ = some (.int .i64 conn) := blk_cell HK6.out.b0 1
          have x2 : W6.cell? ⟨X, 2, none⟩ = some (.int .i64 n) := blk_cell HK6.out.b0 2
          have x3 : W6.cell? ⟨X, 3, none⟩ = some (.slice ab nb cb) := blk_cell HK6.out.b0 3
          have x4 : W6.cell? ⟨X, 4, none⟩ = some (.slice ak nk ck) := blk_cell HK6.out.b0 4
          have b0 : W6.cell? ⟨S, 0, none⟩ = some (.int .i64 p.g) := blk_cell HK16.out.b0 0
          have b1 : W6.cell? ⟨S, 1, none⟩ = some (.int .i64 p.s) := blk_cell HK16.out.b0 1
          have b2 : W6.cell? ⟨S, 2, none⟩ = some (.int .i64 p.l) := blk_cell HK16.out.b0 2
          have b3 : W6.cell? ⟨S, 3, none⟩ = some (.int .i64 p.p) := blk_cell HK16.out.b0 3
          have b4 : W6.cell? ⟨S, 4, none⟩ = some (.int .i64 p.c) := blk_cell HK16.out.b0 4
          go_upto_region 6 with fail
          rw [HW6.out, HXE.out]
          clear q0 q1 q2 q3 q4 HW6 HXE
          go_wp2_with fail
          refine HC.mono ?_
          rintro e w9 ⟨rfl, hb9⟩
          have HB9 : Hid (Below w1.heap.size w1 w9) := (HJ.out.1.trans (HK6.out.below.mono HJ.out.1.size)).trans (hb9.mono (HJ.out.1.trans (HK6.out.below.mono HJ.out.1.size)).size)
          clear hb9 HC x0 x1 x2 x3 x4 b0 b1 b2 b3 b4
          cases rb with
          | false =>
            have HX0 := Lib.hid (HXF.out rfl)
            go_wp2_with fail
            go_ret
            exact ⟨by rw [HX0.out]; rfl, HK1.out.below.trans (HB9.out.mono HK1.out.below.size)⟩
          | true =>
            go_wp2_with fail
            go_roundg (ne - (k + 1))
            case measure => omega
            case rel => exact ⟨k + 1, rfl, by omega, by go_num, HB9.out, by rw [HTK.out, HJ.out.2]; rfl⟩
        · obtain rfl : k = ne := by omega
          have HX0 : Hid (rr = true) := by
            show _ = _
            have h := HJ.out.2
            rw [HNE.out, List.take_length] at h
            rw [HX.out, h]
          have HJB : Hid (Below w1.heap.size w1 wr) := HJ.out.1
          go_wp2_with fail
          go_ret
          exact ⟨by rw [HX0.out]; rfl, HK1.out.below.trans (HJB.out.mono HK1.out.below.size)⟩
end Go.Proofs.YtelaijogjgcloaaDoor
