/- ideal.step.written. Conditions: the step and the versions lie in memory. -/
import Derived.Test.YtngpffmgkponfaaWrt
set_option linter.unusedVariables false
set_option linter.unusedSimpArgs false
namespace Go.Proofs.Ytngpffmgkponfaa
open Go.RowKit Go.Ice Go.Idl

theorem withCas_ok {c : Int} {t : Tv} (h : Tv.ok t) (h0 : 0 ≤ c) (h1 : c ≤ 18446744073709551615) : Tv.ok (t.withCas c) := ⟨h.1, h.2.1, h.2.2.1, h.2.2.2.1, h.2.2.2.2.1, h0, h1⟩

theorem set_mb {w : World} {mb kb : Nat} {t c : Int} (h : w.heap[mb]? = some (.cells #[.map (some kb), .int .u64 t] 61 (0, 0))) : (w.drew.setCell ⟨mb, 1, none⟩ (.int .u64 c)).heap[mb]? = some (.cells #[.map (some kb), .int .u64 c] 61 (0, 0)) := by
  have h' : w.drew.heap[mb]? = some (.cells #[.map (some kb), .int .u64 t] 61 (0, 0)) := h
  simp [World.setCell, Array.getElem?_modify, h']
/-- A key's versions are put, the token is told. -/
theorem SW.put2 {w : World} {C : Nat → Prop} {sb mb kb : Nat} {q : Rq} {a : An} {now : Int} {r : Raw} {hs : List Tv} {Y : St} {F : List UInt8 → Option Value} {w1 w2 : World} {x1 x2 : Value} {l1 l2 : List Tv} {Y' : St} (h : SW w C sb mb kb q a now r hs Y F) (hb : Below w.heap.size w w1) (hf : Frm (fun x => x = mb ∨ x = kb) w1 w2) (hx : ∃ a1 n1 c1 a2 n2 c2, x1 = .slice a1 n1 c1 ∧ x2 = .slice a2 n2 c2)
    (hm : MapAt strV w2 kb (fun k' => if k' = q.key then some (.agg #[x1, x2]) else F k')) (hmb : w2.heap[mb]? = some (.cells #[.map (some kb), .int .u64 Y'.tok] 61 (0, 0))) (ht : 0 ≤ Y'.tok ∧ Y'.tok ≤ 18446744073709551615)
    (h1 : VersAt w1 (fun b => C b ∨ w.heap.size ≤ b) x1 l1) (h2 : VersAt w1 (fun b => C b ∨ w.heap.size ≤ b) x2 l2)
    (hn : Y'.now = fun k => if k = q.key then l1 else Y.now k) (hs' : Y'.safe = fun k => if k = q.key then l2 else Y.safe k) : Done w w2 C sb mb kb Y' := by
  have hk : ¬ (C kb ∨ w.heap.size ≤ kb) := by
    rintro (e | e)
    · exact h.map.ck e
    · have := h.map.map.lt; omega
  have hmm : ¬ (C mb ∨ w.heap.size ≤ mb) := by
    rintro (e | e)
    · exact h.map.cm e
    · have := blk_lt h.map.blk; omega
  have hC : ∀ b, (C b ∨ w.heap.size ≤ b) → ¬ (b = mb ∨ b = kb) := fun b hb e => by
    rcases e with e | e
    · exact hmm (e ▸ hb)
    · exact hk (e ▸ hb)
  refine ⟨(frm_below hb).trans (hf.mono fun b _ e => .inr e), _, ⟨hmb, hm, fun k => ?_, ht, hmm, hk, h.map.ne⟩⟩
  rw [hn, hs']
  by_cases e : k = q.key
  · obtain ⟨a1, n1, c1, a2, n2, c2, rfl, rfl⟩ := hx
    simp only [e, if_true]
    exact ⟨a1, n1, c1, a2, n2, c2, rfl, h1.frm hf hC, h2.frm hf hC⟩
  · simp only [e, if_false]
    obtain ⟨a1, n1, c1, a2, n2, c2, eF, g1, g2⟩ := h.map.at_ k
    exact ⟨a1, n1, c1, a2, n2, c2, eF, ((g1.below hb).mono fun b _ hb => .inl hb).frm hf hC, ((g2.below hb).mono fun b _ hb => .inl hb).frm hf hC⟩

set_option maxHeartbeats 8000000 in
set_option maxRecDepth 20000 in
theorem written68 (w : World) (C : Nat → Prop) (sb mb kb : Nat) (q : Rq) (a : An) (now : Int) (r : Raw) (hs : List Tv) (Y : St) (F : List UInt8 → Option Value) (h : SW w C sb mb kb q a now r hs Y F)
    (D : Nat → Prop) (v : Value) (l : List Tv) (hl : VersAt w D v l) (hm : l.length ≤ 100000) (hl0 : l ≠ []) (hba : anBare0 a = true) (hlt : Y.tok < a.cas) :
    Calls Try.prog 68 #[.pointer (some ⟨sb, 0, none⟩), v] w fun e w' => e = .returned (.bool true) ∧
      Done w w' C sb mb kb ⟨fun k => if k = q.key then sortT (l.map (Tv.withCas a.cas)) else Y.now k, fun k => if k = q.key then sortT (l.map (Tv.withCas a.cas)) else Y.safe k, a.cas⟩ := by
  have H := Lib.hid h
  obtain ⟨rl, hrl, hvr⟩ := hl
  obtain ⟨va, vc, rfl, _⟩ := hvr.form
  have hn0 : 0 < rl.length := by
    rw [← List.length_map (f := Prod.snd), hrl]; exact List.length_pos_iff.2 hl0
  have hm' : rl.length ≤ 100000 := by rw [← List.length_map (f := Prod.snd), hrl]; exact hm
  have HRL := Lib.hid hrl
  have HVR := Lib.hid hvr
  obtain ⟨n, hn⟩ : ∃ n, n = rl.length := ⟨_, rfl⟩
  rw [← hn] at hn0 hm' ⊢
  have HN := Lib.hid hn
  have q0 := h.cell 0
  have q13 := h.cell 13
  have q14 := h.cell 14
  have q15 := h.cell 15
  have q16 := h.cell 16
  have q17 := h.cell 17
  have q18 := h.cell 18
  have q19 := h.cell 19
  have q1 := h.mcell.2
  simp only [stepC] at q0 q13 q14 q15 q16 q17 q18 q19
  simp at q0 q13 q14 q15 q16 q17 q18 q19
  clear h hvr hrl hn hl0 hm
  obtain ⟨B, W0, HB, HW, HK, HZ⟩ := boxed1 w #[.int .i64 a.st, .slice r.aa a.val.length r.ac, .int .u32 a.fl, .int .u64 0, .int .u64 a.num, .slice r.sa a.stats.length r.sc, .bool a.cl] 38
  have b0 : W0.cell? ⟨B, 0, none⟩ = some (.int .i64 a.st) := blk_cell HK.out.b0 0
  have b1 : W0.cell? ⟨B, 1, none⟩ = some (.slice r.aa a.val.length r.ac) := blk_cell HK.out.b0 1
  have b2 : W0.cell? ⟨B, 2, none⟩ = some (.int .u32 a.fl) := blk_cell HK.out.b0 2
  have b3 : W0.cell? ⟨B, 3, none⟩ = some (.int .u64 0) := blk_cell HK.out.b0 3
  have b4 : W0.cell? ⟨B, 4, none⟩ = some (.int .u64 a.num) := blk_cell HK.out.b0 4
  have b5 : W0.cell? ⟨B, 5, none⟩ = some (.slice r.sa a.stats.length r.sc) := blk_cell HK.out.b0 5
  have b6 : W0.cell? ⟨B, 6, none⟩ = some (.bool a.cl) := blk_cell HK.out.b0 6
  have HQ0 : Hid (W0.cell? ⟨sb, 0, none⟩ = some (.pointer (some ⟨mb, 0, none⟩))) := cellB HK.out.below q0
  have HQ16 : Hid (W0.cell? ⟨sb, 16, none⟩ = some (.int .u64 a.cas)) := cellB HK.out.below q16
  have HQ1 : Hid (W0.cell? ⟨mb, 1, none⟩ = some (.int .u64 Y.tok)) := cellB HK.out.below q1
  have hd : ((n : Int) == 0) = false := by simp; omega
  have HN0 : Hid (¬ n = 0) := by show ¬ n = 0; omega
  have hb := fun W => bare43 W a.st a.fl 0 a.num r.aa r.sa a.val.length r.ac a.stats.length r.sc a.cl
  unfold ansV at hb
  have hbx : bareB a.val.length a.fl 0 a.num a.stats.length a.cl = true := hba
  rw [hbx] at hb
  have HBR := Lib.hid hb
  have hle : decide (a.cas ≤ Y.tok) = false := by simp; omega
  have HLT := Lib.hid hlt
  clear hb hbx hba hlt
  go_enter Try.func68, Try.ntmps68
  go_upto_region 3 with fail
  rw [HB.out, HW.out]
  clear q0 q13 q14 q15 q16 q17 q18 q19 q1
-- REGION C
  refine wp_region_inv2 (by kernel_rfl) (hord_of2 (by kernel_rfl)) (fun done ac W => ac = { tmps := #[(.pointer (some ⟨sb, 0, none⟩)), (.slice va n vc), undef, undef, (.bool false), (.pointer (some ⟨B, 0, none⟩)), undef, (.pointer (some ⟨sb, 0, none⟩)), (.pointer (some ⟨sb, 0, none⟩)), (.pointer (some ⟨sb, 13, none⟩)), (.agg #[.int .i64 a.st, .slice r.aa a.val.length r.ac, .int .u32 a.fl, .int .u64 a.cas, .int .u64 a.num, .slice r.sa a.stats.length r.sc, .bool a.cl]), (.pointer (some ⟨B, 3, none⟩)), if done 0 then (.slice va n vc) else undef, if done 1 then (.int .i64 (n : Nat)) else undef, if done 2 then (.bool false) else undef, if done 3 then (.bool false) else undef, if done 4 then (.agg #[.int .i64 a.st, .slice r.aa a.val.length r.ac, .int .u32 a.fl, .int .u64 0, .int .u64 a.num, .slice r.sa a.stats.length r.sc, .bool a.cl]) else undef, if done 5 then (.bool true) else undef, if done 6 then (.bool false) else undef, if done 7 then (.bool false) else undef, if done 8 then (.bool false) else undef, if done 9 then (.pointer (some ⟨sb, 0, none⟩)) else undef, if done 10 then (.pointer (some ⟨sb, 0, none⟩)) else undef, if done 11 then (.pointer (some ⟨sb, 13, none⟩)) else undef, if done 12 then (.pointer (some ⟨sb, 16, none⟩)) else undef, if done 13 then (.int .u64 a.cas) else undef, if done 14 then (.pointer (some ⟨sb, 0, none⟩)) else undef, if done 15 then (.pointer (some ⟨sb, 0, none⟩)) else undef, if done 16 then (.pointer (some ⟨sb, 0, none⟩)) else undef, if done 17 then (.pointer (some ⟨mb, 0, none⟩)) else undef, if done 18 then (.pointer (some ⟨mb, 0, none⟩)) else undef, if done 19 then (.pointer (some ⟨mb, 1, none⟩)) else undef, if done 20 then (.int .u64 Y.tok) else undef, if done 21 then (.bool false) else undef, if done 22 then (.bool false) else undef, undef, undef, undef, undef, undef, undef, undef, undef, undef, undef, undef, undef, undef, undef, undef, undef, undef, undef, undef, undef, undef, undef, undef, undef, undef, undef, undef, undef, undef, undef, undef, undef, undef, undef, undef, undef, undef, undef, undef, undef, undef, undef, undef, undef], defers := [] } ∧ Hid (Below W0.heap.size W0 W)) ?_ ?_ ?_
  · exact ⟨by simp, (Below.refl _ _).drew⟩
  · intro done ac W j oq ho hd hdep hcl ⟨hlit, HBW⟩
    have hj : j < 23 := (Array.getElem?_eq_some_iff.1 ho).1
    subst hlit
    obtain rfl | rfl | rfl | rfl | rfl | rfl | rfl | rfl | rfl | rfl | rfl | rfl | rfl | rfl | rfl | rfl | rfl | rfl | rfl | rfl | rfl | rfl | rfl : j = 0 ∨ j = 1 ∨ j = 2 ∨ j = 3 ∨ j = 4 ∨ j = 5 ∨ j = 6 ∨ j = 7 ∨ j = 8 ∨ j = 9 ∨ j = 10 ∨ j = 11 ∨ j = 12 ∨ j = 13 ∨ j = 14 ∨ j = 15 ∨ j = 16 ∨ j = 17 ∨ j = 18 ∨ j = 19 ∨ j = 20 ∨ j = 21 ∨ j = 22 := by omega
    · refine wpOp_val ho (by cases ho; rfl) (w' := W) (v := (.slice va n vc)) (by cases ho; simp [execOp, go_sem]) ?_
      cases ho
      exact ⟨by simp [Act.put], HBW⟩
    · have p0 : done 0 = true := by cases ho; exact hdep ⟨0, .data⟩ (by simp) rfl
      refine wpOp_val ho (by cases ho; rfl) (w' := W) (v := (.int .i64 (n : Nat))) (by cases ho; simp [execOp, go_sem, p0]) ?_
      cases ho
      exact ⟨by simp [Act.put], HBW⟩
    · have p1 : done 1 = true := by cases ho; exact hdep ⟨1, .data⟩ (by simp) rfl
      refine wpOp_val ho (by cases ho; rfl) (w' := W) (v := (.bool false)) (by cases ho; simp [execOp, go_sem, p1, hd, HN0.out]) ?_
      cases ho
      exact ⟨by simp [Act.put], HBW⟩
    · have p2 : done 2 = true := by cases ho; exact hdep ⟨2, .data⟩ (by simp) rfl
      refine wpOp_val ho (by cases ho; rfl) (w' := W) (v := (.bool false)) (by cases ho; simp [execOp, go_sem, p2]) ?_
      cases ho
      exact ⟨by simp [Act.put], HBW⟩
    · have p3 : done 3 = true := by cases ho; exact hdep ⟨3, .guard⟩ (by simp) rfl
      refine wpOp_valW ho (by cases ho; simp [Region.wanted, yielded, go_sem, p3]) (w' := W) (v := (.agg #[.int .i64 a.st, .slice r.aa a.val.length r.ac, .int .u32 a.fl, .int .u64 0, .int .u64 a.num, .slice r.sa a.stats.length r.sc, .bool a.cl])) (by cases ho; simp [execOp, go_sem, p3, cellB HBW.out b0, cellB HBW.out b1, cellB HBW.out b2, cellB HBW.out b3, cellB HBW.out b4, cellB HBW.out b5, cellB HBW.out b6]) ?_
      cases ho
      exact ⟨by simp [Act.put], HBW⟩
    · have p3 : done 3 = true := by cases ho; exact hdep ⟨3, .guard⟩ (by simp) rfl
      have p4 : done 4 = true := by cases ho; exact hdep ⟨4, .data⟩ (by simp) rfl
      refine wpOp_callW ho (by cases ho; simp [Region.wanted, yielded, go_sem, p3, p4]) (f := 43) (args := #[.agg #[.int .i64 a.st, .slice r.aa a.val.length r.ac, .int .u32 a.fl, .int .u64 0, .int .u64 a.num, .slice r.sa a.stats.length r.sc, .bool a.cl]]) (by cases ho; simp [execOp, go_sem, p3, p4]) (HBR.out _) ?_
      rintro e w' ⟨rfl, hb1⟩
      cases ho
      exact ⟨_, rfl, by simp [Act.put], HBW.out.trans (hb1.mono HBW.out.size)⟩
    · have p3 : done 3 = true := by cases ho; exact hdep ⟨3, .guard⟩ (by simp) rfl
      have p5 : done 5 = true := by cases ho; exact hdep ⟨5, .data⟩ (by simp) rfl
      refine wpOp_valW ho (by cases ho; simp [Region.wanted, yielded, go_sem, p3, p5]) (w' := W) (v := (.bool false)) (by cases ho; simp [execOp, go_sem, p3, p5]) ?_
      cases ho
      exact ⟨by simp [Act.put], HBW⟩
    · have p3 : done 3 = true := by cases ho; exact hdep ⟨3, .data⟩ (by simp) rfl
      have p6 : done 6 = true := by cases ho; exact hdep ⟨6, .data⟩ (by simp) rfl
      refine wpOp_val ho (by cases ho; rfl) (w' := W) (v := (.bool false)) (by cases ho; simp [execOp, go_sem, p3, p6]) ?_
      cases ho
      exact ⟨by simp [Act.put], HBW⟩
    · have p7 : done 7 = true := by cases ho; exact hdep ⟨7, .data⟩ (by simp) rfl
      refine wpOp_val ho (by cases ho; rfl) (w' := W) (v := (.bool false)) (by cases ho; simp [execOp, go_sem, p7]) ?_
      cases ho
      exact ⟨by simp [Act.put], HBW⟩
    · have p8 : done 8 = true := by cases ho; exact hdep ⟨8, .guard⟩ (by simp) rfl
      refine wpOp_valW ho (by cases ho; simp [Region.wanted, yielded, go_sem, p8]) (w' := W) (v := (.pointer (some ⟨sb, 0, none⟩))) (by cases ho; simp [execOp, go_sem, p8]) ?_
      cases ho
      exact ⟨by simp [Act.put], HBW⟩
    · have p8 : done 8 = true := by cases ho; exact hdep ⟨8, .guard⟩ (by simp) rfl
      have p9 : done 9 = true := by cases ho; exact hdep ⟨9, .data⟩ (by simp) rfl
      refine wpOp_valW ho (by cases ho; simp [Region.wanted, yielded, go_sem, p8, p9]) (w' := W) (v := (.pointer (some ⟨sb, 0, none⟩))) (by cases ho; simp [execOp, go_sem, p8, p9]) ?_
      cases ho
      exact ⟨by simp [Act.put], HBW⟩
    · have p8 : done 8 = true := by cases ho; exact hdep ⟨8, .guard⟩ (by simp) rfl
      have p10 : done 10 = true := by cases ho; exact hdep ⟨10, .data⟩ (by simp) rfl
      refine wpOp_valW ho (by cases ho; simp [Region.wanted, yielded, go_sem, p8, p10]) (w' := W) (v := (.pointer (some ⟨sb, 13, none⟩))) (by cases ho; simp [execOp, go_sem, p8, p10]) ?_
      cases ho
      exact ⟨by simp [Act.put], HBW⟩
    · have p8 : done 8 = true := by cases ho; exact hdep ⟨8, .guard⟩ (by simp) rfl
      have p11 : done 11 = true := by cases ho; exact hdep ⟨11, .data⟩ (by simp) rfl
      refine wpOp_valW ho (by cases ho; simp [Region.wanted, yielded, go_sem, p8, p11]) (w' := W) (v := (.pointer (some ⟨sb, 16, none⟩))) (by cases ho; simp [execOp, go_sem, p8, p11]) ?_
      cases ho
      exact ⟨by simp [Act.put], HBW⟩
    · have p8 : done 8 = true := by cases ho; exact hdep ⟨8, .guard⟩ (by simp) rfl
      have p12 : done 12 = true := by cases ho; exact hdep ⟨12, .data⟩ (by simp) rfl
      refine wpOp_valW ho (by cases ho; simp [Region.wanted, yielded, go_sem, p8, p12]) (w' := W) (v := (.int .u64 a.cas)) (by cases ho; simp [execOp, go_sem, p8, p12, cellB HBW.out HQ16.out]) ?_
      cases ho
      exact ⟨by simp [Act.put], HBW⟩
    · have p8 : done 8 = true := by cases ho; exact hdep ⟨8, .guard⟩ (by simp) rfl
      refine wpOp_valW ho (by cases ho; simp [Region.wanted, yielded, go_sem, p8]) (w' := W) (v := (.pointer (some ⟨sb, 0, none⟩))) (by cases ho; simp [execOp, go_sem, p8]) ?_
      cases ho
      exact ⟨by simp [Act.put], HBW⟩
    · have p8 : done 8 = true := by cases ho; exact hdep ⟨8, .guard⟩ (by simp) rfl
      have p14 : done 14 = true := by cases ho; exact hdep ⟨14, .data⟩ (by simp) rfl
      refine wpOp_valW ho (by cases ho; simp [Region.wanted, yielded, go_sem, p8, p14]) (w' := W) (v := (.pointer (some ⟨sb, 0, none⟩))) (by cases ho; simp [execOp, go_sem, p8, p14]) ?_
      cases ho
      exact ⟨by simp [Act.put], HBW⟩
    · have p8 : done 8 = true := by cases ho; exact hdep ⟨8, .guard⟩ (by simp) rfl
      have p15 : done 15 = true := by cases ho; exact hdep ⟨15, .data⟩ (by simp) rfl
      refine wpOp_valW ho (by cases ho; simp [Region.wanted, yielded, go_sem, p8, p15]) (w' := W) (v := (.pointer (some ⟨sb, 0, none⟩))) (by cases ho; simp [execOp, go_sem, p8, p15]) ?_
      cases ho
      exact ⟨by simp [Act.put], HBW⟩
    · have p8 : done 8 = true := by cases ho; exact hdep ⟨8, .guard⟩ (by simp) rfl
      have p16 : done 16 = true := by cases ho; exact hdep ⟨16, .data⟩ (by simp) rfl
      refine wpOp_valW ho (by cases ho; simp [Region.wanted, yielded, go_sem, p8, p16]) (w' := W) (v := (.pointer (some ⟨mb, 0, none⟩))) (by cases ho; simp [execOp, go_sem, p8, p16, cellB HBW.out HQ0.out]) ?_
      cases ho
      exact ⟨by simp [Act.put], HBW⟩
    · have p8 : done 8 = true := by cases ho; exact hdep ⟨8, .guard⟩ (by simp) rfl
      have p17 : done 17 = true := by cases ho; exact hdep ⟨17, .data⟩ (by simp) rfl
      refine wpOp_valW ho (by cases ho; simp [Region.wanted, yielded, go_sem, p8, p17]) (w' := W) (v := (.pointer (some ⟨mb, 0, none⟩))) (by cases ho; simp [execOp, go_sem, p8, p17]) ?_
      cases ho
      exact ⟨by simp [Act.put], HBW⟩
    · have p8 : done 8 = true := by cases ho; exact hdep ⟨8, .guard⟩ (by simp) rfl
      have p18 : done 18 = true := by cases ho; exact hdep ⟨18, .data⟩ (by simp) rfl
      refine wpOp_valW ho (by cases ho; simp [Region.wanted, yielded, go_sem, p8, p18]) (w' := W) (v := (.pointer (some ⟨mb, 1, none⟩))) (by cases ho; simp [execOp, go_sem, p8, p18]) ?_
      cases ho
      exact ⟨by simp [Act.put], HBW⟩
    · have p8 : done 8 = true := by cases ho; exact hdep ⟨8, .guard⟩ (by simp) rfl
      have p19 : done 19 = true := by cases ho; exact hdep ⟨19, .data⟩ (by simp) rfl
      refine wpOp_valW ho (by cases ho; simp [Region.wanted, yielded, go_sem, p8, p19]) (w' := W) (v := (.int .u64 Y.tok)) (by cases ho; simp [execOp, go_sem, p8, p19, cellB HBW.out HQ1.out]) ?_
      cases ho
      exact ⟨by simp [Act.put], HBW⟩
    · have p8 : done 8 = true := by cases ho; exact hdep ⟨8, .guard⟩ (by simp) rfl
      have p13 : done 13 = true := by cases ho; exact hdep ⟨13, .data⟩ (by simp) rfl
      have p20 : done 20 = true := by cases ho; exact hdep ⟨20, .data⟩ (by simp) rfl
      refine wpOp_valW ho (by cases ho; simp [Region.wanted, yielded, go_sem, p8, p13, p20]) (w' := W) (v := (.bool false)) (by cases ho; simp [execOp, go_sem, p8, p13, p20, hle]) ?_
      cases ho
      exact ⟨by simp [Act.put], HBW⟩
    · have p8 : done 8 = true := by cases ho; exact hdep ⟨8, .data⟩ (by simp) rfl
      have p21 : done 21 = true := by cases ho; exact hdep ⟨21, .data⟩ (by simp) rfl
      refine wpOp_val ho (by cases ho; rfl) (w' := W) (v := (.bool false)) (by cases ho; simp [execOp, go_sem, p8, p21]) ?_
      cases ho
      exact ⟨by simp [Act.put], HBW⟩
  · rintro done ac W hall ⟨rfl, HBW⟩
    have e0 := hall 0 (by decide)
    have e1 := hall 1 (by decide)
    have e2 := hall 2 (by decide)
    have e3 := hall 3 (by decide)
    have e4 := hall 4 (by decide)
    have e5 := hall 5 (by decide)
    have e6 := hall 6 (by decide)
    have e7 := hall 7 (by decide)
    have e8 := hall 8 (by decide)
    have e9 := hall 9 (by decide)
    have e10 := hall 10 (by decide)
    have e11 := hall 11 (by decide)
    have e12 := hall 12 (by decide)
    have e13 := hall 13 (by decide)
    have e14 := hall 14 (by decide)
    have e15 := hall 15 (by decide)
    have e16 := hall 16 (by decide)
    have e17 := hall 17 (by decide)
    have e18 := hall 18 (by decide)
    have e19 := hall 19 (by decide)
    have e20 := hall 20 (by decide)
    have e21 := hall 21 (by decide)
    have e22 := hall 22 (by decide)
    simp only [e0, e1, e2, e3, e4, e5, e6, e7, e8, e9, e10, e11, e12, e13, e14, e15, e16, e17, e18, e19, e20, e21, e22, if_true]
    clear hall e0 e1 e2 e3 e4 e5 e6 e7 e8 e9 e10 e11 e12 e13 e14 e15 e16 e17 e18 e19 e20 e21 e22
    have HBW2 : Hid (Below w.heap.size w W) := HK.out.below.trans (HBW.out.mono HK.out.below.size)
    clear b0 b1 b2 b3 b4 b5 b6 HQ0 HQ16 HQ1 hle HBR HB HW HK HZ HBW HN0
    have hcl := clone87 W _ rl D (HVR.out.below HBW2.out) (by rw [← HN.out]; omega) (by rw [← HN.out]; exact hn0)
    rw [← HN.out] at hcl
    have HCL := Lib.hid hcl
    clear hcl
    go_wp2_with fail
    refine HCL.out.mono ?_
    rintro e w1 ⟨v', rfl, ho, hb1⟩
    obtain ⟨g, cap, cur, rfl, hg1, hg2, hg3, hg4, hg5, hg6⟩ : ∃ g cap cur, v' = .slice (some ⟨g, 0, none⟩) n cap ∧ W.heap.size ≤ g ∧ w1.heap[g]? = some (.cells cur 49 (0, 0)) ∧ n ≤ cap ∧ cap ≤ maxLen ∧ cur.size = cap * 4 ∧ cur.toList.take (n * 4) = cellsR rl := by
      rcases ho.2 with ⟨_, h⟩ | h
      · omega
      · exact h
    have H0 : Hid (Cpt w1 g n (casX a.cas rl 0) w1) := ⟨Frm.refl _ _, ⟨cur, hg2, by rw [hg5]; exact Nat.mul_le_mul_right 4 hg3⟩, by
      have : casX a.cas rl 0 = rl := by simp [casX]
      rw [this]
      refine RowR.of fun j hj => ?_
      rcases (own_isSlK ho).2 with ⟨h', _⟩ | ⟨_, b, off, cap', hv', _, _, _, h8⟩
      · omega
      · injection hv' with e1 e2 e3
        injection e1 with e1
        injection e1 with e4 e5
        subst e4 e5
        exact h8 j hj⟩
    have HB1 : Hid (Below w.heap.size w w1) := HBW2.out.trans (hb1.mono HBW2.out.size)
    have HG : Hid (w.heap.size ≤ g) := by have := HBW2.out.size; show _ ≤ _; omega
    unfold maxLen at hg4
    have c16 : w1.cell? ⟨sb, 16, none⟩ = some (.int .u64 a.cas) := cellB HB1.out (H.out.cell 16)
    have HGC := Lib.hid hg4
    have HGL : Hid (g < w1.heap.size) := (Array.getElem?_eq_some_iff.1 hg2).1
    clear ho hb1 hg2 hg5 hg6 hg1
    go_wp2_with fail
    go_loopg [6, 39] n (fun gg iv kv w2 => ∃ k : Nat, gg = n - k ∧ k ≤ n ∧ kv = .int .i64 k ∧ Hid (Cpt w1 g n (casX a.cas rl k) w2))
    case atStart => exact ⟨0, by omega, by omega, rfl, H0.out⟩
    case round =>
      obtain ⟨k, rfl, hk, rfl, HJ⟩ := hrel
      by_cases hkn : k < n
      · obtain ⟨p, hp⟩ : ∃ p, rl[k]? = some p := ⟨_, List.getElem?_eq_getElem (by have := HN.out; omega)⟩
        obtain ⟨x0, x1, x2, x3⟩ := HJ.out.at (casX_at (c := a.cas) hp)
        have f3 := (HJ.out.blk.cell (k * 4 + 3) (by omega)).2
        have c16' : wr.cell? ⟨sb, 16, none⟩ = some (.int .u64 a.cas) := (HJ.out.frm.cell (p := ⟨sb, 16, none⟩) (World.block_lt_of_cell? w1 _ c16) (by have := blk_lt H.out.blk; have := HG.out; show sb ≠ g; omega)).trans c16
        have HS : Hid (Cpt w1 g n (casX a.cas rl (k + 1)) (wr.setCell ⟨g, k * 4 + 3, none⟩ (.int .u64 a.cas))) := by
          have h := HJ.out.setCas (c := a.cas) (by rw [casX_len]; exact HN.out.symm) (casX_at (c := a.cas) hp)
          rw [← casX_succ hp] at h
          exact h
        clear hp HJ
        go_wp2_with fail
        go_roundg (n - (k + 1))
        case measure => omega
        case rel => exact ⟨k + 1, by omega, by omega, by go_num, HS.out⟩
      · obtain rfl : k = n := by omega
        have HF1 : Hid (Frm (fun x => x = g) w wr) := (frm_below HB1.out).trans HJ.out.frm
        have hsz : w1.heap.size ≤ wr.heap.size := HJ.out.frm.size
        have HV : Hid (VersAt wr (fun _ => True) (.slice (some ⟨g, 0, none⟩) k cap) (l.map (Tv.withCas a.cas))) := by
          refine ⟨rl.map (casR a.cas), by rw [← HRL.out, List.map_map, List.map_map]; rfl, .inr ⟨by rw [List.length_map, ← HN.out]; omega, g, 0, cap, by rw [List.length_map, ← HN.out], by rw [List.length_map, ← HN.out]; omega, (by unfold maxLen; exact hg4), by have := HGL.out; omega, trivial, ?_⟩, fun p hp => ?_, fun p hp => ?_⟩
          · have := HJ.out.row
            rwa [HN.out, casX_all] at this
          · obtain ⟨p', hp', rfl⟩ := List.mem_map.1 hp
            have h1 : BytesIn w (fun b => b < w.heap.size) p'.1 p'.2.val := (HVR.out.el p' hp').mono fun b hb _ => hb
            exact (h1.frm HF1.out (fun b hb e => by have := HG.out; omega)).mono fun _ _ _ => trivial
          · obtain ⟨p', hp', rfl⟩ := List.mem_map.1 hp
            exact withCas_ok (HVR.out.ok p' hp') H.out.aok.2.2.1 H.out.aok.2.2.2.1
        have hso := sorted29 wr _ _ _ HV.out (by rw [List.length_map, ← HRL.out, List.length_map, ← HN.out]; exact hm')
        have HSO := Lib.hid hso
        have hbk : Below w.heap.size w wr := HF1.out.below (fun b hb e => by have := HG.out; omega) (Nat.le_refl _)
        have HBK := Lib.hid hbk
        clear hso hbk HJ H0 HV
        go_upto_region 11 with fail
        go_wp2_with fail
        refine HSO.out.mono ?_
        rintro e w3 ⟨v3, rfl, hv3, hb3⟩
        obtain ⟨va3, vc3, rfl, _⟩ := hv3.form
        have HV3 := Lib.hid hv3
        have HB3 : Hid (Below w.heap.size w w3) := HBK.out.trans (hb3.mono HBK.out.size)
        have d0 : w3.cell? ⟨sb, 0, none⟩ = some (.pointer (some ⟨mb, 0, none⟩)) := cellB HB3.out (H.out.cell 0)
        have d16 : w3.cell? ⟨sb, 16, none⟩ = some (.int .u64 a.cas) := cellB HB3.out (H.out.cell 16)
        have m1 : w3.cell? ⟨mb, 1, none⟩ = some (.int .u64 Y.tok) := cellB HB3.out H.out.mcell.2
        have HM3 := Lib.hid (H.out.map.below HB3.out)
        have f1 : w3.frozen? ⟨mb, 1, none⟩ = false := blk_frozen HM3.out.blk 1
        clear hv3 hb3 HSO c16
        go_upto_region 12 with fail
        go_still_tail 11, (by kernel_rfl)
        change wpList _ _ _ _ _ w3.drew
        go_wp2_with fail
        refine wp_world (R := fun W4 => Frm (fun x => x = mb) w3 W4 ∧ W4.heap[mb]? = some (.cells #[.map (some kb), .int .u64 a.cas] 61 (0, 0))) ⟨((Frm.refl (fun x => x = mb) w3).drew).setCell (p := ⟨mb, 1, none⟩) (.inl rfl) _, set_mb HM3.out.blk⟩ ?_
        intro w4 ⟨hf4, hmb4⟩
        have e0 : w4.cell? ⟨sb, 0, none⟩ = some (.pointer (some ⟨mb, 0, none⟩)) := (hf4.cell (p := ⟨sb, 0, none⟩) (World.block_lt_of_cell? w3 _ d0) H.out.nm).trans d0
        have e21 : w4.cell? ⟨sb, 21, none⟩ = some (.string ⟨q.key.toArray⟩) := (hf4.cell (p := ⟨sb, 21, none⟩) (show sb < w3.heap.size from World.block_lt_of_cell? w3 _ d0) H.out.nm).trans (cellB HB3.out (H.out.cell 21))
        have n0 : w4.cell? ⟨mb, 0, none⟩ = some (.map (some kb)) := blk_cell hmb4 0
        obtain ⟨w5, hup, hm5, hf5⟩ := ((HM3.out.map.frm hf4 (Ne.symm H.out.map.ne)).keep (w' := w4.drew) rfl).update strKey Try.underlying59 Try.underlying9 q.key (.agg #[.slice va3 (sortT (l.map (Tv.withCas a.cas))).length vc3, .slice va3 (sortT (l.map (Tv.withCas a.cas))).length vc3])
        have hup : (Instr.mapUpdate 59 (.map (some kb)) (.string ⟨q.key.toArray⟩) (.agg #[.slice va3 (sortT (l.map (Tv.withCas a.cas))).length vc3, .slice va3 (sortT (l.map (Tv.withCas a.cas))).length vc3])).run Try.prog w4.drew = .ok () w5 := hup
        have HF4 := Lib.hid hf4
        have HMB4 := Lib.hid hmb4
        have HM5 := Lib.hid hm5
        have HF5 : Hid (Frm (fun x => x = kb) w4.drew w5) := hf5
        clear hf4 hmb4 hm5 hf5 d0 d16 m1 f1
        go_still_tail 14, (by kernel_rfl)
        change wpList _ _ _ _ _ w4.drew
        go_wp2_with fail
        go_ret
        have hfr : Frm (fun x => x = mb ∨ x = kb) w3 w5 := (HF4.out.mono fun _ _ e => .inl e).trans ((Frm.refl _ w4).drew.trans (HF5.out.mono fun _ _ e => .inr e))
        exact ⟨rfl, H.out.put2 HB3.out hfr ⟨_, _, _, _, _, _, rfl, rfl⟩ HM5.out ((HF5.out.block mb (blk_lt HMB4.out) H.out.map.ne).trans HMB4.out) ⟨H.out.aok.2.2.1, H.out.aok.2.2.2.1⟩ (HV3.out.mono fun b _ hb => .inr (Nat.le_trans (Nat.le_trans HB1.out.size hsz) hb)) (HV3.out.mono fun b _ hb => .inr (Nat.le_trans (Nat.le_trans HB1.out.size hsz) hb)) rfl rfl⟩
end Go.Proofs.Ytngpffmgkponfaa
