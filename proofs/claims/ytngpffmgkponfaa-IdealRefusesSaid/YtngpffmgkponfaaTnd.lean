/- The function that ideal.step.turned hands to each. Conditions: the step lies in memory. -/
import Derived.Test.YtngpffmgkponfaaSud
import Derived.Test.YtngpffmgkponfaaRegT
set_option linter.unusedVariables false
set_option linter.unusedSimpArgs false
namespace Go.Idl
open Go.Proofs.Ytngpffmgkponfaa
def turnT (q : Rq) (t : Tv) : Option Nat := (numF t.val).map fun k => turnF k q.delta.toNat (q.op == 6)
def turHow (q : Rq) (n : Int) (t : Tv) : Option Tv := match turnT q t with
  | none => none
  | some m => if fitsB q t && ((m : Int) == n) then some ⟨textF m, t.fl, t.ex, t.cas⟩ else none
end Go.Idl
namespace Go.Proofs.Ytngpffmgkponfaa
open Go.RowKit Go.Ice Go.Idl

set_option maxHeartbeats 8000000 in
set_option maxRecDepth 20000 in
theorem how88 (w : World) (C : Nat → Prop) (sb mb kb : Nat) (q : Rq) (a : An) (now : Int) (r : Raw) (hs : List Tv) (Y : St) (F : List UInt8 → Option Value) (h : SW w C sb mb kb q a now r hs Y F) (bt nb : Nat) (n : Int)
    (hbt : w.heap[bt]? = some (.cells #[.pointer (some ⟨sb, 0, none⟩)] 77 (0, 0))) (hn : w.heap[nb]? = some (.cells #[.int .u64 n] 29 (0, 0))) : How w 88 #[.pointer (some ⟨bt, 0, none⟩), .pointer (some ⟨nb, 0, none⟩)] (turHow q n) := by
  intro W p x t hb hp hbx hx htok
  have t0 : W.cell? ⟨bt, 0, none⟩ = some (.pointer (some ⟨sb, 0, none⟩)) := blk_cell ((hb.block bt (blk_lt hbt)).trans hbt) 0
  have n0 : W.cell? ⟨nb, 0, none⟩ = some (.int .u64 n) := blk_cell ((hb.block nb (blk_lt hn)).trans hn) 0
  have HSW := Lib.hid (h.below hb)
  have q1 : W.cell? ⟨sb, 1, none⟩ = some (.int .i64 q.op) := HSW.out.cell 1
  have q11 : W.cell? ⟨sb, 11, none⟩ = some (.int .u64 q.delta) := HSW.out.cell 11
  have hdl := h.qok.2.2.2.2.2.2.1
  have hdu := h.qok.2.2.2.2.2.2.2.1
  obtain ⟨d, hd⟩ := Int.eq_ofNat_of_zero_le hdl
  have hdn : d ≤ 18446744073709551615 := by omega
  rw [hd] at q11
  have hpt : bt ≠ p := Nat.ne_of_lt (Nat.lt_of_lt_of_le (blk_lt hbt) hp)
  have hpn : nb ≠ p := Nat.ne_of_lt (Nat.lt_of_lt_of_le (blk_lt hn) hp)
  have hps : sb ≠ p := Nat.ne_of_lt (Nat.lt_of_lt_of_le (blk_lt h.blk) hp)
  have hpm : mb ≠ p := Nat.ne_of_lt (Nat.lt_of_lt_of_le (blk_lt h.map.blk) hp)
  have hpk : kb ≠ p := Nat.ne_of_lt (Nat.lt_of_lt_of_le h.map.map.lt hp)
  obtain ⟨xa, xc, rfl, _⟩ := BytesAt.form hx.1
  have hx1 := hx.1
  obtain ⟨xn, hxn⟩ : ∃ n, n = t.val.length := ⟨_, rfl⟩
  rw [← hxn] at hbx hx1 ⊢
  have b0 : W.cell? ⟨p, 0, none⟩ = some (.slice xa xn xc) := blk_cell hbx 0
  have f0 : W.frozen? ⟨p, 0, none⟩ = false := blk_frozen hbx 0
  obtain ⟨dn, hdown⟩ : ∃ dn, dn = (q.op == 6) := ⟨_, rfl⟩
  have hdown' := hdown.symm
  obtain ⟨fb, hfb⟩ : ∃ bb, bb = fitsB q t := ⟨_, rfl⟩
  obtain ⟨how, hhow⟩ : ∃ how, how = turHow q n t := ⟨_, rfl⟩
  rw [← hhow]
  have HBX := Lib.hid hbx
  have HX1 := Lib.hid hx1
  have HTOK := Lib.hid htok
  have hcold := h.cold
  have hfit : ∀ (W3 : World) (xv : Value), Frm (fun b => b = p) W W3 → (∃ a n c, xv = .slice a n c) → ∀ WW, Below W3.heap.size W3 WW → Calls Try.prog 63 #[.pointer (some ⟨sb, 0, none⟩), .agg #[xv, .int .u32 t.fl, .int .u32 t.ex, .int .u64 t.cas]] WW fun e w' => e = .returned (.bool fb) ∧ Below WW.heap.size WW w' := fun W3 xv hf hxv WW hW => by
    rw [hfb]
    exact fits63 WW C sb mb kb q a now r hs Y F ((HSW.out.frm hf (fun b hc e => by have := hcold b hc; omega) hps hpm hpk).below hW) xv t hxv
  have HFT := Lib.hid hfit
  have g0' : ∀ W3, Frm (fun b => b = p) W W3 → W3.cell? ⟨bt, 0, none⟩ = some (.pointer (some ⟨sb, 0, none⟩)) ∧ W3.cell? ⟨nb, 0, none⟩ = some (.int .u64 n) := fun W3 hf =>
    ⟨(hf.cell (p := ⟨bt, 0, none⟩) (World.block_lt_of_cell? W _ t0) hpt).trans t0, (hf.cell (p := ⟨nb, 0, none⟩) (World.block_lt_of_cell? W _ n0) hpn).trans n0⟩
  have HG := Lib.hid g0'
  cases hnum : numF t.val with
  | none =>
    have htn := turn_none W.drew (.slice xa xn xc) t.val d dn hx1 hnum
    have HX : Hid (how = none) := by show _ = _; rw [hhow]; unfold turHow turnT; rw [hnum]; rfl
    have HTN := Lib.hid htn
    clear h hb hp hx hbt hn hxn hx1 hd hdl hdu hdown hfb hhow hbx htok hfit g0' hcold htn hnum hps hpm hpk
    show Calls Try.prog 88 #[_, _, _] _ _
    go_enter Try.func88, Try.ntmps88
    go_wp2_with fail
    go_region_held3 (fun w' => w'.cell? ⟨p, 0, none⟩ = some (.slice xa xn xc) ∧ w'.cell? ⟨bt, 0, none⟩ = some (.pointer (some ⟨sb, 0, none⟩)) ∧ w'.cell? ⟨sb, 11, none⟩ = some (.int .u64 (d : Nat)) ∧ w'.cell? ⟨sb, 1, none⟩ = some (.int .i64 q.op)) (first | exact ⟨b0, t0, q11, q1⟩ | exact ⟨c0, c1, c2, c3⟩) (first | (go_at_call 35; refine HTN.out.mono ?_; rintro e w1 ⟨rfl, hb1⟩; have hb1 := (drewN_below W 1).trans hb1; have c0 := cellB hb1 b0; have c1 := cellB hb1 t0; have c2 := cellB hb1 q11; have c3 := cellB hb1 q1; have HB1 := Lib.hid hb1; clear hb1))
    clear b0 f0 t0 q11 q1 c0 c1 c2 c3 HTN
    have HBP : Hid (w1.heap[p]? = some (.cells (boxC (.slice xa xn xc) t) 49 (0, 0))) := (HB1.out.block p (blk_lt HBX.out)).trans HBX.out
    have c0 : w1.cell? ⟨p, 0, none⟩ = some (.slice xa xn xc) := blk_cell HBP.out 0
    have f0 : w1.frozen? ⟨p, 0, none⟩ = false := blk_frozen HBP.out 0
    go_upto_region 3 with fail
    refine wp_world (R := fun W3 => Frm (fun b => b = p) W W3 ∧ Frm (fun b => b = p) w1 W3 ∧ W3.heap[p]? = some (.cells (boxC (.slice none 0 0) t) 49 (0, 0))) ⟨(frm_below HB1.out).trans (setCell_frm1 w1 p 0 _), setCell_frm1 w1 p 0 _, blk_setAt HBP.out _⟩ ?_
    intro W3 ⟨hf3, hf4, hp3⟩
    have HF3 := Lib.hid hf3
    have HF4 := Lib.hid hf4
    have HP3 := Lib.hid hp3
    have b0 : W3.cell? ⟨p, 0, none⟩ = some (.slice none 0 0) := blk_cell hp3 0
    have b1 : W3.cell? ⟨p, 1, none⟩ = some (.int .u32 t.fl) := blk_cell hp3 1
    have b2 : W3.cell? ⟨p, 2, none⟩ = some (.int .u32 t.ex) := blk_cell hp3 2
    have b3 : W3.cell? ⟨p, 3, none⟩ = some (.int .u64 t.cas) := blk_cell hp3 3
    obtain ⟨g0, g1⟩ := HG.out W3 hf3
    have hfit3 := HFT.out W3 (.slice none 0 0) hf3 ⟨_, _, _, rfl⟩
    have HFIT := Lib.hid hfit3
    clear hf3 hf4 hp3 hfit3 HFT HG c0 f0
    cases fb with
    | false =>
      refine wp_region_tbl [(0, 32, (.pointer (some ⟨sb, 0, none⟩))), (1, 33, (.pointer (some ⟨p, 0, none⟩))), (2, 34, (.pointer (some ⟨p, 0, none⟩))), (3, 35, (.agg #[.slice none 0 0, .int .u32 t.fl, .int .u32 t.ex, .int .u64 t.cas])), (4, 36, (.bool false)), (5, 37, (.bool false)), (6, 38, undef), (7, 39, undef), (8, 40, (.bool false)), (9, 41, (.bool false)), (10, 42, undef), (11, 43, undef), (12, 44, undef), (13, 45, (.bool false)), (14, 4, (.bool false))] (fun _ WW => Hid (Below W3.heap.size W3 WW)) (by kernel_rfl) (hord_of2 (by kernel_rfl)) (by kernel_rfl) (by kernel_rfl) (by kernel_rfl) (Below.refl _ _).drew ?_ ?_
      · intro done zb WW j oq ho hd hdep hcl HA HBW
        have hj : j < 15 := (Array.getElem?_eq_some_iff.1 ho).1
        obtain rfl | rfl | rfl | rfl | rfl | rfl | rfl | rfl | rfl | rfl | rfl | rfl | rfl | rfl | rfl : j = 0 ∨ j = 1 ∨ j = 2 ∨ j = 3 ∨ j = 4 ∨ j = 5 ∨ j = 6 ∨ j = 7 ∨ j = 8 ∨ j = 9 ∨ j = 10 ∨ j = 11 ∨ j = 12 ∨ j = 13 ∨ j = 14 := by omega
        · exact valT (.pointer (some ⟨sb, 0, none⟩)) ho (by cases ho; rfl) (by cases ho; simp [execOp, go_sem, HA.tm, lookT, cellB HBW.out g0]) (by cases ho; exact fun d hd => by cases hd; simp) HBW
        · exact valT (.pointer (some ⟨p, 0, none⟩)) ho (by cases ho; rfl) (by cases ho; simp [execOp, go_sem, HA.tm, lookT]) (by cases ho; exact fun d hd => by cases hd; simp) HBW
        · have p1 : done 1 = true := by cases ho; exact hdep ⟨1, .data⟩ (by simp) rfl
          exact valT (.pointer (some ⟨p, 0, none⟩)) ho (by cases ho; rfl) (by cases ho; simp [execOp, go_sem, HA.tm, lookT, p1]) (by cases ho; exact fun d hd => by cases hd; simp) HBW
        · have p2 : done 2 = true := by cases ho; exact hdep ⟨2, .data⟩ (by simp) rfl
          exact valT (.agg #[.slice none 0 0, .int .u32 t.fl, .int .u32 t.ex, .int .u64 t.cas]) ho (by cases ho; rfl) (by cases ho; simp [execOp, go_sem, HA.tm, lookT, p2, cellB HBW.out b0, cellB HBW.out b1, cellB HBW.out b2, cellB HBW.out b3]) (by cases ho; exact fun d hd => by cases hd; simp) HBW
        · have p0 : done 0 = true := by cases ho; exact hdep ⟨0, .data⟩ (by simp) rfl
          have p3 : done 3 = true := by cases ho; exact hdep ⟨3, .data⟩ (by simp) rfl
          exact callT (f := 63) (args := #[.pointer (some ⟨sb, 0, none⟩), .agg #[.slice none 0 0, .int .u32 t.fl, .int .u32 t.ex, .int .u64 t.cas]]) (.bool false) ho (by cases ho; rfl) (by cases ho; simp [execOp, go_sem, HA.tm, lookT, p0, p3]) (HFIT.out WW HBW.out) (by cases ho; exact fun d hd => by cases hd; simp) (fun e w' h => ⟨h.1, HBW.out.trans (h.2.mono HBW.out.size)⟩)
        · have p4 : done 4 = true := by cases ho; exact hdep ⟨4, .data⟩ (by simp) rfl
          exact valT (.bool false) ho (by cases ho; rfl) (by cases ho; simp [execOp, go_sem, HA.tm, lookT, p4]) (by cases ho; exact fun d hd => by cases hd; simp) HBW
        · have p5 : done 5 = true := by cases ho; exact hdep ⟨5, .guard⟩ (by simp) rfl
          exact passT ho (by cases ho; simp [Region.wanted, yielded, HA.tm, lookT, go_sem, p5]) (by cases ho; exact fun d hd => by cases hd; simp) HBW
        · have p5 : done 5 = true := by cases ho; exact hdep ⟨5, .guard⟩ (by simp) rfl
          have p6 : done 6 = true := by cases ho; exact hdep ⟨6, .data⟩ (by simp) rfl
          exact passT ho (by cases ho; simp [Region.wanted, yielded, HA.tm, lookT, go_sem, p5, p6]) (by cases ho; exact fun d hd => by cases hd; simp) HBW
        · have p5 : done 5 = true := by cases ho; exact hdep ⟨5, .data⟩ (by simp) rfl
          have p7 : done 7 = true := by cases ho; exact hdep ⟨7, .data⟩ (by simp) rfl
          exact valT (.bool false) ho (by cases ho; rfl) (by cases ho; simp [execOp, go_sem, HA.tm, lookT, p5, p7]) (by cases ho; exact fun d hd => by cases hd; simp) HBW
        · have p8 : done 8 = true := by cases ho; exact hdep ⟨8, .data⟩ (by simp) rfl
          exact valT (.bool false) ho (by cases ho; rfl) (by cases ho; simp [execOp, go_sem, HA.tm, lookT, p8]) (by cases ho; exact fun d hd => by cases hd; simp) HBW
        · have p9 : done 9 = true := by cases ho; exact hdep ⟨9, .guard⟩ (by simp) rfl
          exact passT ho (by cases ho; simp [Region.wanted, yielded, HA.tm, lookT, go_sem, p9]) (by cases ho; exact fun d hd => by cases hd; simp) HBW
        · have p9 : done 9 = true := by cases ho; exact hdep ⟨9, .guard⟩ (by simp) rfl
          exact passT ho (by cases ho; simp [Region.wanted, yielded, HA.tm, lookT, go_sem, p9]) (by cases ho; exact fun d hd => by cases hd; simp) HBW
        · have p9 : done 9 = true := by cases ho; exact hdep ⟨9, .guard⟩ (by simp) rfl
          have p10 : done 10 = true := by cases ho; exact hdep ⟨10, .data⟩ (by simp) rfl
          have p11 : done 11 = true := by cases ho; exact hdep ⟨11, .data⟩ (by simp) rfl
          exact passT ho (by cases ho; simp [Region.wanted, yielded, HA.tm, lookT, go_sem, p9, p10, p11]) (by cases ho; exact fun d hd => by cases hd; simp) HBW
        · have p9 : done 9 = true := by cases ho; exact hdep ⟨9, .data⟩ (by simp) rfl
          have p12 : done 12 = true := by cases ho; exact hdep ⟨12, .data⟩ (by simp) rfl
          exact valT (.bool false) ho (by cases ho; rfl) (by cases ho; simp [execOp, go_sem, HA.tm, lookT, p9, p12]) (by cases ho; exact fun d hd => by cases hd; simp) HBW
        · have p13 : done 13 = true := by cases ho; exact hdep ⟨13, .data⟩ (by simp) rfl
          exact valT (.bool false) ho (by cases ho; rfl) (by cases ho; simp [execOp, go_sem, HA.tm, lookT, p13]) (by cases ho; exact fun d hd => by cases hd; simp) HBW
      · intro done WW hall HBW
        clear hall
        simp only [putAll, Act.put, List.setIfInBounds_toArray, List.set_cons_succ, List.set_cons_zero]
        go_wp2_with fail
        go_ret
        exact how_no rfl (HF3.out.trans (frm_below HBW.out)) HX.out
    | true =>
      refine wp_region_tbl [(0, 32, (.pointer (some ⟨sb, 0, none⟩))), (1, 33, (.pointer (some ⟨p, 0, none⟩))), (2, 34, (.pointer (some ⟨p, 0, none⟩))), (3, 35, (.agg #[.slice none 0 0, .int .u32 t.fl, .int .u32 t.ex, .int .u64 t.cas])), (4, 36, (.bool true)), (5, 37, (.bool true)), (6, 38, (.int .i64 270)), (7, 39, (.bool false)), (8, 40, (.bool false)), (9, 41, (.bool false)), (10, 42, undef), (11, 43, undef), (12, 44, undef), (13, 45, (.bool false)), (14, 4, (.bool false))] (fun _ WW => Hid (Below W3.heap.size W3 WW)) (by kernel_rfl) (hord_of2 (by kernel_rfl)) (by kernel_rfl) (by kernel_rfl) (by kernel_rfl) (Below.refl _ _).drew ?_ ?_
      · intro done zb WW j oq ho hd hdep hcl HA HBW
        have hj : j < 15 := (Array.getElem?_eq_some_iff.1 ho).1
        obtain rfl | rfl | rfl | rfl | rfl | rfl | rfl | rfl | rfl | rfl | rfl | rfl | rfl | rfl | rfl : j = 0 ∨ j = 1 ∨ j = 2 ∨ j = 3 ∨ j = 4 ∨ j = 5 ∨ j = 6 ∨ j = 7 ∨ j = 8 ∨ j = 9 ∨ j = 10 ∨ j = 11 ∨ j = 12 ∨ j = 13 ∨ j = 14 := by omega
        · exact valT (.pointer (some ⟨sb, 0, none⟩)) ho (by cases ho; rfl) (by cases ho; simp [execOp, go_sem, HA.tm, lookT, cellB HBW.out g0]) (by cases ho; exact fun d hd => by cases hd; simp) HBW
        · exact valT (.pointer (some ⟨p, 0, none⟩)) ho (by cases ho; rfl) (by cases ho; simp [execOp, go_sem, HA.tm, lookT]) (by cases ho; exact fun d hd => by cases hd; simp) HBW
        · have p1 : done 1 = true := by cases ho; exact hdep ⟨1, .data⟩ (by simp) rfl
          exact valT (.pointer (some ⟨p, 0, none⟩)) ho (by cases ho; rfl) (by cases ho; simp [execOp, go_sem, HA.tm, lookT, p1]) (by cases ho; exact fun d hd => by cases hd; simp) HBW
        · have p2 : done 2 = true := by cases ho; exact hdep ⟨2, .data⟩ (by simp) rfl
          exact valT (.agg #[.slice none 0 0, .int .u32 t.fl, .int .u32 t.ex, .int .u64 t.cas]) ho (by cases ho; rfl) (by cases ho; simp [execOp, go_sem, HA.tm, lookT, p2, cellB HBW.out b0, cellB HBW.out b1, cellB HBW.out b2, cellB HBW.out b3]) (by cases ho; exact fun d hd => by cases hd; simp) HBW
        · have p0 : done 0 = true := by cases ho; exact hdep ⟨0, .data⟩ (by simp) rfl
          have p3 : done 3 = true := by cases ho; exact hdep ⟨3, .data⟩ (by simp) rfl
          exact callT (f := 63) (args := #[.pointer (some ⟨sb, 0, none⟩), .agg #[.slice none 0 0, .int .u32 t.fl, .int .u32 t.ex, .int .u64 t.cas]]) (.bool true) ho (by cases ho; rfl) (by cases ho; simp [execOp, go_sem, HA.tm, lookT, p0, p3]) (HFIT.out WW HBW.out) (by cases ho; exact fun d hd => by cases hd; simp) (fun e w' h => ⟨h.1, HBW.out.trans (h.2.mono HBW.out.size)⟩)
        · have p4 : done 4 = true := by cases ho; exact hdep ⟨4, .data⟩ (by simp) rfl
          exact valT (.bool true) ho (by cases ho; rfl) (by cases ho; simp [execOp, go_sem, HA.tm, lookT, p4]) (by cases ho; exact fun d hd => by cases hd; simp) HBW
        · have p5 : done 5 = true := by cases ho; exact hdep ⟨5, .guard⟩ (by simp) rfl
          exact valT (.int .i64 270) ho (by cases ho; simp [Region.wanted, yielded, HA.tm, lookT, go_sem, p5]) (by cases ho; simp [execOp, go_sem, HA.tm, lookT, p5]) (by cases ho; exact fun d hd => by cases hd; simp) HBW
        · have p5 : done 5 = true := by cases ho; exact hdep ⟨5, .guard⟩ (by simp) rfl
          have p6 : done 6 = true := by cases ho; exact hdep ⟨6, .data⟩ (by simp) rfl
          exact valT (.bool false) ho (by cases ho; simp [Region.wanted, yielded, HA.tm, lookT, go_sem, p5, p6]) (by cases ho; simp [execOp, go_sem, HA.tm, lookT, p5, p6]) (by cases ho; exact fun d hd => by cases hd; simp) HBW
        · have p5 : done 5 = true := by cases ho; exact hdep ⟨5, .data⟩ (by simp) rfl
          have p7 : done 7 = true := by cases ho; exact hdep ⟨7, .data⟩ (by simp) rfl
          exact valT (.bool false) ho (by cases ho; rfl) (by cases ho; simp [execOp, go_sem, HA.tm, lookT, p5, p7]) (by cases ho; exact fun d hd => by cases hd; simp) HBW
        · have p8 : done 8 = true := by cases ho; exact hdep ⟨8, .data⟩ (by simp) rfl
          exact valT (.bool false) ho (by cases ho; rfl) (by cases ho; simp [execOp, go_sem, HA.tm, lookT, p8]) (by cases ho; exact fun d hd => by cases hd; simp) HBW
        · have p9 : done 9 = true := by cases ho; exact hdep ⟨9, .guard⟩ (by simp) rfl
          exact passT ho (by cases ho; simp [Region.wanted, yielded, HA.tm, lookT, go_sem, p9]) (by cases ho; exact fun d hd => by cases hd; simp) HBW
        · have p9 : done 9 = true := by cases ho; exact hdep ⟨9, .guard⟩ (by simp) rfl
          exact passT ho (by cases ho; simp [Region.wanted, yielded, HA.tm, lookT, go_sem, p9]) (by cases ho; exact fun d hd => by cases hd; simp) HBW
        · have p9 : done 9 = true := by cases ho; exact hdep ⟨9, .guard⟩ (by simp) rfl
          have p10 : done 10 = true := by cases ho; exact hdep ⟨10, .data⟩ (by simp) rfl
          have p11 : done 11 = true := by cases ho; exact hdep ⟨11, .data⟩ (by simp) rfl
          exact passT ho (by cases ho; simp [Region.wanted, yielded, HA.tm, lookT, go_sem, p9, p10, p11]) (by cases ho; exact fun d hd => by cases hd; simp) HBW
        · have p9 : done 9 = true := by cases ho; exact hdep ⟨9, .data⟩ (by simp) rfl
          have p12 : done 12 = true := by cases ho; exact hdep ⟨12, .data⟩ (by simp) rfl
          exact valT (.bool false) ho (by cases ho; rfl) (by cases ho; simp [execOp, go_sem, HA.tm, lookT, p9, p12]) (by cases ho; exact fun d hd => by cases hd; simp) HBW
        · have p13 : done 13 = true := by cases ho; exact hdep ⟨13, .data⟩ (by simp) rfl
          exact valT (.bool false) ho (by cases ho; rfl) (by cases ho; simp [execOp, go_sem, HA.tm, lookT, p13]) (by cases ho; exact fun d hd => by cases hd; simp) HBW
      · intro done WW hall HBW
        clear hall
        simp only [putAll, Act.put, List.setIfInBounds_toArray, List.set_cons_succ, List.set_cons_zero]
        go_wp2_with fail
        go_ret
        exact how_no rfl (HF3.out.trans (frm_below HBW.out)) HX.out
  | some k =>
    obtain ⟨m, hm⟩ : ∃ m, m = turnF k d dn := ⟨_, rfl⟩
    obtain ⟨ff, hf⟩ : ∃ ff, ff = ((m : Int) == n) := ⟨_, rfl⟩
    have hff := hf.symm
    have htn := turn_some W.drew (.slice xa xn xc) t.val k d dn hx1 hnum hdn
    rw [← hm] at htn
    have hmle : m ≤ 18446744073709551615 := by rw [hm]; exact turnF_le k d dn (by have := numF_le t.val; rw [hnum] at this; exact this)
    have HOK : Hid (Tv.ok ⟨textF m, t.fl, t.ex, t.cas⟩) := ⟨by have := textF_len m hmle; show (textF m).length ≤ 1000; omega, htok.2⟩
    have HX : Hid (how = if (fb && ff) then some ⟨textF m, t.fl, t.ex, t.cas⟩ else none) := by
      show _ = _
      have e1 : turnT q t = some m := by unfold turnT; rw [hnum, hm, hdown, hd]; rfl
      rw [hhow, hfb, hf]; unfold turHow; rw [e1]
    have HTN := Lib.hid htn
    clear h hb hp hx hbt hn hxn hx1 hd hdl hdu hdown hfb hhow hbx htok hfit g0' hcold htn hnum hps hpm hpk hm hf hmle
    show Calls Try.prog 88 #[_, _, _] _ _
    go_enter Try.func88, Try.ntmps88
    go_wp2_with fail
    go_region_held3 (fun w' => w'.cell? ⟨p, 0, none⟩ = some (.slice xa xn xc) ∧ w'.cell? ⟨bt, 0, none⟩ = some (.pointer (some ⟨sb, 0, none⟩)) ∧ w'.cell? ⟨sb, 11, none⟩ = some (.int .u64 (d : Nat)) ∧ w'.cell? ⟨sb, 1, none⟩ = some (.int .i64 q.op)) (first | exact ⟨b0, t0, q11, q1⟩ | exact ⟨c0, c1, c2, c3⟩) (first | (go_at_call 35; refine HTN.out.mono ?_; rintro e w1 ⟨jv, rfl, hown, hb1⟩; obtain ⟨ja, jc, rfl, _⟩ := own_form hown; have hb1 := (drewN_below W 1).trans hb1; have c0 := cellB hb1 b0; have c1 := cellB hb1 t0; have c2 := cellB hb1 q11; have c3 := cellB hb1 q1; have HB1 := Lib.hid hb1; have HOWN := Lib.hid hown; clear hb1 hown))
    obtain ⟨jn, hjn⟩ : ∃ jn, jn = (textF m).length := ⟨_, rfl⟩
    have HOWN2 : Hid (Own w1 W.drew.heap.size 5 (.slice ja jn jc) ((textF m).map u8v)) := by have h := HOWN.out; rw [List.length_map, ← hjn] at h; exact h
    rw [← hjn]
    have HOWN := HOWN2
    clear hjn HOWN2
    clear b0 f0 t0 q11 q1 c0 c1 c2 c3 HTN
    have HBP : Hid (w1.heap[p]? = some (.cells (boxC (.slice xa xn xc) t) 49 (0, 0))) := (HB1.out.block p (blk_lt HBX.out)).trans HBX.out
    have c0 : w1.cell? ⟨p, 0, none⟩ = some (.slice xa xn xc) := blk_cell HBP.out 0
    have f0 : w1.frozen? ⟨p, 0, none⟩ = false := blk_frozen HBP.out 0
    go_upto_region 3 with fail
    refine wp_world (R := fun W3 => Frm (fun b => b = p) W W3 ∧ Frm (fun b => b = p) w1 W3 ∧ W3.heap[p]? = some (.cells (boxC (.slice ja jn jc) t) 49 (0, 0))) ⟨(frm_below HB1.out).trans (setCell_frm1 w1 p 0 _), setCell_frm1 w1 p 0 _, blk_setAt HBP.out _⟩ ?_
    intro W3 ⟨hf3, hf4, hp3⟩
    have HF3 := Lib.hid hf3
    have HF4 := Lib.hid hf4
    have HP3 := Lib.hid hp3
    have b0 : W3.cell? ⟨p, 0, none⟩ = some (.slice ja jn jc) := blk_cell hp3 0
    have b1 : W3.cell? ⟨p, 1, none⟩ = some (.int .u32 t.fl) := blk_cell hp3 1
    have b2 : W3.cell? ⟨p, 2, none⟩ = some (.int .u32 t.ex) := blk_cell hp3 2
    have b3 : W3.cell? ⟨p, 3, none⟩ = some (.int .u64 t.cas) := blk_cell hp3 3
    obtain ⟨g0, g1⟩ := HG.out W3 hf3
    have hfit3 := HFT.out W3 (.slice ja jn jc) hf3 ⟨_, _, _, rfl⟩
    have HFIT := Lib.hid hfit3
    clear hf3 hf4 hp3 hfit3 HFT HG c0 f0
    cases fb with
    | false =>
      refine wp_region_tbl [(0, 32, (.pointer (some ⟨sb, 0, none⟩))), (1, 33, (.pointer (some ⟨p, 0, none⟩))), (2, 34, (.pointer (some ⟨p, 0, none⟩))), (3, 35, (.agg #[.slice ja jn jc, .int .u32 t.fl, .int .u32 t.ex, .int .u64 t.cas])), (4, 36, (.bool false)), (5, 37, (.bool false)), (6, 38, undef), (7, 39, undef), (8, 40, (.bool false)), (9, 41, (.bool false)), (10, 42, undef), (11, 43, undef), (12, 44, undef), (13, 45, (.bool false)), (14, 4, (.bool false))] (fun _ WW => Hid (Below W3.heap.size W3 WW)) (by kernel_rfl) (hord_of2 (by kernel_rfl)) (by kernel_rfl) (by kernel_rfl) (by kernel_rfl) (Below.refl _ _).drew ?_ ?_
      · intro done zb WW j oq ho hd hdep hcl HA HBW
        have hj : j < 15 := (Array.getElem?_eq_some_iff.1 ho).1
        obtain rfl | rfl | rfl | rfl | rfl | rfl | rfl | rfl | rfl | rfl | rfl | rfl | rfl | rfl | rfl : j = 0 ∨ j = 1 ∨ j = 2 ∨ j = 3 ∨ j = 4 ∨ j = 5 ∨ j = 6 ∨ j = 7 ∨ j = 8 ∨ j = 9 ∨ j = 10 ∨ j = 11 ∨ j = 12 ∨ j = 13 ∨ j = 14 := by omega
        · exact valT (.pointer (some ⟨sb, 0, none⟩)) ho (by cases ho; rfl) (by cases ho; simp [execOp, go_sem, HA.tm, lookT, cellB HBW.out g0]) (by cases ho; exact fun d hd => by cases hd; simp) HBW
        · exact valT (.pointer (some ⟨p, 0, none⟩)) ho (by cases ho; rfl) (by cases ho; simp [execOp, go_sem, HA.tm, lookT]) (by cases ho; exact fun d hd => by cases hd; simp) HBW
        · have p1 : done 1 = true := by cases ho; exact hdep ⟨1, .data⟩ (by simp) rfl
          exact valT (.pointer (some ⟨p, 0, none⟩)) ho (by cases ho; rfl) (by cases ho; simp [execOp, go_sem, HA.tm, lookT, p1]) (by cases ho; exact fun d hd => by cases hd; simp) HBW
        · have p2 : done 2 = true := by cases ho; exact hdep ⟨2, .data⟩ (by simp) rfl
          exact valT (.agg #[.slice ja jn jc, .int .u32 t.fl, .int .u32 t.ex, .int .u64 t.cas]) ho (by cases ho; rfl) (by cases ho; simp [execOp, go_sem, HA.tm, lookT, p2, cellB HBW.out b0, cellB HBW.out b1, cellB HBW.out b2, cellB HBW.out b3]) (by cases ho; exact fun d hd => by cases hd; simp) HBW
        · have p0 : done 0 = true := by cases ho; exact hdep ⟨0, .data⟩ (by simp) rfl
          have p3 : done 3 = true := by cases ho; exact hdep ⟨3, .data⟩ (by simp) rfl
          exact callT (f := 63) (args := #[.pointer (some ⟨sb, 0, none⟩), .agg #[.slice ja jn jc, .int .u32 t.fl, .int .u32 t.ex, .int .u64 t.cas]]) (.bool false) ho (by cases ho; rfl) (by cases ho; simp [execOp, go_sem, HA.tm, lookT, p0, p3]) (HFIT.out WW HBW.out) (by cases ho; exact fun d hd => by cases hd; simp) (fun e w' h => ⟨h.1, HBW.out.trans (h.2.mono HBW.out.size)⟩)
        · have p4 : done 4 = true := by cases ho; exact hdep ⟨4, .data⟩ (by simp) rfl
          exact valT (.bool false) ho (by cases ho; rfl) (by cases ho; simp [execOp, go_sem, HA.tm, lookT, p4]) (by cases ho; exact fun d hd => by cases hd; simp) HBW
        · have p5 : done 5 = true := by cases ho; exact hdep ⟨5, .guard⟩ (by simp) rfl
          exact passT ho (by cases ho; simp [Region.wanted, yielded, HA.tm, lookT, go_sem, p5]) (by cases ho; exact fun d hd => by cases hd; simp) HBW
        · have p5 : done 5 = true := by cases ho; exact hdep ⟨5, .guard⟩ (by simp) rfl
          have p6 : done 6 = true := by cases ho; exact hdep ⟨6, .data⟩ (by simp) rfl
          exact passT ho (by cases ho; simp [Region.wanted, yielded, HA.tm, lookT, go_sem, p5, p6]) (by cases ho; exact fun d hd => by cases hd; simp) HBW
        · have p5 : done 5 = true := by cases ho; exact hdep ⟨5, .data⟩ (by simp) rfl
          have p7 : done 7 = true := by cases ho; exact hdep ⟨7, .data⟩ (by simp) rfl
          exact valT (.bool false) ho (by cases ho; rfl) (by cases ho; simp [execOp, go_sem, HA.tm, lookT, p5, p7]) (by cases ho; exact fun d hd => by cases hd; simp) HBW
        · have p8 : done 8 = true := by cases ho; exact hdep ⟨8, .data⟩ (by simp) rfl
          exact valT (.bool false) ho (by cases ho; rfl) (by cases ho; simp [execOp, go_sem, HA.tm, lookT, p8]) (by cases ho; exact fun d hd => by cases hd; simp) HBW
        · have p9 : done 9 = true := by cases ho; exact hdep ⟨9, .guard⟩ (by simp) rfl
          exact passT ho (by cases ho; simp [Region.wanted, yielded, HA.tm, lookT, go_sem, p9]) (by cases ho; exact fun d hd => by cases hd; simp) HBW
        · have p9 : done 9 = true := by cases ho; exact hdep ⟨9, .guard⟩ (by simp) rfl
          exact passT ho (by cases ho; simp [Region.wanted, yielded, HA.tm, lookT, go_sem, p9]) (by cases ho; exact fun d hd => by cases hd; simp) HBW
        · have p9 : done 9 = true := by cases ho; exact hdep ⟨9, .guard⟩ (by simp) rfl
          have p10 : done 10 = true := by cases ho; exact hdep ⟨10, .data⟩ (by simp) rfl
          have p11 : done 11 = true := by cases ho; exact hdep ⟨11, .data⟩ (by simp) rfl
          exact passT ho (by cases ho; simp [Region.wanted, yielded, HA.tm, lookT, go_sem, p9, p10, p11]) (by cases ho; exact fun d hd => by cases hd; simp) HBW
        · have p9 : done 9 = true := by cases ho; exact hdep ⟨9, .data⟩ (by simp) rfl
          have p12 : done 12 = true := by cases ho; exact hdep ⟨12, .data⟩ (by simp) rfl
          exact valT (.bool false) ho (by cases ho; rfl) (by cases ho; simp [execOp, go_sem, HA.tm, lookT, p9, p12]) (by cases ho; exact fun d hd => by cases hd; simp) HBW
        · have p13 : done 13 = true := by cases ho; exact hdep ⟨13, .data⟩ (by simp) rfl
          exact valT (.bool false) ho (by cases ho; rfl) (by cases ho; simp [execOp, go_sem, HA.tm, lookT, p13]) (by cases ho; exact fun d hd => by cases hd; simp) HBW
      · intro done WW hall HBW
        clear hall
        simp only [putAll, Act.put, List.setIfInBounds_toArray, List.set_cons_succ, List.set_cons_zero]
        go_wp2_with fail
        go_ret
        exact how_no rfl (HF3.out.trans (frm_below HBW.out)) (by rw [HX.out]; rfl)
    | true =>
      refine wp_region_tbl [(0, 32, (.pointer (some ⟨sb, 0, none⟩))), (1, 33, (.pointer (some ⟨p, 0, none⟩))), (2, 34, (.pointer (some ⟨p, 0, none⟩))), (3, 35, (.agg #[.slice ja jn jc, .int .u32 t.fl, .int .u32 t.ex, .int .u64 t.cas])), (4, 36, (.bool true)), (5, 37, (.bool true)), (6, 38, (.int .i64 0)), (7, 39, (.bool true)), (8, 40, (.bool true)), (9, 41, (.bool true)), (10, 42, (.int .u64 (m : Nat))), (11, 43, (.int .u64 n)), (12, 44, (.bool ff)), (13, 45, (.bool ff)), (14, 4, (.bool ff))] (fun _ WW => Hid (Below W3.heap.size W3 WW)) (by kernel_rfl) (hord_of2 (by kernel_rfl)) (by kernel_rfl) (by kernel_rfl) (by kernel_rfl) (Below.refl _ _).drew ?_ ?_
      · intro done zb WW j oq ho hd hdep hcl HA HBW
        have hj : j < 15 := (Array.getElem?_eq_some_iff.1 ho).1
        obtain rfl | rfl | rfl | rfl | rfl | rfl | rfl | rfl | rfl | rfl | rfl | rfl | rfl | rfl | rfl : j = 0 ∨ j = 1 ∨ j = 2 ∨ j = 3 ∨ j = 4 ∨ j = 5 ∨ j = 6 ∨ j = 7 ∨ j = 8 ∨ j = 9 ∨ j = 10 ∨ j = 11 ∨ j = 12 ∨ j = 13 ∨ j = 14 := by omega
        · exact valT (.pointer (some ⟨sb, 0, none⟩)) ho (by cases ho; rfl) (by cases ho; simp [execOp, go_sem, HA.tm, lookT, cellB HBW.out g0]) (by cases ho; exact fun d hd => by cases hd; simp) HBW
        · exact valT (.pointer (some ⟨p, 0, none⟩)) ho (by cases ho; rfl) (by cases ho; simp [execOp, go_sem, HA.tm, lookT]) (by cases ho; exact fun d hd => by cases hd; simp) HBW
        · have p1 : done 1 = true := by cases ho; exact hdep ⟨1, .data⟩ (by simp) rfl
          exact valT (.pointer (some ⟨p, 0, none⟩)) ho (by cases ho; rfl) (by cases ho; simp [execOp, go_sem, HA.tm, lookT, p1]) (by cases ho; exact fun d hd => by cases hd; simp) HBW
        · have p2 : done 2 = true := by cases ho; exact hdep ⟨2, .data⟩ (by simp) rfl
          exact valT (.agg #[.slice ja jn jc, .int .u32 t.fl, .int .u32 t.ex, .int .u64 t.cas]) ho (by cases ho; rfl) (by cases ho; simp [execOp, go_sem, HA.tm, lookT, p2, cellB HBW.out b0, cellB HBW.out b1, cellB HBW.out b2, cellB HBW.out b3]) (by cases ho; exact fun d hd => by cases hd; simp) HBW
        · have p0 : done 0 = true := by cases ho; exact hdep ⟨0, .data⟩ (by simp) rfl
          have p3 : done 3 = true := by cases ho; exact hdep ⟨3, .data⟩ (by simp) rfl
          exact callT (f := 63) (args := #[.pointer (some ⟨sb, 0, none⟩), .agg #[.slice ja jn jc, .int .u32 t.fl, .int .u32 t.ex, .int .u64 t.cas]]) (.bool true) ho (by cases ho; rfl) (by cases ho; simp [execOp, go_sem, HA.tm, lookT, p0, p3]) (HFIT.out WW HBW.out) (by cases ho; exact fun d hd => by cases hd; simp) (fun e w' h => ⟨h.1, HBW.out.trans (h.2.mono HBW.out.size)⟩)
        · have p4 : done 4 = true := by cases ho; exact hdep ⟨4, .data⟩ (by simp) rfl
          exact valT (.bool true) ho (by cases ho; rfl) (by cases ho; simp [execOp, go_sem, HA.tm, lookT, p4]) (by cases ho; exact fun d hd => by cases hd; simp) HBW
        · have p5 : done 5 = true := by cases ho; exact hdep ⟨5, .guard⟩ (by simp) rfl
          exact valT (.int .i64 0) ho (by cases ho; simp [Region.wanted, yielded, HA.tm, lookT, go_sem, p5]) (by cases ho; simp [execOp, go_sem, HA.tm, lookT, p5]) (by cases ho; exact fun d hd => by cases hd; simp) HBW
        · have p5 : done 5 = true := by cases ho; exact hdep ⟨5, .guard⟩ (by simp) rfl
          have p6 : done 6 = true := by cases ho; exact hdep ⟨6, .data⟩ (by simp) rfl
          exact valT (.bool true) ho (by cases ho; simp [Region.wanted, yielded, HA.tm, lookT, go_sem, p5, p6]) (by cases ho; simp [execOp, go_sem, HA.tm, lookT, p5, p6]) (by cases ho; exact fun d hd => by cases hd; simp) HBW
        · have p5 : done 5 = true := by cases ho; exact hdep ⟨5, .data⟩ (by simp) rfl
          have p7 : done 7 = true := by cases ho; exact hdep ⟨7, .data⟩ (by simp) rfl
          exact valT (.bool true) ho (by cases ho; rfl) (by cases ho; simp [execOp, go_sem, HA.tm, lookT, p5, p7]) (by cases ho; exact fun d hd => by cases hd; simp) HBW
        · have p8 : done 8 = true := by cases ho; exact hdep ⟨8, .data⟩ (by simp) rfl
          exact valT (.bool true) ho (by cases ho; rfl) (by cases ho; simp [execOp, go_sem, HA.tm, lookT, p8]) (by cases ho; exact fun d hd => by cases hd; simp) HBW
        · have p9 : done 9 = true := by cases ho; exact hdep ⟨9, .guard⟩ (by simp) rfl
          exact valT (.int .u64 (m : Nat)) ho (by cases ho; simp [Region.wanted, yielded, HA.tm, lookT, go_sem, p9]) (by cases ho; simp [execOp, go_sem, HA.tm, lookT, p9]) (by cases ho; exact fun d hd => by cases hd; simp) HBW
        · have p9 : done 9 = true := by cases ho; exact hdep ⟨9, .guard⟩ (by simp) rfl
          exact valT (.int .u64 n) ho (by cases ho; simp [Region.wanted, yielded, HA.tm, lookT, go_sem, p9]) (by cases ho; simp [execOp, go_sem, HA.tm, lookT, p9, cellB HBW.out g1]) (by cases ho; exact fun d hd => by cases hd; simp) HBW
        · have p9 : done 9 = true := by cases ho; exact hdep ⟨9, .guard⟩ (by simp) rfl
          have p10 : done 10 = true := by cases ho; exact hdep ⟨10, .data⟩ (by simp) rfl
          have p11 : done 11 = true := by cases ho; exact hdep ⟨11, .data⟩ (by simp) rfl
          exact valT (.bool ff) ho (by cases ho; simp [Region.wanted, yielded, HA.tm, lookT, go_sem, p9, p10, p11]) (by cases ho; simp [execOp, go_sem, HA.tm, lookT, p9, p10, p11, hff]) (by cases ho; exact fun d hd => by cases hd; simp) HBW
        · have p9 : done 9 = true := by cases ho; exact hdep ⟨9, .data⟩ (by simp) rfl
          have p12 : done 12 = true := by cases ho; exact hdep ⟨12, .data⟩ (by simp) rfl
          exact valT (.bool ff) ho (by cases ho; rfl) (by cases ho; simp [execOp, go_sem, HA.tm, lookT, p9, p12]) (by cases ho; exact fun d hd => by cases hd; simp) HBW
        · have p13 : done 13 = true := by cases ho; exact hdep ⟨13, .data⟩ (by simp) rfl
          exact valT (.bool ff) ho (by cases ho; rfl) (by cases ho; simp [execOp, go_sem, HA.tm, lookT, p13]) (by cases ho; exact fun d hd => by cases hd; simp) HBW
      · intro done WW hall HBW
        clear hall
        simp only [putAll, Act.put, List.setIfInBounds_toArray, List.set_cons_succ, List.set_cons_zero]
        go_wp2_with fail
        go_ret
        cases ff with
        | false => exact how_no rfl (HF3.out.trans (frm_below HBW.out)) (by rw [HX.out]; rfl)
        | true => exact how_turn (t' := ⟨textF m, t.fl, t.ex, t.cas⟩) rfl (HF3.out.trans (frm_below HBW.out)) ((HBW.out.block p (blk_lt HP3.out)).trans HP3.out) HOK.out (by rw [HX.out]; rfl) (.inr (own_base (own_keep HOWN.out fun b hb => (HBW.out.block b (by have := (HOWN.out.lt b hb).2; have := HF4.out.size; omega)).trans (HF4.out.block b (HOWN.out.lt b hb).2 (by have := (HOWN.out.lt b hb).1; have := blk_lt HBX.out; have hz : W.drew.heap.size = W.heap.size := rfl; intro e; omega))) (Nat.le_refl _)))
end Go.Proofs.Ytngpffmgkponfaa
