/- The functions that ideal.step.succeeds hands to each. Conditions: the step, the answer, the request lie in memory. -/
import Derived.Test.YtngpffmgkponfaaRfw
set_option linter.unusedVariables false
set_option linter.unusedSimpArgs false
namespace Go.Idl
def toldB (a : An) (t : Tv) : Bool := decide (t.val = a.val) && t.fl == a.fl
def fitHow (q : Rq) (t : Tv) : Option Tv := if fitsB q t then some t else none
def getHow (a : An) (t : Tv) : Option Tv := if toldB a t && t.cas == a.cas then some t else none
def touHow (q : Rq) (a : An) (ex : Int) (t : Tv) : Option Tv := if q.op == 28 || toldB a t then some ⟨t.val, t.fl, ex, t.cas⟩ else none
def joiHow (q : Rq) (t : Tv) : Option Tv := if fitsB q t && decide (t.val.length + q.val.length ≤ 512) then some ⟨if q.op = 15 then q.val ++ t.val else t.val ++ q.val, t.fl, t.ex, t.cas⟩ else none
end Go.Idl
namespace Go.Proofs.Ytngpffmgkponfaa
open Go.RowKit Go.Ice Go.Idl

def anC (a : An) (aa sa : Option Addr) (ac sc : Nat) : Array Value := #[.int .i64 a.st, .slice aa a.val.length ac, .int .u32 a.fl, .int .u64 a.cas, .int .u64 a.num, .slice sa a.stats.length sc, .bool a.cl]
def rqC (q : Rq) (ka va : Option Addr) (kc vc : Nat) : Array Value := #[.int .i64 q.op, .bool q.quiet, .bool q.full, .int .i64 q.bad, .int .u32 q.opq, .slice ka q.key.length kc, .slice va q.val.length vc, .int .u32 q.fl, .int .u32 q.ex, .int .u64 q.cas, .int .u64 q.delta, .int .u64 q.ini]

set_option maxHeartbeats 4000000 in
set_option maxRecDepth 20000 in
theorem told64 (W : World) (p ab : Nat) (x : Value) (t : Tv) (a : An) (aa sa : Option Addr) (ac sc : Nat) (hb : W.heap[p]? = some (.cells (boxC x t) 49 (0, 0))) (hx : BytesAt W x t.val) (ha : W.heap[ab]? = some (.cells (anC a aa sa ac sc) 38 (0, 0))) (hv : BytesAt W (.slice aa a.val.length ac) a.val) :
    Calls Try.prog 64 #[.pointer (some ⟨p, 0, none⟩), .pointer (some ⟨ab, 0, none⟩)] W fun e w' => e = .returned (.bool (toldB a t)) ∧ Below W.heap.size W w' := by
  obtain ⟨xa, xc, rfl, _⟩ := BytesAt.form hx
  have b0 : W.cell? ⟨p, 0, none⟩ = some (.slice xa t.val.length xc) := blk_cell hb 0
  have b1 : W.cell? ⟨p, 1, none⟩ = some (.int .u32 t.fl) := blk_cell hb 1
  have a1 : W.cell? ⟨ab, 1, none⟩ = some (.slice aa a.val.length ac) := blk_cell ha 1
  have a2 : W.cell? ⟨ab, 2, none⟩ = some (.int .u32 a.fl) := blk_cell ha 2
  obtain ⟨bb, hbb⟩ : ∃ bb, bb = decide (t.val = a.val) := ⟨_, rfl⟩
  have heq : ∀ W', Below W.heap.size W W' → Calls Try.prog 65 #[.slice xa t.val.length xc, .slice aa a.val.length ac] W' fun e w' => e = .returned (.bool bb) ∧ Below W'.heap.size W' w' := fun W' hW => by
    rw [hbb]; exact equalBytes W' _ _ t.val a.val (hx.below hW (Nat.le_refl _)) (hv.below hW (Nat.le_refl _))
  obtain ⟨xn, hxn⟩ : ∃ n, n = t.val.length := ⟨_, rfl⟩
  obtain ⟨an, han⟩ : ∃ n, n = a.val.length := ⟨_, rfl⟩
  rw [← hxn] at b0 heq
  rw [← han] at a1 heq
  have HEQ := Lib.hid heq
  obtain ⟨ff, hf⟩ : ∃ ff, ff = (t.fl == a.fl) := ⟨_, rfl⟩
  obtain ⟨rr, hr⟩ : ∃ rr, rr = toldB a t := ⟨_, rfl⟩
  rw [← hr]
  have HX : Hid (rr = (bb && ff)) := by show _ = _; rw [hr, hbb, hf]; rfl
  have hff := hf.symm
  clear hb hx ha hv hbb heq hxn han hf hr
  cases bb with
  | false =>
    have HX : Hid (rr = false) := HX
    go_enter Try.func64, Try.ntmps64
    go_wp2_with fail
    refine wp_region_inv2 (by kernel_rfl) (hord_of2 (by kernel_rfl)) (fun done zac WW => zac = { tmps := #[(.pointer (some ⟨p, 0, none⟩)), (.pointer (some ⟨ab, 0, none⟩)), undef, if done 16 then (.bool false) else (.bool false), if done 0 then (.pointer (some ⟨p, 0, none⟩)) else undef, if done 1 then (.pointer (some ⟨p, 0, none⟩)) else undef, if done 2 then (.pointer (some ⟨p, 0, none⟩)) else undef, if done 3 then (.slice xa xn xc) else undef, if done 4 then (.pointer (some ⟨ab, 1, none⟩)) else undef, if done 5 then (.slice aa an ac) else undef, if done 6 then (.bool false) else undef, if done 7 then (.bool false) else undef, if done 8 then undef else undef, if done 9 then undef else undef, if done 10 then undef else undef, if done 11 then undef else undef, if done 12 then undef else undef, if done 13 then undef else undef, if done 14 then undef else undef, if done 15 then (.bool false) else undef], defers := [] } ∧ Hid (Below W.heap.size W WW)) ?_ ?_ ?_
    · exact ⟨by simp, (Below.refl _ _).drew⟩
    · intro done zac WW j oq ho hd hdep hcl ⟨hlit, HBW⟩
      have hj : j < 17 := (Array.getElem?_eq_some_iff.1 ho).1
      subst hlit
      obtain rfl | rfl | rfl | rfl | rfl | rfl | rfl | rfl | rfl | rfl | rfl | rfl | rfl | rfl | rfl | rfl | rfl : j = 0 ∨ j = 1 ∨ j = 2 ∨ j = 3 ∨ j = 4 ∨ j = 5 ∨ j = 6 ∨ j = 7 ∨ j = 8 ∨ j = 9 ∨ j = 10 ∨ j = 11 ∨ j = 12 ∨ j = 13 ∨ j = 14 ∨ j = 15 ∨ j = 16 := by omega
      · refine wpOp_val ho (by cases ho; rfl) (w' := WW) (v := (.pointer (some ⟨p, 0, none⟩))) (by cases ho; simp [execOp, go_sem]) ?_
        cases ho
        exact ⟨by simp [Act.put], HBW⟩
      · have p0 : done 0 = true := by cases ho; exact hdep ⟨0, .data⟩ (by simp) rfl
        refine wpOp_val ho (by cases ho; rfl) (w' := WW) (v := (.pointer (some ⟨p, 0, none⟩))) (by cases ho; simp [execOp, go_sem, p0]) ?_
        cases ho
        exact ⟨by simp [Act.put], HBW⟩
      · have p1 : done 1 = true := by cases ho; exact hdep ⟨1, .data⟩ (by simp) rfl
        refine wpOp_val ho (by cases ho; rfl) (w' := WW) (v := (.pointer (some ⟨p, 0, none⟩))) (by cases ho; simp [execOp, go_sem, p1]) ?_
        cases ho
        exact ⟨by simp [Act.put], HBW⟩
      · have p2 : done 2 = true := by cases ho; exact hdep ⟨2, .data⟩ (by simp) rfl
        refine wpOp_val ho (by cases ho; rfl) (w' := WW) (v := (.slice xa xn xc)) (by cases ho; simp [execOp, go_sem, p2, cellB HBW.out b0]) ?_
        cases ho
        exact ⟨by simp [Act.put], HBW⟩
      · refine wpOp_val ho (by cases ho; rfl) (w' := WW) (v := (.pointer (some ⟨ab, 1, none⟩))) (by cases ho; simp [execOp, go_sem]) ?_
        cases ho
        exact ⟨by simp [Act.put], HBW⟩
      · have p4 : done 4 = true := by cases ho; exact hdep ⟨4, .data⟩ (by simp) rfl
        refine wpOp_val ho (by cases ho; rfl) (w' := WW) (v := (.slice aa an ac)) (by cases ho; simp [execOp, go_sem, p4, cellB HBW.out a1]) ?_
        cases ho
        exact ⟨by simp [Act.put], HBW⟩
      · have p3 : done 3 = true := by cases ho; exact hdep ⟨3, .data⟩ (by simp) rfl
        have p5 : done 5 = true := by cases ho; exact hdep ⟨5, .data⟩ (by simp) rfl
        refine wpOp_call ho (by cases ho; rfl) (f := 65) (args := #[.slice xa xn xc, .slice aa an ac]) (by cases ho; simp [execOp, go_sem, p3, p5]) (HEQ.out WW HBW.out) ?_
        rintro e w' ⟨rfl, hb1⟩
        cases ho
        exact ⟨_, rfl, by simp [Act.put], HBW.out.trans (hb1.mono HBW.out.size)⟩
      · have p6 : done 6 = true := by cases ho; exact hdep ⟨6, .data⟩ (by simp) rfl
        refine wpOp_val ho (by cases ho; rfl) (w' := WW) (v := (.bool false)) (by cases ho; simp [execOp, go_sem, p6]) ?_
        cases ho
        exact ⟨by simp [Act.put], HBW⟩
      · have p7 : done 7 = true := by cases ho; exact hdep ⟨7, .guard⟩ (by simp) rfl
        refine wpOp_pass ho (by cases ho; simp [Region.wanted, yielded, go_sem, p7]) ?_
        cases ho
        exact ⟨by simp [Act.put], HBW⟩
      · have p7 : done 7 = true := by cases ho; exact hdep ⟨7, .guard⟩ (by simp) rfl
        have p8 : done 8 = true := by cases ho; exact hdep ⟨8, .data⟩ (by simp) rfl
        refine wpOp_pass ho (by cases ho; simp [Region.wanted, yielded, go_sem, p7, p8]) ?_
        cases ho
        exact ⟨by simp [Act.put], HBW⟩
      · have p7 : done 7 = true := by cases ho; exact hdep ⟨7, .guard⟩ (by simp) rfl
        have p9 : done 9 = true := by cases ho; exact hdep ⟨9, .data⟩ (by simp) rfl
        refine wpOp_pass ho (by cases ho; simp [Region.wanted, yielded, go_sem, p7, p9]) ?_
        cases ho
        exact ⟨by simp [Act.put], HBW⟩
      · have p7 : done 7 = true := by cases ho; exact hdep ⟨7, .guard⟩ (by simp) rfl
        have p10 : done 10 = true := by cases ho; exact hdep ⟨10, .data⟩ (by simp) rfl
        refine wpOp_pass ho (by cases ho; simp [Region.wanted, yielded, go_sem, p7, p10]) ?_
        cases ho
        exact ⟨by simp [Act.put], HBW⟩
      · have p7 : done 7 = true := by cases ho; exact hdep ⟨7, .guard⟩ (by simp) rfl
        refine wpOp_pass ho (by cases ho; simp [Region.wanted, yielded, go_sem, p7]) ?_
        cases ho
        exact ⟨by simp [Act.put], HBW⟩
      · have p7 : done 7 = true := by cases ho; exact hdep ⟨7, .guard⟩ (by simp) rfl
        have p12 : done 12 = true := by cases ho; exact hdep ⟨12, .data⟩ (by simp) rfl
        refine wpOp_pass ho (by cases ho; simp [Region.wanted, yielded, go_sem, p7, p12]) ?_
        cases ho
        exact ⟨by simp [Act.put], HBW⟩
      · have p7 : done 7 = true := by cases ho; exact hdep ⟨7, .guard⟩ (by simp) rfl
        have p11 : done 11 = true := by cases ho; exact hdep ⟨11, .data⟩ (by simp) rfl
        have p13 : done 13 = true := by cases ho; exact hdep ⟨13, .data⟩ (by simp) rfl
        refine wpOp_pass ho (by cases ho; simp [Region.wanted, yielded, go_sem, p7, p11, p13]) ?_
        cases ho
        exact ⟨by simp [Act.put], HBW⟩
      · have p7 : done 7 = true := by cases ho; exact hdep ⟨7, .data⟩ (by simp) rfl
        have p14 : done 14 = true := by cases ho; exact hdep ⟨14, .data⟩ (by simp) rfl
        refine wpOp_val ho (by cases ho; rfl) (w' := WW) (v := (.bool false)) (by cases ho; simp [execOp, go_sem, p7, p14]) ?_
        cases ho
        exact ⟨by simp [Act.put], HBW⟩
      · have p15 : done 15 = true := by cases ho; exact hdep ⟨15, .data⟩ (by simp) rfl
        refine wpOp_val ho (by cases ho; rfl) (w' := WW) (v := (.bool false)) (by cases ho; simp [execOp, go_sem, p15]) ?_
        cases ho
        exact ⟨by simp [Act.put], HBW⟩
    · rintro done zac WW hall ⟨rfl, HBW⟩
      have e0 := hall 0 (by decide)
      have e1 := hall 1 (by decide)
      have e2 := hall 2 (by decide)
      have e3 := hall 3 (by decide)
      have e4 := hall 4 (by decide)
      have e5 := hall 5 (by decide)
      have e6 := hall 6 (by decide)
      have e7 := hall 7 (by decide)
      have e8 := hall 8 (by decide)
      have e9 := hall 9 (by decide)
      have e10 := hall 10 (by decide)
      have e11 := hall 11 (by decide)
      have e12 := hall 12 (by decide)
      have e13 := hall 13 (by decide)
      have e14 := hall 14 (by decide)
      have e15 := hall 15 (by decide)
      have e16 := hall 16 (by decide)
      simp only [e0, e1, e2, e3, e4, e5, e6, e7, e8, e9, e10, e11, e12, e13, e14, e15, e16, if_true]
      clear hall e0 e1 e2 e3 e4 e5 e6 e7 e8 e9 e10 e11 e12 e13 e14 e15 e16
      go_wp2_with fail
      go_ret
      exact ⟨by rw [HX.out]; rfl, HBW.out⟩
  | true =>
    have HX : Hid (rr = ff) := by show _ = _; have := HX.out; simpa using this
    go_enter Try.func64, Try.ntmps64
    go_wp2_with fail
    refine wp_region_inv2 (by kernel_rfl) (hord_of2 (by kernel_rfl)) (fun done zac WW => zac = { tmps := #[(.pointer (some ⟨p, 0, none⟩)), (.pointer (some ⟨ab, 0, none⟩)), undef, if done 16 then (.bool ff) else (.bool false), if done 0 then (.pointer (some ⟨p, 0, none⟩)) else undef, if done 1 then (.pointer (some ⟨p, 0, none⟩)) else undef, if done 2 then (.pointer (some ⟨p, 0, none⟩)) else undef, if done 3 then (.slice xa xn xc) else undef, if done 4 then (.pointer (some ⟨ab, 1, none⟩)) else undef, if done 5 then (.slice aa an ac) else undef, if done 6 then (.bool true) else undef, if done 7 then (.bool true) else undef, if done 8 then (.pointer (some ⟨p, 0, none⟩)) else undef, if done 9 then (.pointer (some ⟨p, 0, none⟩)) else undef, if done 10 then (.pointer (some ⟨p, 1, none⟩)) else undef, if done 11 then (.int .u32 t.fl) else undef, if done 12 then (.pointer (some ⟨ab, 2, none⟩)) else undef, if done 13 then (.int .u32 a.fl) else undef, if done 14 then (.bool ff) else undef, if done 15 then (.bool ff) else undef], defers := [] } ∧ Hid (Below W.heap.size W WW)) ?_ ?_ ?_
    · exact ⟨by simp, (Below.refl _ _).drew⟩
    · intro done zac WW j oq ho hd hdep hcl ⟨hlit, HBW⟩
      have hj : j < 17 := (Array.getElem?_eq_some_iff.1 ho).1
      subst hlit
      obtain rfl | rfl | rfl | rfl | rfl | rfl | rfl | rfl | rfl | rfl | rfl | rfl | rfl | rfl | rfl | rfl | rfl : j = 0 ∨ j = 1 ∨ j = 2 ∨ j = 3 ∨ j = 4 ∨ j = 5 ∨ j = 6 ∨ j = 7 ∨ j = 8 ∨ j = 9 ∨ j = 10 ∨ j = 11 ∨ j = 12 ∨ j = 13 ∨ j = 14 ∨ j = 15 ∨ j = 16 := by omega
      · refine wpOp_val ho (by cases ho; rfl) (w' := WW) (v := (.pointer (some ⟨p, 0, none⟩))) (by cases ho; simp [execOp, go_sem]) ?_
        cases ho
        exact ⟨by simp [Act.put], HBW⟩
      · have p0 : done 0 = true := by cases ho; exact hdep ⟨0, .data⟩ (by simp) rfl
        refine wpOp_val ho (by cases ho; rfl) (w' := WW) (v := (.pointer (some ⟨p, 0, none⟩))) (by cases ho; simp [execOp, go_sem, p0]) ?_
        cases ho
        exact ⟨by simp [Act.put], HBW⟩
      · have p1 : done 1 = true := by cases ho; exact hdep ⟨1, .data⟩ (by simp) rfl
        refine wpOp_val ho (by cases ho; rfl) (w' := WW) (v := (.pointer (some ⟨p, 0, none⟩))) (by cases ho; simp [execOp, go_sem, p1]) ?_
        cases ho
        exact ⟨by simp [Act.put], HBW⟩
      · have p2 : done 2 = true := by cases ho; exact hdep ⟨2, .data⟩ (by simp) rfl
        refine wpOp_val ho (by cases ho; rfl) (w' := WW) (v := (.slice xa xn xc)) (by cases ho; simp [execOp, go_sem, p2, cellB HBW.out b0]) ?_
        cases ho
        exact ⟨by simp [Act.put], HBW⟩
      · refine wpOp_val ho (by cases ho; rfl) (w' := WW) (v := (.pointer (some ⟨ab, 1, none⟩))) (by cases ho; simp [execOp, go_sem]) ?_
        cases ho
        exact ⟨by simp [Act.put], HBW⟩
      · have p4 : done 4 = true := by cases ho; exact hdep ⟨4, .data⟩ (by simp) rfl
        refine wpOp_val ho (by cases ho; rfl) (w' := WW) (v := (.slice aa an ac)) (by cases ho; simp [execOp, go_sem, p4, cellB HBW.out a1]) ?_
        cases ho
        exact ⟨by simp [Act.put], HBW⟩
      · have p3 : done 3 = true := by cases ho; exact hdep ⟨3, .data⟩ (by simp) rfl
        have p5 : done 5 = true := by cases ho; exact hdep ⟨5, .data⟩ (by simp) rfl
        refine wpOp_call ho (by cases ho; rfl) (f := 65) (args := #[.slice xa xn xc, .slice aa an ac]) (by cases ho; simp [execOp, go_sem, p3, p5]) (HEQ.out WW HBW.out) ?_
        rintro e w' ⟨rfl, hb1⟩
        cases ho
        exact ⟨_, rfl, by simp [Act.put], HBW.out.trans (hb1.mono HBW.out.size)⟩
      · have p6 : done 6 = true := by cases ho; exact hdep ⟨6, .data⟩ (by simp) rfl
        refine wpOp_val ho (by cases ho; rfl) (w' := WW) (v := (.bool true)) (by cases ho; simp [execOp, go_sem, p6]) ?_
        cases ho
        exact ⟨by simp [Act.put], HBW⟩
      · have p7 : done 7 = true := by cases ho; exact hdep ⟨7, .guard⟩ (by simp) rfl
        refine wpOp_valW ho (by cases ho; simp [Region.wanted, yielded, go_sem, p7]) (w' := WW) (v := (.pointer (some ⟨p, 0, none⟩))) (by cases ho; simp [execOp, go_sem, p7]) ?_
        cases ho
        exact ⟨by simp [Act.put], HBW⟩
      · have p7 : done 7 = true := by cases ho; exact hdep ⟨7, .guard⟩ (by simp) rfl
        have p8 : done 8 = true := by cases ho; exact hdep ⟨8, .data⟩ (by simp) rfl
        refine wpOp_valW ho (by cases ho; simp [Region.wanted, yielded, go_sem, p7, p8]) (w' := WW) (v := (.pointer (some ⟨p, 0, none⟩))) (by cases ho; simp [execOp, go_sem, p7, p8]) ?_
        cases ho
        exact ⟨by simp [Act.put], HBW⟩
      · have p7 : done 7 = true := by cases ho; exact hdep ⟨7, .guard⟩ (by simp) rfl
        have p9 : done 9 = true := by cases ho; exact hdep ⟨9, .data⟩ (by simp) rfl
        refine wpOp_valW ho (by cases ho; simp [Region.wanted, yielded, go_sem, p7, p9]) (w' := WW) (v := (.pointer (some ⟨p, 1, none⟩))) (by cases ho; simp [execOp, go_sem, p7, p9]) ?_
        cases ho
        exact ⟨by simp [Act.put], HBW⟩
      · have p7 : done 7 = true := by cases ho; exact hdep ⟨7, .guard⟩ (by simp) rfl
        have p10 : done 10 = true := by cases ho; exact hdep ⟨10, .data⟩ (by simp) rfl
        refine wpOp_valW ho (by cases ho; simp [Region.wanted, yielded, go_sem, p7, p10]) (w' := WW) (v := (.int .u32 t.fl)) (by cases ho; simp [execOp, go_sem, p7, p10, cellB HBW.out b1]) ?_
        cases ho
        exact ⟨by simp [Act.put], HBW⟩
      · have p7 : done 7 = true := by cases ho; exact hdep ⟨7, .guard⟩ (by simp) rfl
        refine wpOp_valW ho (by cases ho; simp [Region.wanted, yielded, go_sem, p7]) (w' := WW) (v := (.pointer (some ⟨ab, 2, none⟩))) (by cases ho; simp [execOp, go_sem, p7]) ?_
        cases ho
        exact ⟨by simp [Act.put], HBW⟩
      · have p7 : done 7 = true := by cases ho; exact hdep ⟨7, .guard⟩ (by simp) rfl
        have p12 : done 12 = true := by cases ho; exact hdep ⟨12, .data⟩ (by simp) rfl
        refine wpOp_valW ho (by cases ho; simp [Region.wanted, yielded, go_sem, p7, p12]) (w' := WW) (v := (.int .u32 a.fl)) (by cases ho; simp [execOp, go_sem, p7, p12, cellB HBW.out a2]) ?_
        cases ho
        exact ⟨by simp [Act.put], HBW⟩
      · have p7 : done 7 = true := by cases ho; exact hdep ⟨7, .guard⟩ (by simp) rfl
        have p11 : done 11 = true := by cases ho; exact hdep ⟨11, .data⟩ (by simp) rfl
        have p13 : done 13 = true := by cases ho; exact hdep ⟨13, .data⟩ (by simp) rfl
        refine wpOp_valW ho (by cases ho; simp [Region.wanted, yielded, go_sem, p7, p11, p13]) (w' := WW) (v := (.bool ff)) (by cases ho; simp [execOp, go_sem, p7, p11, p13, hff]) ?_
        cases ho
        exact ⟨by simp [Act.put], HBW⟩
      · have p7 : done 7 = true := by cases ho; exact hdep ⟨7, .data⟩ (by simp) rfl
        have p14 : done 14 = true := by cases ho; exact hdep ⟨14, .data⟩ (by simp) rfl
        refine wpOp_val ho (by cases ho; rfl) (w' := WW) (v := (.bool ff)) (by cases ho; simp [execOp, go_sem, p7, p14]) ?_
        cases ho
        exact ⟨by simp [Act.put], HBW⟩
      · have p15 : done 15 = true := by cases ho; exact hdep ⟨15, .data⟩ (by simp) rfl
        refine wpOp_val ho (by cases ho; rfl) (w' := WW) (v := (.bool ff)) (by cases ho; simp [execOp, go_sem, p15]) ?_
        cases ho
        exact ⟨by simp [Act.put], HBW⟩
    · rintro done zac WW hall ⟨rfl, HBW⟩
      have e0 := hall 0 (by decide)
      have e1 := hall 1 (by decide)
      have e2 := hall 2 (by decide)
      have e3 := hall 3 (by decide)
      have e4 := hall 4 (by decide)
      have e5 := hall 5 (by decide)
      have e6 := hall 6 (by decide)
      have e7 := hall 7 (by decide)
      have e8 := hall 8 (by decide)
      have e9 := hall 9 (by decide)
      have e10 := hall 10 (by decide)
      have e11 := hall 11 (by decide)
      have e12 := hall 12 (by decide)
      have e13 := hall 13 (by decide)
      have e14 := hall 14 (by decide)
      have e15 := hall 15 (by decide)
      have e16 := hall 16 (by decide)
      simp only [e0, e1, e2, e3, e4, e5, e6, e7, e8, e9, e10, e11, e12, e13, e14, e15, e16, if_true]
      clear hall e0 e1 e2 e3 e4 e5 e6 e7 e8 e9 e10 e11 e12 e13 e14 e15 e16
      go_wp2_with fail
      go_ret
      exact ⟨by rw [HX.out]; rfl, HBW.out⟩

set_option maxHeartbeats 4000000 in
set_option maxRecDepth 20000 in
theorem how66 (w : World) (C : Nat → Prop) (sb mb kb : Nat) (q : Rq) (a : An) (now : Int) (r : Raw) (hs : List Tv) (Y : St) (F : List UInt8 → Option Value) (h : SW w C sb mb kb q a now r hs Y F) (bt : Nat)
    (hbt : w.heap[bt]? = some (.cells #[.pointer (some ⟨sb, 0, none⟩)] 77 (0, 0))) : How w 66 #[.pointer (some ⟨bt, 0, none⟩)] (fitHow q) := by
  intro W p x t hb hp hbx hx htok
  have hx := hx.1
  have t0 : W.cell? ⟨bt, 0, none⟩ = some (.pointer (some ⟨sb, 0, none⟩)) := blk_cell ((hb.block bt (blk_lt hbt)).trans hbt) 0
  obtain ⟨xa, xc, rfl, _⟩ := BytesAt.form hx
  have hfit := fits63 W.drew C sb mb kb q a now r hs Y F (h.below hb.drew) (.slice xa t.val.length xc) t ⟨_, _, _, rfl⟩
  unfold tvV at hfit
  obtain ⟨xn, hxn⟩ : ∃ n, n = t.val.length := ⟨_, rfl⟩
  rw [← hxn] at hbx hfit ⊢
  have b0 : W.cell? ⟨p, 0, none⟩ = some (.slice xa xn xc) := blk_cell hbx 0
  have b1 : W.cell? ⟨p, 1, none⟩ = some (.int .u32 t.fl) := blk_cell hbx 1
  have b2 : W.cell? ⟨p, 2, none⟩ = some (.int .u32 t.ex) := blk_cell hbx 2
  have b3 : W.cell? ⟨p, 3, none⟩ = some (.int .u64 t.cas) := blk_cell hbx 3
  obtain ⟨bb, hbb⟩ : ∃ bb, bb = fitsB q t := ⟨_, rfl⟩
  rw [← hbb] at hfit
  obtain ⟨how, hhow⟩ : ∃ how, how = fitHow q t := ⟨_, rfl⟩
  rw [← hhow]
  have HH : Hid (how = if bb then some t else none) := by show _ = _; rw [hhow, hbb]; rfl
  have HFIT := Lib.hid hfit
  have HBX := Lib.hid hbx
  have HTOK := Lib.hid htok
  clear h hb hp hx hbt hxn hbb hhow hfit hbx htok
  show Calls Try.prog 66 #[_, _] _ _
  go_enter Try.func66, Try.ntmps66
  go_wp2_with fail
  go_still_tail 4, (by kernel_rfl)
  change wpList _ _ _ _ _ W.drew
  go_wp2_with fail
  refine HFIT.out.mono ?_
  rintro e w1 ⟨rfl, hb1⟩
  have HB1 : Hid (Below W.heap.size W w1) := (drewN_below W 1).trans hb1
  clear hb1 t0 b0 b1 b2 b3
  go_wp2_with fail
  go_ret
  exact how_same rfl HB1.out HBX.out HTOK.out HH.out

set_option maxHeartbeats 4000000 in
set_option maxRecDepth 20000 in
theorem how67 (w : World) (a : An) (aa sa : Option Addr) (ac sc : Nat) (tb ab : Nat) (ht : w.heap[tb]? = some (.cells #[.func (.func 64) #[] #[.pointer (some ⟨ab, 0, none⟩)]] 112 (0, 0))) (ha : w.heap[ab]? = some (.cells (anC a aa sa ac sc) 38 (0, 0))) (hv : BytesAt w (.slice aa a.val.length ac) a.val) :
    How w 67 #[.pointer (some ⟨tb, 0, none⟩), .pointer (some ⟨ab, 0, none⟩)] (getHow a) := by
  intro W p x t hb hp hbx hx htok
  have hx := hx.1
  have t0 : W.cell? ⟨tb, 0, none⟩ = some (.func (.func 64) #[] #[.pointer (some ⟨ab, 0, none⟩)]) := blk_cell ((hb.block tb (blk_lt ht)).trans ht) 0
  have ha' := (hb.block ab (blk_lt ha)).trans ha
  have a3 : W.cell? ⟨ab, 3, none⟩ = some (.int .u64 a.cas) := blk_cell ha' 3
  have b3 : W.cell? ⟨p, 3, none⟩ = some (.int .u64 t.cas) := blk_cell hbx 3
  obtain ⟨bb, hbb⟩ : ∃ bb, bb = toldB a t := ⟨_, rfl⟩
  have htd : ∀ W', Below W.heap.size W W' → Calls Try.prog 64 #[.pointer (some ⟨p, 0, none⟩), .pointer (some ⟨ab, 0, none⟩)] W' fun e w' => e = .returned (.bool bb) ∧ Below W'.heap.size W' w' := fun W' hW => by
    rw [hbb]; exact told64 W' p ab x t a aa sa ac sc ((hW.block p (blk_lt hbx)).trans hbx) (hx.below hW (Nat.le_refl _)) ((hW.block ab (blk_lt ha')).trans ha') ((hv.below hb (Nat.le_refl _)).below hW (Nat.le_refl _))
  have HTD := Lib.hid htd
  obtain ⟨ff, hf⟩ : ∃ ff, ff = (t.cas == a.cas) := ⟨_, rfl⟩
  obtain ⟨how, hhow⟩ : ∃ how, how = getHow a t := ⟨_, rfl⟩
  rw [← hhow]
  have HX : Hid (how = if (bb && ff) then some t else none) := by show _ = _; rw [hhow, hbb, hf]; rfl
  have hff := hf.symm
  have HBX := Lib.hid hbx
  have HTOK := Lib.hid htok
  clear hb hp hx ht ha ha' hv hbb htd hf hhow hbx htok
  show Calls Try.prog 67 #[_, _, _] _ _
  cases bb with
  | false =>
    have HX : Hid (how = if false then some t else none) := HX
    go_enter Try.func67, Try.ntmps67
    go_wp2_with fail
    refine wp_region_inv2 (by kernel_rfl) (hord_of2 (by kernel_rfl)) (fun done zac WW => zac = { tmps := #[(.pointer (some ⟨p, 0, none⟩)), (.pointer (some ⟨tb, 0, none⟩)), (.pointer (some ⟨ab, 0, none⟩)), undef, if done 12 then (.bool false) else (.bool false), if done 0 then (.func (.func 64) #[] #[.pointer (some ⟨ab, 0, none⟩)]) else undef, if done 1 then (.pointer (some ⟨p, 0, none⟩)) else undef, if done 2 then (.bool false) else undef, if done 3 then (.bool false) else undef, if done 4 then undef else undef, if done 5 then undef else undef, if done 6 then undef else undef, if done 7 then undef else undef, if done 8 then undef else undef, if done 9 then undef else undef, if done 10 then undef else undef, if done 11 then (.bool false) else undef], defers := [] } ∧ Hid (Below W.heap.size W WW)) ?_ ?_ ?_
    · exact ⟨by simp, (Below.refl _ _).drew⟩
    · intro done zac WW j oq ho hd hdep hcl ⟨hlit, HBW⟩
      have hj : j < 13 := (Array.getElem?_eq_some_iff.1 ho).1
      subst hlit
      obtain rfl | rfl | rfl | rfl | rfl | rfl | rfl | rfl | rfl | rfl | rfl | rfl | rfl : j = 0 ∨ j = 1 ∨ j = 2 ∨ j = 3 ∨ j = 4 ∨ j = 5 ∨ j = 6 ∨ j = 7 ∨ j = 8 ∨ j = 9 ∨ j = 10 ∨ j = 11 ∨ j = 12 := by omega
      · refine wpOp_val ho (by cases ho; rfl) (w' := WW) (v := (.func (.func 64) #[] #[.pointer (some ⟨ab, 0, none⟩)])) (by cases ho; simp [execOp, go_sem, cellB HBW.out t0]) ?_
        cases ho
        exact ⟨by simp [Act.put], HBW⟩
      · refine wpOp_val ho (by cases ho; rfl) (w' := WW) (v := (.pointer (some ⟨p, 0, none⟩))) (by cases ho; simp [execOp, go_sem]) ?_
        cases ho
        exact ⟨by simp [Act.put], HBW⟩
      · have p0 : done 0 = true := by cases ho; exact hdep ⟨0, .data⟩ (by simp) rfl
        have p1 : done 1 = true := by cases ho; exact hdep ⟨1, .data⟩ (by simp) rfl
        refine wpOp_call ho (by cases ho; rfl) (f := 64) (args := #[.pointer (some ⟨p, 0, none⟩), .pointer (some ⟨ab, 0, none⟩)]) (by cases ho; simp [execOp, go_sem, p0, p1]) (HTD.out WW HBW.out) ?_
        rintro e w' ⟨rfl, hb1⟩
        cases ho
        exact ⟨_, rfl, by simp [Act.put], HBW.out.trans (hb1.mono HBW.out.size)⟩
      · have p2 : done 2 = true := by cases ho; exact hdep ⟨2, .data⟩ (by simp) rfl
        refine wpOp_val ho (by cases ho; rfl) (w' := WW) (v := (.bool false)) (by cases ho; simp [execOp, go_sem, p2]) ?_
        cases ho
        exact ⟨by simp [Act.put], HBW⟩
      · have p3 : done 3 = true := by cases ho; exact hdep ⟨3, .guard⟩ (by simp) rfl
        refine wpOp_pass ho (by cases ho; simp [Region.wanted, yielded, go_sem, p3]) ?_
        cases ho
        exact ⟨by simp [Act.put], HBW⟩
      · have p3 : done 3 = true := by cases ho; exact hdep ⟨3, .guard⟩ (by simp) rfl
        have p4 : done 4 = true := by cases ho; exact hdep ⟨4, .data⟩ (by simp) rfl
        refine wpOp_pass ho (by cases ho; simp [Region.wanted, yielded, go_sem, p3, p4]) ?_
        cases ho
        exact ⟨by simp [Act.put], HBW⟩
      · have p3 : done 3 = true := by cases ho; exact hdep ⟨3, .guard⟩ (by simp) rfl
        have p5 : done 5 = true := by cases ho; exact hdep ⟨5, .data⟩ (by simp) rfl
        refine wpOp_pass ho (by cases ho; simp [Region.wanted, yielded, go_sem, p3, p5]) ?_
        cases ho
        exact ⟨by simp [Act.put], HBW⟩
      · have p3 : done 3 = true := by cases ho; exact hdep ⟨3, .guard⟩ (by simp) rfl
        have p6 : done 6 = true := by cases ho; exact hdep ⟨6, .data⟩ (by simp) rfl
        refine wpOp_pass ho (by cases ho; simp [Region.wanted, yielded, go_sem, p3, p6]) ?_
        cases ho
        exact ⟨by simp [Act.put], HBW⟩
      · have p3 : done 3 = true := by cases ho; exact hdep ⟨3, .guard⟩ (by simp) rfl
        refine wpOp_pass ho (by cases ho; simp [Region.wanted, yielded, go_sem, p3]) ?_
        cases ho
        exact ⟨by simp [Act.put], HBW⟩
      · have p3 : done 3 = true := by cases ho; exact hdep ⟨3, .guard⟩ (by simp) rfl
        have p8 : done 8 = true := by cases ho; exact hdep ⟨8, .data⟩ (by simp) rfl
        refine wpOp_pass ho (by cases ho; simp [Region.wanted, yielded, go_sem, p3, p8]) ?_
        cases ho
        exact ⟨by simp [Act.put], HBW⟩
      · have p3 : done 3 = true := by cases ho; exact hdep ⟨3, .guard⟩ (by simp) rfl
        have p7 : done 7 = true := by cases ho; exact hdep ⟨7, .data⟩ (by simp) rfl
        have p9 : done 9 = true := by cases ho; exact hdep ⟨9, .data⟩ (by simp) rfl
        refine wpOp_pass ho (by cases ho; simp [Region.wanted, yielded, go_sem, p3, p7, p9]) ?_
        cases ho
        exact ⟨by simp [Act.put], HBW⟩
      · have p3 : done 3 = true := by cases ho; exact hdep ⟨3, .data⟩ (by simp) rfl
        have p10 : done 10 = true := by cases ho; exact hdep ⟨10, .data⟩ (by simp) rfl
        refine wpOp_val ho (by cases ho; rfl) (w' := WW) (v := (.bool false)) (by cases ho; simp [execOp, go_sem, p3, p10]) ?_
        cases ho
        exact ⟨by simp [Act.put], HBW⟩
      · have p11 : done 11 = true := by cases ho; exact hdep ⟨11, .data⟩ (by simp) rfl
        refine wpOp_val ho (by cases ho; rfl) (w' := WW) (v := (.bool false)) (by cases ho; simp [execOp, go_sem, p11]) ?_
        cases ho
        exact ⟨by simp [Act.put], HBW⟩
    · rintro done zac WW hall ⟨rfl, HBW⟩
      have e0 := hall 0 (by decide)
      have e1 := hall 1 (by decide)
      have e2 := hall 2 (by decide)
      have e3 := hall 3 (by decide)
      have e4 := hall 4 (by decide)
      have e5 := hall 5 (by decide)
      have e6 := hall 6 (by decide)
      have e7 := hall 7 (by decide)
      have e8 := hall 8 (by decide)
      have e9 := hall 9 (by decide)
      have e10 := hall 10 (by decide)
      have e11 := hall 11 (by decide)
      have e12 := hall 12 (by decide)
      simp only [e0, e1, e2, e3, e4, e5, e6, e7, e8, e9, e10, e11, e12, if_true]
      clear hall e0 e1 e2 e3 e4 e5 e6 e7 e8 e9 e10 e11 e12
      go_wp2_with fail
      go_ret
      exact how_same rfl HBW.out HBX.out HTOK.out HX.out
  | true =>
    have HX : Hid (how = if ff then some t else none) := by show _ = _; have := HX.out; simpa using this
    go_enter Try.func67, Try.ntmps67
    go_wp2_with fail
    refine wp_region_inv2 (by kernel_rfl) (hord_of2 (by kernel_rfl)) (fun done zac WW => zac = { tmps := #[(.pointer (some ⟨p, 0, none⟩)), (.pointer (some ⟨tb, 0, none⟩)), (.pointer (some ⟨ab, 0, none⟩)), undef, if done 12 then (.bool ff) else (.bool false), if done 0 then (.func (.func 64) #[] #[.pointer (some ⟨ab, 0, none⟩)]) else undef, if done 1 then (.pointer (some ⟨p, 0, none⟩)) else undef, if done 2 then (.bool true) else undef, if done 3 then (.bool true) else undef, if done 4 then (.pointer (some ⟨p, 0, none⟩)) else undef, if done 5 then (.pointer (some ⟨p, 0, none⟩)) else undef, if done 6 then (.pointer (some ⟨p, 3, none⟩)) else undef, if done 7 then (.int .u64 t.cas) else undef, if done 8 then (.pointer (some ⟨ab, 3, none⟩)) else undef, if done 9 then (.int .u64 a.cas) else undef, if done 10 then (.bool ff) else undef, if done 11 then (.bool ff) else undef], defers := [] } ∧ Hid (Below W.heap.size W WW)) ?_ ?_ ?_
    · exact ⟨by simp, (Below.refl _ _).drew⟩
    · intro done zac WW j oq ho hd hdep hcl ⟨hlit, HBW⟩
      have hj : j < 13 := (Array.getElem?_eq_some_iff.1 ho).1
      subst hlit
      obtain rfl | rfl | rfl | rfl | rfl | rfl | rfl | rfl | rfl | rfl | rfl | rfl | rfl : j = 0 ∨ j = 1 ∨ j = 2 ∨ j = 3 ∨ j = 4 ∨ j = 5 ∨ j = 6 ∨ j = 7 ∨ j = 8 ∨ j = 9 ∨ j = 10 ∨ j = 11 ∨ j = 12 := by omega
      · refine wpOp_val ho (by cases ho; rfl) (w' := WW) (v := (.func (.func 64) #[] #[.pointer (some ⟨ab, 0, none⟩)])) (by cases ho; simp [execOp, go_sem, cellB HBW.out t0]) ?_
        cases ho
        exact ⟨by simp [Act.put], HBW⟩
      · refine wpOp_val ho (by cases ho; rfl) (w' := WW) (v := (.pointer (some ⟨p, 0, none⟩))) (by cases ho; simp [execOp, go_sem]) ?_
        cases ho
        exact ⟨by simp [Act.put], HBW⟩
      · have p0 : done 0 = true := by cases ho; exact hdep ⟨0, .data⟩ (by simp) rfl
        have p1 : done 1 = true := by cases ho; exact hdep ⟨1, .data⟩ (by simp) rfl
        refine wpOp_call ho (by cases ho; rfl) (f := 64) (args := #[.pointer (some ⟨p, 0, none⟩), .pointer (some ⟨ab, 0, none⟩)]) (by cases ho; simp [execOp, go_sem, p0, p1]) (HTD.out WW HBW.out) ?_
        rintro e w' ⟨rfl, hb1⟩
        cases ho
        exact ⟨_, rfl, by simp [Act.put], HBW.out.trans (hb1.mono HBW.out.size)⟩
      · have p2 : done 2 = true := by cases ho; exact hdep ⟨2, .data⟩ (by simp) rfl
        refine wpOp_val ho (by cases ho; rfl) (w' := WW) (v := (.bool true)) (by cases ho; simp [execOp, go_sem, p2]) ?_
        cases ho
        exact ⟨by simp [Act.put], HBW⟩
      · have p3 : done 3 = true := by cases ho; exact hdep ⟨3, .guard⟩ (by simp) rfl
        refine wpOp_valW ho (by cases ho; simp [Region.wanted, yielded, go_sem, p3]) (w' := WW) (v := (.pointer (some ⟨p, 0, none⟩))) (by cases ho; simp [execOp, go_sem, p3]) ?_
        cases ho
        exact ⟨by simp [Act.put], HBW⟩
      · have p3 : done 3 = true := by cases ho; exact hdep ⟨3, .guard⟩ (by simp) rfl
        have p4 : done 4 = true := by cases ho; exact hdep ⟨4, .data⟩ (by simp) rfl
        refine wpOp_valW ho (by cases ho; simp [Region.wanted, yielded, go_sem, p3, p4]) (w' := WW) (v := (.pointer (some ⟨p, 0, none⟩))) (by cases ho; simp [execOp, go_sem, p3, p4]) ?_
        cases ho
        exact ⟨by simp [Act.put], HBW⟩
      · have p3 : done 3 = true := by cases ho; exact hdep ⟨3, .guard⟩ (by simp) rfl
        have p5 : done 5 = true := by cases ho; exact hdep ⟨5, .data⟩ (by simp) rfl
        refine wpOp_valW ho (by cases ho; simp [Region.wanted, yielded, go_sem, p3, p5]) (w' := WW) (v := (.pointer (some ⟨p, 3, none⟩))) (by cases ho; simp [execOp, go_sem, p3, p5]) ?_
        cases ho
        exact ⟨by simp [Act.put], HBW⟩
      · have p3 : done 3 = true := by cases ho; exact hdep ⟨3, .guard⟩ (by simp) rfl
        have p6 : done 6 = true := by cases ho; exact hdep ⟨6, .data⟩ (by simp) rfl
        refine wpOp_valW ho (by cases ho; simp [Region.wanted, yielded, go_sem, p3, p6]) (w' := WW) (v := (.int .u64 t.cas)) (by cases ho; simp [execOp, go_sem, p3, p6, cellB HBW.out b3]) ?_
        cases ho
        exact ⟨by simp [Act.put], HBW⟩
      · have p3 : done 3 = true := by cases ho; exact hdep ⟨3, .guard⟩ (by simp) rfl
        refine wpOp_valW ho (by cases ho; simp [Region.wanted, yielded, go_sem, p3]) (w' := WW) (v := (.pointer (some ⟨ab, 3, none⟩))) (by cases ho; simp [execOp, go_sem, p3]) ?_
        cases ho
        exact ⟨by simp [Act.put], HBW⟩
      · have p3 : done 3 = true := by cases ho; exact hdep ⟨3, .guard⟩ (by simp) rfl
        have p8 : done 8 = true := by cases ho; exact hdep ⟨8, .data⟩ (by simp) rfl
        refine wpOp_valW ho (by cases ho; simp [Region.wanted, yielded, go_sem, p3, p8]) (w' := WW) (v := (.int .u64 a.cas)) (by cases ho; simp [execOp, go_sem, p3, p8, cellB HBW.out a3]) ?_
        cases ho
        exact ⟨by simp [Act.put], HBW⟩
      · have p3 : done 3 = true := by cases ho; exact hdep ⟨3, .guard⟩ (by simp) rfl
        have p7 : done 7 = true := by cases ho; exact hdep ⟨7, .data⟩ (by simp) rfl
        have p9 : done 9 = true := by cases ho; exact hdep ⟨9, .data⟩ (by simp) rfl
        refine wpOp_valW ho (by cases ho; simp [Region.wanted, yielded, go_sem, p3, p7, p9]) (w' := WW) (v := (.bool ff)) (by cases ho; simp [execOp, go_sem, p3, p7, p9, hff]) ?_
        cases ho
        exact ⟨by simp [Act.put], HBW⟩
      · have p3 : done 3 = true := by cases ho; exact hdep ⟨3, .data⟩ (by simp) rfl
        have p10 : done 10 = true := by cases ho; exact hdep ⟨10, .data⟩ (by simp) rfl
        refine wpOp_val ho (by cases ho; rfl) (w' := WW) (v := (.bool ff)) (by cases ho; simp [execOp, go_sem, p3, p10]) ?_
        cases ho
        exact ⟨by simp [Act.put], HBW⟩
      · have p11 : done 11 = true := by cases ho; exact hdep ⟨11, .data⟩ (by simp) rfl
        refine wpOp_val ho (by cases ho; rfl) (w' := WW) (v := (.bool ff)) (by cases ho; simp [execOp, go_sem, p11]) ?_
        cases ho
        exact ⟨by simp [Act.put], HBW⟩
    · rintro done zac WW hall ⟨rfl, HBW⟩
      have e0 := hall 0 (by decide)
      have e1 := hall 1 (by decide)
      have e2 := hall 2 (by decide)
      have e3 := hall 3 (by decide)
      have e4 := hall 4 (by decide)
      have e5 := hall 5 (by decide)
      have e6 := hall 6 (by decide)
      have e7 := hall 7 (by decide)
      have e8 := hall 8 (by decide)
      have e9 := hall 9 (by decide)
      have e10 := hall 10 (by decide)
      have e11 := hall 11 (by decide)
      have e12 := hall 12 (by decide)
      simp only [e0, e1, e2, e3, e4, e5, e6, e7, e8, e9, e10, e11, e12, if_true]
      clear hall e0 e1 e2 e3 e4 e5 e6 e7 e8 e9 e10 e11 e12
      go_wp2_with fail
      go_ret
      exact how_same rfl HBW.out HBX.out HTOK.out HX.out

end Go.Proofs.Ytngpffmgkponfaa
