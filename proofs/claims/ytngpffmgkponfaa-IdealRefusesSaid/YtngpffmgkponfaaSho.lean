/- The law's cut. Condition: the request's bytes lie in memory. The law's few. Condition: the answer lies in memory. The law's short. Condition: what is said lies in memory. -/
import Derived.Test.YtngpffmgkponfaaSai
import Derived.Test.YtngpffmgkponfaaSud
import Derived.Test.YtngpffmgkponfaaRegD
import Derived.Deep.MidRow
import Derived.Test.YtngpffmgkponfaaRegG

section
set_option linter.unusedVariables false
set_option linter.unusedSimpArgs false
namespace Go.Idl
def cutQ (q : Rq) : Rq := { q with key := q.key.take 300, val := q.val.take 600 }
end Go.Idl
namespace Go.Proofs.Ytngpffmgkponfaa
open Go.RowKit Go.Ice Go.Idl
theorem bytes_take {w : World} {a : Option Addr} {c : Nat} {l : List UInt8} (h : BytesAt w (.slice a l.length c) l) (m : Nat) : BytesAt w (.slice a (l.take m).length c) (l.take m) := by
  rcases h with ⟨h1, h2⟩ | ⟨h0, b, off, cap, hv, h1, h2, h3, h4⟩
  · have : l = [] := by simpa using h1
    subst this
    rw [List.take_nil]
    exact .inl ⟨rfl, h2⟩
  · rw [List.length_map] at h0 h1 h4
    injection hv with e1 e2 e3
    subst e1 e3
    by_cases hm : m = 0
    · subst hm
      exact .inl ⟨rfl, .inr ⟨_, _, rfl⟩⟩
    · have hl : 0 < (l.take m).length := by rw [List.length_take]; omega
      refine .inr ⟨by rw [List.length_map]; exact hl, b, off, c, by rw [List.length_map], by rw [List.length_map, List.length_take]; omega, h2, h3, fun j hj => ?_⟩
      rw [List.length_map, List.length_take] at hj
      rw [h4 j (by omega), List.getElem?_map, List.getElem?_map, List.getElem?_take_of_lt (by omega)]
theorem bytes_cap {w : World} {a : Option Addr} {n c : Nat} {l : List UInt8} (h : BytesAt w (.slice a n c) l) : n ≤ c := by
  rcases h with ⟨h1, h2 | ⟨x, cap, h2⟩⟩ | ⟨h0, b, off, cap, hv, h1, h2, h3, h4⟩
  · injection h2 with e1 e2 e3; omega
  · injection h2 with e1 e2 e3; omega
  · injection hv with e1 e2 e3; omega
theorem bodyPost_world {P : Program} {F : Func} {Q : Ending → World → Prop} {x : Exit} {a : Act} {w : World} (R : World → Prop) (h : R w) (k : ∀ w', R w' → bodyPost P F Q x a w') : bodyPost P F Q x a w := k w h
theorem heap_drew_eq {w : World} {b : Nat} {o : Obj} (h : w.heap[b]? = some o) : w.drew.heap[b]? = some o := h
set_option maxRecDepth 20000 in
theorem set12 {w : World} {b : Nat} {y0 y1 y2 y3 y4 y5 y6 y7 y8 y9 y10 y11 : Value} {e : TypeId} (h : w.heap[b]? = some (.cells #[y0, y1, y2, y3, y4, y5, y6, y7, y8, y9, y10, y11] e (0, 0))) (x0 x1 x2 x3 x4 x5 x6 x7 x8 x9 x10 x11 : Value) :
    ((((((((((((w.setCell ⟨b, 0, none⟩ x0).setCell ⟨b, 1, none⟩ x1).setCell ⟨b, 2, none⟩ x2).setCell ⟨b, 3, none⟩ x3).setCell ⟨b, 4, none⟩ x4).setCell ⟨b, 5, none⟩ x5).setCell ⟨b, 6, none⟩ x6).setCell ⟨b, 7, none⟩ x7).setCell ⟨b, 8, none⟩ x8).setCell ⟨b, 9, none⟩ x9).setCell ⟨b, 10, none⟩ x10).setCell ⟨b, 11, none⟩ x11).heap[b]? = some (.cells #[x0, x1, x2, x3, x4, x5, x6, x7, x8, x9, x10, x11] e (0, 0)) ∧ Frm (fun k => k = b) w ((((((((((((w.setCell ⟨b, 0, none⟩ x0).setCell ⟨b, 1, none⟩ x1).setCell ⟨b, 2, none⟩ x2).setCell ⟨b, 3, none⟩ x3).setCell ⟨b, 4, none⟩ x4).setCell ⟨b, 5, none⟩ x5).setCell ⟨b, 6, none⟩ x6).setCell ⟨b, 7, none⟩ x7).setCell ⟨b, 8, none⟩ x8).setCell ⟨b, 9, none⟩ x9).setCell ⟨b, 10, none⟩ x10).setCell ⟨b, 11, none⟩ x11) := by
  have h0 := blk_setAt (k := 0) h x0
  have h1 := blk_setAt (k := 1) h0 x1
  have h2 := blk_setAt (k := 2) h1 x2
  have h3 := blk_setAt (k := 3) h2 x3
  have h4 := blk_setAt (k := 4) h3 x4
  have h5 := blk_setAt (k := 5) h4 x5
  have h6 := blk_setAt (k := 6) h5 x6
  have h7 := blk_setAt (k := 7) h6 x7
  have h8 := blk_setAt (k := 8) h7 x8
  have h9 := blk_setAt (k := 9) h8 x9
  have h10 := blk_setAt (k := 10) h9 x10
  have h11 := blk_setAt (k := 11) h10 x11
  have hf := ((((((((((((setCell_frm1 w b 0 x0).trans (setCell_frm1 _ b 1 x1)).trans (setCell_frm1 _ b 2 x2)).trans (setCell_frm1 _ b 3 x3)).trans (setCell_frm1 _ b 4 x4)).trans (setCell_frm1 _ b 5 x5)).trans (setCell_frm1 _ b 6 x6)).trans (setCell_frm1 _ b 7 x7)).trans (setCell_frm1 _ b 8 x8)).trans (setCell_frm1 _ b 9 x9)).trans (setCell_frm1 _ b 10 x10)).trans (setCell_frm1 _ b 11 x11))
  exact ⟨h11.trans (congrArg (fun c => some (Obj.cells c e (0, 0))) (by simp)), hf⟩
set_option maxHeartbeats 8000000 in
set_option maxRecDepth 20000 in
theorem cut21 (w : World) (q : Rq) (ka va : Option Addr) (kc vc : Nat) (hk : BytesAt w (.slice ka q.key.length kc) q.key) (hv : BytesAt w (.slice va q.val.length vc) q.val) :
    Calls Try.prog 21 #[rqV q ka va kc vc] w fun e w' => e = .returned (rqV (cutQ q) ka va kc vc) ∧ Below w.heap.size w w' := by
  have hk0 := bytes_cap hk
  have hv0 := bytes_cap hv
  obtain ⟨km, hkm⟩ : ∃ m, m = min q.key.length 300 := ⟨_, rfl⟩
  obtain ⟨vm, hvm⟩ : ∃ m, m = min q.val.length 600 := ⟨_, rfl⟩
  have HM1 : Hid (min (q.key.length : Int) 300 = (km : Nat)) := by show _ = _; omega
  have HM2 : Hid (min (q.val.length : Int) 600 = (vm : Nat)) := by show _ = _; omega
  have HS1 : Hid (∀ WW : World, Hid ((Instr.sliceAt 23 (.slice ka q.key.length kc) none (some (.int .i64 km)) none).run Try.prog WW = .ok (.slice ka km kc) WW)) := fun WW => run_slice_to (P := Try.prog) (e := 5) Try.underlying23 ⟨1, by kernel_rfl⟩ ka q.key.length kc km (by omega)
  have HS2 : Hid (∀ WW : World, Hid ((Instr.sliceAt 23 (.slice va q.val.length vc) none (some (.int .i64 vm)) none).run Try.prog WW = .ok (.slice va vm vc) WW)) := fun WW => run_slice_to (P := Try.prog) (e := 5) Try.underlying23 ⟨1, by kernel_rfl⟩ va q.val.length vc vm (by omega)
  have HKM := Lib.hid hkm
  have HVM := Lib.hid hvm
  clear hkm hvm hk0 hv0 hk hv
  obtain ⟨rv, hrv⟩ : ∃ rv, rv = rqV (cutQ q) ka va kc vc := ⟨_, rfl⟩
  rw [← hrv]
  have HRV := Lib.hid hrv
  clear hrv
  unfold rqV
  obtain ⟨qb, rb, W, HQ, HR, HW, HK, HZ⟩ := boxed2 w #[.int .i64 q.op, .bool q.quiet, .bool q.full, .int .i64 q.bad, .int .u32 q.opq, .slice ka q.key.length kc, .slice va q.val.length vc, .int .u32 q.fl, .int .u32 q.ex, .int .u64 q.cas, .int .u64 q.delta, .int .u64 q.ini] 35 #[.int .i64 0, .bool false, .bool false, .int .i64 0, .int .u32 0, .slice none 0 0, .slice none 0 0, .int .u32 0, .int .u32 0, .int .u64 0, .int .u64 0, .int .u64 0] 35
  have s5 : W.cell? ⟨qb, 5, none⟩ = some (.slice ka q.key.length kc) := blk_cell HK.out.b0 5
  have s6 : (W.setCell ⟨qb, 5, none⟩ (.slice ka km kc)).cell? ⟨qb, 6, none⟩ = some (.slice va q.val.length vc) := blk_cell (blk_setAt HK.out.b0 _) 6
  have q5 : W.drew.cell? ⟨qb, 5, none⟩ = some (.slice ka q.key.length kc) := blk_cell HK.out.b0 5
  have q6 : W.drew.cell? ⟨qb, 6, none⟩ = some (.slice va q.val.length vc) := blk_cell HK.out.b0 6
  have u6 : (W.setCell ⟨qb, 5, none⟩ (.slice ka km kc)).drew.cell? ⟨qb, 6, none⟩ = some (.slice va q.val.length vc) := blk_cell (blk_setAt HK.out.b0 _) 6
  have f5 : W.frozen? ⟨qb, 5, none⟩ = false := blk_frozen HK.out.b0 5
  have f6 : (W.setCell ⟨qb, 5, none⟩ (.slice ka km kc)).frozen? ⟨qb, 6, none⟩ = false := blk_frozen (blk_setAt HK.out.b0 _) 6
  have hql := blk_lt HK.out.b0
  go_enter Try.func21, Try.ntmps21
  go_upto_region 1 with fail
  rw [HR.out, HQ.out, HW.out]
  refine wp_region_tbl [(0, 3, (.pointer (some ⟨qb, 5, none⟩))), (1, 4, (.slice ka q.key.length kc)), (2, 5, (.pointer (some ⟨qb, 5, none⟩))), (3, 6, (.slice ka q.key.length kc)), (4, 7, (.int .i64 q.key.length)), (5, 8, (.int .i64 km)), (6, 9, (.slice ka km kc)), (7, 10, (.pointer (some ⟨qb, 6, none⟩))), (8, 11, (.slice va q.val.length vc)), (9, 12, (.pointer (some ⟨qb, 6, none⟩))), (10, 13, (.slice va q.val.length vc)), (11, 14, (.int .i64 q.val.length)), (12, 15, (.int .i64 vm)), (13, 16, (.slice va vm vc)), (14, 17, (.pointer (some ⟨qb, 5, none⟩))), (16, 18, (.pointer (some ⟨qb, 6, none⟩)))] (fun done WW => WW = (if done 17 then ((W.setCell ⟨qb, 5, none⟩ (.slice ka km kc)).setCell ⟨qb, 6, none⟩ (.slice va vm vc)).drew else if done 15 then (W.setCell ⟨qb, 5, none⟩ (.slice ka km kc)).drew else W.drew)) (by kernel_rfl) (hord_of2 (by kernel_rfl)) (by kernel_rfl) (by kernel_rfl) (by kernel_rfl) rfl ?_ ?_
  · intro done zb WW j oq ho hd hdep hcl HA hww
    have hj : j < 18 := (Array.getElem?_eq_some_iff.1 ho).1
    obtain rfl | rfl | rfl | rfl | rfl | rfl | rfl | rfl | rfl | rfl | rfl | rfl | rfl | rfl | rfl | rfl | rfl | rfl : j = 0 ∨ j = 1 ∨ j = 2 ∨ j = 3 ∨ j = 4 ∨ j = 5 ∨ j = 6 ∨ j = 7 ∨ j = 8 ∨ j = 9 ∨ j = 10 ∨ j = 11 ∨ j = 12 ∨ j = 13 ∨ j = 14 ∨ j = 15 ∨ j = 16 ∨ j = 17 := by omega
    · have n14 : done 14 = false := by cases hx : done 14 with | false => rfl | true => have := hcl 14 _ rfl hx ⟨0, .phase⟩ (by simp) rfl; rw [hd] at this; cases this
      have n15 : done 15 = false := by cases hx : done 15 with | false => rfl | true => have := hcl 15 _ rfl hx ⟨14, .data⟩ (by simp) rfl; rw [n14] at this; cases this
      have n16 : done 16 = false := by cases hx : done 16 with | false => rfl | true => have := hcl 16 _ rfl hx ⟨0, .phase⟩ (by simp) rfl; rw [hd] at this; cases this
      have n17 : done 17 = false := by cases hx : done 17 with | false => rfl | true => have := hcl 17 _ rfl hx ⟨16, .data⟩ (by simp) rfl; rw [n16] at this; cases this
      exact valT (W' := WW) (.pointer (some ⟨qb, 5, none⟩)) ho (by cases ho; rfl) (by cases ho; simp [execOp, go_sem, HA.tm, lookT]) (by cases ho; exact fun d hd => by cases hd; simp) (hww)
    · have p0 : done 0 = true := by cases ho; exact hdep ⟨0, .data⟩ (by simp) rfl
      have n14 : done 14 = false := by cases hx : done 14 with | false => rfl | true => have := hcl 14 _ rfl hx ⟨1, .phase⟩ (by simp) rfl; rw [hd] at this; cases this
      have n15 : done 15 = false := by cases hx : done 15 with | false => rfl | true => have := hcl 15 _ rfl hx ⟨14, .data⟩ (by simp) rfl; rw [n14] at this; cases this
      have n16 : done 16 = false := by cases hx : done 16 with | false => rfl | true => have := hcl 16 _ rfl hx ⟨1, .phase⟩ (by simp) rfl; rw [hd] at this; cases this
      have n17 : done 17 = false := by cases hx : done 17 with | false => rfl | true => have := hcl 17 _ rfl hx ⟨16, .data⟩ (by simp) rfl; rw [n16] at this; cases this
      have hcell0 : WW.cell? ⟨qb, 5, none⟩ = some ((.slice ka q.key.length kc)) := by
        rw [hww]
        simp only [n17, Bool.false_eq_true, if_false]
        simp only [n15, Bool.false_eq_true, if_false]
        assumption
      exact valT (W' := WW) (.slice ka q.key.length kc) ho (by cases ho; rfl) (by cases ho; simp [execOp, go_sem, HA.tm, lookT, p0, hcell0]) (by cases ho; exact fun d hd => by cases hd; simp) (hww)
    · have n14 : done 14 = false := by cases hx : done 14 with | false => rfl | true => have := hcl 14 _ rfl hx ⟨2, .phase⟩ (by simp) rfl; rw [hd] at this; cases this
      have n15 : done 15 = false := by cases hx : done 15 with | false => rfl | true => have := hcl 15 _ rfl hx ⟨14, .data⟩ (by simp) rfl; rw [n14] at this; cases this
      have n16 : done 16 = false := by cases hx : done 16 with | false => rfl | true => have := hcl 16 _ rfl hx ⟨2, .phase⟩ (by simp) rfl; rw [hd] at this; cases this
      have n17 : done 17 = false := by cases hx : done 17 with | false => rfl | true => have := hcl 17 _ rfl hx ⟨16, .data⟩ (by simp) rfl; rw [n16] at this; cases this
      exact valT (W' := WW) (.pointer (some ⟨qb, 5, none⟩)) ho (by cases ho; rfl) (by cases ho; simp [execOp, go_sem, HA.tm, lookT]) (by cases ho; exact fun d hd => by cases hd; simp) (hww)
    · have p2 : done 2 = true := by cases ho; exact hdep ⟨2, .data⟩ (by simp) rfl
      have n14 : done 14 = false := by cases hx : done 14 with | false => rfl | true => have := hcl 14 _ rfl hx ⟨3, .phase⟩ (by simp) rfl; rw [hd] at this; cases this
      have n15 : done 15 = false := by cases hx : done 15 with | false => rfl | true => have := hcl 15 _ rfl hx ⟨14, .data⟩ (by simp) rfl; rw [n14] at this; cases this
      have n16 : done 16 = false := by cases hx : done 16 with | false => rfl | true => have := hcl 16 _ rfl hx ⟨3, .phase⟩ (by simp) rfl; rw [hd] at this; cases this
      have n17 : done 17 = false := by cases hx : done 17 with | false => rfl | true => have := hcl 17 _ rfl hx ⟨16, .data⟩ (by simp) rfl; rw [n16] at this; cases this
      have hcell0 : WW.cell? ⟨qb, 5, none⟩ = some ((.slice ka q.key.length kc)) := by
        rw [hww]
        simp only [n17, Bool.false_eq_true, if_false]
        simp only [n15, Bool.false_eq_true, if_false]
        assumption
      exact valT (W' := WW) (.slice ka q.key.length kc) ho (by cases ho; rfl) (by cases ho; simp [execOp, go_sem, HA.tm, lookT, p2, hcell0]) (by cases ho; exact fun d hd => by cases hd; simp) (hww)
    · have p3 : done 3 = true := by cases ho; exact hdep ⟨3, .data⟩ (by simp) rfl
      have n14 : done 14 = false := by cases hx : done 14 with | false => rfl | true => have := hcl 14 _ rfl hx ⟨4, .phase⟩ (by simp) rfl; rw [hd] at this; cases this
      have n15 : done 15 = false := by cases hx : done 15 with | false => rfl | true => have := hcl 15 _ rfl hx ⟨14, .data⟩ (by simp) rfl; rw [n14] at this; cases this
      have n16 : done 16 = false := by cases hx : done 16 with | false => rfl | true => have := hcl 16 _ rfl hx ⟨4, .phase⟩ (by simp) rfl; rw [hd] at this; cases this
      have n17 : done 17 = false := by cases hx : done 17 with | false => rfl | true => have := hcl 17 _ rfl hx ⟨16, .data⟩ (by simp) rfl; rw [n16] at this; cases this
      exact valT (W' := WW) (.int .i64 q.key.length) ho (by cases ho; rfl) (by cases ho; simp [execOp, go_sem, HA.tm, lookT, p3]) (by cases ho; exact fun d hd => by cases hd; simp) (hww)
    · have p4 : done 4 = true := by cases ho; exact hdep ⟨4, .data⟩ (by simp) rfl
      have n14 : done 14 = false := by cases hx : done 14 with | false => rfl | true => have := hcl 14 _ rfl hx ⟨5, .phase⟩ (by simp) rfl; rw [hd] at this; cases this
      have n15 : done 15 = false := by cases hx : done 15 with | false => rfl | true => have := hcl 15 _ rfl hx ⟨14, .data⟩ (by simp) rfl; rw [n14] at this; cases this
      have n16 : done 16 = false := by cases hx : done 16 with | false => rfl | true => have := hcl 16 _ rfl hx ⟨5, .phase⟩ (by simp) rfl; rw [hd] at this; cases this
      have n17 : done 17 = false := by cases hx : done 17 with | false => rfl | true => have := hcl 17 _ rfl hx ⟨16, .data⟩ (by simp) rfl; rw [n16] at this; cases this
      exact valT (W' := WW) (.int .i64 km) ho (by cases ho; rfl) (by cases ho; simp [execOp, go_sem, HA.tm, lookT, p4, HM1.out]) (by cases ho; exact fun d hd => by cases hd; simp) (hww)
    · have p1 : done 1 = true := by cases ho; exact hdep ⟨1, .data⟩ (by simp) rfl
      have p5 : done 5 = true := by cases ho; exact hdep ⟨5, .data⟩ (by simp) rfl
      have n14 : done 14 = false := by cases hx : done 14 with | false => rfl | true => have := hcl 14 _ rfl hx ⟨6, .phase⟩ (by simp) rfl; rw [hd] at this; cases this
      have n15 : done 15 = false := by cases hx : done 15 with | false => rfl | true => have := hcl 15 _ rfl hx ⟨14, .data⟩ (by simp) rfl; rw [n14] at this; cases this
      have n16 : done 16 = false := by cases hx : done 16 with | false => rfl | true => have := hcl 16 _ rfl hx ⟨6, .phase⟩ (by simp) rfl; rw [hd] at this; cases this
      have n17 : done 17 = false := by cases hx : done 17 with | false => rfl | true => have := hcl 17 _ rfl hx ⟨16, .data⟩ (by simp) rfl; rw [n16] at this; cases this
      exact valT (W' := WW) (.slice ka km kc) ho (by cases ho; rfl) (by cases ho; simp [execOp, go_sem, HA.tm, lookT, p1, p5, (HS1.out WW).out]) (by cases ho; exact fun d hd => by cases hd; simp) (hww)
    · have n14 : done 14 = false := by cases hx : done 14 with | false => rfl | true => have := hcl 14 _ rfl hx ⟨7, .phase⟩ (by simp) rfl; rw [hd] at this; cases this
      have n15 : done 15 = false := by cases hx : done 15 with | false => rfl | true => have := hcl 15 _ rfl hx ⟨14, .data⟩ (by simp) rfl; rw [n14] at this; cases this
      have n16 : done 16 = false := by cases hx : done 16 with | false => rfl | true => have := hcl 16 _ rfl hx ⟨7, .phase⟩ (by simp) rfl; rw [hd] at this; cases this
      have n17 : done 17 = false := by cases hx : done 17 with | false => rfl | true => have := hcl 17 _ rfl hx ⟨16, .data⟩ (by simp) rfl; rw [n16] at this; cases this
      exact valT (W' := WW) (.pointer (some ⟨qb, 6, none⟩)) ho (by cases ho; rfl) (by cases ho; simp [execOp, go_sem, HA.tm, lookT]) (by cases ho; exact fun d hd => by cases hd; simp) (hww)
    · have p7 : done 7 = true := by cases ho; exact hdep ⟨7, .data⟩ (by simp) rfl
      have n14 : done 14 = false := by cases hx : done 14 with | false => rfl | true => have := hcl 14 _ rfl hx ⟨8, .phase⟩ (by simp) rfl; rw [hd] at this; cases this
      have n15 : done 15 = false := by cases hx : done 15 with | false => rfl | true => have := hcl 15 _ rfl hx ⟨14, .data⟩ (by simp) rfl; rw [n14] at this; cases this
      have n16 : done 16 = false := by cases hx : done 16 with | false => rfl | true => have := hcl 16 _ rfl hx ⟨8, .phase⟩ (by simp) rfl; rw [hd] at this; cases this
      have n17 : done 17 = false := by cases hx : done 17 with | false => rfl | true => have := hcl 17 _ rfl hx ⟨16, .data⟩ (by simp) rfl; rw [n16] at this; cases this
      have hcell0 : WW.cell? ⟨qb, 6, none⟩ = some ((.slice va q.val.length vc)) := by
        rw [hww]
        simp only [n17, Bool.false_eq_true, if_false]
        simp only [n15, Bool.false_eq_true, if_false]
        assumption
      exact valT (W' := WW) (.slice va q.val.length vc) ho (by cases ho; rfl) (by cases ho; simp [execOp, go_sem, HA.tm, lookT, p7, hcell0]) (by cases ho; exact fun d hd => by cases hd; simp) (hww)
    · have n14 : done 14 = false := by cases hx : done 14 with | false => rfl | true => have := hcl 14 _ rfl hx ⟨9, .phase⟩ (by simp) rfl; rw [hd] at this; cases this
      have n15 : done 15 = false := by cases hx : done 15 with | false => rfl | true => have := hcl 15 _ rfl hx ⟨14, .data⟩ (by simp) rfl; rw [n14] at this; cases this
      have n16 : done 16 = false := by cases hx : done 16 with | false => rfl | true => have := hcl 16 _ rfl hx ⟨9, .phase⟩ (by simp) rfl; rw [hd] at this; cases this
      have n17 : done 17 = false := by cases hx : done 17 with | false => rfl | true => have := hcl 17 _ rfl hx ⟨16, .data⟩ (by simp) rfl; rw [n16] at this; cases this
      exact valT (W' := WW) (.pointer (some ⟨qb, 6, none⟩)) ho (by cases ho; rfl) (by cases ho; simp [execOp, go_sem, HA.tm, lookT]) (by cases ho; exact fun d hd => by cases hd; simp) (hww)
    · have p9 : done 9 = true := by cases ho; exact hdep ⟨9, .data⟩ (by simp) rfl
      have n14 : done 14 = false := by cases hx : done 14 with | false => rfl | true => have := hcl 14 _ rfl hx ⟨10, .phase⟩ (by simp) rfl; rw [hd] at this; cases this
      have n15 : done 15 = false := by cases hx : done 15 with | false => rfl | true => have := hcl 15 _ rfl hx ⟨14, .data⟩ (by simp) rfl; rw [n14] at this; cases this
      have n16 : done 16 = false := by cases hx : done 16 with | false => rfl | true => have := hcl 16 _ rfl hx ⟨10, .phase⟩ (by simp) rfl; rw [hd] at this; cases this
      have n17 : done 17 = false := by cases hx : done 17 with | false => rfl | true => have := hcl 17 _ rfl hx ⟨16, .data⟩ (by simp) rfl; rw [n16] at this; cases this
      have hcell0 : WW.cell? ⟨qb, 6, none⟩ = some ((.slice va q.val.length vc)) := by
        rw [hww]
        simp only [n17, Bool.false_eq_true, if_false]
        simp only [n15, Bool.false_eq_true, if_false]
        assumption
      exact valT (W' := WW) (.slice va q.val.length vc) ho (by cases ho; rfl) (by cases ho; simp [execOp, go_sem, HA.tm, lookT, p9, hcell0]) (by cases ho; exact fun d hd => by cases hd; simp) (hww)
    · have p10 : done 10 = true := by cases ho; exact hdep ⟨10, .data⟩ (by simp) rfl
      have n16 : done 16 = false := by cases hx : done 16 with | false => rfl | true => have := hcl 16 _ rfl hx ⟨11, .phase⟩ (by simp) rfl; rw [hd] at this; cases this
      have n17 : done 17 = false := by cases hx : done 17 with | false => rfl | true => have := hcl 17 _ rfl hx ⟨16, .data⟩ (by simp) rfl; rw [n16] at this; cases this
      exact valT (W' := WW) (.int .i64 q.val.length) ho (by cases ho; rfl) (by cases ho; simp [execOp, go_sem, HA.tm, lookT, p10]) (by cases ho; exact fun d hd => by cases hd; simp) (hww)
    · have p11 : done 11 = true := by cases ho; exact hdep ⟨11, .data⟩ (by simp) rfl
      have n16 : done 16 = false := by cases hx : done 16 with | false => rfl | true => have := hcl 16 _ rfl hx ⟨12, .phase⟩ (by simp) rfl; rw [hd] at this; cases this
      have n17 : done 17 = false := by cases hx : done 17 with | false => rfl | true => have := hcl 17 _ rfl hx ⟨16, .data⟩ (by simp) rfl; rw [n16] at this; cases this
      exact valT (W' := WW) (.int .i64 vm) ho (by cases ho; rfl) (by cases ho; simp [execOp, go_sem, HA.tm, lookT, p11, HM2.out]) (by cases ho; exact fun d hd => by cases hd; simp) (hww)
    · have p8 : done 8 = true := by cases ho; exact hdep ⟨8, .data⟩ (by simp) rfl
      have p12 : done 12 = true := by cases ho; exact hdep ⟨12, .data⟩ (by simp) rfl
      have n16 : done 16 = false := by cases hx : done 16 with | false => rfl | true => have := hcl 16 _ rfl hx ⟨13, .phase⟩ (by simp) rfl; rw [hd] at this; cases this
      have n17 : done 17 = false := by cases hx : done 17 with | false => rfl | true => have := hcl 17 _ rfl hx ⟨16, .data⟩ (by simp) rfl; rw [n16] at this; cases this
      exact valT (W' := WW) (.slice va vm vc) ho (by cases ho; rfl) (by cases ho; simp [execOp, go_sem, HA.tm, lookT, p8, p12, (HS2.out WW).out]) (by cases ho; exact fun d hd => by cases hd; simp) (hww)
    · have n15 : done 15 = false := by cases hx : done 15 with | false => rfl | true => have := hcl 15 _ rfl hx ⟨14, .data⟩ (by simp) rfl; rw [hd] at this; cases this
      have n16 : done 16 = false := by cases hx : done 16 with | false => rfl | true => have := hcl 16 _ rfl hx ⟨14, .phase⟩ (by simp) rfl; rw [hd] at this; cases this
      have n17 : done 17 = false := by cases hx : done 17 with | false => rfl | true => have := hcl 17 _ rfl hx ⟨16, .data⟩ (by simp) rfl; rw [n16] at this; cases this
      exact valT (W' := WW) (.pointer (some ⟨qb, 5, none⟩)) ho (by cases ho; rfl) (by cases ho; simp [execOp, go_sem, HA.tm, lookT]) (by cases ho; exact fun d hd => by cases hd; simp) (hww)
    · have p14 : done 14 = true := by cases ho; exact hdep ⟨14, .data⟩ (by simp) rfl
      have p6 : done 6 = true := by cases ho; exact hdep ⟨6, .data⟩ (by simp) rfl
      have n16 : done 16 = false := by cases hx : done 16 with | false => rfl | true => have := hcl 16 _ rfl hx ⟨15, .phase⟩ (by simp) rfl; rw [hd] at this; cases this
      have n17 : done 17 = false := by cases hx : done 17 with | false => rfl | true => have := hcl 17 _ rfl hx ⟨16, .data⟩ (by simp) rfl; rw [n16] at this; cases this
      have hw : WW = W.drew := by rw [hww]; simp [n17, hd]
      rw [hw]
      exact skipT (W' := (W.setCell ⟨qb, 5, none⟩ (.slice ka km kc)).drew) ho (by cases ho; rfl) (by cases ho; rfl) (by cases ho; simp [execOp, go_sem, HA.tm, lookT, p6, p14, f5, hql, s5]) (by simp [n17])
    · have p15 : done 15 = true := by cases ho; exact hdep ⟨15, .phase⟩ (by simp) rfl
      have n17 : done 17 = false := by cases hx : done 17 with | false => rfl | true => have := hcl 17 _ rfl hx ⟨16, .data⟩ (by simp) rfl; rw [hd] at this; cases this
      exact valT (W' := WW) (.pointer (some ⟨qb, 6, none⟩)) ho (by cases ho; rfl) (by cases ho; simp [execOp, go_sem, HA.tm, lookT, p15]) (by cases ho; exact fun d hd => by cases hd; simp) (hww)
    · have p16 : done 16 = true := by cases ho; exact hdep ⟨16, .data⟩ (by simp) rfl
      have p13 : done 13 = true := by cases ho; exact hdep ⟨13, .data⟩ (by simp) rfl
      have p15 : done 15 = true := by cases ho; exact hdep ⟨15, .chain⟩ (by simp) rfl
      have hw : WW = (W.setCell ⟨qb, 5, none⟩ (.slice ka km kc)).drew := by rw [hww]; simp [p15, hd]
      rw [hw]
      exact skipT (W' := ((W.setCell ⟨qb, 5, none⟩ (.slice ka km kc)).setCell ⟨qb, 6, none⟩ (.slice va vm vc)).drew) ho (by cases ho; rfl) (by cases ho; rfl) (by cases ho; simp [execOp, go_sem, HA.tm, lookT, p13, p15, p16, f6, hql, s6]) (by simp)
  · intro done WW hall hww
    have z15 := hall 15 (by decide)
    have z17 := hall 17 (by decide)
    simp only [z15, z17, if_true] at hww
    subst hww
    clear hall z15 z17
    simp only [putAll, Act.put, List.setIfInBounds_toArray, List.set_cons_succ, List.set_cons_zero]
    have hr : (((W.setCell ⟨qb, 5, none⟩ (.slice ka km kc)).setCell ⟨qb, 6, none⟩ (.slice va vm vc)).heap[qb]?) = some (.cells #[.int .i64 q.op, .bool q.quiet, .bool q.full, .int .i64 q.bad, .int .u32 q.opq, .slice ka km kc, .slice va vm vc, .int .u32 q.fl, .int .u32 q.ex, .int .u64 q.cas, .int .u64 q.delta, .int .u64 q.ini] 35 (0, 0)) := blk_setAt (blk_setAt HK.out.b0 _) _
    have hf : Frm (fun b => b = qb) W ((W.setCell ⟨qb, 5, none⟩ (.slice ka km kc)).setCell ⟨qb, 6, none⟩ (.slice va vm vc)) := (setCell_frm1 W qb 5 _).trans (setCell_frm1 _ qb 6 _)
    have hne : rb ≠ qb := by have := HQ.out; have := HR.out; omega
    obtain ⟨W3, hW3⟩ : ∃ W3, W3 = (W.setCell ⟨qb, 5, none⟩ (.slice ka km kc)).setCell ⟨qb, 6, none⟩ (.slice va vm vc) := ⟨_, rfl⟩
    rw [← hW3] at hr hf ⊢
    have hrb := (hf.block rb (blk_lt HK.out.b1) hne).trans HK.out.b1
    have hrl := blk_lt hrb
    have HF : Hid (Frm (fun b => b = qb) w W3) := ((frm_below HK.out.below) : Frm (fun b => b = qb) w W).trans hf
    have HRB := Lib.hid hrb
    have c0 : W3.cell? ⟨qb, 0, none⟩ = some (.int .i64 q.op) := blk_cell hr 0
    have c1 : W3.cell? ⟨qb, 1, none⟩ = some (.bool q.quiet) := blk_cell hr 1
    have c2 : W3.cell? ⟨qb, 2, none⟩ = some (.bool q.full) := blk_cell hr 2
    have c3 : W3.cell? ⟨qb, 3, none⟩ = some (.int .i64 q.bad) := blk_cell hr 3
    have c4 : W3.cell? ⟨qb, 4, none⟩ = some (.int .u32 q.opq) := blk_cell hr 4
    have c5 : W3.cell? ⟨qb, 5, none⟩ = some (.slice ka km kc) := blk_cell hr 5
    have c6 : W3.cell? ⟨qb, 6, none⟩ = some (.slice va vm vc) := blk_cell hr 6
    have c7 : W3.cell? ⟨qb, 7, none⟩ = some (.int .u32 q.fl) := blk_cell hr 7
    have c8 : W3.cell? ⟨qb, 8, none⟩ = some (.int .u32 q.ex) := blk_cell hr 8
    have c9 : W3.cell? ⟨qb, 9, none⟩ = some (.int .u64 q.cas) := blk_cell hr 9
    have c10 : W3.cell? ⟨qb, 10, none⟩ = some (.int .u64 q.delta) := blk_cell hr 10
    have c11 : W3.cell? ⟨qb, 11, none⟩ = some (.int .u64 q.ini) := blk_cell hr 11
    have r0 : W3.cell? ⟨rb, 0, none⟩ = some (.int .i64 0) := blk_cell hrb 0
    have z0 : W3.frozen? ⟨rb, 0, none⟩ = false := blk_frozen hrb 0
    have r1 : W3.cell? ⟨rb, 1, none⟩ = some (.bool false) := blk_cell hrb 1
    have z1 : W3.frozen? ⟨rb, 1, none⟩ = false := blk_frozen hrb 1
    have r2 : W3.cell? ⟨rb, 2, none⟩ = some (.bool false) := blk_cell hrb 2
    have z2 : W3.frozen? ⟨rb, 2, none⟩ = false := blk_frozen hrb 2
    have r3 : W3.cell? ⟨rb, 3, none⟩ = some (.int .i64 0) := blk_cell hrb 3
    have z3 : W3.frozen? ⟨rb, 3, none⟩ = false := blk_frozen hrb 3
    have r4 : W3.cell? ⟨rb, 4, none⟩ = some (.int .u32 0) := blk_cell hrb 4
    have z4 : W3.frozen? ⟨rb, 4, none⟩ = false := blk_frozen hrb 4
    have r5 : W3.cell? ⟨rb, 5, none⟩ = some (.slice none 0 0) := blk_cell hrb 5
    have z5 : W3.frozen? ⟨rb, 5, none⟩ = false := blk_frozen hrb 5
    have r6 : W3.cell? ⟨rb, 6, none⟩ = some (.slice none 0 0) := blk_cell hrb 6
    have z6 : W3.frozen? ⟨rb, 6, none⟩ = false := blk_frozen hrb 6
    have r7 : W3.cell? ⟨rb, 7, none⟩ = some (.int .u32 0) := blk_cell hrb 7
    have z7 : W3.frozen? ⟨rb, 7, none⟩ = false := blk_frozen hrb 7
    have r8 : W3.cell? ⟨rb, 8, none⟩ = some (.int .u32 0) := blk_cell hrb 8
    have z8 : W3.frozen? ⟨rb, 8, none⟩ = false := blk_frozen hrb 8
    have r9 : W3.cell? ⟨rb, 9, none⟩ = some (.int .u64 0) := blk_cell hrb 9
    have z9 : W3.frozen? ⟨rb, 9, none⟩ = false := blk_frozen hrb 9
    have r10 : W3.cell? ⟨rb, 10, none⟩ = some (.int .u64 0) := blk_cell hrb 10
    have z10 : W3.frozen? ⟨rb, 10, none⟩ = false := blk_frozen hrb 10
    have r11 : W3.cell? ⟨rb, 11, none⟩ = some (.int .u64 0) := blk_cell hrb 11
    have z11 : W3.frozen? ⟨rb, 11, none⟩ = false := blk_frozen hrb 11
    clear hW3 hr hf hrb hne q5 q6 u6 s5 s6 f5 f6 hql
    trace "A"
    go_wp2_with fail
    obtain ⟨hrf, hff⟩ := set12 HRB.out (.int .i64 q.op) (.bool q.quiet) (.bool q.full) (.int .i64 q.bad) (.int .u32 q.opq) (.slice ka km kc) (.slice va vm vc) (.int .u32 q.fl) (.int .u32 q.ex) (.int .u64 q.cas) (.int .u64 q.delta) (.int .u64 q.ini)
    refine bodyPost_world (fun W9 => W9.heap[rb]? = some (.cells #[.int .i64 q.op, .bool q.quiet, .bool q.full, .int .i64 q.bad, .int .u32 q.opq, .slice ka km kc, .slice va vm vc, .int .u32 q.fl, .int .u32 q.ex, .int .u64 q.cas, .int .u64 q.delta, .int .u64 q.ini] 35 (0, 0)) ∧ Frm (fun b => b = rb) W3 W9) ⟨heap_drew_eq hrf, hff.drew⟩ ?_
    rintro W9 ⟨hrf, hff⟩
    have y0 := blk_cell hrf 0
    have y1 := blk_cell hrf 1
    have y2 := blk_cell hrf 2
    have y3 := blk_cell hrf 3
    have y4 := blk_cell hrf 4
    have y5 := blk_cell hrf 5
    have y6 := blk_cell hrf 6
    have y7 := blk_cell hrf 7
    have y8 := blk_cell hrf 8
    have y9 := blk_cell hrf 9
    have y10 := blk_cell hrf 10
    have y11 := blk_cell hrf 11
    have hvv : rqV (cutQ q) ka va kc vc = .agg #[.int .i64 q.op, .bool q.quiet, .bool q.full, .int .i64 q.bad, .int .u32 q.opq, .slice ka km kc, .slice va vm vc, .int .u32 q.fl, .int .u32 q.ex, .int .u64 q.cas, .int .u64 q.delta, .int .u64 q.ini] := by unfold rqV cutQ; simp only [List.length_take]; rw [Nat.min_comm, Nat.min_comm 600, ← HKM.out, ← HVM.out]
    refine bodyPost_ret (v := .agg #[.int .i64 q.op, .bool q.quiet, .bool q.full, .int .i64 q.bad, .int .u32 q.opq, .slice ka km kc, .slice va vm vc, .int .u32 q.fl, .int .u32 q.ex, .int .u64 q.cas, .int .u64 q.delta, .int .u64 q.ini]) (by simp [results, Try.f21, go_sem, y0, y1, y2, y3, y4, y5, y6, y7, y8, y9, y10, y11]) rfl ⟨by rw [HRV.out, hvv], ?_⟩
    exact (((HF.out.mono (T := fun b => b = qb ∨ b = rb) fun _ _ e => .inl e).trans (hff.mono fun _ _ e => .inr e))).below (fun b hb e => by have := HQ.out; have := HR.out; omega) (Nat.le_refl _)
end Go.Proofs.Ytngpffmgkponfaa
end

section
set_option linter.unusedVariables false
set_option linter.unusedSimpArgs false
namespace Go.Idl
def cutS (x : List UInt8 × List UInt8) : List UInt8 × List UInt8 := (x.1.take 40, x.2.take 40)
def fewS (l : List (List UInt8 × List UInt8)) : List (List UInt8 × List UInt8) := (l.take 8).map cutS
def fewA (a : An) : An := { a with val := a.val.take 600, stats := fewS a.stats }
/-- The first k are cut. -/
def mixS (k : Nat) (l : List (List UInt8 × List UInt8)) : List (List UInt8 × List UInt8) := (l.take k).map cutS ++ l.drop k
end Go.Idl
namespace Go.Proofs.Ytngpffmgkponfaa
open Go.RowKit Go.Ice Go.Idl
theorem elemStat : Elem Try.prog 36 76 2 32 (.agg #[.string ⟨#[]⟩, .string ⟨#[]⟩]) :=
  ⟨Try.underlying36, by
    obtain ⟨i0, hi, hz0, hz1, hz2⟩ := info_parts (show (Try.prog.info? 76).map (fun i => (i.zero, i.size, i.bytes)) = some (some (.agg #[.string ⟨#[]⟩, .string ⟨#[]⟩]), 2, 32) by kernel_rfl)
    exact ⟨i0, hi, hz0, hz1, hz2⟩, rfl, by decide⟩
def statC (l : List (List UInt8 × List UInt8)) : List Value := l.flatMap fun x => [strV x.1, strV x.2]
theorem statC_len (l : List (List UInt8 × List UInt8)) : (statC l).length = l.length * 2 := by
  induction l with
  | nil => rfl
  | cons x l ih => unfold statC at *; rw [List.flatMap_cons, List.length_append, ih]; simp; omega
theorem statC_at : ∀ (l : List (List UInt8 × List UInt8)) (i : Nat), i < l.length → (statC l)[i * 2]? = some (strV (l.getD i ([], [])).1) ∧ (statC l)[i * 2 + 1]? = some (strV (l.getD i ([], [])).2)
  | [], i, h => by simp at h
  | x :: l, 0, _ => ⟨rfl, rfl⟩
  | x :: l, i + 1, h => by
    have := statC_at l i (by simpa using h)
    have e : statC (x :: l) = strV x.1 :: strV x.2 :: statC l := rfl
    rw [e, show (i + 1) * 2 = i * 2 + 1 + 1 by omega, show i * 2 + 1 + 1 + 1 = (i * 2 + 1) + 1 + 1 by omega]
    simpa using this
theorem statC_one (l : List (List UInt8 × List UInt8)) : ∀ u ∈ statC l, u.oneCell' = true := by
  intro u hu
  unfold statC at hu
  obtain ⟨x, _, h⟩ := List.mem_flatMap.1 hu
  simp at h
  rcases h with rfl | rfl <;> rfl
theorem getD_stat {l : List (List UInt8 × List UInt8)} {i j : Nat} : statX l i j = if j = 0 then strV (l.getD i ([], [])).1 else strV (l.getD i ([], [])).2 := rfl
theorem rowAt_isSlK {w : World} {v : Value} {l : List (List UInt8 × List UInt8)} (h : RowAt w 2 v l.length (statX l)) : IsSlK w 2 l.length v (statC l) := by
  refine ⟨statC_len l, ?_⟩
  rcases h with h | ⟨h0, b, off, cap, hv, h1, h2, h3, h4⟩
  · exact .inl h
  · refine .inr ⟨h0, b, off, cap, hv, h1, h2, h3, fun j hj => ?_⟩
    rw [statC_len] at hj
    have hs := statC_at l (j / 2) (by omega)
    rcases (show j % 2 = 0 ∨ j % 2 = 1 by omega) with e | e
    · have h5 := h4 (j / 2) (by omega) 0 (by omega)
      rw [show j / 2 * 2 + 0 = j by omega] at h5
      rw [show j / 2 * 2 = j by omega] at hs
      rw [h5, hs.1]; rfl
    · have h5 := h4 (j / 2) (by omega) 1 (by omega)
      rw [show j / 2 * 2 + 1 = j by omega] at h5 hs
      rw [h5, hs.2]; rfl
/-- A block of stats. -/
structure StatB (w : World) (g m : Nat) (l : List (List UInt8 × List UInt8)) : Prop where
  len : l.length = m
  blk : ∃ cs, w.heap[g]? = some (.cells cs 76 (0, 0)) ∧ m * 2 ≤ cs.size ∧ ∀ i, i < m → cs[i * 2]? = some (strV (l.getD i ([], [])).1) ∧ cs[i * 2 + 1]? = some (strV (l.getD i ([], [])).2)
theorem StatB.cell {w : World} {g m : Nat} {l : List (List UInt8 × List UInt8)} (h : StatB w g m l) {i : Nat} (hi : i < m) : w.cell? ⟨g, i * 2, none⟩ = some (strV (l.getD i ([], [])).1) ∧ w.cell? ⟨g, i * 2 + 1, none⟩ = some (strV (l.getD i ([], [])).2) := by
  obtain ⟨cs, h1, h2, h3⟩ := h.blk
  rw [blk_cell h1, blk_cell h1]
  exact h3 i hi
theorem StatB.frozen {w : World} {g m : Nat} {l : List (List UInt8 × List UInt8)} (h : StatB w g m l) (k : Nat) : w.frozen? ⟨g, k, none⟩ = false := by
  obtain ⟨cs, h1, _⟩ := h.blk
  exact blk_frozen h1 k
theorem StatB.lt {w : World} {g m : Nat} {l : List (List UInt8 × List UInt8)} (h : StatB w g m l) : g < w.heap.size := by
  obtain ⟨cs, h1, _⟩ := h.blk
  exact blk_lt h1
theorem StatB.keep {w w' : World} {g m : Nat} {l : List (List UInt8 × List UInt8)} (h : StatB w g m l) (hb : w'.heap[g]? = w.heap[g]?) : StatB w' g m l := by
  obtain ⟨cs, h1, h2⟩ := h.blk
  exact ⟨h.len, cs, hb.trans h1, h2⟩
theorem mixS_len (k : Nat) (l : List (List UInt8 × List UInt8)) : (mixS k l).length = l.length := by
  unfold mixS; simp; omega
theorem mixS_at {k : Nat} {l : List (List UInt8 × List UInt8)} (hk : k < l.length) (i : Nat) : (mixS (k + 1) l).getD i ([], []) = if i = k then cutS ((mixS k l).getD k ([], [])) else (mixS k l).getD i ([], []) := by
  unfold mixS
  simp only [List.getD_eq_getElem?_getD, List.getElem?_append, List.getElem?_map, List.getElem?_drop, List.getElem?_take, List.length_map, List.length_take]
  rcases Nat.lt_trichotomy i k with h | h | h
  · rw [if_neg (by omega : ¬ i = k), if_pos (by omega), if_pos (by omega), if_pos (by omega), if_pos (by omega)]
  · subst h
    rw [if_pos rfl, if_pos (by omega), if_pos (by omega), if_neg (by omega), List.getElem?_eq_getElem hk, show i + (i - min i l.length) = i by omega, List.getElem?_eq_getElem hk]
    rfl
  · rw [if_neg (by omega : ¬ i = k), if_neg (by omega), if_neg (by omega)]
    congr 2
    omega
theorem mixS_zero (l : List (List UInt8 × List UInt8)) : mixS 0 l = l := by unfold mixS; simp
theorem mixS_all (l : List (List UInt8 × List UInt8)) : mixS l.length l = l.map cutS := by unfold mixS; simp
theorem StatB.step {w : World} {g m k : Nat} {l : List (List UInt8 × List UInt8)} (h : StatB w g m (mixS k l)) (hk : k < m) :
    StatB ((w.setCell ⟨g, k * 2, none⟩ (strV (((mixS k l).getD k ([], [])).1.take 40))).setCell ⟨g, k * 2 + 1, none⟩ (strV (((mixS k l).getD k ([], [])).2.take 40))) g m (mixS (k + 1) l) := by
  have hl := h.len
  rw [mixS_len] at hl
  obtain ⟨cs, h1, h2, h3⟩ := h.blk
  refine ⟨by rw [mixS_len]; exact hl, _, blk_setAt (blk_setAt h1 _) _, by simpa using h2, fun i hi => ?_⟩
  rw [mixS_at (by omega) i]
  by_cases e : i = k
  · subst e
    rw [if_pos rfl]
    constructor
    · rw [Array.getElem?_setIfInBounds_ne (by omega), Array.getElem?_setIfInBounds_self_of_lt (by omega)]; rfl
    · rw [Array.getElem?_setIfInBounds_self_of_lt (by simp; omega)]; rfl
  · rw [if_neg e, Array.getElem?_setIfInBounds_ne (by omega), Array.getElem?_setIfInBounds_ne (by omega), Array.getElem?_setIfInBounds_ne (by omega), Array.getElem?_setIfInBounds_ne (by omega)]
    exact h3 i hi
theorem run_strTo (WW : World) (l : List UInt8) (c : Int) (hc : c = ((l.take 40).length : Nat)) : (Instr.sliceAt 9 (.string ⟨l.toArray⟩) none (some (.int .i64 c)) none).run Try.prog WW = .ok (.string ⟨(l.take 40).toArray⟩) WW := by
  subst hc
  have hs : (⟨l.toArray⟩ : ByteArray).size = l.length := rfl
  rw [run_sliceAt_string (P := Try.prog) WW 9 _ _ _ _ Try.underlying9, run_slice_string_h (P := Try.prog) WW 9 ⟨l.toArray⟩ Try.underlying9 .i64 _ (by omega) (by rw [hs]; simp; omega)]
  have : (⟨l.toArray⟩ : ByteArray).extract 0 (((l.take 40).length : Int)).toNat = ⟨(l.take 40).toArray⟩ := by
    apply ByteArray.ext
    rw [ByteArray.data_extract]
    apply Array.ext'
    simp
    try omega
  rw [this]
theorem run_ixStat (WW : World) (g m cap k : Nat) (hk : k < m) : (Instr.indexAt 36 (.slice (some ⟨g, 0, none⟩) m cap) (.int .i64 k)).run Try.prog WW = .ok (.pointer (some ⟨g, k * 2, none⟩)) WW := by
  have h1 : (0 : Int) ≤ (k : Int) := by omega
  have h2 : (k : Int) < (m : Int) := by omega
  simp [go_sem, h1, h2, hk]
theorem size_mk (l : List UInt8) : (⟨l.toArray⟩ : ByteArray).size = l.length := rfl
theorem setF7 {w : World} {b : Nat} {y0 y1 y2 y3 y4 y5 y6 : Value} {e : TypeId} (h : w.heap[b]? = some (.cells #[y0, y1, y2, y3, y4, y5, y6] e (0, 0))) (x0 x1 x2 x3 x4 x5 x6 : Value) :
    (((((((w.setCell ⟨b, 0, none⟩ x0).setCell ⟨b, 1, none⟩ x1).setCell ⟨b, 2, none⟩ x2).setCell ⟨b, 3, none⟩ x3).setCell ⟨b, 4, none⟩ x4).setCell ⟨b, 5, none⟩ x5).setCell ⟨b, 6, none⟩ x6).heap[b]? = some (.cells #[x0, x1, x2, x3, x4, x5, x6] e (0, 0)) ∧ Frm (fun k => k = b) w (((((((w.setCell ⟨b, 0, none⟩ x0).setCell ⟨b, 1, none⟩ x1).setCell ⟨b, 2, none⟩ x2).setCell ⟨b, 3, none⟩ x3).setCell ⟨b, 4, none⟩ x4).setCell ⟨b, 5, none⟩ x5).setCell ⟨b, 6, none⟩ x6) := by
  have h0 := blk_setAt (k := 0) h x0
  have h1 := blk_setAt (k := 1) h0 x1
  have h2 := blk_setAt (k := 2) h1 x2
  have h3 := blk_setAt (k := 3) h2 x3
  have h4 := blk_setAt (k := 4) h3 x4
  have h5 := blk_setAt (k := 5) h4 x5
  have h6 := blk_setAt (k := 6) h5 x6
  have hf := (((((((setCell_frm1 w b 0 x0).trans (setCell_frm1 _ b 1 x1)).trans (setCell_frm1 _ b 2 x2)).trans (setCell_frm1 _ b 3 x3)).trans (setCell_frm1 _ b 4 x4)).trans (setCell_frm1 _ b 5 x5)).trans (setCell_frm1 _ b 6 x6))
  exact ⟨h6.trans (congrArg (fun c => some (Obj.cells c e (0, 0))) (by simp)), hf⟩
structure FewI (w : World) (ab rb g m : Nat) (cs : Array Value) (l : List (List UInt8 × List UInt8)) (k : Nat) (wr : World) : Prop where
  bel : Below w.heap.size w wr
  ha : wr.heap[ab]? = some (.cells cs 38 (0, 0))
  hr : wr.heap[rb]? = some (.cells #[.int .i64 0, .slice none 0 0, .int .u32 0, .int .u64 0, .int .u64 0, .slice none 0 0, .bool false] 38 (0, 0))
  st : 0 < m → StatB wr g m (mixS k l)
  gw : w.heap.size ≤ g
  gne : 0 < m → g ≠ ab ∧ g ≠ rb
theorem few_end {w wr W9 : World} {ab rb g m nc : Nat} {na : Option Addr} {cs : Array Value} {l : List (List UInt8 × List UInt8)} (h : FewI w ab rb g m cs l m wr) (hna : 0 < m → na = some ⟨g, 0, none⟩)
    (hnz : m = 0 → .slice na 0 nc = Value.slice none 0 0 ∨ ∃ a cap, .slice na 0 nc = Value.slice (some a) 0 cap) (hnc : 0 < m → m ≤ nc ∧ nc ≤ maxLen) (hl : l.length = m) (hff : Frm (fun b => b = rb) wr W9) : StatsAt W9 (fun b => w.heap.size ≤ b) (.slice na m nc) (l.map cutS) := by
  have hmix : mixS m l = l.map cutS := by rw [← hl]; exact mixS_all l
  have hlen : (l.map cutS).length = m := by rw [List.length_map, hl]
  refine ⟨?_, fun hne b hb => ?_⟩
  · rw [hlen]
    by_cases h0 : m = 0
    · refine .inl ⟨h0, ?_⟩
      rw [h0]
      exact hnz h0
    · obtain rfl : na = some ⟨g, 0, none⟩ := hna (by omega)
      have hst := h.st (by omega)
      have hgne := h.gne (by omega)
      have hst9 := hst.keep (hff.block g hst.lt hgne.2)
      refine .inr ⟨by omega, g, 0, nc, rfl, (hnc (by omega)).1, (hnc (by omega)).2, hst9.lt, fun i hi j hj => ?_⟩
      have hc := hst9.cell hi
      rw [hmix] at hc
      rw [Nat.zero_add]
      rcases (show j = 0 ∨ j = 1 by omega) with rfl | rfl
      · exact hc.1
      · exact hc.2
  · obtain rfl : na = some ⟨g, 0, none⟩ := hna (by
      rcases Nat.eq_zero_or_pos m with h | h
      · exact absurd (List.length_eq_zero_iff.1 (hlen.trans h)) hne
      · exact h)
    cases hb
    exact h.gw
set_option maxHeartbeats 8000000 in
set_option maxRecDepth 20000 in
theorem few22 (w : World) (a : An) (aa sa : Option Addr) (ac sc : Nat) (hv : BytesAt w (.slice aa a.val.length ac) a.val) (hst : RowAt w 2 (.slice sa a.stats.length sc) a.stats.length (statX a.stats)) :
    Calls Try.prog 22 #[ansV a.st (.slice aa a.val.length ac) a.fl a.cas a.num (.slice sa a.stats.length sc) a.cl] w fun e w' => ∃ sa' sc', e = .returned (ansV a.st (.slice aa (fewA a).val.length ac) a.fl a.cas a.num (.slice sa' (fewA a).stats.length sc') a.cl) ∧
      StatsAt w' (fun b => w.heap.size ≤ b) (.slice sa' (fewA a).stats.length sc') (fewA a).stats ∧ Below w.heap.size w w' := by
  have hv0 := bytes_cap hv
  have hs0 : a.stats.length ≤ sc ∧ sc ≤ maxLen ∨ a.stats.length = 0 := by
    rcases hst with h | ⟨h0, b, off, cap, e, h1, h2, _⟩
    · exact .inr h.1
    · injection e with e1 e2 e3; subst e3; exact .inl ⟨h1, h2⟩
  obtain ⟨vm, hvm⟩ : ∃ m, m = min a.val.length 600 := ⟨_, rfl⟩
  obtain ⟨m, hm⟩ : ∃ m, m = min a.stats.length 8 := ⟨_, rfl⟩
  have m1 : min (a.val.length : Int) 600 = (vm : Nat) := by omega
  have m2 : min (a.stats.length : Int) 8 = (m : Nat) := by omega
  have s1 : ∀ WW : World, (Instr.sliceAt 23 (.slice aa a.val.length ac) none (some (.int .i64 vm)) none).run Try.prog WW = .ok (.slice aa vm ac) WW := fun WW => run_slice_to (P := Try.prog) (e := 5) Try.underlying23 ⟨1, by kernel_rfl⟩ aa a.val.length ac vm (by omega)
  have s2 : ∀ WW : World, (Instr.sliceAt 36 (.slice sa a.stats.length sc) none (some (.int .i64 m)) none).run Try.prog WW = .ok (.slice sa m sc) WW := fun WW => run_slice_to (P := Try.prog) (e := 76) Try.underlying36 ⟨2, by kernel_rfl⟩ sa a.stats.length sc m (by omega)
  obtain ⟨rv, hrv⟩ : ∃ rv : Value → Value, rv = fun s => ansV a.st (.slice aa (fewA a).val.length ac) a.fl a.cas a.num s a.cl := ⟨_, rfl⟩
  have HRV : Hid (∀ s, rv s = .agg #[.int .i64 a.st, .slice aa vm ac, .int .u32 a.fl, .int .u64 a.cas, .int .u64 a.num, s, .bool a.cl]) := fun s => by rw [hrv]; unfold ansV fewA; simp only [List.length_take]; rw [Nat.min_comm, ← hvm]
  have hml : (fewA a).stats.length = m := by unfold fewA fewS; simp; omega
  have hfs : (fewA a).stats = (a.stats.take m).map cutS := by unfold fewA fewS; congr 1; rw [hm, Nat.min_comm, ← List.take_take, List.take_length]
  suffices Calls Try.prog 22 #[ansV a.st (.slice aa a.val.length ac) a.fl a.cas a.num (.slice sa a.stats.length sc) a.cl] w fun e w' => ∃ sa' sc', e = .returned (rv (.slice sa' m sc')) ∧ StatsAt w' (fun b => w.heap.size ≤ b) (.slice sa' m sc') ((a.stats.take m).map cutS) ∧ Below w.heap.size w w' by
    refine this.mono ?_
    rintro e w' ⟨sa', sc', rfl, h2, h3⟩
    rw [hml, hfs]
    exact ⟨sa', sc', by rw [hrv], h2, h3⟩
  clear hrv
  unfold ansV
  obtain ⟨ab, rb, W, HA, HR, HW, HK, HZ⟩ := boxed2 w #[.int .i64 a.st, .slice aa a.val.length ac, .int .u32 a.fl, .int .u64 a.cas, .int .u64 a.num, .slice sa a.stats.length sc, .bool a.cl] 38 #[.int .i64 0, .slice none 0 0, .int .u32 0, .int .u64 0, .int .u64 0, .slice none 0 0, .bool false] 38
  have a1 : W.cell? ⟨ab, 1, none⟩ = some (.slice aa a.val.length ac) := blk_cell HK.out.b0 1
  have f1 : W.frozen? ⟨ab, 1, none⟩ = false := blk_frozen HK.out.b0 1
  have hal := blk_lt HK.out.b0
  obtain ⟨W1, hW1⟩ : ∃ W1, W1 = W.setCell ⟨ab, 1, none⟩ (.slice aa vm ac) := ⟨_, rfl⟩
  have hab1 : W1.heap[ab]? = some (.cells #[.int .i64 a.st, .slice aa vm ac, .int .u32 a.fl, .int .u64 a.cas, .int .u64 a.num, .slice sa a.stats.length sc, .bool a.cl] 38 (0, 0)) := by rw [hW1]; exact blk_setAt HK.out.b0 _
  have hf1 : Frm (fun b => b = ab) W W1 := by rw [hW1]; exact setCell_frm1 W ab 1 _
  have hz1 : W1.heap.size = W.heap.size := by rw [hW1]; simp [World.setCell]
  have hrb1 := (hf1.block rb (blk_lt HK.out.b1) (by have := HA.out; have := HR.out; omega)).trans HK.out.b1
  have a5 : W1.cell? ⟨ab, 5, none⟩ = some (.slice sa a.stats.length sc) := blk_cell hab1 5
  have a5' : (W1.alloc (.cells #[] 76)).cell? ⟨ab, 5, none⟩ = some (.slice sa a.stats.length sc) := cellB ((Below.refl W1.heap.size W1).alloc (Nat.le_refl _) _) a5
  have hb1 : Below w.heap.size w W1 := (((frm_below HK.out.below) : Frm (fun b => b = ab) w W).trans hf1).below (fun b hb e => by have := HA.out; omega) (Nat.le_refl _)
  have hst1 : RowAt W1 2 (.slice sa m sc) (a.stats.take m).length (statX (a.stats.take m)) := by
    have := (hst.below hb1 (Nat.le_refl _)).take (m := m) (by omega)
    rw [List.length_take, show min m a.stats.length = m by omega]
    rcases this with h | ⟨h0, b, off, cap, e, h1, h2, h3, h4⟩
    · exact .inl h
    · refine .inr ⟨h0, b, off, cap, e, h1, h2, h3, fun i hi j hj => ?_⟩
      rw [h4 i hi j hj]
      unfold statX
      simp only [List.getD_eq_getElem?_getD, List.getElem?_take_of_lt hi]
  have hisl := (rowAt_isSlK hst1).below ((Below.refl W1.heap.size W1).alloc (Nat.le_refl _) (.cells #[] 76)) (Nat.le_refl _)
  rw [List.length_take, show min m a.stats.length = m by omega] at hisl
  have q1 : (W1.alloc (.cells #[] 76)).ownsRow W1.heap.size 76 2 (.slice (some ⟨W1.heap.size, 0, none⟩) 0 0) 0 [] := World.ownsRow_made W1 #[] 0 (Nat.le_refl _) (by decide) rfl
  obtain ⟨v', W2, hr2, ho2, hg2, _⟩ := app_at (P := Try.prog) (t := 36) (ty := 36) elemStat q1 hisl (statC_one _) (by omega) (by unfold maxLen; omega) (by simp)
  have hb2 : Below W1.heap.size W1 W2 := ((Below.refl _ W1).alloc (Nat.le_refl _) _).grown hg2 (by simp) (fun k hk => by cases hk; exact Nat.le_refl _)
  rw [List.nil_append, Nat.zero_add] at ho2
  obtain ⟨na, nc, rfl, _⟩ := own_form ho2
  have hab2 := (hb2.block ab (blk_lt hab1)).trans hab1
  have hrb2 := (hb2.block rb (blk_lt hrb1)).trans hrb1
  have b5 : W2.cell? ⟨ab, 5, none⟩ = some (.slice sa a.stats.length sc) := blk_cell hab2 5
  have g5 : W2.frozen? ⟨ab, 5, none⟩ = false := blk_frozen hab2 5
  have hal2 := blk_lt hab2
  obtain ⟨W3, hW3⟩ : ∃ W3, W3 = W2.setCell ⟨ab, 5, none⟩ (.slice na m nc) := ⟨_, rfl⟩
  have hab3 : W3.heap[ab]? = some (.cells #[.int .i64 a.st, .slice aa vm ac, .int .u32 a.fl, .int .u64 a.cas, .int .u64 a.num, .slice na m nc, .bool a.cl] 38 (0, 0)) := by rw [hW3]; exact blk_setAt hab2 _
  have hf3 : Frm (fun b => b = ab) W2 W3 := by rw [hW3]; exact setCell_frm1 W2 ab 5 _
  have hrb3 := (hf3.block rb (blk_lt hrb2) (by have := HA.out; have := HR.out; omega)).trans hrb2
  have hb3 : Below w.heap.size w W3 := (((frm_below (hb1.trans (hb2.mono hb1.size))) : Frm (fun b => b = ab) w W2).trans hf3).below (fun b hb e => by have := HA.out; omega) (Nat.le_refl _)
  have hgg : ∃ g, w.heap.size ≤ g ∧ (0 < m → na = some ⟨g, 0, none⟩ ∧ StatB W3 g m (mixS 0 (a.stats.take m)) ∧ g ≠ ab ∧ g ≠ rb) := by
    by_cases h0 : m = 0
    · exact ⟨w.heap.size, Nat.le_refl _, fun h => by omega⟩
    · rcases ho2.2 with ⟨h, _⟩ | ⟨g, cap, cur, e1, e2, e3, e4, e5, e6, e7⟩
      · injection h with _ h _; omega
      · injection e1 with e1 _ _
        have hl1 := blk_lt hab1
        have hl2 := blk_lt hrb1
        have hx : g ≠ ab := by omega
        refine ⟨g, Nat.le_trans hb1.size e2, fun _ => ⟨e1, ⟨by rw [mixS_len]; simp; omega, cur, (hf3.block g (Array.getElem?_eq_some_iff.1 e3).1 hx).trans e3, ?_, fun i hi => ?_⟩, hx, by omega⟩⟩
        · omega
        · have hc := statC_at (a.stats.take m) i (by simp; omega)
          rw [mixS_zero, ← hc.1, ← hc.2, ← e7, List.getElem?_take_of_lt (by omega), List.getElem?_take_of_lt (by omega)]
          simp
  have HNZ : Hid (m = 0 → .slice na 0 nc = Value.slice none 0 0 ∨ ∃ a cap, .slice na 0 nc = Value.slice (some a) 0 cap) := fun h => by
    cases na with
    | none => left; rcases ho2.2 with ⟨e, _⟩ | ⟨g, cap, cur, e1, _⟩ <;> first | (injection e with _ _ e; rw [e]) | cases e1
    | some x => exact .inr ⟨x, nc, rfl⟩
  have HNC : Hid (0 < m → m ≤ nc ∧ nc ≤ maxLen) := fun h => by
    rcases ho2.2 with ⟨e, _⟩ | ⟨g, cap, cur, e1, e2, e3, e4, e5, e6, e7⟩
    · injection e with _ e _; omega
    · injection e1 with _ _ e1; subst e1; exact ⟨e4, e5⟩
  obtain ⟨g, hgw, hgm⟩ := hgg
  have HI : Hid (FewI w ab rb g m #[.int .i64 a.st, .slice aa vm ac, .int .u32 a.fl, .int .u64 a.cas, .int .u64 a.num, .slice na m nc, .bool a.cl] (a.stats.take m) 0 W3) := ⟨hb3, hab3, hrb3, fun h => (hgm h).2.1, hgw, fun h => (hgm h).2.2⟩
  have HNA : Hid (0 < m → na = some ⟨g, 0, none⟩) := fun h => (hgm h).1
  have c5 : W3.cell? ⟨ab, 5, none⟩ = some (.slice na m nc) := blk_cell hab3 5
  have HR2 := Lib.hid hr2
  have HW1 := Lib.hid hW1.symm
  have HW3 := Lib.hid hW3.symm
  have hmm : m ≤ 8 := by omega
  have HMS : Hid (m ≤ a.stats.length) := by show _ ≤ _; omega
  clear hst hv hst1 hisl q1 hr2 ho2 hg2 hb2 hab2 hrb2 hab1 hrb1 hf1 hb1 hW1 hW3 hab3 hf3 hrb3 hb3 hgm hgw hz1 hv0 hs0 hml hfs hvm hm
  go_enter Try.func22, Try.ntmps22
  go_upto_region 1 with fail
  rw [HR.out, HA.out, HW.out]
  go_upto_region 2 with fail
  rw [HW1.out]
  go_upto_region 3 with (at_builtin; refine wpList_append_eq rfl _ _ _ rfl rfl rfl HR2.out ?_)
  rw [HW3.out]
  clear m1 m2 s1 s2 a1 f1 hal a5 a5' b5 g5 hal2
  go_wp2_with fail
  go_loopg [25] m (fun gg b25 wr => ∃ k : Nat, k ≤ m ∧ gg = m - k ∧ b25 = .int .i64 k ∧ Hid (FewI w ab rb g m #[.int .i64 a.st, .slice aa vm ac, .int .u32 a.fl, .int .u64 a.cas, .int .u64 a.num, .slice na m nc, .bool a.cl] (a.stats.take m) k wr))
  case atStart => exact ⟨0, Nat.zero_le _, rfl, rfl, HI.out⟩
  case round =>
  obtain ⟨k, hk, hgg, rfl, HK0⟩ := hrel
  subst hgg
  clear HI c5
  by_cases hlt : k < m
  · obtain rfl : na = some ⟨g, 0, none⟩ := HNA.out (by omega)
    have hst := HK0.out.st (by omega)
    have hgne := HK0.out.gne (by omega)
    obtain ⟨x0, hx0⟩ : ∃ x, x = ((mixS k (a.stats.take m)).getD k ([], [])).1 := ⟨_, rfl⟩
    obtain ⟨x1, hx1⟩ : ∃ x, x = ((mixS k (a.stats.take m)).getD k ([], [])).2 := ⟨_, rfl⟩
    obtain ⟨n0, hn0⟩ : ∃ n, n = (x0.take 40).length := ⟨_, rfl⟩
    obtain ⟨n1, hn1⟩ : ∃ n, n = (x1.take 40).length := ⟨_, rfl⟩
    have HN0 : Hid (min (x0.length : Int) 40 = (n0 : Nat)) := by show _ = _; rw [hn0]; simp; omega
    have HN1 : Hid (min (x1.length : Int) 40 = (n1 : Nat)) := by show _ = _; rw [hn1]; simp; omega
    have HS0 : Hid (∀ WW : World, Hid ((Instr.sliceAt 9 (.string ⟨x0.toArray⟩) none (some (.int .i64 n0)) none).run Try.prog WW = .ok (.string ⟨(x0.take 40).toArray⟩) WW)) := fun WW => run_strTo WW x0 n0 (by rw [hn0])
    have HS1 : Hid (∀ WW : World, Hid ((Instr.sliceAt 9 (.string ⟨x1.toArray⟩) none (some (.int .i64 n1)) none).run Try.prog WW = .ok (.string ⟨(x1.take 40).toArray⟩) WW)) := fun WW => run_strTo WW x1 n1 (by rw [hn1])
    have HIX : Hid (∀ WW : World, Hid ((Instr.indexAt 36 (.slice (some ⟨g, 0, none⟩) m nc) (.int .i64 k)).run Try.prog WW = .ok (.pointer (some ⟨g, k * 2, none⟩)) WW)) := fun WW => run_ixStat WW g m nc k hlt
    have hnx := hst.step hlt
    rw [← hx0, ← hx1] at hnx
    have hc := hst.cell hlt
    rw [← hx0, ← hx1] at hc
    have hfr2 : Frm (fun b => b = g) wr ((wr.setCell ⟨g, k * 2, none⟩ (.string ⟨(x0.take 40).toArray⟩)).setCell ⟨g, k * 2 + 1, none⟩ (.string ⟨(x1.take 40).toArray⟩)) := (setCell_frm1 wr g (k * 2) _).trans (setCell_frm1 _ g (k * 2 + 1) _)
    have hfr1 : Frm (fun b => b = g) wr (wr.setCell ⟨g, k * 2, none⟩ (.string ⟨(x0.take 40).toArray⟩)) := setCell_frm1 wr g (k * 2) _
    have d5 : wr.drew.cell? ⟨ab, 5, none⟩ = some (.slice (some ⟨g, 0, none⟩) m nc) := blk_cell HK0.out.ha 5
    have d0 : wr.drew.cell? ⟨g, k * 2, none⟩ = some (.string ⟨x0.toArray⟩) := hc.1
    have d1 : wr.drew.cell? ⟨g, k * 2 + 1, none⟩ = some (.string ⟨x1.toArray⟩) := hc.2
    have t0 : wr.cell? ⟨g, k * 2, none⟩ = some (.string ⟨x0.toArray⟩) := hc.1
    have t1 : (wr.setCell ⟨g, k * 2, none⟩ (.string ⟨(x0.take 40).toArray⟩)).cell? ⟨g, k * 2 + 1, none⟩ = some (.string ⟨x1.toArray⟩) := (World.cell?_setCell_other _ _ _ _ (by intro e; injection e with _ e _; omega)).trans hc.2
    have e1 : (wr.setCell ⟨g, k * 2, none⟩ (.string ⟨(x0.take 40).toArray⟩)).drew.cell? ⟨g, k * 2 + 1, none⟩ = some (.string ⟨x1.toArray⟩) := t1
    have e5 : (wr.setCell ⟨g, k * 2, none⟩ (.string ⟨(x0.take 40).toArray⟩)).drew.cell? ⟨ab, 5, none⟩ = some (.slice (some ⟨g, 0, none⟩) m nc) := blk_cell ((hfr1.block ab (blk_lt HK0.out.ha) (Ne.symm hgne.1)).trans HK0.out.ha) 5
    have f0 : wr.frozen? ⟨g, k * 2, none⟩ = false := hst.frozen _
    have f1 : (wr.setCell ⟨g, k * 2, none⟩ (.string ⟨(x0.take 40).toArray⟩)).frozen? ⟨g, k * 2 + 1, none⟩ = false := by
      obtain ⟨cs, h1, _⟩ := hst.blk
      exact blk_frozen (blk_setAt h1 _) _
    have hgl := hst.lt
    have HNX : Hid (FewI w ab rb g m #[.int .i64 a.st, .slice aa vm ac, .int .u32 a.fl, .int .u64 a.cas, .int .u64 a.num, .slice (some ⟨g, 0, none⟩) m nc, .bool a.cl] (a.stats.take m) (k + 1) (((wr.setCell ⟨g, k * 2, none⟩ (.string ⟨(x0.take 40).toArray⟩)).setCell ⟨g, k * 2 + 1, none⟩ (.string ⟨(x1.take 40).toArray⟩)).drew)) := by
      have hgw := HK0.out.gw
      have hz := HK0.out.bel.size
      exact ⟨(((frm_below HK0.out.bel) : Frm (fun b => b = g) w wr).trans hfr2).drew.below (fun b hb e => by omega) (Nat.le_refl _), (hfr2.block ab (blk_lt HK0.out.ha) (Ne.symm hgne.1)).trans HK0.out.ha, (hfr2.block rb (blk_lt HK0.out.hr) (Ne.symm hgne.2)).trans HK0.out.hr, fun _ => hnx.keep rfl, hgw, fun _ => hgne⟩
    clear hst hgne hx0 hx1 hn0 hn1 hnx hc hfr2 hfr1 HNA
    go_upto_region 6 with fail
    refine wp_region_tbl [(0, 28, (.pointer (some ⟨ab, 5, none⟩))), (1, 29, (.slice (some ⟨g, 0, none⟩) m nc)), (2, 30, (.int .i64 k)), (3, 31, (.pointer (some ⟨ab, 5, none⟩))), (4, 32, (.slice (some ⟨g, 0, none⟩) m nc)), (5, 33, (.int .i64 k)), (6, 34, (.pointer (some ⟨ab, 5, none⟩))), (7, 35, (.slice (some ⟨g, 0, none⟩) m nc)), (8, 36, (.int .i64 k)), (9, 37, (.pointer (some ⟨g, k * 2, none⟩))), (10, 38, (.pointer (some ⟨g, k * 2, none⟩))), (11, 39, (.string ⟨x0.toArray⟩)), (12, 40, (.pointer (some ⟨ab, 5, none⟩))), (13, 41, (.slice (some ⟨g, 0, none⟩) m nc)), (14, 42, (.int .i64 k)), (15, 43, (.pointer (some ⟨g, k * 2, none⟩))), (16, 44, (.pointer (some ⟨g, k * 2, none⟩))), (17, 45, (.string ⟨x0.toArray⟩)), (18, 46, (.int .i64 x0.length)), (19, 47, (.int .i64 n0)), (20, 48, (.string ⟨(x0.take 40).toArray⟩)), (21, 49, (.pointer (some ⟨ab, 5, none⟩))), (22, 50, (.slice (some ⟨g, 0, none⟩) m nc)), (23, 51, (.int .i64 k)), (24, 52, (.pointer (some ⟨g, k * 2, none⟩))), (25, 53, (.pointer (some ⟨g, k * 2 + 1, none⟩))), (26, 54, (.string ⟨x1.toArray⟩)), (27, 55, (.pointer (some ⟨ab, 5, none⟩))), (28, 56, (.slice (some ⟨g, 0, none⟩) m nc)), (29, 57, (.int .i64 k)), (30, 58, (.pointer (some ⟨g, k * 2, none⟩))), (31, 59, (.pointer (some ⟨g, k * 2 + 1, none⟩))), (32, 60, (.string ⟨x1.toArray⟩)), (33, 61, (.int .i64 x1.length)), (34, 62, (.int .i64 n1)), (35, 63, (.string ⟨(x1.take 40).toArray⟩)), (36, 64, (.pointer (some ⟨g, k * 2, none⟩))), (37, 65, (.pointer (some ⟨g, k * 2, none⟩))), (39, 66, (.pointer (some ⟨g, k * 2, none⟩))), (40, 67, (.pointer (some ⟨g, k * 2 + 1, none⟩)))] (fun done WW => WW = (if done 41 then ((wr.setCell ⟨g, k * 2, none⟩ (.string ⟨(x0.take 40).toArray⟩)).setCell ⟨g, k * 2 + 1, none⟩ (.string ⟨(x1.take 40).toArray⟩)).drew else if done 38 then (wr.setCell ⟨g, k * 2, none⟩ (.string ⟨(x0.take 40).toArray⟩)).drew else wr.drew)) (by kernel_rfl) (hord_of2 (by kernel_rfl)) (by kernel_rfl) (by kernel_rfl) (by kernel_rfl) rfl ?_ ?_
    · intro done zb WW j oq ho hd hdep hcl HA hww
      have hj : j < 42 := (Array.getElem?_eq_some_iff.1 ho).1
      obtain rfl | rfl | rfl | rfl | rfl | rfl | rfl | rfl | rfl | rfl | rfl | rfl | rfl | rfl | rfl | rfl | rfl | rfl | rfl | rfl | rfl | rfl | rfl | rfl | rfl | rfl | rfl | rfl | rfl | rfl | rfl | rfl | rfl | rfl | rfl | rfl | rfl | rfl | rfl | rfl | rfl | rfl : j = 0 ∨ j = 1 ∨ j = 2 ∨ j = 3 ∨ j = 4 ∨ j = 5 ∨ j = 6 ∨ j = 7 ∨ j = 8 ∨ j = 9 ∨ j = 10 ∨ j = 11 ∨ j = 12 ∨ j = 13 ∨ j = 14 ∨ j = 15 ∨ j = 16 ∨ j = 17 ∨ j = 18 ∨ j = 19 ∨ j = 20 ∨ j = 21 ∨ j = 22 ∨ j = 23 ∨ j = 24 ∨ j = 25 ∨ j = 26 ∨ j = 27 ∨ j = 28 ∨ j = 29 ∨ j = 30 ∨ j = 31 ∨ j = 32 ∨ j = 33 ∨ j = 34 ∨ j = 35 ∨ j = 36 ∨ j = 37 ∨ j = 38 ∨ j = 39 ∨ j = 40 ∨ j = 41 := by omega
      · have n1 : done 1 = false := by cases hx : done 1 with | false => rfl | true => have := hcl 1 _ rfl hx ⟨0, .data⟩ (by simp) rfl; rw [hd] at this; cases this
        have n36 : done 36 = false := by cases hx : done 36 with | false => rfl | true => have := hcl 36 _ rfl hx ⟨1, .data⟩ (by simp) rfl; rw [n1] at this; cases this
        have n37 : done 37 = false := by cases hx : done 37 with | false => rfl | true => have := hcl 37 _ rfl hx ⟨36, .data⟩ (by simp) rfl; rw [n36] at this; cases this
        have n38 : done 38 = false := by cases hx : done 38 with | false => rfl | true => have := hcl 38 _ rfl hx ⟨37, .data⟩ (by simp) rfl; rw [n37] at this; cases this
        have n39 : done 39 = false := by cases hx : done 39 with | false => rfl | true => have := hcl 39 _ rfl hx ⟨0, .phase⟩ (by simp) rfl; rw [hd] at this; cases this
        have n40 : done 40 = false := by cases hx : done 40 with | false => rfl | true => have := hcl 40 _ rfl hx ⟨39, .data⟩ (by simp) rfl; rw [n39] at this; cases this
        have n41 : done 41 = false := by cases hx : done 41 with | false => rfl | true => have := hcl 41 _ rfl hx ⟨40, .data⟩ (by simp) rfl; rw [n40] at this; cases this
        exact valT (W' := WW) (.pointer (some ⟨ab, 5, none⟩)) ho (by cases ho; rfl) (by cases ho; simp [execOp, go_sem, HA.tm, lookT]) (by cases ho; exact fun d hd => by cases hd; simp) (hww)
      · have p0 : done 0 = true := by cases ho; exact hdep ⟨0, .data⟩ (by simp) rfl
        have n36 : done 36 = false := by cases hx : done 36 with | false => rfl | true => have := hcl 36 _ rfl hx ⟨1, .data⟩ (by simp) rfl; rw [hd] at this; cases this
        have n37 : done 37 = false := by cases hx : done 37 with | false => rfl | true => have := hcl 37 _ rfl hx ⟨36, .data⟩ (by simp) rfl; rw [n36] at this; cases this
        have n38 : done 38 = false := by cases hx : done 38 with | false => rfl | true => have := hcl 38 _ rfl hx ⟨37, .data⟩ (by simp) rfl; rw [n37] at this; cases this
        have n39 : done 39 = false := by cases hx : done 39 with | false => rfl | true => have := hcl 39 _ rfl hx ⟨1, .phase⟩ (by simp) rfl; rw [hd] at this; cases this
        have n40 : done 40 = false := by cases hx : done 40 with | false => rfl | true => have := hcl 40 _ rfl hx ⟨39, .data⟩ (by simp) rfl; rw [n39] at this; cases this
        have n41 : done 41 = false := by cases hx : done 41 with | false => rfl | true => have := hcl 41 _ rfl hx ⟨40, .data⟩ (by simp) rfl; rw [n40] at this; cases this
        have hcell0 : WW.cell? ⟨ab, 5, none⟩ = some ((.slice (some ⟨g, 0, none⟩) m nc)) := by
          rw [hww]
          simp only [n41, Bool.false_eq_true, if_false]
          simp only [n38, Bool.false_eq_true, if_false]
          assumption
        exact valT (W' := WW) (.slice (some ⟨g, 0, none⟩) m nc) ho (by cases ho; rfl) (by cases ho; simp [execOp, go_sem, HA.tm, lookT, p0, hcell0]) (by cases ho; exact fun d hd => by cases hd; simp) (hww)
      · have n36 : done 36 = false := by cases hx : done 36 with | false => rfl | true => have := hcl 36 _ rfl hx ⟨2, .data⟩ (by simp) rfl; rw [hd] at this; cases this
        have n37 : done 37 = false := by cases hx : done 37 with | false => rfl | true => have := hcl 37 _ rfl hx ⟨36, .data⟩ (by simp) rfl; rw [n36] at this; cases this
        have n38 : done 38 = false := by cases hx : done 38 with | false => rfl | true => have := hcl 38 _ rfl hx ⟨37, .data⟩ (by simp) rfl; rw [n37] at this; cases this
        have n39 : done 39 = false := by cases hx : done 39 with | false => rfl | true => have := hcl 39 _ rfl hx ⟨2, .phase⟩ (by simp) rfl; rw [hd] at this; cases this
        have n40 : done 40 = false := by cases hx : done 40 with | false => rfl | true => have := hcl 40 _ rfl hx ⟨39, .data⟩ (by simp) rfl; rw [n39] at this; cases this
        have n41 : done 41 = false := by cases hx : done 41 with | false => rfl | true => have := hcl 41 _ rfl hx ⟨40, .data⟩ (by simp) rfl; rw [n40] at this; cases this
        exact valT (W' := WW) (.int .i64 k) ho (by cases ho; rfl) (by cases ho; simp [execOp, go_sem, HA.tm, lookT]) (by cases ho; exact fun d hd => by cases hd; simp) (hww)
      · have n4 : done 4 = false := by cases hx : done 4 with | false => rfl | true => have := hcl 4 _ rfl hx ⟨3, .data⟩ (by simp) rfl; rw [hd] at this; cases this
        have n39 : done 39 = false := by cases hx : done 39 with | false => rfl | true => have := hcl 39 _ rfl hx ⟨4, .data⟩ (by simp) rfl; rw [n4] at this; cases this
        have n40 : done 40 = false := by cases hx : done 40 with | false => rfl | true => have := hcl 40 _ rfl hx ⟨39, .data⟩ (by simp) rfl; rw [n39] at this; cases this
        have n41 : done 41 = false := by cases hx : done 41 with | false => rfl | true => have := hcl 41 _ rfl hx ⟨40, .data⟩ (by simp) rfl; rw [n40] at this; cases this
        exact valT (W' := WW) (.pointer (some ⟨ab, 5, none⟩)) ho (by cases ho; rfl) (by cases ho; simp [execOp, go_sem, HA.tm, lookT]) (by cases ho; exact fun d hd => by cases hd; simp) (hww)
      · have p3 : done 3 = true := by cases ho; exact hdep ⟨3, .data⟩ (by simp) rfl
        have n39 : done 39 = false := by cases hx : done 39 with | false => rfl | true => have := hcl 39 _ rfl hx ⟨4, .data⟩ (by simp) rfl; rw [hd] at this; cases this
        have n40 : done 40 = false := by cases hx : done 40 with | false => rfl | true => have := hcl 40 _ rfl hx ⟨39, .data⟩ (by simp) rfl; rw [n39] at this; cases this
        have n41 : done 41 = false := by cases hx : done 41 with | false => rfl | true => have := hcl 41 _ rfl hx ⟨40, .data⟩ (by simp) rfl; rw [n40] at this; cases this
        have hcell0 : WW.cell? ⟨ab, 5, none⟩ = some ((.slice (some ⟨g, 0, none⟩) m nc)) := by
          rw [hww]
          simp only [n41, Bool.false_eq_true, if_false]
          cases hz38 : done 38 with
          | true =>
            simp only [if_true]
            assumption
          | false =>
            simp only [Bool.false_eq_true, if_false]
            assumption
        exact valT (W' := WW) (.slice (some ⟨g, 0, none⟩) m nc) ho (by cases ho; rfl) (by cases ho; simp [execOp, go_sem, HA.tm, lookT, p3, hcell0]) (by cases ho; exact fun d hd => by cases hd; simp) (hww)
      · have n39 : done 39 = false := by cases hx : done 39 with | false => rfl | true => have := hcl 39 _ rfl hx ⟨5, .data⟩ (by simp) rfl; rw [hd] at this; cases this
        have n40 : done 40 = false := by cases hx : done 40 with | false => rfl | true => have := hcl 40 _ rfl hx ⟨39, .data⟩ (by simp) rfl; rw [n39] at this; cases this
        have n41 : done 41 = false := by cases hx : done 41 with | false => rfl | true => have := hcl 41 _ rfl hx ⟨40, .data⟩ (by simp) rfl; rw [n40] at this; cases this
        exact valT (W' := WW) (.int .i64 k) ho (by cases ho; rfl) (by cases ho; simp [execOp, go_sem, HA.tm, lookT]) (by cases ho; exact fun d hd => by cases hd; simp) (hww)
      · have n36 : done 36 = false := by cases hx : done 36 with | false => rfl | true => have := hcl 36 _ rfl hx ⟨6, .phase⟩ (by simp) rfl; rw [hd] at this; cases this
        have n37 : done 37 = false := by cases hx : done 37 with | false => rfl | true => have := hcl 37 _ rfl hx ⟨36, .data⟩ (by simp) rfl; rw [n36] at this; cases this
        have n38 : done 38 = false := by cases hx : done 38 with | false => rfl | true => have := hcl 38 _ rfl hx ⟨37, .data⟩ (by simp) rfl; rw [n37] at this; cases this
        have n39 : done 39 = false := by cases hx : done 39 with | false => rfl | true => have := hcl 39 _ rfl hx ⟨6, .phase⟩ (by simp) rfl; rw [hd] at this; cases this
        have n40 : done 40 = false := by cases hx : done 40 with | false => rfl | true => have := hcl 40 _ rfl hx ⟨39, .data⟩ (by simp) rfl; rw [n39] at this; cases this
        have n41 : done 41 = false := by cases hx : done 41 with | false => rfl | true => have := hcl 41 _ rfl hx ⟨40, .data⟩ (by simp) rfl; rw [n40] at this; cases this
        exact valT (W' := WW) (.pointer (some ⟨ab, 5, none⟩)) ho (by cases ho; rfl) (by cases ho; simp [execOp, go_sem, HA.tm, lookT]) (by cases ho; exact fun d hd => by cases hd; simp) (hww)
      · have p6 : done 6 = true := by cases ho; exact hdep ⟨6, .data⟩ (by simp) rfl
        have n36 : done 36 = false := by cases hx : done 36 with | false => rfl | true => have := hcl 36 _ rfl hx ⟨7, .phase⟩ (by simp) rfl; rw [hd] at this; cases this
        have n37 : done 37 = false := by cases hx : done 37 with | false => rfl | true => have := hcl 37 _ rfl hx ⟨36, .data⟩ (by simp) rfl; rw [n36] at this; cases this
        have n38 : done 38 = false := by cases hx : done 38 with | false => rfl | true => have := hcl 38 _ rfl hx ⟨37, .data⟩ (by simp) rfl; rw [n37] at this; cases this
        have n39 : done 39 = false := by cases hx : done 39 with | false => rfl | true => have := hcl 39 _ rfl hx ⟨7, .phase⟩ (by simp) rfl; rw [hd] at this; cases this
        have n40 : done 40 = false := by cases hx : done 40 with | false => rfl | true => have := hcl 40 _ rfl hx ⟨39, .data⟩ (by simp) rfl; rw [n39] at this; cases this
        have n41 : done 41 = false := by cases hx : done 41 with | false => rfl | true => have := hcl 41 _ rfl hx ⟨40, .data⟩ (by simp) rfl; rw [n40] at this; cases this
        have hcell0 : WW.cell? ⟨ab, 5, none⟩ = some ((.slice (some ⟨g, 0, none⟩) m nc)) := by
          rw [hww]
          simp only [n41, Bool.false_eq_true, if_false]
          simp only [n38, Bool.false_eq_true, if_false]
          assumption
        exact valT (W' := WW) (.slice (some ⟨g, 0, none⟩) m nc) ho (by cases ho; rfl) (by cases ho; simp [execOp, go_sem, HA.tm, lookT, p6, hcell0]) (by cases ho; exact fun d hd => by cases hd; simp) (hww)
      · have n36 : done 36 = false := by cases hx : done 36 with | false => rfl | true => have := hcl 36 _ rfl hx ⟨8, .phase⟩ (by simp) rfl; rw [hd] at this; cases this
        have n37 : done 37 = false := by cases hx : done 37 with | false => rfl | true => have := hcl 37 _ rfl hx ⟨36, .data⟩ (by simp) rfl; rw [n36] at this; cases this
        have n38 : done 38 = false := by cases hx : done 38 with | false => rfl | true => have := hcl 38 _ rfl hx ⟨37, .data⟩ (by simp) rfl; rw [n37] at this; cases this
        have n39 : done 39 = false := by cases hx : done 39 with | false => rfl | true => have := hcl 39 _ rfl hx ⟨8, .phase⟩ (by simp) rfl; rw [hd] at this; cases this
        have n40 : done 40 = false := by cases hx : done 40 with | false => rfl | true => have := hcl 40 _ rfl hx ⟨39, .data⟩ (by simp) rfl; rw [n39] at this; cases this
        have n41 : done 41 = false := by cases hx : done 41 with | false => rfl | true => have := hcl 41 _ rfl hx ⟨40, .data⟩ (by simp) rfl; rw [n40] at this; cases this
        exact valT (W' := WW) (.int .i64 k) ho (by cases ho; rfl) (by cases ho; simp [execOp, go_sem, HA.tm, lookT]) (by cases ho; exact fun d hd => by cases hd; simp) (hww)
      · have p7 : done 7 = true := by cases ho; exact hdep ⟨7, .data⟩ (by simp) rfl
        have p8 : done 8 = true := by cases ho; exact hdep ⟨8, .data⟩ (by simp) rfl
        have n36 : done 36 = false := by cases hx : done 36 with | false => rfl | true => have := hcl 36 _ rfl hx ⟨9, .phase⟩ (by simp) rfl; rw [hd] at this; cases this
        have n37 : done 37 = false := by cases hx : done 37 with | false => rfl | true => have := hcl 37 _ rfl hx ⟨36, .data⟩ (by simp) rfl; rw [n36] at this; cases this
        have n38 : done 38 = false := by cases hx : done 38 with | false => rfl | true => have := hcl 38 _ rfl hx ⟨37, .data⟩ (by simp) rfl; rw [n37] at this; cases this
        have n39 : done 39 = false := by cases hx : done 39 with | false => rfl | true => have := hcl 39 _ rfl hx ⟨9, .phase⟩ (by simp) rfl; rw [hd] at this; cases this
        have n40 : done 40 = false := by cases hx : done 40 with | false => rfl | true => have := hcl 40 _ rfl hx ⟨39, .data⟩ (by simp) rfl; rw [n39] at this; cases this
        have n41 : done 41 = false := by cases hx : done 41 with | false => rfl | true => have := hcl 41 _ rfl hx ⟨40, .data⟩ (by simp) rfl; rw [n40] at this; cases this
        exact valT (W' := WW) (.pointer (some ⟨g, k * 2, none⟩)) ho (by cases ho; rfl) (by cases ho; simp [execOp, go_sem, HA.tm, lookT, p7, p8, (HIX.out WW).out]) (by cases ho; exact fun d hd => by cases hd; simp) (hww)
      · have p9 : done 9 = true := by cases ho; exact hdep ⟨9, .data⟩ (by simp) rfl
        have n36 : done 36 = false := by cases hx : done 36 with | false => rfl | true => have := hcl 36 _ rfl hx ⟨10, .phase⟩ (by simp) rfl; rw [hd] at this; cases this
        have n37 : done 37 = false := by cases hx : done 37 with | false => rfl | true => have := hcl 37 _ rfl hx ⟨36, .data⟩ (by simp) rfl; rw [n36] at this; cases this
        have n38 : done 38 = false := by cases hx : done 38 with | false => rfl | true => have := hcl 38 _ rfl hx ⟨37, .data⟩ (by simp) rfl; rw [n37] at this; cases this
        have n39 : done 39 = false := by cases hx : done 39 with | false => rfl | true => have := hcl 39 _ rfl hx ⟨10, .phase⟩ (by simp) rfl; rw [hd] at this; cases this
        have n40 : done 40 = false := by cases hx : done 40 with | false => rfl | true => have := hcl 40 _ rfl hx ⟨39, .data⟩ (by simp) rfl; rw [n39] at this; cases this
        have n41 : done 41 = false := by cases hx : done 41 with | false => rfl | true => have := hcl 41 _ rfl hx ⟨40, .data⟩ (by simp) rfl; rw [n40] at this; cases this
        exact valT (W' := WW) (.pointer (some ⟨g, k * 2, none⟩)) ho (by cases ho; rfl) (by cases ho; simp [execOp, go_sem, HA.tm, lookT, p9]) (by cases ho; exact fun d hd => by cases hd; simp) (hww)
      · have p10 : done 10 = true := by cases ho; exact hdep ⟨10, .data⟩ (by simp) rfl
        have n36 : done 36 = false := by cases hx : done 36 with | false => rfl | true => have := hcl 36 _ rfl hx ⟨11, .phase⟩ (by simp) rfl; rw [hd] at this; cases this
        have n37 : done 37 = false := by cases hx : done 37 with | false => rfl | true => have := hcl 37 _ rfl hx ⟨36, .data⟩ (by simp) rfl; rw [n36] at this; cases this
        have n38 : done 38 = false := by cases hx : done 38 with | false => rfl | true => have := hcl 38 _ rfl hx ⟨37, .data⟩ (by simp) rfl; rw [n37] at this; cases this
        have n39 : done 39 = false := by cases hx : done 39 with | false => rfl | true => have := hcl 39 _ rfl hx ⟨11, .phase⟩ (by simp) rfl; rw [hd] at this; cases this
        have n40 : done 40 = false := by cases hx : done 40 with | false => rfl | true => have := hcl 40 _ rfl hx ⟨39, .data⟩ (by simp) rfl; rw [n39] at this; cases this
        have n41 : done 41 = false := by cases hx : done 41 with | false => rfl | true => have := hcl 41 _ rfl hx ⟨40, .data⟩ (by simp) rfl; rw [n40] at this; cases this
        have hcell0 : WW.cell? ⟨g, k * 2, none⟩ = some ((.string ⟨x0.toArray⟩)) := by
          rw [hww]
          simp only [n41, Bool.false_eq_true, if_false]
          simp only [n38, Bool.false_eq_true, if_false]
          assumption
        exact valT (W' := WW) (.string ⟨x0.toArray⟩) ho (by cases ho; rfl) (by cases ho; simp [execOp, go_sem, HA.tm, lookT, p10, hcell0]) (by cases ho; exact fun d hd => by cases hd; simp) (hww)
      · have n36 : done 36 = false := by cases hx : done 36 with | false => rfl | true => have := hcl 36 _ rfl hx ⟨12, .phase⟩ (by simp) rfl; rw [hd] at this; cases this
        have n37 : done 37 = false := by cases hx : done 37 with | false => rfl | true => have := hcl 37 _ rfl hx ⟨36, .data⟩ (by simp) rfl; rw [n36] at this; cases this
        have n38 : done 38 = false := by cases hx : done 38 with | false => rfl | true => have := hcl 38 _ rfl hx ⟨37, .data⟩ (by simp) rfl; rw [n37] at this; cases this
        have n39 : done 39 = false := by cases hx : done 39 with | false => rfl | true => have := hcl 39 _ rfl hx ⟨12, .phase⟩ (by simp) rfl; rw [hd] at this; cases this
        have n40 : done 40 = false := by cases hx : done 40 with | false => rfl | true => have := hcl 40 _ rfl hx ⟨39, .data⟩ (by simp) rfl; rw [n39] at this; cases this
        have n41 : done 41 = false := by cases hx : done 41 with | false => rfl | true => have := hcl 41 _ rfl hx ⟨40, .data⟩ (by simp) rfl; rw [n40] at this; cases this
        exact valT (W' := WW) (.pointer (some ⟨ab, 5, none⟩)) ho (by cases ho; rfl) (by cases ho; simp [execOp, go_sem, HA.tm, lookT]) (by cases ho; exact fun d hd => by cases hd; simp) (hww)
      · have p12 : done 12 = true := by cases ho; exact hdep ⟨12, .data⟩ (by simp) rfl
        have n36 : done 36 = false := by cases hx : done 36 with | false => rfl | true => have := hcl 36 _ rfl hx ⟨13, .phase⟩ (by simp) rfl; rw [hd] at this; cases this
        have n37 : done 37 = false := by cases hx : done 37 with | false => rfl | true => have := hcl 37 _ rfl hx ⟨36, .data⟩ (by simp) rfl; rw [n36] at this; cases this
        have n38 : done 38 = false := by cases hx : done 38 with | false => rfl | true => have := hcl 38 _ rfl hx ⟨37, .data⟩ (by simp) rfl; rw [n37] at this; cases this
        have n39 : done 39 = false := by cases hx : done 39 with | false => rfl | true => have := hcl 39 _ rfl hx ⟨13, .phase⟩ (by simp) rfl; rw [hd] at this; cases this
        have n40 : done 40 = false := by cases hx : done 40 with | false => rfl | true => have := hcl 40 _ rfl hx ⟨39, .data⟩ (by simp) rfl; rw [n39] at this; cases this
        have n41 : done 41 = false := by cases hx : done 41 with | false => rfl | true => have := hcl 41 _ rfl hx ⟨40, .data⟩ (by simp) rfl; rw [n40] at this; cases this
        have hcell0 : WW.cell? ⟨ab, 5, none⟩ = some ((.slice (some ⟨g, 0, none⟩) m nc)) := by
          rw [hww]
          simp only [n41, Bool.false_eq_true, if_false]
          simp only [n38, Bool.false_eq_true, if_false]
          assumption
        exact valT (W' := WW) (.slice (some ⟨g, 0, none⟩) m nc) ho (by cases ho; rfl) (by cases ho; simp [execOp, go_sem, HA.tm, lookT, p12, hcell0]) (by cases ho; exact fun d hd => by cases hd; simp) (hww)
      · have n36 : done 36 = false := by cases hx : done 36 with | false => rfl | true => have := hcl 36 _ rfl hx ⟨14, .phase⟩ (by simp) rfl; rw [hd] at this; cases this
        have n37 : done 37 = false := by cases hx : done 37 with | false => rfl | true => have := hcl 37 _ rfl hx ⟨36, .data⟩ (by simp) rfl; rw [n36] at this; cases this
        have n38 : done 38 = false := by cases hx : done 38 with | false => rfl | true => have := hcl 38 _ rfl hx ⟨37, .data⟩ (by simp) rfl; rw [n37] at this; cases this
        have n39 : done 39 = false := by cases hx : done 39 with | false => rfl | true => have := hcl 39 _ rfl hx ⟨14, .phase⟩ (by simp) rfl; rw [hd] at this; cases this
        have n40 : done 40 = false := by cases hx : done 40 with | false => rfl | true => have := hcl 40 _ rfl hx ⟨39, .data⟩ (by simp) rfl; rw [n39] at this; cases this
        have n41 : done 41 = false := by cases hx : done 41 with | false => rfl | true => have := hcl 41 _ rfl hx ⟨40, .data⟩ (by simp) rfl; rw [n40] at this; cases this
        exact valT (W' := WW) (.int .i64 k) ho (by cases ho; rfl) (by cases ho; simp [execOp, go_sem, HA.tm, lookT]) (by cases ho; exact fun d hd => by cases hd; simp) (hww)
      · have p13 : done 13 = true := by cases ho; exact hdep ⟨13, .data⟩ (by simp) rfl
        have p14 : done 14 = true := by cases ho; exact hdep ⟨14, .data⟩ (by simp) rfl
        have n36 : done 36 = false := by cases hx : done 36 with | false => rfl | true => have := hcl 36 _ rfl hx ⟨15, .phase⟩ (by simp) rfl; rw [hd] at this; cases this
        have n37 : done 37 = false := by cases hx : done 37 with | false => rfl | true => have := hcl 37 _ rfl hx ⟨36, .data⟩ (by simp) rfl; rw [n36] at this; cases this
        have n38 : done 38 = false := by cases hx : done 38 with | false => rfl | true => have := hcl 38 _ rfl hx ⟨37, .data⟩ (by simp) rfl; rw [n37] at this; cases this
        have n39 : done 39 = false := by cases hx : done 39 with | false => rfl | true => have := hcl 39 _ rfl hx ⟨15, .phase⟩ (by simp) rfl; rw [hd] at this; cases this
        have n40 : done 40 = false := by cases hx : done 40 with | false => rfl | true => have := hcl 40 _ rfl hx ⟨39, .data⟩ (by simp) rfl; rw [n39] at this; cases this
        have n41 : done 41 = false := by cases hx : done 41 with | false => rfl | true => have := hcl 41 _ rfl hx ⟨40, .data⟩ (by simp) rfl; rw [n40] at this; cases this
        exact valT (W' := WW) (.pointer (some ⟨g, k * 2, none⟩)) ho (by cases ho; rfl) (by cases ho; simp [execOp, go_sem, HA.tm, lookT, p13, p14, (HIX.out WW).out]) (by cases ho; exact fun d hd => by cases hd; simp) (hww)
      · have p15 : done 15 = true := by cases ho; exact hdep ⟨15, .data⟩ (by simp) rfl
        have n36 : done 36 = false := by cases hx : done 36 with | false => rfl | true => have := hcl 36 _ rfl hx ⟨16, .phase⟩ (by simp) rfl; rw [hd] at this; cases this
        have n37 : done 37 = false := by cases hx : done 37 with | false => rfl | true => have := hcl 37 _ rfl hx ⟨36, .data⟩ (by simp) rfl; rw [n36] at this; cases this
        have n38 : done 38 = false := by cases hx : done 38 with | false => rfl | true => have := hcl 38 _ rfl hx ⟨37, .data⟩ (by simp) rfl; rw [n37] at this; cases this
        have n39 : done 39 = false := by cases hx : done 39 with | false => rfl | true => have := hcl 39 _ rfl hx ⟨16, .phase⟩ (by simp) rfl; rw [hd] at this; cases this
        have n40 : done 40 = false := by cases hx : done 40 with | false => rfl | true => have := hcl 40 _ rfl hx ⟨39, .data⟩ (by simp) rfl; rw [n39] at this; cases this
        have n41 : done 41 = false := by cases hx : done 41 with | false => rfl | true => have := hcl 41 _ rfl hx ⟨40, .data⟩ (by simp) rfl; rw [n40] at this; cases this
        exact valT (W' := WW) (.pointer (some ⟨g, k * 2, none⟩)) ho (by cases ho; rfl) (by cases ho; simp [execOp, go_sem, HA.tm, lookT, p15]) (by cases ho; exact fun d hd => by cases hd; simp) (hww)
      · have p16 : done 16 = true := by cases ho; exact hdep ⟨16, .data⟩ (by simp) rfl
        have n36 : done 36 = false := by cases hx : done 36 with | false => rfl | true => have := hcl 36 _ rfl hx ⟨17, .phase⟩ (by simp) rfl; rw [hd] at this; cases this
        have n37 : done 37 = false := by cases hx : done 37 with | false => rfl | true => have := hcl 37 _ rfl hx ⟨36, .data⟩ (by simp) rfl; rw [n36] at this; cases this
        have n38 : done 38 = false := by cases hx : done 38 with | false => rfl | true => have := hcl 38 _ rfl hx ⟨37, .data⟩ (by simp) rfl; rw [n37] at this; cases this
        have n39 : done 39 = false := by cases hx : done 39 with | false => rfl | true => have := hcl 39 _ rfl hx ⟨17, .phase⟩ (by simp) rfl; rw [hd] at this; cases this
        have n40 : done 40 = false := by cases hx : done 40 with | false => rfl | true => have := hcl 40 _ rfl hx ⟨39, .data⟩ (by simp) rfl; rw [n39] at this; cases this
        have n41 : done 41 = false := by cases hx : done 41 with | false => rfl | true => have := hcl 41 _ rfl hx ⟨40, .data⟩ (by simp) rfl; rw [n40] at this; cases this
        have hcell0 : WW.cell? ⟨g, k * 2, none⟩ = some ((.string ⟨x0.toArray⟩)) := by
          rw [hww]
          simp only [n41, Bool.false_eq_true, if_false]
          simp only [n38, Bool.false_eq_true, if_false]
          assumption
        exact valT (W' := WW) (.string ⟨x0.toArray⟩) ho (by cases ho; rfl) (by cases ho; simp [execOp, go_sem, HA.tm, lookT, p16, hcell0]) (by cases ho; exact fun d hd => by cases hd; simp) (hww)
      · have p17 : done 17 = true := by cases ho; exact hdep ⟨17, .data⟩ (by simp) rfl
        have n36 : done 36 = false := by cases hx : done 36 with | false => rfl | true => have := hcl 36 _ rfl hx ⟨18, .phase⟩ (by simp) rfl; rw [hd] at this; cases this
        have n37 : done 37 = false := by cases hx : done 37 with | false => rfl | true => have := hcl 37 _ rfl hx ⟨36, .data⟩ (by simp) rfl; rw [n36] at this; cases this
        have n38 : done 38 = false := by cases hx : done 38 with | false => rfl | true => have := hcl 38 _ rfl hx ⟨37, .data⟩ (by simp) rfl; rw [n37] at this; cases this
        have n39 : done 39 = false := by cases hx : done 39 with | false => rfl | true => have := hcl 39 _ rfl hx ⟨18, .phase⟩ (by simp) rfl; rw [hd] at this; cases this
        have n40 : done 40 = false := by cases hx : done 40 with | false => rfl | true => have := hcl 40 _ rfl hx ⟨39, .data⟩ (by simp) rfl; rw [n39] at this; cases this
        have n41 : done 41 = false := by cases hx : done 41 with | false => rfl | true => have := hcl 41 _ rfl hx ⟨40, .data⟩ (by simp) rfl; rw [n40] at this; cases this
        exact valT (W' := WW) (.int .i64 x0.length) ho (by cases ho; rfl) (by cases ho; simp [execOp, go_sem, HA.tm, lookT, p17, size_mk]) (by cases ho; exact fun d hd => by cases hd; simp) (hww)
      · have p18 : done 18 = true := by cases ho; exact hdep ⟨18, .data⟩ (by simp) rfl
        have n36 : done 36 = false := by cases hx : done 36 with | false => rfl | true => have := hcl 36 _ rfl hx ⟨19, .phase⟩ (by simp) rfl; rw [hd] at this; cases this
        have n37 : done 37 = false := by cases hx : done 37 with | false => rfl | true => have := hcl 37 _ rfl hx ⟨36, .data⟩ (by simp) rfl; rw [n36] at this; cases this
        have n38 : done 38 = false := by cases hx : done 38 with | false => rfl | true => have := hcl 38 _ rfl hx ⟨37, .data⟩ (by simp) rfl; rw [n37] at this; cases this
        have n39 : done 39 = false := by cases hx : done 39 with | false => rfl | true => have := hcl 39 _ rfl hx ⟨19, .phase⟩ (by simp) rfl; rw [hd] at this; cases this
        have n40 : done 40 = false := by cases hx : done 40 with | false => rfl | true => have := hcl 40 _ rfl hx ⟨39, .data⟩ (by simp) rfl; rw [n39] at this; cases this
        have n41 : done 41 = false := by cases hx : done 41 with | false => rfl | true => have := hcl 41 _ rfl hx ⟨40, .data⟩ (by simp) rfl; rw [n40] at this; cases this
        exact valT (W' := WW) (.int .i64 n0) ho (by cases ho; rfl) (by cases ho; simp [execOp, go_sem, HA.tm, lookT, p18, HN0.out]) (by cases ho; exact fun d hd => by cases hd; simp) (hww)
      · have p11 : done 11 = true := by cases ho; exact hdep ⟨11, .data⟩ (by simp) rfl
        have p19 : done 19 = true := by cases ho; exact hdep ⟨19, .data⟩ (by simp) rfl
        have n36 : done 36 = false := by cases hx : done 36 with | false => rfl | true => have := hcl 36 _ rfl hx ⟨20, .phase⟩ (by simp) rfl; rw [hd] at this; cases this
        have n37 : done 37 = false := by cases hx : done 37 with | false => rfl | true => have := hcl 37 _ rfl hx ⟨36, .data⟩ (by simp) rfl; rw [n36] at this; cases this
        have n38 : done 38 = false := by cases hx : done 38 with | false => rfl | true => have := hcl 38 _ rfl hx ⟨37, .data⟩ (by simp) rfl; rw [n37] at this; cases this
        have n39 : done 39 = false := by cases hx : done 39 with | false => rfl | true => have := hcl 39 _ rfl hx ⟨20, .phase⟩ (by simp) rfl; rw [hd] at this; cases this
        have n40 : done 40 = false := by cases hx : done 40 with | false => rfl | true => have := hcl 40 _ rfl hx ⟨39, .data⟩ (by simp) rfl; rw [n39] at this; cases this
        have n41 : done 41 = false := by cases hx : done 41 with | false => rfl | true => have := hcl 41 _ rfl hx ⟨40, .data⟩ (by simp) rfl; rw [n40] at this; cases this
        exact valT (W' := WW) (.string ⟨(x0.take 40).toArray⟩) ho (by cases ho; rfl) (by cases ho; simp [execOp, go_sem, HA.tm, lookT, p11, p19, (HS0.out WW).out]) (by cases ho; exact fun d hd => by cases hd; simp) (hww)
      · have n22 : done 22 = false := by cases hx : done 22 with | false => rfl | true => have := hcl 22 _ rfl hx ⟨21, .data⟩ (by simp) rfl; rw [hd] at this; cases this
        have n24 : done 24 = false := by cases hx : done 24 with | false => rfl | true => have := hcl 24 _ rfl hx ⟨22, .data⟩ (by simp) rfl; rw [n22] at this; cases this
        have n25 : done 25 = false := by cases hx : done 25 with | false => rfl | true => have := hcl 25 _ rfl hx ⟨24, .data⟩ (by simp) rfl; rw [n24] at this; cases this
        have n26 : done 26 = false := by cases hx : done 26 with | false => rfl | true => have := hcl 26 _ rfl hx ⟨25, .data⟩ (by simp) rfl; rw [n25] at this; cases this
        have n36 : done 36 = false := by cases hx : done 36 with | false => rfl | true => have := hcl 36 _ rfl hx ⟨26, .phase⟩ (by simp) rfl; rw [n26] at this; cases this
        have n37 : done 37 = false := by cases hx : done 37 with | false => rfl | true => have := hcl 37 _ rfl hx ⟨36, .data⟩ (by simp) rfl; rw [n36] at this; cases this
        have n38 : done 38 = false := by cases hx : done 38 with | false => rfl | true => have := hcl 38 _ rfl hx ⟨37, .data⟩ (by simp) rfl; rw [n37] at this; cases this
        have n39 : done 39 = false := by cases hx : done 39 with | false => rfl | true => have := hcl 39 _ rfl hx ⟨21, .phase⟩ (by simp) rfl; rw [hd] at this; cases this
        have n40 : done 40 = false := by cases hx : done 40 with | false => rfl | true => have := hcl 40 _ rfl hx ⟨39, .data⟩ (by simp) rfl; rw [n39] at this; cases this
        have n41 : done 41 = false := by cases hx : done 41 with | false => rfl | true => have := hcl 41 _ rfl hx ⟨40, .data⟩ (by simp) rfl; rw [n40] at this; cases this
        exact valT (W' := WW) (.pointer (some ⟨ab, 5, none⟩)) ho (by cases ho; rfl) (by cases ho; simp [execOp, go_sem, HA.tm, lookT]) (by cases ho; exact fun d hd => by cases hd; simp) (hww)
      · have p21 : done 21 = true := by cases ho; exact hdep ⟨21, .data⟩ (by simp) rfl
        have n24 : done 24 = false := by cases hx : done 24 with | false => rfl | true => have := hcl 24 _ rfl hx ⟨22, .data⟩ (by simp) rfl; rw [hd] at this; cases this
        have n25 : done 25 = false := by cases hx : done 25 with | false => rfl | true => have := hcl 25 _ rfl hx ⟨24, .data⟩ (by simp) rfl; rw [n24] at this; cases this
        have n26 : done 26 = false := by cases hx : done 26 with | false => rfl | true => have := hcl 26 _ rfl hx ⟨25, .data⟩ (by simp) rfl; rw [n25] at this; cases this
        have n36 : done 36 = false := by cases hx : done 36 with | false => rfl | true => have := hcl 36 _ rfl hx ⟨26, .phase⟩ (by simp) rfl; rw [n26] at this; cases this
        have n37 : done 37 = false := by cases hx : done 37 with | false => rfl | true => have := hcl 37 _ rfl hx ⟨36, .data⟩ (by simp) rfl; rw [n36] at this; cases this
        have n38 : done 38 = false := by cases hx : done 38 with | false => rfl | true => have := hcl 38 _ rfl hx ⟨37, .data⟩ (by simp) rfl; rw [n37] at this; cases this
        have n39 : done 39 = false := by cases hx : done 39 with | false => rfl | true => have := hcl 39 _ rfl hx ⟨22, .phase⟩ (by simp) rfl; rw [hd] at this; cases this
        have n40 : done 40 = false := by cases hx : done 40 with | false => rfl | true => have := hcl 40 _ rfl hx ⟨39, .data⟩ (by simp) rfl; rw [n39] at this; cases this
        have n41 : done 41 = false := by cases hx : done 41 with | false => rfl | true => have := hcl 41 _ rfl hx ⟨40, .data⟩ (by simp) rfl; rw [n40] at this; cases this
        have hcell0 : WW.cell? ⟨ab, 5, none⟩ = some ((.slice (some ⟨g, 0, none⟩) m nc)) := by
          rw [hww]
          simp only [n41, Bool.false_eq_true, if_false]
          simp only [n38, Bool.false_eq_true, if_false]
          assumption
        exact valT (W' := WW) (.slice (some ⟨g, 0, none⟩) m nc) ho (by cases ho; rfl) (by cases ho; simp [execOp, go_sem, HA.tm, lookT, p21, hcell0]) (by cases ho; exact fun d hd => by cases hd; simp) (hww)
      · have n24 : done 24 = false := by cases hx : done 24 with | false => rfl | true => have := hcl 24 _ rfl hx ⟨23, .data⟩ (by simp) rfl; rw [hd] at this; cases this
        have n25 : done 25 = false := by cases hx : done 25 with | false => rfl | true => have := hcl 25 _ rfl hx ⟨24, .data⟩ (by simp) rfl; rw [n24] at this; cases this
        have n26 : done 26 = false := by cases hx : done 26 with | false => rfl | true => have := hcl 26 _ rfl hx ⟨25, .data⟩ (by simp) rfl; rw [n25] at this; cases this
        have n36 : done 36 = false := by cases hx : done 36 with | false => rfl | true => have := hcl 36 _ rfl hx ⟨26, .phase⟩ (by simp) rfl; rw [n26] at this; cases this
        have n37 : done 37 = false := by cases hx : done 37 with | false => rfl | true => have := hcl 37 _ rfl hx ⟨36, .data⟩ (by simp) rfl; rw [n36] at this; cases this
        have n38 : done 38 = false := by cases hx : done 38 with | false => rfl | true => have := hcl 38 _ rfl hx ⟨37, .data⟩ (by simp) rfl; rw [n37] at this; cases this
        have n39 : done 39 = false := by cases hx : done 39 with | false => rfl | true => have := hcl 39 _ rfl hx ⟨23, .phase⟩ (by simp) rfl; rw [hd] at this; cases this
        have n40 : done 40 = false := by cases hx : done 40 with | false => rfl | true => have := hcl 40 _ rfl hx ⟨39, .data⟩ (by simp) rfl; rw [n39] at this; cases this
        have n41 : done 41 = false := by cases hx : done 41 with | false => rfl | true => have := hcl 41 _ rfl hx ⟨40, .data⟩ (by simp) rfl; rw [n40] at this; cases this
        exact valT (W' := WW) (.int .i64 k) ho (by cases ho; rfl) (by cases ho; simp [execOp, go_sem, HA.tm, lookT]) (by cases ho; exact fun d hd => by cases hd; simp) (hww)
      · have p22 : done 22 = true := by cases ho; exact hdep ⟨22, .data⟩ (by simp) rfl
        have p23 : done 23 = true := by cases ho; exact hdep ⟨23, .data⟩ (by simp) rfl
        have n25 : done 25 = false := by cases hx : done 25 with | false => rfl | true => have := hcl 25 _ rfl hx ⟨24, .data⟩ (by simp) rfl; rw [hd] at this; cases this
        have n26 : done 26 = false := by cases hx : done 26 with | false => rfl | true => have := hcl 26 _ rfl hx ⟨25, .data⟩ (by simp) rfl; rw [n25] at this; cases this
        have n36 : done 36 = false := by cases hx : done 36 with | false => rfl | true => have := hcl 36 _ rfl hx ⟨26, .phase⟩ (by simp) rfl; rw [n26] at this; cases this
        have n37 : done 37 = false := by cases hx : done 37 with | false => rfl | true => have := hcl 37 _ rfl hx ⟨36, .data⟩ (by simp) rfl; rw [n36] at this; cases this
        have n38 : done 38 = false := by cases hx : done 38 with | false => rfl | true => have := hcl 38 _ rfl hx ⟨37, .data⟩ (by simp) rfl; rw [n37] at this; cases this
        have n39 : done 39 = false := by cases hx : done 39 with | false => rfl | true => have := hcl 39 _ rfl hx ⟨24, .phase⟩ (by simp) rfl; rw [hd] at this; cases this
        have n40 : done 40 = false := by cases hx : done 40 with | false => rfl | true => have := hcl 40 _ rfl hx ⟨39, .data⟩ (by simp) rfl; rw [n39] at this; cases this
        have n41 : done 41 = false := by cases hx : done 41 with | false => rfl | true => have := hcl 41 _ rfl hx ⟨40, .data⟩ (by simp) rfl; rw [n40] at this; cases this
        exact valT (W' := WW) (.pointer (some ⟨g, k * 2, none⟩)) ho (by cases ho; rfl) (by cases ho; simp [execOp, go_sem, HA.tm, lookT, p22, p23, (HIX.out WW).out]) (by cases ho; exact fun d hd => by cases hd; simp) (hww)
      · have p24 : done 24 = true := by cases ho; exact hdep ⟨24, .data⟩ (by simp) rfl
        have n26 : done 26 = false := by cases hx : done 26 with | false => rfl | true => have := hcl 26 _ rfl hx ⟨25, .data⟩ (by simp) rfl; rw [hd] at this; cases this
        have n36 : done 36 = false := by cases hx : done 36 with | false => rfl | true => have := hcl 36 _ rfl hx ⟨26, .phase⟩ (by simp) rfl; rw [n26] at this; cases this
        have n37 : done 37 = false := by cases hx : done 37 with | false => rfl | true => have := hcl 37 _ rfl hx ⟨36, .data⟩ (by simp) rfl; rw [n36] at this; cases this
        have n38 : done 38 = false := by cases hx : done 38 with | false => rfl | true => have := hcl 38 _ rfl hx ⟨37, .data⟩ (by simp) rfl; rw [n37] at this; cases this
        have n39 : done 39 = false := by cases hx : done 39 with | false => rfl | true => have := hcl 39 _ rfl hx ⟨25, .phase⟩ (by simp) rfl; rw [hd] at this; cases this
        have n40 : done 40 = false := by cases hx : done 40 with | false => rfl | true => have := hcl 40 _ rfl hx ⟨39, .data⟩ (by simp) rfl; rw [n39] at this; cases this
        have n41 : done 41 = false := by cases hx : done 41 with | false => rfl | true => have := hcl 41 _ rfl hx ⟨40, .data⟩ (by simp) rfl; rw [n40] at this; cases this
        exact valT (W' := WW) (.pointer (some ⟨g, k * 2 + 1, none⟩)) ho (by cases ho; rfl) (by cases ho; simp [execOp, go_sem, HA.tm, lookT, p24]) (by cases ho; exact fun d hd => by cases hd; simp) (hww)
      · have p25 : done 25 = true := by cases ho; exact hdep ⟨25, .data⟩ (by simp) rfl
        have n36 : done 36 = false := by cases hx : done 36 with | false => rfl | true => have := hcl 36 _ rfl hx ⟨26, .phase⟩ (by simp) rfl; rw [hd] at this; cases this
        have n37 : done 37 = false := by cases hx : done 37 with | false => rfl | true => have := hcl 37 _ rfl hx ⟨36, .data⟩ (by simp) rfl; rw [n36] at this; cases this
        have n38 : done 38 = false := by cases hx : done 38 with | false => rfl | true => have := hcl 38 _ rfl hx ⟨37, .data⟩ (by simp) rfl; rw [n37] at this; cases this
        have n39 : done 39 = false := by cases hx : done 39 with | false => rfl | true => have := hcl 39 _ rfl hx ⟨26, .phase⟩ (by simp) rfl; rw [hd] at this; cases this
        have n40 : done 40 = false := by cases hx : done 40 with | false => rfl | true => have := hcl 40 _ rfl hx ⟨39, .data⟩ (by simp) rfl; rw [n39] at this; cases this
        have n41 : done 41 = false := by cases hx : done 41 with | false => rfl | true => have := hcl 41 _ rfl hx ⟨40, .data⟩ (by simp) rfl; rw [n40] at this; cases this
        have hcell0 : WW.cell? ⟨g, k * 2 + 1, none⟩ = some ((.string ⟨x1.toArray⟩)) := by
          rw [hww]
          simp only [n41, Bool.false_eq_true, if_false]
          simp only [n38, Bool.false_eq_true, if_false]
          assumption
        exact valT (W' := WW) (.string ⟨x1.toArray⟩) ho (by cases ho; rfl) (by cases ho; simp [execOp, go_sem, HA.tm, lookT, p25, hcell0]) (by cases ho; exact fun d hd => by cases hd; simp) (hww)
      · have n28 : done 28 = false := by cases hx : done 28 with | false => rfl | true => have := hcl 28 _ rfl hx ⟨27, .data⟩ (by simp) rfl; rw [hd] at this; cases this
        have n30 : done 30 = false := by cases hx : done 30 with | false => rfl | true => have := hcl 30 _ rfl hx ⟨28, .data⟩ (by simp) rfl; rw [n28] at this; cases this
        have n31 : done 31 = false := by cases hx : done 31 with | false => rfl | true => have := hcl 31 _ rfl hx ⟨30, .data⟩ (by simp) rfl; rw [n30] at this; cases this
        have n32 : done 32 = false := by cases hx : done 32 with | false => rfl | true => have := hcl 32 _ rfl hx ⟨31, .data⟩ (by simp) rfl; rw [n31] at this; cases this
        have n36 : done 36 = false := by cases hx : done 36 with | false => rfl | true => have := hcl 36 _ rfl hx ⟨32, .phase⟩ (by simp) rfl; rw [n32] at this; cases this
        have n37 : done 37 = false := by cases hx : done 37 with | false => rfl | true => have := hcl 37 _ rfl hx ⟨36, .data⟩ (by simp) rfl; rw [n36] at this; cases this
        have n38 : done 38 = false := by cases hx : done 38 with | false => rfl | true => have := hcl 38 _ rfl hx ⟨37, .data⟩ (by simp) rfl; rw [n37] at this; cases this
        have n39 : done 39 = false := by cases hx : done 39 with | false => rfl | true => have := hcl 39 _ rfl hx ⟨27, .phase⟩ (by simp) rfl; rw [hd] at this; cases this
        have n40 : done 40 = false := by cases hx : done 40 with | false => rfl | true => have := hcl 40 _ rfl hx ⟨39, .data⟩ (by simp) rfl; rw [n39] at this; cases this
        have n41 : done 41 = false := by cases hx : done 41 with | false => rfl | true => have := hcl 41 _ rfl hx ⟨40, .data⟩ (by simp) rfl; rw [n40] at this; cases this
        exact valT (W' := WW) (.pointer (some ⟨ab, 5, none⟩)) ho (by cases ho; rfl) (by cases ho; simp [execOp, go_sem, HA.tm, lookT]) (by cases ho; exact fun d hd => by cases hd; simp) (hww)
      · have p27 : done 27 = true := by cases ho; exact hdep ⟨27, .data⟩ (by simp) rfl
        have n30 : done 30 = false := by cases hx : done 30 with | false => rfl | true => have := hcl 30 _ rfl hx ⟨28, .data⟩ (by simp) rfl; rw [hd] at this; cases this
        have n31 : done 31 = false := by cases hx : done 31 with | false => rfl | true => have := hcl 31 _ rfl hx ⟨30, .data⟩ (by simp) rfl; rw [n30] at this; cases this
        have n32 : done 32 = false := by cases hx : done 32 with | false => rfl | true => have := hcl 32 _ rfl hx ⟨31, .data⟩ (by simp) rfl; rw [n31] at this; cases this
        have n36 : done 36 = false := by cases hx : done 36 with | false => rfl | true => have := hcl 36 _ rfl hx ⟨32, .phase⟩ (by simp) rfl; rw [n32] at this; cases this
        have n37 : done 37 = false := by cases hx : done 37 with | false => rfl | true => have := hcl 37 _ rfl hx ⟨36, .data⟩ (by simp) rfl; rw [n36] at this; cases this
        have n38 : done 38 = false := by cases hx : done 38 with | false => rfl | true => have := hcl 38 _ rfl hx ⟨37, .data⟩ (by simp) rfl; rw [n37] at this; cases this
        have n39 : done 39 = false := by cases hx : done 39 with | false => rfl | true => have := hcl 39 _ rfl hx ⟨28, .phase⟩ (by simp) rfl; rw [hd] at this; cases this
        have n40 : done 40 = false := by cases hx : done 40 with | false => rfl | true => have := hcl 40 _ rfl hx ⟨39, .data⟩ (by simp) rfl; rw [n39] at this; cases this
        have n41 : done 41 = false := by cases hx : done 41 with | false => rfl | true => have := hcl 41 _ rfl hx ⟨40, .data⟩ (by simp) rfl; rw [n40] at this; cases this
        have hcell0 : WW.cell? ⟨ab, 5, none⟩ = some ((.slice (some ⟨g, 0, none⟩) m nc)) := by
          rw [hww]
          simp only [n41, Bool.false_eq_true, if_false]
          simp only [n38, Bool.false_eq_true, if_false]
          assumption
        exact valT (W' := WW) (.slice (some ⟨g, 0, none⟩) m nc) ho (by cases ho; rfl) (by cases ho; simp [execOp, go_sem, HA.tm, lookT, p27, hcell0]) (by cases ho; exact fun d hd => by cases hd; simp) (hww)
      · have n30 : done 30 = false := by cases hx : done 30 with | false => rfl | true => have := hcl 30 _ rfl hx ⟨29, .data⟩ (by simp) rfl; rw [hd] at this; cases this
        have n31 : done 31 = false := by cases hx : done 31 with | false => rfl | true => have := hcl 31 _ rfl hx ⟨30, .data⟩ (by simp) rfl; rw [n30] at this; cases this
        have n32 : done 32 = false := by cases hx : done 32 with | false => rfl | true => have := hcl 32 _ rfl hx ⟨31, .data⟩ (by simp) rfl; rw [n31] at this; cases this
        have n36 : done 36 = false := by cases hx : done 36 with | false => rfl | true => have := hcl 36 _ rfl hx ⟨32, .phase⟩ (by simp) rfl; rw [n32] at this; cases this
        have n37 : done 37 = false := by cases hx : done 37 with | false => rfl | true => have := hcl 37 _ rfl hx ⟨36, .data⟩ (by simp) rfl; rw [n36] at this; cases this
        have n38 : done 38 = false := by cases hx : done 38 with | false => rfl | true => have := hcl 38 _ rfl hx ⟨37, .data⟩ (by simp) rfl; rw [n37] at this; cases this
        have n39 : done 39 = false := by cases hx : done 39 with | false => rfl | true => have := hcl 39 _ rfl hx ⟨29, .phase⟩ (by simp) rfl; rw [hd] at this; cases this
        have n40 : done 40 = false := by cases hx : done 40 with | false => rfl | true => have := hcl 40 _ rfl hx ⟨39, .data⟩ (by simp) rfl; rw [n39] at this; cases this
        have n41 : done 41 = false := by cases hx : done 41 with | false => rfl | true => have := hcl 41 _ rfl hx ⟨40, .data⟩ (by simp) rfl; rw [n40] at this; cases this
        exact valT (W' := WW) (.int .i64 k) ho (by cases ho; rfl) (by cases ho; simp [execOp, go_sem, HA.tm, lookT]) (by cases ho; exact fun d hd => by cases hd; simp) (hww)
      · have p28 : done 28 = true := by cases ho; exact hdep ⟨28, .data⟩ (by simp) rfl
        have p29 : done 29 = true := by cases ho; exact hdep ⟨29, .data⟩ (by simp) rfl
        have n31 : done 31 = false := by cases hx : done 31 with | false => rfl | true => have := hcl 31 _ rfl hx ⟨30, .data⟩ (by simp) rfl; rw [hd] at this; cases this
        have n32 : done 32 = false := by cases hx : done 32 with | false => rfl | true => have := hcl 32 _ rfl hx ⟨31, .data⟩ (by simp) rfl; rw [n31] at this; cases this
        have n36 : done 36 = false := by cases hx : done 36 with | false => rfl | true => have := hcl 36 _ rfl hx ⟨32, .phase⟩ (by simp) rfl; rw [n32] at this; cases this
        have n37 : done 37 = false := by cases hx : done 37 with | false => rfl | true => have := hcl 37 _ rfl hx ⟨36, .data⟩ (by simp) rfl; rw [n36] at this; cases this
        have n38 : done 38 = false := by cases hx : done 38 with | false => rfl | true => have := hcl 38 _ rfl hx ⟨37, .data⟩ (by simp) rfl; rw [n37] at this; cases this
        have n39 : done 39 = false := by cases hx : done 39 with | false => rfl | true => have := hcl 39 _ rfl hx ⟨30, .phase⟩ (by simp) rfl; rw [hd] at this; cases this
        have n40 : done 40 = false := by cases hx : done 40 with | false => rfl | true => have := hcl 40 _ rfl hx ⟨39, .data⟩ (by simp) rfl; rw [n39] at this; cases this
        have n41 : done 41 = false := by cases hx : done 41 with | false => rfl | true => have := hcl 41 _ rfl hx ⟨40, .data⟩ (by simp) rfl; rw [n40] at this; cases this
        exact valT (W' := WW) (.pointer (some ⟨g, k * 2, none⟩)) ho (by cases ho; rfl) (by cases ho; simp [execOp, go_sem, HA.tm, lookT, p28, p29, (HIX.out WW).out]) (by cases ho; exact fun d hd => by cases hd; simp) (hww)
      · have p30 : done 30 = true := by cases ho; exact hdep ⟨30, .data⟩ (by simp) rfl
        have n32 : done 32 = false := by cases hx : done 32 with | false => rfl | true => have := hcl 32 _ rfl hx ⟨31, .data⟩ (by simp) rfl; rw [hd] at this; cases this
        have n36 : done 36 = false := by cases hx : done 36 with | false => rfl | true => have := hcl 36 _ rfl hx ⟨32, .phase⟩ (by simp) rfl; rw [n32] at this; cases this
        have n37 : done 37 = false := by cases hx : done 37 with | false => rfl | true => have := hcl 37 _ rfl hx ⟨36, .data⟩ (by simp) rfl; rw [n36] at this; cases this
        have n38 : done 38 = false := by cases hx : done 38 with | false => rfl | true => have := hcl 38 _ rfl hx ⟨37, .data⟩ (by simp) rfl; rw [n37] at this; cases this
        have n39 : done 39 = false := by cases hx : done 39 with | false => rfl | true => have := hcl 39 _ rfl hx ⟨31, .phase⟩ (by simp) rfl; rw [hd] at this; cases this
        have n40 : done 40 = false := by cases hx : done 40 with | false => rfl | true => have := hcl 40 _ rfl hx ⟨39, .data⟩ (by simp) rfl; rw [n39] at this; cases this
        have n41 : done 41 = false := by cases hx : done 41 with | false => rfl | true => have := hcl 41 _ rfl hx ⟨40, .data⟩ (by simp) rfl; rw [n40] at this; cases this
        exact valT (W' := WW) (.pointer (some ⟨g, k * 2 + 1, none⟩)) ho (by cases ho; rfl) (by cases ho; simp [execOp, go_sem, HA.tm, lookT, p30]) (by cases ho; exact fun d hd => by cases hd; simp) (hww)
      · have p31 : done 31 = true := by cases ho; exact hdep ⟨31, .data⟩ (by simp) rfl
        have n36 : done 36 = false := by cases hx : done 36 with | false => rfl | true => have := hcl 36 _ rfl hx ⟨32, .phase⟩ (by simp) rfl; rw [hd] at this; cases this
        have n37 : done 37 = false := by cases hx : done 37 with | false => rfl | true => have := hcl 37 _ rfl hx ⟨36, .data⟩ (by simp) rfl; rw [n36] at this; cases this
        have n38 : done 38 = false := by cases hx : done 38 with | false => rfl | true => have := hcl 38 _ rfl hx ⟨37, .data⟩ (by simp) rfl; rw [n37] at this; cases this
        have n39 : done 39 = false := by cases hx : done 39 with | false => rfl | true => have := hcl 39 _ rfl hx ⟨32, .phase⟩ (by simp) rfl; rw [hd] at this; cases this
        have n40 : done 40 = false := by cases hx : done 40 with | false => rfl | true => have := hcl 40 _ rfl hx ⟨39, .data⟩ (by simp) rfl; rw [n39] at this; cases this
        have n41 : done 41 = false := by cases hx : done 41 with | false => rfl | true => have := hcl 41 _ rfl hx ⟨40, .data⟩ (by simp) rfl; rw [n40] at this; cases this
        have hcell0 : WW.cell? ⟨g, k * 2 + 1, none⟩ = some ((.string ⟨x1.toArray⟩)) := by
          rw [hww]
          simp only [n41, Bool.false_eq_true, if_false]
          simp only [n38, Bool.false_eq_true, if_false]
          assumption
        exact valT (W' := WW) (.string ⟨x1.toArray⟩) ho (by cases ho; rfl) (by cases ho; simp [execOp, go_sem, HA.tm, lookT, p31, hcell0]) (by cases ho; exact fun d hd => by cases hd; simp) (hww)
      · have p32 : done 32 = true := by cases ho; exact hdep ⟨32, .data⟩ (by simp) rfl
        have n39 : done 39 = false := by cases hx : done 39 with | false => rfl | true => have := hcl 39 _ rfl hx ⟨33, .phase⟩ (by simp) rfl; rw [hd] at this; cases this
        have n40 : done 40 = false := by cases hx : done 40 with | false => rfl | true => have := hcl 40 _ rfl hx ⟨39, .data⟩ (by simp) rfl; rw [n39] at this; cases this
        have n41 : done 41 = false := by cases hx : done 41 with | false => rfl | true => have := hcl 41 _ rfl hx ⟨40, .data⟩ (by simp) rfl; rw [n40] at this; cases this
        exact valT (W' := WW) (.int .i64 x1.length) ho (by cases ho; rfl) (by cases ho; simp [execOp, go_sem, HA.tm, lookT, p32, size_mk]) (by cases ho; exact fun d hd => by cases hd; simp) (hww)
      · have p33 : done 33 = true := by cases ho; exact hdep ⟨33, .data⟩ (by simp) rfl
        have n39 : done 39 = false := by cases hx : done 39 with | false => rfl | true => have := hcl 39 _ rfl hx ⟨34, .phase⟩ (by simp) rfl; rw [hd] at this; cases this
        have n40 : done 40 = false := by cases hx : done 40 with | false => rfl | true => have := hcl 40 _ rfl hx ⟨39, .data⟩ (by simp) rfl; rw [n39] at this; cases this
        have n41 : done 41 = false := by cases hx : done 41 with | false => rfl | true => have := hcl 41 _ rfl hx ⟨40, .data⟩ (by simp) rfl; rw [n40] at this; cases this
        exact valT (W' := WW) (.int .i64 n1) ho (by cases ho; rfl) (by cases ho; simp [execOp, go_sem, HA.tm, lookT, p33, HN1.out]) (by cases ho; exact fun d hd => by cases hd; simp) (hww)
      · have p26 : done 26 = true := by cases ho; exact hdep ⟨26, .data⟩ (by simp) rfl
        have p34 : done 34 = true := by cases ho; exact hdep ⟨34, .data⟩ (by simp) rfl
        have n39 : done 39 = false := by cases hx : done 39 with | false => rfl | true => have := hcl 39 _ rfl hx ⟨35, .phase⟩ (by simp) rfl; rw [hd] at this; cases this
        have n40 : done 40 = false := by cases hx : done 40 with | false => rfl | true => have := hcl 40 _ rfl hx ⟨39, .data⟩ (by simp) rfl; rw [n39] at this; cases this
        have n41 : done 41 = false := by cases hx : done 41 with | false => rfl | true => have := hcl 41 _ rfl hx ⟨40, .data⟩ (by simp) rfl; rw [n40] at this; cases this
        exact valT (W' := WW) (.string ⟨(x1.take 40).toArray⟩) ho (by cases ho; rfl) (by cases ho; simp [execOp, go_sem, HA.tm, lookT, p26, p34, (HS1.out WW).out]) (by cases ho; exact fun d hd => by cases hd; simp) (hww)
      · have p1 : done 1 = true := by cases ho; exact hdep ⟨1, .data⟩ (by simp) rfl
        have p2 : done 2 = true := by cases ho; exact hdep ⟨2, .data⟩ (by simp) rfl
        have n37 : done 37 = false := by cases hx : done 37 with | false => rfl | true => have := hcl 37 _ rfl hx ⟨36, .data⟩ (by simp) rfl; rw [hd] at this; cases this
        have n38 : done 38 = false := by cases hx : done 38 with | false => rfl | true => have := hcl 38 _ rfl hx ⟨37, .data⟩ (by simp) rfl; rw [n37] at this; cases this
        have n39 : done 39 = false := by cases hx : done 39 with | false => rfl | true => have := hcl 39 _ rfl hx ⟨36, .phase⟩ (by simp) rfl; rw [hd] at this; cases this
        have n40 : done 40 = false := by cases hx : done 40 with | false => rfl | true => have := hcl 40 _ rfl hx ⟨39, .data⟩ (by simp) rfl; rw [n39] at this; cases this
        have n41 : done 41 = false := by cases hx : done 41 with | false => rfl | true => have := hcl 41 _ rfl hx ⟨40, .data⟩ (by simp) rfl; rw [n40] at this; cases this
        exact valT (W' := WW) (.pointer (some ⟨g, k * 2, none⟩)) ho (by cases ho; rfl) (by cases ho; simp [execOp, go_sem, HA.tm, lookT, p1, p2, (HIX.out WW).out]) (by cases ho; exact fun d hd => by cases hd; simp) (hww)
      · have p36 : done 36 = true := by cases ho; exact hdep ⟨36, .data⟩ (by simp) rfl
        have n38 : done 38 = false := by cases hx : done 38 with | false => rfl | true => have := hcl 38 _ rfl hx ⟨37, .data⟩ (by simp) rfl; rw [hd] at this; cases this
        have n39 : done 39 = false := by cases hx : done 39 with | false => rfl | true => have := hcl 39 _ rfl hx ⟨37, .phase⟩ (by simp) rfl; rw [hd] at this; cases this
        have n40 : done 40 = false := by cases hx : done 40 with | false => rfl | true => have := hcl 40 _ rfl hx ⟨39, .data⟩ (by simp) rfl; rw [n39] at this; cases this
        have n41 : done 41 = false := by cases hx : done 41 with | false => rfl | true => have := hcl 41 _ rfl hx ⟨40, .data⟩ (by simp) rfl; rw [n40] at this; cases this
        exact valT (W' := WW) (.pointer (some ⟨g, k * 2, none⟩)) ho (by cases ho; rfl) (by cases ho; simp [execOp, go_sem, HA.tm, lookT, p36]) (by cases ho; exact fun d hd => by cases hd; simp) (hww)
      · have p37 : done 37 = true := by cases ho; exact hdep ⟨37, .data⟩ (by simp) rfl
        have p20 : done 20 = true := by cases ho; exact hdep ⟨20, .data⟩ (by simp) rfl
        have n39 : done 39 = false := by cases hx : done 39 with | false => rfl | true => have := hcl 39 _ rfl hx ⟨38, .phase⟩ (by simp) rfl; rw [hd] at this; cases this
        have n40 : done 40 = false := by cases hx : done 40 with | false => rfl | true => have := hcl 40 _ rfl hx ⟨39, .data⟩ (by simp) rfl; rw [n39] at this; cases this
        have n41 : done 41 = false := by cases hx : done 41 with | false => rfl | true => have := hcl 41 _ rfl hx ⟨40, .data⟩ (by simp) rfl; rw [n40] at this; cases this
        have hw : WW = wr.drew := by rw [hww]; simp [n41, hd]
        rw [hw]
        exact skipT (W' := (wr.setCell ⟨g, k * 2, none⟩ (.string ⟨(x0.take 40).toArray⟩)).drew) ho (by cases ho; rfl) (by cases ho; rfl) (by cases ho; simp [execOp, go_sem, HA.tm, lookT, p20, p37, f0, hgl, t0]) (by simp [n41])
      · have p4 : done 4 = true := by cases ho; exact hdep ⟨4, .data⟩ (by simp) rfl
        have p5 : done 5 = true := by cases ho; exact hdep ⟨5, .data⟩ (by simp) rfl
        have p38 : done 38 = true := by cases ho; exact hdep ⟨38, .phase⟩ (by simp) rfl
        have n40 : done 40 = false := by cases hx : done 40 with | false => rfl | true => have := hcl 40 _ rfl hx ⟨39, .data⟩ (by simp) rfl; rw [hd] at this; cases this
        have n41 : done 41 = false := by cases hx : done 41 with | false => rfl | true => have := hcl 41 _ rfl hx ⟨40, .data⟩ (by simp) rfl; rw [n40] at this; cases this
        exact valT (W' := WW) (.pointer (some ⟨g, k * 2, none⟩)) ho (by cases ho; rfl) (by cases ho; simp [execOp, go_sem, HA.tm, lookT, p4, p5, p38, (HIX.out WW).out]) (by cases ho; exact fun d hd => by cases hd; simp) (hww)
      · have p39 : done 39 = true := by cases ho; exact hdep ⟨39, .data⟩ (by simp) rfl
        have p38 : done 38 = true := by cases ho; exact hdep ⟨38, .phase⟩ (by simp) rfl
        have n41 : done 41 = false := by cases hx : done 41 with | false => rfl | true => have := hcl 41 _ rfl hx ⟨40, .data⟩ (by simp) rfl; rw [hd] at this; cases this
        exact valT (W' := WW) (.pointer (some ⟨g, k * 2 + 1, none⟩)) ho (by cases ho; rfl) (by cases ho; simp [execOp, go_sem, HA.tm, lookT, p38, p39]) (by cases ho; exact fun d hd => by cases hd; simp) (hww)
      · have p40 : done 40 = true := by cases ho; exact hdep ⟨40, .data⟩ (by simp) rfl
        have p35 : done 35 = true := by cases ho; exact hdep ⟨35, .data⟩ (by simp) rfl
        have p38 : done 38 = true := by cases ho; exact hdep ⟨38, .chain⟩ (by simp) rfl
        have hw : WW = (wr.setCell ⟨g, k * 2, none⟩ (.string ⟨(x0.take 40).toArray⟩)).drew := by rw [hww]; simp [p38, hd]
        rw [hw]
        exact skipT (W' := ((wr.setCell ⟨g, k * 2, none⟩ (.string ⟨(x0.take 40).toArray⟩)).setCell ⟨g, k * 2 + 1, none⟩ (.string ⟨(x1.take 40).toArray⟩)).drew) ho (by cases ho; rfl) (by cases ho; rfl) (by cases ho; simp [execOp, go_sem, HA.tm, lookT, p35, p38, p40, f1, hgl, t1]) (by simp)
    · intro done WW hall hww
      have z38 := hall 38 (by decide)
      have z41 := hall 41 (by decide)
      simp only [z38, z41, if_true] at hww
      subst hww
      clear hall z38 z41
      simp only [putAll, Act.put, List.setIfInBounds_toArray, List.set_cons_succ, List.set_cons_zero]
      clear d5 d0 d1 e5 e1 t0 t1 f0 f1 hgl
      go_wp2_with fail
      go_roundg (m - (k + 1))
      case measure => omega
      case rel =>
        refine ⟨k + 1, by omega, rfl, by go_num, ?_⟩
        exact HNX.out
  · obtain rfl : m = k := by omega
    have hab := HK0.out.ha
    have hrb := HK0.out.hr
    have c0 : wr.cell? ⟨ab, 0, none⟩ = some (.int .i64 a.st) := blk_cell hab 0
    have c1 : wr.cell? ⟨ab, 1, none⟩ = some (.slice aa vm ac) := blk_cell hab 1
    have c2 : wr.cell? ⟨ab, 2, none⟩ = some (.int .u32 a.fl) := blk_cell hab 2
    have c3 : wr.cell? ⟨ab, 3, none⟩ = some (.int .u64 a.cas) := blk_cell hab 3
    have c4 : wr.cell? ⟨ab, 4, none⟩ = some (.int .u64 a.num) := blk_cell hab 4
    have c5 : wr.cell? ⟨ab, 5, none⟩ = some (.slice na m nc) := blk_cell hab 5
    have c6 : wr.cell? ⟨ab, 6, none⟩ = some (.bool a.cl) := blk_cell hab 6
    have r0 : wr.cell? ⟨rb, 0, none⟩ = some (.int .i64 0) := blk_cell hrb 0
    have z0 : wr.frozen? ⟨rb, 0, none⟩ = false := blk_frozen hrb 0
    have r1 : wr.cell? ⟨rb, 1, none⟩ = some (.slice none 0 0) := blk_cell hrb 1
    have z1 : wr.frozen? ⟨rb, 1, none⟩ = false := blk_frozen hrb 1
    have r2 : wr.cell? ⟨rb, 2, none⟩ = some (.int .u32 0) := blk_cell hrb 2
    have z2 : wr.frozen? ⟨rb, 2, none⟩ = false := blk_frozen hrb 2
    have r3 : wr.cell? ⟨rb, 3, none⟩ = some (.int .u64 0) := blk_cell hrb 3
    have z3 : wr.frozen? ⟨rb, 3, none⟩ = false := blk_frozen hrb 3
    have r4 : wr.cell? ⟨rb, 4, none⟩ = some (.int .u64 0) := blk_cell hrb 4
    have z4 : wr.frozen? ⟨rb, 4, none⟩ = false := blk_frozen hrb 4
    have r5 : wr.cell? ⟨rb, 5, none⟩ = some (.slice none 0 0) := blk_cell hrb 5
    have z5 : wr.frozen? ⟨rb, 5, none⟩ = false := blk_frozen hrb 5
    have r6 : wr.cell? ⟨rb, 6, none⟩ = some (.bool false) := blk_cell hrb 6
    have z6 : wr.frozen? ⟨rb, 6, none⟩ = false := blk_frozen hrb 6
    have hrl := blk_lt hrb
    clear hab hrb
    go_wp2_with fail
    obtain ⟨hrf, hff⟩ := setF7 HK0.out.hr (.int .i64 a.st) (.slice aa vm ac) (.int .u32 a.fl) (.int .u64 a.cas) (.int .u64 a.num) (.slice na m nc) (.bool a.cl)
    refine bodyPost_world (fun W9 => W9.heap[rb]? = some (.cells #[.int .i64 a.st, .slice aa vm ac, .int .u32 a.fl, .int .u64 a.cas, .int .u64 a.num, .slice na m nc, .bool a.cl] 38 (0, 0)) ∧ Frm (fun b => b = rb) wr W9) ⟨hrf, hff⟩ ?_
    rintro W9 ⟨hrf, hff⟩
    have y0 := blk_cell hrf 0
    have y1 := blk_cell hrf 1
    have y2 := blk_cell hrf 2
    have y3 := blk_cell hrf 3
    have y4 := blk_cell hrf 4
    have y5 := blk_cell hrf 5
    have y6 := blk_cell hrf 6
    refine bodyPost_ret (v := .agg #[.int .i64 a.st, .slice aa vm ac, .int .u32 a.fl, .int .u64 a.cas, .int .u64 a.num, .slice na m nc, .bool a.cl]) (by simp [results, Try.f22, go_sem, y0, y1, y2, y3, y4, y5, y6]) rfl ⟨na, nc, by rw [HRV.out], ?_, ?_⟩
    · exact few_end HK0.out HNA.out HNZ.out HNC.out (by rw [List.length_take]; have := HMS.out; omega) hff
    · exact (((frm_below HK0.out.bel) : Frm (fun b => b = rb) w wr).trans hff).below (fun b hb e => by have := HR.out; omega) (Nat.le_refl _)
end Go.Proofs.Ytngpffmgkponfaa
end

section
set_option linter.unusedVariables false
set_option linter.unusedSimpArgs false
namespace Go.Idl
open Go.Proofs.Ytngpffmgkponfaa
def shortS (s : Sd) : Sd := ⟨cutQ s.q, fewA s.a, s.later, s.crash, s.fit⟩
end Go.Idl
namespace Go.Proofs.Ytngpffmgkponfaa
open Go.RowKit Go.Ice Go.Idl
def rawS (r : Raw) (sa : Option Addr) (sc : Nat) : Raw := { r with sa := sa, sc := sc }
theorem elemSaid : Elem Try.prog 22 40 22 216 (.agg #[.int .i64 0, .bool false, .bool false, .int .i64 0, .int .u32 0, .slice none 0 0, .slice none 0 0, .int .u32 0, .int .u32 0, .int .u64 0, .int .u64 0, .int .u64 0, .int .i64 0, .slice none 0 0, .int .u32 0, .int .u64 0, .int .u64 0, .slice none 0 0, .bool false, .int .u32 0, .bool false, .int .i64 0]) :=
  ⟨Try.underlying22, by
    obtain ⟨i0, hi, hz0, hz1, hz2⟩ := info_parts (show (Try.prog.info? 40).map (fun i => (i.zero, i.size, i.bytes)) = some (some (.agg #[.int .i64 0, .bool false, .bool false, .int .i64 0, .int .u32 0, .slice none 0 0, .slice none 0 0, .int .u32 0, .int .u32 0, .int .u64 0, .int .u64 0, .int .u64 0, .int .i64 0, .slice none 0 0, .int .u32 0, .int .u64 0, .int .u64 0, .slice none 0 0, .bool false, .int .u32 0, .bool false, .int .i64 0]), 22, 216) by kernel_rfl)
    exact ⟨i0, hi, hz0, hz1, hz2⟩, rfl, by decide⟩
theorem sdC_one (s : Sd) (r : Raw) : ∀ u ∈ sdC s r, u.oneCell' = true := by
  intro u hu
  unfold sdC at hu
  simp only [List.mem_cons, List.mem_nil_iff, or_false] at hu
  rcases hu with rfl | rfl | rfl | rfl | rfl | rfl | rfl | rfl | rfl | rfl | rfl | rfl | rfl | rfl | rfl | rfl | rfl | rfl | rfl | rfl | rfl | rfl <;> rfl
theorem flat_at {α : Type} {f : Nat → List α} {c : Nat} (hf : ∀ i, (f i).length = c) : ∀ (n i j : Nat), i < n → j < c → ((List.range n).flatMap f)[i * c + j]? = (f i)[j]? := by
  intro n
  induction n with
  | zero => intro i j h; omega
  | succ n ih =>
    intro i j hi hj
    have hl : ((List.range n).flatMap f).length = n * c := by
      clear ih hi
      induction n with
      | zero => simp
      | succ n ih => rw [List.range_succ, List.flatMap_append, List.length_append, ih]; simp [hf, Nat.succ_mul]
    rw [List.range_succ, List.flatMap_append]
    by_cases h : i < n
    · have : i * c + j < n * c := by
        have := Nat.mul_le_mul_right c (show i + 1 ≤ n from h)
        rw [Nat.succ_mul] at this
        omega
      rw [List.getElem?_append_left (by rw [hl]; exact this)]
      exact ih i j h hj
    · obtain rfl : i = n := by omega
      rw [List.getElem?_append_right (by rw [hl]; omega), hl]
      simp
structure ShI (w : World) (S : Nat → Sd) (R : Nat → Raw) (k : Nat) (out : Value) (wr : World) (R' : Nat → Raw) : Prop where
  bel : Below w.heap.size w wr
  own : wr.ownsRow w.heap.size 40 22 out k ((List.range k).flatMap fun i => sdC (shortS (S i)) (R' i))
  raw : ∀ i, i < k → R' i = rawS (R i) (R' i).sa (R' i).sc
  st : ∀ i, i < k → StatsAt wr (fun b => w.heap.size ≤ b ∧ out.ownBlock ≠ some b) (.slice (R' i).sa (fewA (S i).a).stats.length (R' i).sc) (fewA (S i).a).stats
theorem StatsAt.lt {w : World} {C : Nat → Prop} {v : Value} {l : List (List UInt8 × List UInt8)} (h : StatsAt w C v l) (hl : l ≠ []) {b : Nat} (hb : v.ownBlock = some b) : b < w.heap.size := by
  rcases h.1 with ⟨h1, _⟩ | ⟨h0, b', off, cap, hv, h1, h2, h3, h4⟩
  · exact absurd (List.length_eq_zero_iff.1 h1) hl
  · rw [hv] at hb; cases hb; exact h3
theorem StatsAt.monoC {w : World} {C D : Nat → Prop} {v : Value} {l : List (List UInt8 × List UInt8)} (h : StatsAt w C v l) (hD : ∀ b, b < w.heap.size → C b → D b) : StatsAt w D v l :=
  ⟨h.1, fun hl b hb => hD b (h.lt hl hb) (h.2 hl b hb)⟩
theorem frm_grown {w w' : World} {row : Option Nat} (h : w.grownBy w' row) : Frm (fun b => row = some b) w w' :=
  ⟨h.os, h.tape, h.output, h.size, fun k hk hn => h.block k hk (fun e => hn e.symm)⟩
set_option maxRecDepth 20000 in
theorem ShI.step {w wr W4 : World} {S : Nat → Sd} {R R' : Nat → Raw} {k g : Nat} {out : Value} {sa : Option Addr} {sc : Nat} (h : ShI w S R k out wr R') (hb : Below wr.heap.size wr W4) (hk : k ≤ 60)
    (hst : StatsAt W4 (fun b => wr.heap.size ≤ b) (.slice sa (fewA (S k).a).stats.length sc) (fewA (S k).a).stats) (hn : IsSlK W4 22 1 (.slice (some ⟨g, 0, none⟩) 1 1) (sdC (shortS (S k)) (rawS (R k) sa sc))) :
    ∃ v' w', (Builtin.append_ #[22, 22] 22 #[out, .slice (some ⟨g, 0, none⟩) 1 1]).run Try.prog W4 = .ok v' w' ∧ Hid (∃ R'', ShI w S R (k + 1) v' w' R'') := by
  have ho := own_belowK h.own hb (Nat.le_refl _)
  have hz := h.bel.size
  have hz4 := hb.size
  obtain ⟨v', w', hr, ho', hg, hloc⟩ := app_at (P := Try.prog) (t := 22) (ty := 22) elemSaid ho hn (sdC_one _ _) (by omega) (by unfold maxLen; omega) (by omega)
  refine ⟨v', w', hr, fun i => if i = k then rawS (R k) sa sc else R' i, (h.bel.trans (hb.mono hz)).grown hg (by omega) (fun b hb' => (ho.lt b hb').1), ?_, fun i hi => ?_, fun i hi => ?_⟩
  · have e : ((List.range (k + 1)).flatMap fun i => sdC (shortS (S i)) (if i = k then rawS (R k) sa sc else R' i)) = ((List.range k).flatMap fun i => sdC (shortS (S i)) (R' i)) ++ sdC (shortS (S k)) (rawS (R k) sa sc) := by
      rw [List.range_succ, List.flatMap_append]
      congr 1
      · simp only [List.flatMap_def]
        congr 1
        refine List.map_congr_left fun i hi => ?_
        rw [if_neg (by have := List.mem_range.1 hi; omega)]
      · simp
    rw [e]; exact ho'
  · by_cases e : i = k
    · subst e; simp only [if_true]; rfl
    · simp only [e, if_false]; exact h.raw i (by omega)
  · have hap : ∀ b, b < W4.heap.size → out.ownBlock ≠ some b → v'.ownBlock ≠ some b := fun b hb' hne e => by
      rcases hloc with e' | e'
      · exact hne (e'.symm.trans e)
      · rw [e'] at e; injection e with e; omega
    have hfg := frm_grown hg
    by_cases e : i = k
    · subst e
      simp only [if_true]
      have h1 : StatsAt W4 (fun b => w.heap.size ≤ b ∧ out.ownBlock ≠ some b) (.slice sa (fewA (S i).a).stats.length sc) (fewA (S i).a).stats := hst.monoC fun b _ hb' => ⟨by omega, fun e => by have := (h.own.lt b e).2; omega⟩
      refine ⟨(h1.frm hfg fun b hb' e => hb'.2 e).1, fun hl b hb' => ?_⟩
      have := h1.2 hl b hb'
      exact ⟨this.1, hap b (h1.lt hl hb') this.2⟩
    · simp only [e, if_false]
      have h0 := h.st i (by omega)
      have h1 : StatsAt W4 (fun b => w.heap.size ≤ b ∧ out.ownBlock ≠ some b) (.slice (R' i).sa (fewA (S i).a).stats.length (R' i).sc) (fewA (S i).a).stats := h0.frm (S := fun _ => False) (frm_below hb) (fun _ _ h => h)
      refine ⟨(h1.frm hfg fun b hb' e => hb'.2 e).1, fun hl b hb' => ?_⟩
      have := h1.2 hl b hb'
      exact ⟨this.1, hap b (h1.lt hl hb') this.2⟩
theorem ShI.below {w wr w1 : World} {S : Nat → Sd} {R R' : Nat → Raw} {k : Nat} {out : Value} (h : ShI w S R k out wr R') (hb : Below wr.heap.size wr w1) : ShI w S R k out w1 R' :=
  ⟨h.bel.trans (hb.mono h.bel.size), own_belowK h.own hb (Nat.le_refl _), h.raw, fun i hi => (h.st i hi).frm (S := fun _ => False) (frm_below hb) (fun _ _ h => h)⟩
def ShR (w : World) (S : Nat → Sd) (R : Nat → Raw) (m : Nat) (e : Ending) (w' : World) : Prop := ∃ v' R', e = .returned v' ∧ ShI w S R m v' w' R'
theorem ShI.start (w : World) (S : Nat → Sd) (R : Nat → Raw) : ShI w S R 0 (.slice none 0 0) w R := ⟨Below.refl _ w, World.ownsRow_nil _ _ _ _, fun i hi => by omega, fun i hi => by omega⟩
theorem ShI.row {w wr : World} {S : Nat → Sd} {R R' : Nat → Raw} {k : Nat} {out : Value} (h : ShI w S R k out wr R') : RowAt wr 22 out k (fun i j => (sdC (shortS (S i)) (R' i)).getD j undef) :=
  (own_isSlK h.own).rowAt fun i hi j hj => by
    rw [flat_at (c := 22) (fun i => rfl) k i j hi hj, List.getD_eq_getElem?_getD, List.getElem?_eq_getElem (show j < (sdC (shortS (S i)) (R' i)).length from hj)]
    rfl
/-- What a request's, an answer's cells are; the rest of what is said. -/
def qL (q : Rq) (ka va : Option Addr) (kc vc : Nat) : List Value := [.int .i64 q.op, .bool q.quiet, .bool q.full, .int .i64 q.bad, .int .u32 q.opq, .slice ka q.key.length kc, .slice va q.val.length vc, .int .u32 q.fl, .int .u32 q.ex, .int .u64 q.cas, .int .u64 q.delta, .int .u64 q.ini]
def aL (a : An) (aa : Option Addr) (ac : Nat) (sa : Option Addr) (sc : Nat) : List Value := [.int .i64 a.st, .slice aa a.val.length ac, .int .u32 a.fl, .int .u64 a.cas, .int .u64 a.num, .slice sa a.stats.length sc, .bool a.cl]
def eL (s : Sd) : List Value := [.int .u32 s.later, .bool s.crash, .int .i64 s.fit]
theorem sdC_split (s : Sd) (r : Raw) : sdC s r = qL s.q r.ka r.va r.kc r.vc ++ (aL s.a r.aa r.ac r.sa r.sc ++ eL s) := rfl
theorem rangeAt_append {w : World} {b o : Nat} {l m : List Value} : w.rangeAt b o (l ++ m) ↔ w.rangeAt b o l ∧ w.rangeAt b (o + l.length) m := by
  constructor
  · intro h
    refine ⟨fun j v hv => h j v (by rw [List.getElem?_append_left (List.getElem?_eq_some_iff.1 hv).1]; exact hv), fun j v hv => ?_⟩
    rw [Nat.add_assoc]
    exact h (l.length + j) v (by rw [List.getElem?_append_right (by omega), Nat.add_sub_cancel_left]; exact hv)
  · rintro ⟨h1, h2⟩ j v hv
    by_cases h : j < l.length
    · rw [List.getElem?_append_left h] at hv; exact h1 j v hv
    · rw [List.getElem?_append_right (by omega)] at hv
      have := h2 _ v hv
      rw [Nat.add_assoc, show l.length + (j - l.length) = j by omega] at this
      exact this
theorem rangeAt_frm {w w' : World} {S : Nat → Prop} {b o : Nat} {l : List Value} (h : w.rangeAt b o l) (hf : Frm S w w') (hb : b < w.heap.size) (hS : ¬ S b) : w'.rangeAt b o l := fun j v hv => (hf.cell (p := ⟨b, o + j, none⟩) hb hS).trans (h j v hv)
theorem there_frm {w w' : World} {S : Nat → Prop} {b o n : Nat} (h : w.there b o n) (hf : Frm S w w') (hb : b < w.heap.size) (hS : ¬ S b) : w'.there b o n := fun j hj => by
  have := hf.block b hb hS
  obtain ⟨h1, h2⟩ := h j hj
  refine ⟨by rw [hf.cell (p := ⟨b, o + j, none⟩) hb hS]; exact h1, ?_⟩
  rw [show w'.frozen? ⟨b, o + j, none⟩ = w.frozen? ⟨b, o + j, none⟩ from by simp [World.frozen?, this]]; exact h2
theorem frm_setCells (w : World) (b : Nat) : ∀ (vs : List Value) (o : Nat), Frm (fun k => k = b) w (w.setCells b o vs)
  | [], o => Frm.refl _ _
  | v :: vs, o => by
    have h := (Frm.refl (fun k => k = b) w).setCell (p := ⟨b, o, none⟩) (.inl rfl) v
    exact h.trans (frm_setCells (w.setCell ⟨b, o, none⟩ v) b vs (o + 1))
theorem agg35 (q : Rq) (ka va : Option Addr) (kc vc : Nat) : rqV q ka va kc vc = .agg (qL q ka va kc vc).toArray := rfl
theorem agg38 (a : An) (aa : Option Addr) (ac : Nat) (sa : Option Addr) (sc : Nat) : ansV a.st (.slice aa a.val.length ac) a.fl a.cas a.num (.slice sa a.stats.length sc) a.cl = .agg (aL a aa ac sa sc).toArray := rfl
theorem qL_one (q : Rq) (ka va : Option Addr) (kc vc : Nat) : ∀ u ∈ qL q ka va kc vc, u.oneCell' = true := fun u hu => by
  unfold qL at hu
  simp only [List.mem_cons, List.mem_nil_iff, or_false] at hu
  rcases hu with rfl | rfl | rfl | rfl | rfl | rfl | rfl | rfl | rfl | rfl | rfl | rfl <;> rfl
theorem aL_one (a : An) (aa : Option Addr) (ac : Nat) (sa : Option Addr) (sc : Nat) : ∀ u ∈ aL a aa ac sa sc, u.oneCell' = true := fun u hu => by
  unfold aL at hu
  simp only [List.mem_cons, List.mem_nil_iff, or_false] at hu
  rcases hu with rfl | rfl | rfl | rfl | rfl | rfl | rfl <;> rfl
theorem there_of_blk {w : World} {b n : Nat} {cs : Array Value} {e : TypeId} (h : w.heap[b]? = some (.cells cs e (0, 0))) (hn : n ≤ cs.size) : w.there b 0 n := fun j hj => by
  rw [Nat.zero_add]
  refine ⟨?_, blk_frozen h j⟩
  rw [blk_cell h, Array.getElem?_eq_getElem (by omega)]; rfl
/-- What stands behind some of the operations of a round's copies. -/
structure ShJ (wr W : World) (sb : Nat) (s : Sd) (r : Raw) (θ : Option Addr × Nat) (d5 d7 d9 : Bool) (WW : World) : Prop where
  frm : Frm (fun b => b = sb) W WW
  lt : sb < WW.heap.size
  q : WW.rangeAt sb 0 (if d7 then qL (cutQ s.q) r.ka r.va r.kc r.vc else qL s.q r.ka r.va r.kc r.vc)
  a : WW.rangeAt sb 12 (if d9 then aL (fewA s.a) r.aa r.ac θ.1 θ.2 else aL s.a r.aa r.ac r.sa r.sc)
  e : WW.rangeAt sb 19 (eL s)
  th : WW.there sb 0 22
  st : d5 = true → StatsAt WW (fun b => W.heap.size ≤ b) (.slice θ.1 (fewA s.a).stats.length θ.2) (fewA s.a).stats
  wl : sb < W.heap.size
theorem ShJ.step {wr W W1 W2 : World} {sb : Nat} {s : Sd} {r : Raw} {θ : Option Addr × Nat} {d5 d7 d9 : Bool} (h : ShJ wr W sb s r θ d5 d7 d9 W1) (hb : Below W1.heap.size W1 W2) : ShJ wr W sb s r θ d5 d7 d9 W2 :=
  ⟨h.frm.trans (frm_below hb), Nat.lt_of_lt_of_le h.lt hb.size, rangeAt_frm (S := fun _ => False) h.q (frm_below hb) h.lt (fun h => h), rangeAt_frm (S := fun _ => False) h.a (frm_below hb) h.lt (fun h => h), rangeAt_frm (S := fun _ => False) h.e (frm_below hb) h.lt (fun h => h), there_frm (S := fun _ => False) h.th (frm_below hb) h.lt (fun h => h), fun h5 => (h.st h5).frm (S := fun _ => False) (frm_below hb) (fun _ _ h => h), h.wl⟩
theorem ShJ.few {wr W W1 W2 : World} {sb : Nat} {s : Sd} {r : Raw} {θ : Option Addr × Nat} {d7 : Bool} (h : ShJ wr W sb s r θ false d7 false W1) (hb : Below W1.heap.size W1 W2) (sa : Option Addr) (sc : Nat) (hs : StatsAt W2 (fun b => W1.heap.size ≤ b) (.slice sa (fewA s.a).stats.length sc) (fewA s.a).stats) : ShJ wr W sb s r (sa, sc) true d7 false W2 :=
  have h' := h.step hb
  ⟨h'.frm, h'.lt, h'.q, h'.a, h'.e, h'.th, fun _ => hs.monoC fun b _ hb' => Nat.le_trans h.frm.size hb', h'.wl⟩
theorem rangeAt_mono {w : World} {b o : Nat} {l : List Value} {n : Nat} (h : w.there b 0 n) (ho : o + l.length ≤ n) : w.there b o l.length := fun j hj => by have := h (o + j) (by omega); rw [Nat.zero_add] at this; exact this
theorem ShJ.put7 {wr W W1 : World} {sb : Nat} {s : Sd} {r : Raw} {θ : Option Addr × Nat} {d5 : Bool} (h : ShJ wr W sb s r θ d5 false false W1) : ShJ wr W sb s r θ d5 true false (W1.setCells sb 0 (qL (cutQ s.q) r.ka r.va r.kc r.vc)) :=
  have hf := frm_setCells W1 sb (qL (cutQ s.q) r.ka r.va r.kc r.vc) 0
  ⟨h.frm.trans hf, Nat.lt_of_lt_of_le h.lt hf.size, World.rangeAt_setCells_same _ _ _ _ (rangeAt_mono h.th (by show 0 + 12 ≤ 22; omega)), World.rangeAt_setCells_apart h.a _ _ _ (by right; right; show 0 + 12 ≤ 12; omega), World.rangeAt_setCells_apart h.e _ _ _ (by right; right; show 0 + 12 ≤ 19; omega), World.there_setCells h.th _ _ _, fun h5 => (h.st h5).frm hf (fun b hb e => by have := h.wl; have e : b = sb := e; omega), h.wl⟩
theorem ShJ.put9 {wr W W1 : World} {sb : Nat} {s : Sd} {r : Raw} {θ : Option Addr × Nat} (h : ShJ wr W sb s r θ true true false W1) : ShJ wr W sb s r θ true true true (W1.setCells sb 12 (aL (fewA s.a) r.aa r.ac θ.1 θ.2)) :=
  have hf := frm_setCells W1 sb (aL (fewA s.a) r.aa r.ac θ.1 θ.2) 12
  ⟨h.frm.trans hf, Nat.lt_of_lt_of_le h.lt hf.size, World.rangeAt_setCells_apart h.q _ _ _ (by right; left; show 0 + 12 ≤ 12; omega), World.rangeAt_setCells_same _ _ _ _ (rangeAt_mono h.th (by show 12 + 7 ≤ 22; omega)), World.rangeAt_setCells_apart h.e _ _ _ (by right; right; show 12 + 7 ≤ 19; omega), World.there_setCells h.th _ _ _, fun h5 => (h.st h5).frm hf (fun b hb e => by have := h.wl; have e : b = sb := e; omega), h.wl⟩
theorem ShJ.all {wr W W1 : World} {sb : Nat} {s : Sd} {r : Raw} {θ : Option Addr × Nat} (h : ShJ wr W sb s r θ true true true W1) : W1.rangeAt sb 0 (sdC (shortS s) (rawS r θ.1 θ.2)) := by
  rw [sdC_split]
  exact rangeAt_append.2 ⟨h.q, rangeAt_append.2 ⟨h.a, h.e⟩⟩
set_option maxHeartbeats 8000000 in
set_option maxRecDepth 20000 in
theorem short8 (w : World) (n : Nat) (S : Nat → Sd) (R : Nat → Raw) (v : Value) (hrow : RowAt w 22 v n (fun i j => (sdC (S i) (R i)).getD j undef)) (hS : ∀ i, i < n → SdAt w (S i) (R i)) :
    Calls Try.prog 8 #[v] w (ShR w S R (min n 60)) := by
  obtain ⟨a, cap, rfl, hn⟩ := hrow.form
  unfold maxLen at hn
  have HROW := Lib.hid hrow
  have HS := Lib.hid hS
  clear hrow hS
  obtain ⟨mm, hmm⟩ : ∃ m, m = min n 60 := ⟨_, rfl⟩
  rw [← hmm]
  have HMM := Lib.hid hmm
  clear hmm
  go_enter Try.func8, Try.ntmps8
  go_wp2_with fail
  go_loopg [3, 8] n (fun gg b3 b8 wr => ∃ k : Nat, k ≤ n ∧ k ≤ 60 ∧ gg = n - k ∧ b8 = .int .i64 k ∧ Hid (∃ R', ShI w S R k b3 wr R'))
  case atStart => exact ⟨0, Nat.zero_le _, by omega, rfl, rfl, R, ShI.start w S R⟩
  case round =>
  obtain ⟨k, hk, hk60, hgg, rfl, HK⟩ := hrel
  subst hgg
  by_cases hlt : k < n
  · obtain ⟨b, off, cap', he, hcap, hcm, hbl, hcell⟩ := HROW.out.at (by omega)
    obtain ⟨R', hI⟩ := HK.out
    have HI := Lib.hid hI
    clear HK hI
    injection he with ea en ec
    subst ea ec
    clear en
    unfold maxLen at hcm
    have hcell' := hcell k hlt
    obtain ⟨s, hs⟩ : ∃ s, s = S k := ⟨_, rfl⟩
    obtain ⟨r, hr⟩ : ∃ r, r = R k := ⟨_, rfl⟩
    rw [← hs, ← hr] at hcell'
    have HSA := Lib.hid (show SdAt w s r by rw [hs, hr]; exact HS.out k hlt)
    have HSK := Lib.hid hs
    have HRK := Lib.hid hr
    clear hs hr hcell
    have HRG : Hid (wr.rangeAt b (off + k * 22) (sdC s r)) := fun j v hv => by
      have hj : j < 22 := (List.getElem?_eq_some_iff.1 hv).1
      have h1 := (HI.out.bel.cell (p := ⟨b, off + (k * 22 + j), none⟩) hbl).trans (hcell' j hj)
      rw [List.getD_eq_getElem?_getD, hv] at h1
      rw [Nat.add_assoc]; exact h1
    clear hcell' hbl
    obtain ⟨sb, hsb⟩ : ∃ b, b = wr.heap.size := ⟨_, rfl⟩
    have HTH : Hid ((wr.alloc (.cells #[.int .i64 0, .bool false, .bool false, .int .i64 0, .int .u32 0, .slice none 0 0, .slice none 0 0, .int .u32 0, .int .u32 0, .int .u64 0, .int .u64 0, .int .u64 0, .int .i64 0, .slice none 0 0, .int .u32 0, .int .u64 0, .int .u64 0, .slice none 0 0, .bool false, .int .u32 0, .bool false, .int .i64 0] 40)).there wr.heap.size 0 (sdC s r).toArray.size) := there_of_blk (heap_alloc_new wr _) (by show 22 ≤ 22; omega)
    obtain ⟨W, hW⟩ : ∃ W, W = (wr.alloc (.cells #[.int .i64 0, .bool false, .bool false, .int .i64 0, .int .u32 0, .slice none 0 0, .slice none 0 0, .int .u32 0, .int .u32 0, .int .u64 0, .int .u64 0, .int .u64 0, .int .i64 0, .slice none 0 0, .int .u32 0, .int .u64 0, .int .u64 0, .slice none 0 0, .bool false, .int .u32 0, .bool false, .int .i64 0] 40)).setCells wr.heap.size 0 (sdC s r).toArray.toList := ⟨_, rfl⟩
    have hfw := frm_setCells (wr.alloc (.cells #[.int .i64 0, .bool false, .bool false, .int .i64 0, .int .u32 0, .slice none 0 0, .slice none 0 0, .int .u32 0, .int .u32 0, .int .u64 0, .int .u64 0, .int .u64 0, .int .i64 0, .slice none 0 0, .int .u32 0, .int .u64 0, .int .u64 0, .slice none 0 0, .bool false, .int .u32 0, .bool false, .int .i64 0] 40)) wr.heap.size (sdC s r) 0
    have hbw : Below wr.heap.size wr W := by
      rw [hW]
      exact (((frm_below ((Below.refl wr.heap.size wr).alloc (Nat.le_refl _) _)) : Frm (fun k => k = wr.heap.size) wr _).trans hfw).below (fun b hb e => by omega) (Nat.le_refl _)
    have hrw : W.rangeAt sb 0 (sdC s r) := by rw [hW, hsb]; exact World.rangeAt_setCells_same _ _ _ _ HTH.out
    have htw : W.there sb 0 22 := by rw [hW, hsb]; exact World.there_setCells HTH.out _ _ _
    have hlw : sb < W.heap.size := by rw [hsb, hW]; exact Nat.lt_of_lt_of_le (by simp) hfw.size
    have HSB := Lib.hid hsb.symm
    have HW := Lib.hid hW.symm
    have HJ1 : Hid (ShJ wr W sb s r (none, 0) false false false W) := by
      rw [sdC_split] at hrw
      have h2 := rangeAt_append.1 hrw
      have h3 := rangeAt_append.1 h2.2
      exact ⟨Frm.refl _ _, hlw, h2.1, h3.1, h3.2, htw, fun h => (by cases h), hlw⟩
    have HBW := Lib.hid hbw
    clear hsb hW hfw hbw hrw htw hlw
    by_cases h60 : k = 60
    · have h60' : ((k : Int) == 60) = true := by simp; omega
      have HE : Hid (mm = k) := by have := HMM.out; show mm = k; omega
      clear h60
      go_upto_region 5 with (first | (refine wpList_load_mid rfl 40 (.tmp 11) rfl b (off + k * 22) (by rfl) (sdC s r) _ HRG.out Try.underlying40 rfl (by kernel_rfl) ?_) | (refine wpList_store_mid rfl 40 (.tmp 5) (.tmp 12) rfl wr.heap.size 0 (sdC s r).toArray (by rfl) (by rfl) HTH.out (by kernel_rfl) (all_oneCell_toArray (sdC_one s r)) ?_))
      rw [HW.out, HSB.out]
      go_wp2_with fail
      go_ret
      refine ⟨u3, R', rfl, ?_⟩
      rw [HE.out]
      exact HI.out.below HBW.out
    · have h60' : ((k : Int) == 60) = false := by simp; omega
      have HSX : Hid (k < 60) := by show k < 60; omega
      clear h60
      go_upto_region 5 with (first | (refine wpList_load_mid rfl 40 (.tmp 11) rfl b (off + k * 22) (by rfl) (sdC s r) _ HRG.out Try.underlying40 rfl (by kernel_rfl) ?_) | (refine wpList_store_mid rfl 40 (.tmp 5) (.tmp 12) rfl wr.heap.size 0 (sdC s r).toArray (by rfl) (by rfl) HTH.out (by kernel_rfl) (all_oneCell_toArray (sdC_one s r)) ?_))
      rw [HW.out, HSB.out]
      go_upto_region 6 with fail
      have HBX : Hid (∀ WW : World, Frm (fun b => b = sb) W WW → Below w.heap.size w WW) := fun WW hf => (((frm_below (HI.out.bel.trans (HBW.out.mono HI.out.bel.size))) : Frm (fun b => b = sb) w W).trans hf).below (fun b hb e => by have h1 := HSB.out; have h2 := HI.out.bel.size; omega) (Nat.le_refl _)
      refine wp_region_gh (Θ := Option Addr × Nat) (fun θ => [(0, 15, (.pointer (some ⟨sb, 0, none⟩))), (1, 16, (rqV s.q r.ka r.va r.kc r.vc)), (2, 17, (rqV (cutQ s.q) r.ka r.va r.kc r.vc)), (3, 18, (.pointer (some ⟨sb, 12, none⟩))), (4, 19, (ansV s.a.st (.slice r.aa s.a.val.length r.ac) s.a.fl s.a.cas s.a.num (.slice r.sa s.a.stats.length r.sc) s.a.cl)), (5, 20, (ansV s.a.st (.slice r.aa (fewA s.a).val.length r.ac) s.a.fl s.a.cas s.a.num (.slice θ.1 (fewA s.a).stats.length θ.2) s.a.cl)), (6, 21, (.pointer (some ⟨sb, 0, none⟩))), (8, 22, (.pointer (some ⟨sb, 12, none⟩)))]) (fun θ done WW => Hid (ShJ wr W sb s r θ (done 5) (done 7) (done 9) WW)) (by kernel_rfl) (hord_of2 (by kernel_rfl)) (fun _ => by kernel_rfl) (fun _ => by kernel_rfl) (fun _ => by kernel_rfl) (⟨(none, 0), HJ1.out.step (hbelow_drew W)⟩) ?_ ?_
      · intro θ done zb WW j oq ho hd hdep hcl HA HJ
        have hj : j < 10 := (Array.getElem?_eq_some_iff.1 ho).1
        obtain rfl | rfl | rfl | rfl | rfl | rfl | rfl | rfl | rfl | rfl : j = 0 ∨ j = 1 ∨ j = 2 ∨ j = 3 ∨ j = 4 ∨ j = 5 ∨ j = 6 ∨ j = 7 ∨ j = 8 ∨ j = 9 := by omega
        · exact valG (θ := θ) (.pointer (some ⟨sb, 0, none⟩)) ho (by cases ho; rfl) (by cases ho; simp [execOp, go_sem, HA.tm, lookT]) (by cases ho; exact fun d hd => by cases hd; simp) (HJ)
        · have p0 : done 0 = true := by cases ho; exact hdep ⟨0, .data⟩ (by simp) rfl
          have n6 : done 6 = false := by cases hx : done 6 with | false => rfl | true => have := hcl 6 _ rfl hx ⟨1, .phase⟩ (by simp) rfl; rw [hd] at this; cases this
          have n7 : done 7 = false := by cases hx : done 7 with | false => rfl | true => have := hcl 7 _ rfl hx ⟨6, .data⟩ (by simp) rfl; rw [n6] at this; cases this
          exact loadG (θ := θ) (v := (rqV s.q r.ka r.va r.kc r.vc)) 35 (.tmp 15) ho (by cases ho; rfl) (by cases ho; rfl) (by simp [HA.ev, lookT, p0]) (run_loadAt_mid WW sb 0 35 (qL s.q r.ka r.va r.kc r.vc) _ (by have := HJ.out.q; rw [n7] at this; exact this) Try.underlying35 rfl (by kernel_rfl)) (by cases ho; exact fun d hd => by cases hd; simp) (HJ)
        · have p1 : done 1 = true := by cases ho; exact hdep ⟨1, .data⟩ (by simp) rfl
          have n6 : done 6 = false := by cases hx : done 6 with | false => rfl | true => have := hcl 6 _ rfl hx ⟨2, .phase⟩ (by simp) rfl; rw [hd] at this; cases this
          have n7 : done 7 = false := by cases hx : done 7 with | false => rfl | true => have := hcl 7 _ rfl hx ⟨6, .data⟩ (by simp) rfl; rw [n6] at this; cases this
          exact callG (θ := θ) (f := 21) (args := #[(rqV s.q r.ka r.va r.kc r.vc)]) ho (by cases ho; rfl) (by cases ho; simp [execOp, go_sem, HA.tm, lookT, p1]) (cut21 WW s.q r.ka r.va r.kc r.vc (HSA.out.key.below (HBX.out WW HJ.out.frm) (Nat.le_refl _)) (HSA.out.val.below (HBX.out WW HJ.out.frm) (Nat.le_refl _))) (by
            rintro e w' ⟨rfl, hb⟩
            exact ⟨_, θ, rfl, by cases ho; exact fun d hd => by cases hd; simp, .inl rfl, HJ.out.step hb⟩)
        · exact valG (θ := θ) (.pointer (some ⟨sb, 12, none⟩)) ho (by cases ho; rfl) (by cases ho; simp [execOp, go_sem, HA.tm, lookT]) (by cases ho; exact fun d hd => by cases hd; simp) (HJ)
        · have p3 : done 3 = true := by cases ho; exact hdep ⟨3, .data⟩ (by simp) rfl
          have n8 : done 8 = false := by cases hx : done 8 with | false => rfl | true => have := hcl 8 _ rfl hx ⟨4, .phase⟩ (by simp) rfl; rw [hd] at this; cases this
          have n9 : done 9 = false := by cases hx : done 9 with | false => rfl | true => have := hcl 9 _ rfl hx ⟨8, .data⟩ (by simp) rfl; rw [n8] at this; cases this
          exact loadG (θ := θ) (v := (ansV s.a.st (.slice r.aa s.a.val.length r.ac) s.a.fl s.a.cas s.a.num (.slice r.sa s.a.stats.length r.sc) s.a.cl)) 38 (.tmp 18) ho (by cases ho; rfl) (by cases ho; rfl) (by simp [HA.ev, lookT, p3]) (run_loadAt_mid WW sb 12 38 (aL s.a r.aa r.ac r.sa r.sc) _ (by have := HJ.out.a; rw [n9] at this; exact this) Try.underlying38 rfl (by kernel_rfl)) (by cases ho; exact fun d hd => by cases hd; simp) (HJ)
        · have p4 : done 4 = true := by cases ho; exact hdep ⟨4, .data⟩ (by simp) rfl
          have n8 : done 8 = false := by cases hx : done 8 with | false => rfl | true => have := hcl 8 _ rfl hx ⟨5, .phase⟩ (by simp) rfl; rw [hd] at this; cases this
          have n9 : done 9 = false := by cases hx : done 9 with | false => rfl | true => have := hcl 9 _ rfl hx ⟨8, .data⟩ (by simp) rfl; rw [n8] at this; cases this
          exact callG (θ := θ) (f := 22) (args := #[(ansV s.a.st (.slice r.aa s.a.val.length r.ac) s.a.fl s.a.cas s.a.num (.slice r.sa s.a.stats.length r.sc) s.a.cl)]) ho (by cases ho; rfl) (by cases ho; simp [execOp, go_sem, HA.tm, lookT, p4]) (few22 WW s.a r.aa r.sa r.ac r.sc (HSA.out.aval.below (HBX.out WW HJ.out.frm) (Nat.le_refl _)) (HSA.out.stats.below (HBX.out WW HJ.out.frm) (Nat.le_refl _))) (by
            rintro e w' ⟨sa', sc', rfl, hst, hb⟩
            have h5 := HJ.out
            rw [hd, n9] at h5
            exact ⟨_, (sa', sc'), rfl, by cases ho; exact fun d hd => by cases hd; simp, .inr (by first | (repeat (first | exact .nil | refine .cons (.inl rfl) ?_ | refine .cons (.inr ⟨rfl, hd⟩) ?_))), by
              show Hid (ShJ wr W sb s r (sa', sc') true (done 7) (done 9) w')
              rw [n9]
              exact h5.few hb sa' sc' hst⟩)
        · exact valG (θ := θ) (.pointer (some ⟨sb, 0, none⟩)) ho (by cases ho; rfl) (by cases ho; simp [execOp, go_sem, HA.tm, lookT]) (by cases ho; exact fun d hd => by cases hd; simp) (HJ)
        · have p6 : done 6 = true := by cases ho; exact hdep ⟨6, .data⟩ (by simp) rfl
          have p2 : done 2 = true := by cases ho; exact hdep ⟨2, .data⟩ (by simp) rfl
          have n8 : done 8 = false := by cases hx : done 8 with | false => rfl | true => have := hcl 8 _ rfl hx ⟨7, .phase⟩ (by simp) rfl; rw [hd] at this; cases this
          have n9 : done 9 = false := by cases hx : done 9 with | false => rfl | true => have := hcl 9 _ rfl hx ⟨8, .data⟩ (by simp) rfl; rw [n8] at this; cases this
          exact storeG (θ := θ) 35 (.tmp 21) (.tmp 17) ho (by cases ho; rfl) (by cases ho; rfl) (by cases ho; rfl) (by first | (simp [HA.ev, lookT, p2, p6]; done) | (simp [HA.ev, lookT, p2, p6]; rfl)) (by first | (simp [HA.ev, lookT, p2, p6]; done) | (simp [HA.ev, lookT, p2, p6]; rfl)) (run_storeAt_mid WW sb 0 35 (qL (cutQ s.q) r.ka r.va r.kc r.vc).toArray (rangeAt_mono (o := 0) (l := qL (cutQ s.q) r.ka r.va r.kc r.vc) HJ.out.th (by show 0 + 12 ≤ 22; omega)) (by kernel_rfl) (all_oneCell_toArray (qL_one _ _ _ _ _))) (by show Hid (ShJ wr W sb s r θ (done 5) true (done 9) _); have h := HJ.out; rw [hd, n9] at h; rw [n9]; exact h.put7)
        · exact valG (θ := θ) (.pointer (some ⟨sb, 12, none⟩)) ho (by cases ho; rfl) (by cases ho; simp [execOp, go_sem, HA.tm, lookT]) (by cases ho; exact fun d hd => by cases hd; simp) (HJ)
        · have p8 : done 8 = true := by cases ho; exact hdep ⟨8, .data⟩ (by simp) rfl
          have p5 : done 5 = true := by cases ho; exact hdep ⟨5, .data⟩ (by simp) rfl
          have p7 : done 7 = true := hcl 8 _ rfl p8 ⟨7, .phase⟩ (by simp) rfl
          exact storeG (θ := θ) 38 (.tmp 22) (.tmp 20) ho (by cases ho; rfl) (by cases ho; rfl) (by cases ho; rfl) (by first | (simp [HA.ev, lookT, p5, p7, p8]; done) | (simp [HA.ev, lookT, p5, p7, p8]; rfl)) (by first | (simp [HA.ev, lookT, p5, p7, p8]; done) | (simp [HA.ev, lookT, p5, p7, p8]; rfl)) (run_storeAt_mid WW sb 12 38 (aL (fewA s.a) r.aa r.ac θ.1 θ.2).toArray (rangeAt_mono (o := 12) (l := aL (fewA s.a) r.aa r.ac θ.1 θ.2) HJ.out.th (by show 12 + 7 ≤ 22; omega)) (by kernel_rfl) (all_oneCell_toArray (aL_one _ _ _ _ _))) (by show Hid (ShJ wr W sb s r θ (done 5) (done 7) true _); have h := HJ.out; rw [hd, p5, p7] at h; rw [p5, p7]; exact h.put9)
      · intro θ done W9 hall HJ0
        have z0 := hall 0 (by decide)
        have z1 := hall 1 (by decide)
        have z2 := hall 2 (by decide)
        have z3 := hall 3 (by decide)
        have z4 := hall 4 (by decide)
        have z5 := hall 5 (by decide)
        have z6 := hall 6 (by decide)
        have z7 := hall 7 (by decide)
        have z8 := hall 8 (by decide)
        have z9 := hall 9 (by decide)
        simp only [z0, z1, z2, z3, z4, z5, z6, z7, z8, z9] at HJ0
        clear hall z0 z1 z2 z3 z4 z5 z6 z7 z8 z9
        simp only [putAll, Act.put, List.setIfInBounds_toArray, List.set_cons_succ, List.set_cons_zero]
        obtain ⟨xs, xc⟩ := θ
        have HJ : Hid (ShJ wr W sb s r (xs, xc) true true true W9) := HJ0
        clear HJ0
        have HR9 := Lib.hid HJ.out.all
        have hb9 : Below wr.heap.size wr W9 := (((frm_below HBW.out) : Frm (fun b => b = sb) wr W).trans HJ.out.frm).below (fun b hb e => by have := HSB.out; omega) (Nat.le_refl _)
        have hb10 : Below wr.heap.size wr (W9.alloc (.cells #[.int .i64 s.q.op, .bool s.q.quiet, .bool s.q.full, .int .i64 s.q.bad, .int .u32 s.q.opq, .slice r.ka (cutQ s.q).key.length r.kc, .slice r.va (cutQ s.q).val.length r.vc, .int .u32 s.q.fl, .int .u32 s.q.ex, .int .u64 s.q.cas, .int .u64 s.q.delta, .int .u64 s.q.ini, .int .i64 s.a.st, .slice r.aa (fewA s.a).val.length r.ac, .int .u32 s.a.fl, .int .u64 s.a.cas, .int .u64 s.a.num, .slice xs (fewA s.a).stats.length xc, .bool s.a.cl, .int .u32 s.later, .bool s.crash, .int .i64 s.fit] 40)) := hb9.trans (((Below.refl _ W9).alloc (Nat.le_refl _) _).mono hb9.size)
        have hst : StatsAt (W9.alloc (.cells #[.int .i64 s.q.op, .bool s.q.quiet, .bool s.q.full, .int .i64 s.q.bad, .int .u32 s.q.opq, .slice r.ka (cutQ s.q).key.length r.kc, .slice r.va (cutQ s.q).val.length r.vc, .int .u32 s.q.fl, .int .u32 s.q.ex, .int .u64 s.q.cas, .int .u64 s.q.delta, .int .u64 s.q.ini, .int .i64 s.a.st, .slice r.aa (fewA s.a).val.length r.ac, .int .u32 s.a.fl, .int .u64 s.a.cas, .int .u64 s.a.num, .slice xs (fewA s.a).stats.length xc, .bool s.a.cl, .int .u32 s.later, .bool s.crash, .int .i64 s.fit] 40)) (fun b => wr.heap.size ≤ b) (.slice xs (fewA (S k).a).stats.length xc) (fewA (S k).a).stats := by
          rw [← HSK.out]
          exact ((HJ.out.st rfl).frm (S := fun _ => False) (frm_below ((Below.refl _ W9).alloc (Nat.le_refl _) _)) (fun _ _ h => h)).monoC fun b _ hb => by have := HBW.out.size; omega
        have hn1 : IsSlK (W9.alloc (.cells #[.int .i64 s.q.op, .bool s.q.quiet, .bool s.q.full, .int .i64 s.q.bad, .int .u32 s.q.opq, .slice r.ka (cutQ s.q).key.length r.kc, .slice r.va (cutQ s.q).val.length r.vc, .int .u32 s.q.fl, .int .u32 s.q.ex, .int .u64 s.q.cas, .int .u64 s.q.delta, .int .u64 s.q.ini, .int .i64 s.a.st, .slice r.aa (fewA s.a).val.length r.ac, .int .u32 s.a.fl, .int .u64 s.a.cas, .int .u64 s.a.num, .slice xs (fewA s.a).stats.length xc, .bool s.a.cl, .int .u32 s.later, .bool s.crash, .int .i64 s.fit] 40)) 22 1 (.slice (some ⟨W9.heap.size, 0, none⟩) 1 1) (sdC (shortS (S k)) (rawS (R k) xs xc)) := by
          rw [← HSK.out, ← HRK.out]
          exact isSlK_new W9 (sdC (shortS s) (rawS r xs xc)) 40 1 22 1 (by omega) rfl (by omega) (by decide)
        obtain ⟨v', w', hr, HI'⟩ := HI.out.step hb10 (by omega) hst hn1
        have HR := Lib.hid hr
        clear hr hst hn1 hb10 hb9
        go_upto_region 8 with (first | (at_builtin; refine wpList_append_eq rfl _ _ _ rfl rfl rfl HR.out ?_) | (refine wpList_load_mid rfl 40 (.tmp 5) rfl sb 0 (by rfl) [.int .i64 s.q.op, .bool s.q.quiet, .bool s.q.full, .int .i64 s.q.bad, .int .u32 s.q.opq, .slice r.ka (cutQ s.q).key.length r.kc, .slice r.va (cutQ s.q).val.length r.vc, .int .u32 s.q.fl, .int .u32 s.q.ex, .int .u64 s.q.cas, .int .u64 s.q.delta, .int .u64 s.q.ini, .int .i64 s.a.st, .slice r.aa (fewA s.a).val.length r.ac, .int .u32 s.a.fl, .int .u64 s.a.cas, .int .u64 s.a.num, .slice xs (fewA s.a).stats.length xc, .bool s.a.cl, .int .u32 s.later, .bool s.crash, .int .i64 s.fit] _ HR9.out Try.underlying40 rfl (by kernel_rfl) ?_))
        go_wp2_with fail
        go_roundg (n - (k + 1))
        case measure => omega
        case rel => exact ⟨k + 1, by omega, by have := HSX.out; omega, rfl, by go_num, HI'.out⟩
  · obtain rfl : n = k := by omega
    obtain ⟨R', hI⟩ := HK.out
    have HI := Lib.hid hI
    have HE : Hid (mm = n) := by have := HMM.out; show mm = n; omega
    clear HK hI
    go_wp2_with fail
    go_ret
    refine ⟨u3, R', rfl, ?_⟩
    rw [HE.out]
    exact HI.out
end Go.Proofs.Ytngpffmgkponfaa
end
