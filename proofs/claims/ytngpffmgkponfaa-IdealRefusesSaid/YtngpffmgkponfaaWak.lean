/- The law's wakes: true. No condition. -/
import Derived.Test.YtngpffmgkponfaaMpo
import Derived.Lib.SmallJoins
set_option linter.unusedVariables false
set_option linter.unusedSimpArgs false
namespace Go.Idl
open Go.Proofs.Ytngpffmgkponfaa
def wqS : Rq := ⟨1, false, false, 0, 0, [97], [120], 0, 0, 0, 0, 0⟩
def wqG : Rq := ⟨0, false, false, 0, 0, [97], [], 0, 0, 0, 0, 0⟩
def waA (v : List UInt8) : An := ⟨0, v, 0, 4, 0, [], false⟩
def wY0 : St := ⟨fun _ => [], fun _ => [], 0⟩
def wY1 : St := (lookF wY0 wqS (waA []) 0).getD wY0
theorem w_s1 : (lookF wY0 wqS (waA []) 0).isSome = true := by decide
theorem w_s2 : (lookF wY1 wqS (waA []) 0).isSome = false := by decide
theorem w_s3 : (lookF wY1 wqG (waA [120]) 0).isSome = true := by decide
theorem w_s4 : (lookF wY1 wqG (waA [121]) 0).isSome = false := by decide
theorem w_n2 : (lookF wY1 wqS (waA []) 0).getD wY1 = wY1 := by
  have := w_s2
  cases h : lookF wY1 wqS (waA []) 0 with
  | none => rfl
  | some x => rw [h] at this; cases this
theorem w_tok : wY1.tok = 4 := by decide
theorem w_len : (wY1.now [97]).length ≤ 10000 := by decide
end Go.Idl
namespace Go.Proofs.Ytngpffmgkponfaa
open Go.RowKit Go.Ice Go.Idl
theorem MFrm.belowB {w w' : World} {B mb : Nat} {O : Nat → Prop} (h : MFrm B O mb w w') (hm : B ≤ mb) (hB : B ≤ w.heap.size) : Below B w w' :=
  Frm.below h (by
    rintro k hk (h | ⟨h, _⟩)
    · omega
    · omega) hB
theorem boxed5o (w : World) (o1 o2 o3 o4 o5 : Obj) :
    ∃ B0 B1 B2 B3 B4 W, Hid (w.heap.size = B0) ∧ Hid (w.heap.size + 1 = B1) ∧ Hid (w.heap.size + 2 = B2) ∧ Hid (w.heap.size + 3 = B3) ∧ Hid (w.heap.size + 4 = B4) ∧ Hid (((((w.alloc o1).alloc o2).alloc o3).alloc o4).alloc o5 = W) ∧
      Hid (Below w.heap.size w W ∧ W.heap[B0]? = some o1 ∧ W.heap[B1]? = some o2 ∧ W.heap[B2]? = some o3 ∧ W.heap[B3]? = some o4 ∧ W.heap[B4]? = some o5) ∧ Hid (W.heap.size = B0 + 5) := by
  refine ⟨w.heap.size, w.heap.size + 1, w.heap.size + 2, w.heap.size + 3, w.heap.size + 4, _, rfl, rfl, rfl, rfl, rfl, rfl, ?_, (show (((((w.alloc _).alloc _).alloc _).alloc _).alloc _).heap.size = _ from by simp)⟩
  have k := (((((Kp.nil w).alloc o1).alloc o2).alloc o3).alloc o4).alloc o5
  simp only [World.size_alloc] at k
  exact ⟨k.below, k.blks (w.heap.size, _) (by simp), k.blks (w.heap.size + 1, _) (by simp), k.blks (w.heap.size + 1 + 1, _) (by simp), k.blks (w.heap.size + 1 + 1 + 1, _) (by simp), k.blks (w.heap.size + 1 + 1 + 1 + 1, _) (by simp)⟩
theorem bytes_one {w : World} {O : Nat → Prop} {b : Nat} {c : UInt8} {fz : Nat × Nat} (h : w.heap[b]? = some (.cells #[u8v c] 5 fz)) (hO : ¬ O b) : BytesIn w (fun b => ¬ O b) (.slice (some ⟨b, 0, none⟩) 1 1) [c] :=
  ⟨isSl_mk (cs := [u8v c]) (Nat.le_refl _) (by decide) (blk_lt h) (fun j hj => by
    obtain rfl : j = 0 := by simp at hj; omega
    simp [World.cell?, h]), fun _ b' hb => by cases hb; exact hO⟩

theorem fblk {w w' : World} {B mb : Nat} {O : Nat → Prop} (h : MFrm B O mb w w') {b : Nat} {cs : Array Value} {e : TypeId} {fz : Nat × Nat} (hb : w.heap[b]? = some (.cells cs e fz)) (hm : b ≠ mb) : w'.heap[b]? = some (.cells cs e fz) :=
  (h.block b (blk_lt hb) (by
    rintro (h | ⟨_, _, es, c, h⟩)
    · exact hm h
    · rw [hb] at h; cases h)).trans hb
theorem boxedo (w : World) (o : Obj) : ∃ B W, Hid (w.heap.size = B) ∧ Hid (w.alloc o = W) ∧ Hid (W.heap[B]? = some o) ∧ Hid (Below w.heap.size w W) :=
  ⟨_, _, rfl, rfl, heap_alloc_new w o, (Below.refl _ w).alloc (Nat.le_refl _) o⟩
set_option maxHeartbeats 8000000 in
set_option maxRecDepth 20000 in
theorem wakes6 (w : World) : Calls Try.prog 6 #[] w fun e w' => e = .returned (.bool true) ∧ Below w.heap.size w w' := by
  have kc := fun (w : World) (C : Array Value) (n c g : Nat) (hg : g = w.heap.size) => Go.Joins.run_convert_bytes_const_at (P := Try.prog) w 23 5 C n c g hg Try.underlying23 Try.underlying5
  go_enter Try.func6, Try.ntmps6
  go_wp2_with fail
  refine (new_o w w.heap.size (fun _ => False) (Nat.le_refl _) (fun _ h => h.elim)).mono ?_
  rintro e w1 ⟨mb, rfl, hm, ho, hb1⟩
  have HB1 := Lib.hid hb1
  have HM := Lib.hid hm
  have HO := Lib.hid ho
  clear hb1 hm ho
  obtain ⟨B0, B1, B2, B3, B4, W, H0, H1, H2, H3, H4, HW, HK, HZ⟩ := boxed5o w1 (.cells #[.int .u8 97] 5 (1, 2)) (.cells #[.int .u8 120] 5 (1, 2)) (.cells #[.int .u8 97] 5 (1, 2))
    (.cells #[.int .i64 1, .bool false, .bool false, .int .i64 0, .int .u32 0, .slice (some ⟨w1.heap.size, 0, none⟩) 1 1, .slice (some ⟨w1.heap.size + 1, 0, none⟩) 1 1, .int .u32 0, .int .u32 0, .int .u64 0, .int .u64 0, .int .u64 0] 35)
    (.cells #[.int .i64 0, .bool false, .bool false, .int .i64 0, .int .u32 0, .slice (some ⟨w1.heap.size + 1 + 1, 0, none⟩) 1 1, .slice none 0 0, .int .u32 0, .int .u32 0, .int .u64 0, .int .u64 0, .int .u64 0] 35)
  go_upto_region 5 with fail
  rw [HW.out]
  have HBL : Hid (Below w1.heap.size w1 W) := HK.out.1
  have A4 : w1.heap.size + 1 + 1 + 1 + 1 = B4 := H4.out
  have A3 : w1.heap.size + 1 + 1 + 1 = B3 := H3.out
  have A2 : w1.heap.size + 1 + 1 = B2 := H2.out
  have A1 : w1.heap.size + 1 = B1 := H1.out
  have A0 : w1.heap.size = B0 := H0.out
  rw [A2, A1, A0] at HK
  rw [A4, A3]
  clear A4 A3 A2 A1
  have hml : mb < w1.heap.size := HO.out.hO mb (.inr rfl)
  have HMB : Hid (mb < B0 ∧ mb < B1 ∧ mb < B2 ∧ mb < B3 ∧ mb < B4) := by
    have := H0.out; have := H1.out; have := H2.out; have := H3.out; have := H4.out
    show _ ∧ _ ∧ _ ∧ _ ∧ _
    omega
  clear hml A0
  have NO : Hid (∀ b, mb < b → ¬ (False ∨ b = mb)) := fun b h => by
    rintro (h' | h')
    · exact h'
    · omega
  have HOW := Lib.hid (HO.out.below HBL.out)
  have HBW : Hid (Below w.heap.size w W) := HB1.out.trans (HBL.out.mono HB1.out.size)
  have K0 : Hid (W.heap[B0]? = some (.cells #[u8v 97] 5 (1, 2)) ∧ W.heap[B1]? = some (.cells #[u8v 120] 5 (1, 2)) ∧ W.heap[B2]? = some (.cells #[u8v 97] 5 (1, 2)) ∧ W.heap[B3]? = some (.cells #[.int .i64 1, .bool false, .bool false, .int .i64 0, .int .u32 0, .slice (some ⟨B0, 0, none⟩) 1 1, .slice (some ⟨B1, 0, none⟩) 1 1, .int .u32 0, .int .u32 0, .int .u64 0, .int .u64 0, .int .u64 0] 35 (0, 0)) ∧ W.heap[B4]? = some (.cells #[.int .i64 0, .bool false, .bool false, .int .i64 0, .int .u32 0, .slice (some ⟨B2, 0, none⟩) 1 1, .slice none 0 0, .int .u32 0, .int .u32 0, .int .u64 0, .int .u64 0, .int .u64 0] 35 (0, 0))) := HK.out.2
  have c0 : W.cell? ⟨B3, 0, none⟩ = some (.int .i64 1) := blk_cell K0.out.2.2.2.1 0
  have c1 : W.cell? ⟨B3, 1, none⟩ = some (.bool false) := blk_cell K0.out.2.2.2.1 1
  have c2 : W.cell? ⟨B3, 2, none⟩ = some (.bool false) := blk_cell K0.out.2.2.2.1 2
  have c3 : W.cell? ⟨B3, 3, none⟩ = some (.int .i64 0) := blk_cell K0.out.2.2.2.1 3
  have c4 : W.cell? ⟨B3, 4, none⟩ = some (.int .u32 0) := blk_cell K0.out.2.2.2.1 4
  have c5 : W.cell? ⟨B3, 5, none⟩ = some (.slice (some ⟨B0, 0, none⟩) 1 1) := blk_cell K0.out.2.2.2.1 5
  have c6 : W.cell? ⟨B3, 6, none⟩ = some (.slice (some ⟨B1, 0, none⟩) 1 1) := blk_cell K0.out.2.2.2.1 6
  have c7 : W.cell? ⟨B3, 7, none⟩ = some (.int .u32 0) := blk_cell K0.out.2.2.2.1 7
  have c8 : W.cell? ⟨B3, 8, none⟩ = some (.int .u32 0) := blk_cell K0.out.2.2.2.1 8
  have c9 : W.cell? ⟨B3, 9, none⟩ = some (.int .u64 0) := blk_cell K0.out.2.2.2.1 9
  have c10 : W.cell? ⟨B3, 10, none⟩ = some (.int .u64 0) := blk_cell K0.out.2.2.2.1 10
  have c11 : W.cell? ⟨B3, 11, none⟩ = some (.int .u64 0) := blk_cell K0.out.2.2.2.1 11
  have hst := step_o W w.heap.size _ mb wqS (waA []) 0 ⟨some ⟨B0, 0, none⟩, 1, some ⟨B1, 0, none⟩, 1, none, 0, none, 0, none, 0, 0⟩ wY0 HOW.out HBW.out.size (bytes_one K0.out.1 (NO.out _ HMB.out.1)) (bytes_one K0.out.2.1 (NO.out _ HMB.out.2.1)) (BytesIn.nil _ _) (StatsAt.nil _ _) (by unfold Rq.ok; decide) (by unfold An.ok; decide) (by decide) (by decide) (by decide) (by unfold Rq.here; decide)
  rw [w_s1] at hst
  unfold rqV ansV at hst
  have HST := Lib.hid hst
  clear hst
  go_wp2_with fail
  refine HST.out.mono ?_
  rintro e w2 ⟨rfl, ho, hf⟩
  have HO2 : Hid (MapO w2 w.heap.size (fun b => False ∨ b = mb) mb wY1) := ho
  have HB2 : Hid (Below w.heap.size w w2) := HBW.out.trans (hf.belowB HM.out HBW.out.size)
  have K1 : Hid (w2.heap[B0]? = some (.cells #[u8v 97] 5 (1, 2)) ∧ w2.heap[B1]? = some (.cells #[u8v 120] 5 (1, 2)) ∧ w2.heap[B2]? = some (.cells #[u8v 97] 5 (1, 2)) ∧ w2.heap[B3]? = some (.cells #[.int .i64 1, .bool false, .bool false, .int .i64 0, .int .u32 0, .slice (some ⟨B0, 0, none⟩) 1 1, .slice (some ⟨B1, 0, none⟩) 1 1, .int .u32 0, .int .u32 0, .int .u64 0, .int .u64 0, .int .u64 0] 35 (0, 0)) ∧ w2.heap[B4]? = some (.cells #[.int .i64 0, .bool false, .bool false, .int .i64 0, .int .u32 0, .slice (some ⟨B2, 0, none⟩) 1 1, .slice none 0 0, .int .u32 0, .int .u32 0, .int .u64 0, .int .u64 0, .int .u64 0] 35 (0, 0))) := ⟨fblk hf K0.out.1 (Nat.ne_of_gt HMB.out.1), fblk hf K0.out.2.1 (Nat.ne_of_gt HMB.out.2.1), fblk hf K0.out.2.2.1 (Nat.ne_of_gt HMB.out.2.2.1), fblk hf K0.out.2.2.2.1 (Nat.ne_of_gt HMB.out.2.2.2.1), fblk hf K0.out.2.2.2.2 (Nat.ne_of_gt HMB.out.2.2.2.2)⟩
  clear ho hf HST
  clear c0 c1 c2 c3 c4 c5 c6 c7 c8 c9 c10 c11
  have c0 : w2.cell? ⟨B3, 0, none⟩ = some (.int .i64 1) := blk_cell K1.out.2.2.2.1 0
  have c1 : w2.cell? ⟨B3, 1, none⟩ = some (.bool false) := blk_cell K1.out.2.2.2.1 1
  have c2 : w2.cell? ⟨B3, 2, none⟩ = some (.bool false) := blk_cell K1.out.2.2.2.1 2
  have c3 : w2.cell? ⟨B3, 3, none⟩ = some (.int .i64 0) := blk_cell K1.out.2.2.2.1 3
  have c4 : w2.cell? ⟨B3, 4, none⟩ = some (.int .u32 0) := blk_cell K1.out.2.2.2.1 4
  have c5 : w2.cell? ⟨B3, 5, none⟩ = some (.slice (some ⟨B0, 0, none⟩) 1 1) := blk_cell K1.out.2.2.2.1 5
  have c6 : w2.cell? ⟨B3, 6, none⟩ = some (.slice (some ⟨B1, 0, none⟩) 1 1) := blk_cell K1.out.2.2.2.1 6
  have c7 : w2.cell? ⟨B3, 7, none⟩ = some (.int .u32 0) := blk_cell K1.out.2.2.2.1 7
  have c8 : w2.cell? ⟨B3, 8, none⟩ = some (.int .u32 0) := blk_cell K1.out.2.2.2.1 8
  have c9 : w2.cell? ⟨B3, 9, none⟩ = some (.int .u64 0) := blk_cell K1.out.2.2.2.1 9
  have c10 : w2.cell? ⟨B3, 10, none⟩ = some (.int .u64 0) := blk_cell K1.out.2.2.2.1 10
  have c11 : w2.cell? ⟨B3, 11, none⟩ = some (.int .u64 0) := blk_cell K1.out.2.2.2.1 11
  have hst := step_o w2 w.heap.size _ mb wqS (waA []) 0 ⟨some ⟨B0, 0, none⟩, 1, some ⟨B1, 0, none⟩, 1, none, 0, none, 0, none, 0, 0⟩ wY1 HO2.out HB2.out.size (bytes_one K1.out.1 (NO.out _ HMB.out.1)) (bytes_one K1.out.2.1 (NO.out _ HMB.out.2.1)) (BytesIn.nil _ _) (StatsAt.nil _ _) (by unfold Rq.ok; decide) (by unfold An.ok; decide) (by decide) (by decide) (by decide) (by unfold Rq.here; decide)
  rw [w_s2] at hst
  unfold rqV ansV at hst
  have HST := Lib.hid hst
  clear hst
  go_wp2_with fail
  refine HST.out.mono ?_
  rintro e w3 ⟨rfl, ho, hf⟩
  have HO3 : Hid (MapO w3 w.heap.size (fun b => False ∨ b = mb) mb wY1) := by rw [w_n2] at ho; exact ho
  have HB3 : Hid (Below w.heap.size w w3) := HB2.out.trans (hf.belowB HM.out HB2.out.size)
  have K2 : Hid (w3.heap[B0]? = some (.cells #[u8v 97] 5 (1, 2)) ∧ w3.heap[B1]? = some (.cells #[u8v 120] 5 (1, 2)) ∧ w3.heap[B2]? = some (.cells #[u8v 97] 5 (1, 2)) ∧ w3.heap[B3]? = some (.cells #[.int .i64 1, .bool false, .bool false, .int .i64 0, .int .u32 0, .slice (some ⟨B0, 0, none⟩) 1 1, .slice (some ⟨B1, 0, none⟩) 1 1, .int .u32 0, .int .u32 0, .int .u64 0, .int .u64 0, .int .u64 0] 35 (0, 0)) ∧ w3.heap[B4]? = some (.cells #[.int .i64 0, .bool false, .bool false, .int .i64 0, .int .u32 0, .slice (some ⟨B2, 0, none⟩) 1 1, .slice none 0 0, .int .u32 0, .int .u32 0, .int .u64 0, .int .u64 0, .int .u64 0] 35 (0, 0))) := ⟨fblk hf K1.out.1 (Nat.ne_of_gt HMB.out.1), fblk hf K1.out.2.1 (Nat.ne_of_gt HMB.out.2.1), fblk hf K1.out.2.2.1 (Nat.ne_of_gt HMB.out.2.2.1), fblk hf K1.out.2.2.2.1 (Nat.ne_of_gt HMB.out.2.2.2.1), fblk hf K1.out.2.2.2.2 (Nat.ne_of_gt HMB.out.2.2.2.2)⟩
  clear ho hf HST
  clear c0 c1 c2 c3 c4 c5 c6 c7 c8 c9 c10 c11
  have c0 : w3.cell? ⟨B4, 0, none⟩ = some (.int .i64 0) := blk_cell K2.out.2.2.2.2 0
  have c1 : w3.cell? ⟨B4, 1, none⟩ = some (.bool false) := blk_cell K2.out.2.2.2.2 1
  have c2 : w3.cell? ⟨B4, 2, none⟩ = some (.bool false) := blk_cell K2.out.2.2.2.2 2
  have c3 : w3.cell? ⟨B4, 3, none⟩ = some (.int .i64 0) := blk_cell K2.out.2.2.2.2 3
  have c4 : w3.cell? ⟨B4, 4, none⟩ = some (.int .u32 0) := blk_cell K2.out.2.2.2.2 4
  have c5 : w3.cell? ⟨B4, 5, none⟩ = some (.slice (some ⟨B2, 0, none⟩) 1 1) := blk_cell K2.out.2.2.2.2 5
  have c6 : w3.cell? ⟨B4, 6, none⟩ = some (.slice none 0 0) := blk_cell K2.out.2.2.2.2 6
  have c7 : w3.cell? ⟨B4, 7, none⟩ = some (.int .u32 0) := blk_cell K2.out.2.2.2.2 7
  have c8 : w3.cell? ⟨B4, 8, none⟩ = some (.int .u32 0) := blk_cell K2.out.2.2.2.2 8
  have c9 : w3.cell? ⟨B4, 9, none⟩ = some (.int .u64 0) := blk_cell K2.out.2.2.2.2 9
  have c10 : w3.cell? ⟨B4, 10, none⟩ = some (.int .u64 0) := blk_cell K2.out.2.2.2.2 10
  have c11 : w3.cell? ⟨B4, 11, none⟩ = some (.int .u64 0) := blk_cell K2.out.2.2.2.2 11
  obtain ⟨D120, w3b, HD120, HV120, HE120, HBE120⟩ := boxedo w3 (.cells #[.int .u8 120] 5 (1, 2))
  have hlt120 : Hid (mb < D120) := by have := HD120.out; have := HO3.out.hO mb (.inr rfl); show _ < _; omega
  have HO3b := Lib.hid (HO3.out.below HBE120.out)
  have HB3b : Hid (Below w.heap.size w w3b) := HB3.out.trans (HBE120.out.mono HB3.out.size)
  have K2b : Hid (w3b.heap[B0]? = some (.cells #[u8v 97] 5 (1, 2)) ∧ w3b.heap[B1]? = some (.cells #[u8v 120] 5 (1, 2)) ∧ w3b.heap[B2]? = some (.cells #[u8v 97] 5 (1, 2)) ∧ w3b.heap[B3]? = some (.cells #[.int .i64 1, .bool false, .bool false, .int .i64 0, .int .u32 0, .slice (some ⟨B0, 0, none⟩) 1 1, .slice (some ⟨B1, 0, none⟩) 1 1, .int .u32 0, .int .u32 0, .int .u64 0, .int .u64 0, .int .u64 0] 35 (0, 0)) ∧ w3b.heap[B4]? = some (.cells #[.int .i64 0, .bool false, .bool false, .int .i64 0, .int .u32 0, .slice (some ⟨B2, 0, none⟩) 1 1, .slice none 0 0, .int .u32 0, .int .u32 0, .int .u64 0, .int .u64 0, .int .u64 0] 35 (0, 0))) := ⟨(HBE120.out.block _ (blk_lt K2.out.1)).trans K2.out.1, (HBE120.out.block _ (blk_lt K2.out.2.1)).trans K2.out.2.1, (HBE120.out.block _ (blk_lt K2.out.2.2.1)).trans K2.out.2.2.1, (HBE120.out.block _ (blk_lt K2.out.2.2.2.1)).trans K2.out.2.2.2.1, (HBE120.out.block _ (blk_lt K2.out.2.2.2.2)).trans K2.out.2.2.2.2⟩
  have hst := allows_o w3b w.heap.size _ mb wqG (waA [120]) 0 ⟨some ⟨B2, 0, none⟩, 1, none, 0, some ⟨D120, 0, none⟩, 1, none, 0, none, 0, 0⟩ wY1 HO3b.out HB3b.out.size (bytes_one K2b.out.2.2.1 (NO.out _ HMB.out.2.2.1)) (BytesIn.nil _ _) (bytes_one HE120.out (NO.out _ hlt120.out)) (StatsAt.nil _ _) (by unfold Rq.ok; decide) (by unfold An.ok; decide) (by decide) (by decide) (by decide) (by unfold Rq.here; decide)
  rw [w_s3] at hst
  unfold rqV ansV at hst
  have HST := Lib.hid hst
  clear hst
  go_wp2_with fail
  rw [HD120.out, HV120.out]
  refine HST.out.mono ?_
  rintro e w4 ⟨rfl, ho, hf⟩
  have HO4 := Lib.hid ho
  have HB4 : Hid (Below w.heap.size w w4) := HB3b.out.trans (hf.belowB HM.out HB3b.out.size)
  have K3 : Hid (w4.heap[B0]? = some (.cells #[u8v 97] 5 (1, 2)) ∧ w4.heap[B1]? = some (.cells #[u8v 120] 5 (1, 2)) ∧ w4.heap[B2]? = some (.cells #[u8v 97] 5 (1, 2)) ∧ w4.heap[B3]? = some (.cells #[.int .i64 1, .bool false, .bool false, .int .i64 0, .int .u32 0, .slice (some ⟨B0, 0, none⟩) 1 1, .slice (some ⟨B1, 0, none⟩) 1 1, .int .u32 0, .int .u32 0, .int .u64 0, .int .u64 0, .int .u64 0] 35 (0, 0)) ∧ w4.heap[B4]? = some (.cells #[.int .i64 0, .bool false, .bool false, .int .i64 0, .int .u32 0, .slice (some ⟨B2, 0, none⟩) 1 1, .slice none 0 0, .int .u32 0, .int .u32 0, .int .u64 0, .int .u64 0, .int .u64 0] 35 (0, 0))) := ⟨fblk hf K2b.out.1 (Nat.ne_of_gt HMB.out.1), fblk hf K2b.out.2.1 (Nat.ne_of_gt HMB.out.2.1), fblk hf K2b.out.2.2.1 (Nat.ne_of_gt HMB.out.2.2.1), fblk hf K2b.out.2.2.2.1 (Nat.ne_of_gt HMB.out.2.2.2.1), fblk hf K2b.out.2.2.2.2 (Nat.ne_of_gt HMB.out.2.2.2.2)⟩
  clear ho hf HST
  clear c0 c1 c2 c3 c4 c5 c6 c7 c8 c9 c10 c11
  have c0 : w4.cell? ⟨B4, 0, none⟩ = some (.int .i64 0) := blk_cell K3.out.2.2.2.2 0
  have c1 : w4.cell? ⟨B4, 1, none⟩ = some (.bool false) := blk_cell K3.out.2.2.2.2 1
  have c2 : w4.cell? ⟨B4, 2, none⟩ = some (.bool false) := blk_cell K3.out.2.2.2.2 2
  have c3 : w4.cell? ⟨B4, 3, none⟩ = some (.int .i64 0) := blk_cell K3.out.2.2.2.2 3
  have c4 : w4.cell? ⟨B4, 4, none⟩ = some (.int .u32 0) := blk_cell K3.out.2.2.2.2 4
  have c5 : w4.cell? ⟨B4, 5, none⟩ = some (.slice (some ⟨B2, 0, none⟩) 1 1) := blk_cell K3.out.2.2.2.2 5
  have c6 : w4.cell? ⟨B4, 6, none⟩ = some (.slice none 0 0) := blk_cell K3.out.2.2.2.2 6
  have c7 : w4.cell? ⟨B4, 7, none⟩ = some (.int .u32 0) := blk_cell K3.out.2.2.2.2 7
  have c8 : w4.cell? ⟨B4, 8, none⟩ = some (.int .u32 0) := blk_cell K3.out.2.2.2.2 8
  have c9 : w4.cell? ⟨B4, 9, none⟩ = some (.int .u64 0) := blk_cell K3.out.2.2.2.2 9
  have c10 : w4.cell? ⟨B4, 10, none⟩ = some (.int .u64 0) := blk_cell K3.out.2.2.2.2 10
  have c11 : w4.cell? ⟨B4, 11, none⟩ = some (.int .u64 0) := blk_cell K3.out.2.2.2.2 11
  obtain ⟨D121, w4b, HD121, HV121, HE121, HBE121⟩ := boxedo w4 (.cells #[.int .u8 121] 5 (1, 2))
  have hlt121 : Hid (mb < D121) := by have := HD121.out; have := HO4.out.hO mb (.inr rfl); show _ < _; omega
  have HO4b := Lib.hid (HO4.out.below HBE121.out)
  have HB4b : Hid (Below w.heap.size w w4b) := HB4.out.trans (HBE121.out.mono HB4.out.size)
  have K3b : Hid (w4b.heap[B0]? = some (.cells #[u8v 97] 5 (1, 2)) ∧ w4b.heap[B1]? = some (.cells #[u8v 120] 5 (1, 2)) ∧ w4b.heap[B2]? = some (.cells #[u8v 97] 5 (1, 2)) ∧ w4b.heap[B3]? = some (.cells #[.int .i64 1, .bool false, .bool false, .int .i64 0, .int .u32 0, .slice (some ⟨B0, 0, none⟩) 1 1, .slice (some ⟨B1, 0, none⟩) 1 1, .int .u32 0, .int .u32 0, .int .u64 0, .int .u64 0, .int .u64 0] 35 (0, 0)) ∧ w4b.heap[B4]? = some (.cells #[.int .i64 0, .bool false, .bool false, .int .i64 0, .int .u32 0, .slice (some ⟨B2, 0, none⟩) 1 1, .slice none 0 0, .int .u32 0, .int .u32 0, .int .u64 0, .int .u64 0, .int .u64 0] 35 (0, 0))) := ⟨(HBE121.out.block _ (blk_lt K3.out.1)).trans K3.out.1, (HBE121.out.block _ (blk_lt K3.out.2.1)).trans K3.out.2.1, (HBE121.out.block _ (blk_lt K3.out.2.2.1)).trans K3.out.2.2.1, (HBE121.out.block _ (blk_lt K3.out.2.2.2.1)).trans K3.out.2.2.2.1, (HBE121.out.block _ (blk_lt K3.out.2.2.2.2)).trans K3.out.2.2.2.2⟩
  have hst := allows_o w4b w.heap.size _ mb wqG (waA [121]) 0 ⟨some ⟨B2, 0, none⟩, 1, none, 0, some ⟨D121, 0, none⟩, 1, none, 0, none, 0, 0⟩ wY1 HO4b.out HB4b.out.size (bytes_one K3b.out.2.2.1 (NO.out _ HMB.out.2.2.1)) (BytesIn.nil _ _) (bytes_one HE121.out (NO.out _ hlt121.out)) (StatsAt.nil _ _) (by unfold Rq.ok; decide) (by unfold An.ok; decide) (by decide) (by decide) (by decide) (by unfold Rq.here; decide)
  rw [w_s4] at hst
  unfold rqV ansV at hst
  have HST := Lib.hid hst
  clear hst
  go_wp2_with fail
  rw [HD121.out, HV121.out]
  refine HST.out.mono ?_
  rintro e w5 ⟨rfl, ho, hf⟩
  have HO5 := Lib.hid ho
  have HB5 : Hid (Below w.heap.size w w5) := HB4b.out.trans (hf.belowB HM.out HB4b.out.size)
  have K4 : Hid (w5.heap[B0]? = some (.cells #[u8v 97] 5 (1, 2)) ∧ w5.heap[B1]? = some (.cells #[u8v 120] 5 (1, 2)) ∧ w5.heap[B2]? = some (.cells #[u8v 97] 5 (1, 2)) ∧ w5.heap[B3]? = some (.cells #[.int .i64 1, .bool false, .bool false, .int .i64 0, .int .u32 0, .slice (some ⟨B0, 0, none⟩) 1 1, .slice (some ⟨B1, 0, none⟩) 1 1, .int .u32 0, .int .u32 0, .int .u64 0, .int .u64 0, .int .u64 0] 35 (0, 0)) ∧ w5.heap[B4]? = some (.cells #[.int .i64 0, .bool false, .bool false, .int .i64 0, .int .u32 0, .slice (some ⟨B2, 0, none⟩) 1 1, .slice none 0 0, .int .u32 0, .int .u32 0, .int .u64 0, .int .u64 0, .int .u64 0] 35 (0, 0))) := ⟨fblk hf K3b.out.1 (Nat.ne_of_gt HMB.out.1), fblk hf K3b.out.2.1 (Nat.ne_of_gt HMB.out.2.1), fblk hf K3b.out.2.2.1 (Nat.ne_of_gt HMB.out.2.2.1), fblk hf K3b.out.2.2.2.1 (Nat.ne_of_gt HMB.out.2.2.2.1), fblk hf K3b.out.2.2.2.2 (Nat.ne_of_gt HMB.out.2.2.2.2)⟩
  clear ho hf HST
  clear c0 c1 c2 c3 c4 c5 c6 c7 c8 c9 c10 c11
  have HTK := Lib.hid (token_o HO5.out)
  go_wp2_with fail
  refine HTK.out.mono ?_
  rintro e w6 ⟨rfl, rfl⟩
  rw [w_tok]
  go_wp2_with fail
  go_ret
  exact ⟨rfl, HB5.out⟩
end Go.Proofs.Ytngpffmgkponfaa
