/- Stamped sectors: Pack. Conditions: the payload lies in memory; numbers fit. The reader of bytes. Conditions: the reader is there; enough is left. Arrays of bytes, compared. No condition. -/
import Derived.Test.YtjmocjcjiiopnaaGreatLogScans04
import Derived.Deep.CutBlock
import Derived.Deep.CutRange
import Derived.Laws.BitsLemmas
import Derived.ChangeKeysEq

section
set_option linter.unusedVariables false
set_option linter.unusedSimpArgs false
namespace Go.Oct
/-- A stamped sector's bytes. -/
def packB (g p : Nat) (l : List UInt8) : List UInt8 := beB g 8 ++ beB p 4 ++ beB l.length 2 ++ [0, 0] ++ l ++ List.replicate (48 - l.length) 0
end Go.Oct
namespace Go.Proofs.YtjmocjcjiiopnaaGreat
open Go.RowKit Go.Ice Go.Oct
theorem packB_len (g p : Nat) (l : List UInt8) (h : l.length ≤ 48) : (packB g p l).length = 64 := by
  unfold packB
  simp only [List.length_append, beB_len, List.length_replicate, List.length_cons, List.length_nil]
  omega
def zs64 : Array Value := #[.int .u8 0, .int .u8 0, .int .u8 0, .int .u8 0, .int .u8 0, .int .u8 0, .int .u8 0, .int .u8 0, .int .u8 0, .int .u8 0, .int .u8 0, .int .u8 0, .int .u8 0, .int .u8 0, .int .u8 0, .int .u8 0, .int .u8 0, .int .u8 0, .int .u8 0, .int .u8 0, .int .u8 0, .int .u8 0, .int .u8 0, .int .u8 0, .int .u8 0, .int .u8 0, .int .u8 0, .int .u8 0, .int .u8 0, .int .u8 0, .int .u8 0, .int .u8 0, .int .u8 0, .int .u8 0, .int .u8 0, .int .u8 0, .int .u8 0, .int .u8 0, .int .u8 0, .int .u8 0, .int .u8 0, .int .u8 0, .int .u8 0, .int .u8 0, .int .u8 0, .int .u8 0, .int .u8 0, .int .u8 0, .int .u8 0, .int .u8 0, .int .u8 0, .int .u8 0, .int .u8 0, .int .u8 0, .int .u8 0, .int .u8 0, .int .u8 0, .int .u8 0, .int .u8 0, .int .u8 0, .int .u8 0, .int .u8 0, .int .u8 0, .int .u8 0]
theorem zs64_eq : zs64 = ((List.replicate 64 (0 : UInt8)).map u8v).toArray := rfl
/-- What two copies leave. -/
theorem pack_cells (h : List UInt8) (l : List UInt8) (hh : h.length = 14) (hl : l.length ≤ 48) :
    (((((zs64.toList.take 0 ++ h.map u8v ++ zs64.toList.drop (0 + (h.map u8v).length)).toArray).toList.take 16 ++ l.map u8v ++ ((zs64.toList.take 0 ++ h.map u8v ++ zs64.toList.drop (0 + (h.map u8v).length)).toArray).toList.drop (16 + (l.map u8v).length)).toArray)) = ((h ++ [0, 0] ++ l ++ List.replicate (48 - l.length) 0).map u8v).toArray := by
  rw [zs64_eq]
  congr 1
  simp only [List.take_zero, List.nil_append, List.length_map, hh, Nat.zero_add, ← List.map_drop, ← List.map_append, ← List.map_take]
  congr 1
  rw [List.drop_replicate, List.take_append, hh, List.take_of_length_le (by omega), List.take_replicate, List.drop_append, hh, List.drop_of_length_le (by omega), List.drop_replicate]
  rw [show min (16 - 14) (64 - 14) = 2 by rfl, show 64 - 14 - (16 + l.length - 14) = 48 - l.length by omega]
  rfl
theorem boxes2 (w : World) : ∃ rb bb W, Hid (w.heap.size = rb) ∧ Hid (w.heap.size + 1 = bb) ∧ Hid ((w.alloc (.cells zs64 38)).alloc (.cells zs64 38) = W) ∧ Hid (Kp w [(rb, .cells zs64 38), (bb, .cells zs64 38)] W) ∧ Hid (W.heap.size = rb + 2) := boxed2 w zs64 _ zs64 _
theorem byte_size : (Tryz.prog.info? 5).map (·.size) = some 1 := by
  obtain ⟨i0, hi, _, h1, _⟩ := info_parts (show (Tryz.prog.info? 5).map (fun i => (i.zero, i.size, i.bytes)) = some (some (.int .u8 0), 1, 1) by kernel_rfl)
  rw [hi]; simp [h1]
/-- Bytes are copied into an array. -/
theorem copy_to (w : World) (g o dLen dCap : Nat) (v : Value) (l : List UInt8) (cur : Array Value) (t : TypeId) (hl : BytesAt w v l) (hg : w.heap[g]? = some (.cells cur t (0, 0))) (hd : l.length ≤ dLen) (hfit : o + l.length ≤ cur.size) :
    (Builtin.copy_ #[60, 60] 3 #[.slice (some ⟨g, o, none⟩) dLen dCap, v]).run Tryz.prog w = .ok (goInt l.length) (w.setRow g (cur.toList.take o ++ l.map u8v ++ cur.toList.drop (o + l.length)).toArray) := by
  by_cases h0 : 0 < l.length
  · obtain ⟨b, off, cap, rfl, _, _, _, hc⟩ := hl.at h0
    have := run_copy_row Tryz.prog w 60 60 3 5 g o dLen dCap ⟨b, off, none⟩ l.length cap cur t (l.map u8v) Tryz.underlying60 byte_size hg (by simp [Nat.min_def]; omega) (by
      intro j v hv
      simp only [List.getElem?_map, Option.map_eq_some_iff] at hv
      obtain ⟨c, hc1, rfl⟩ := hv
      have hj : j < l.length := (List.getElem?_eq_some_iff.1 hc1).1
      have h2 := hc j hj
      have h3 : l.getD j 0 = c := by simp [List.getD, hc1]
      rw [h3] at h2
      have hadd : (⟨b, off, none⟩ : Addr).add j = ⟨b, off + j, none⟩ := by unfold Addr.add; split <;> simp_all
      rw [hadd]
      exact h2) (by simpa using hfit) (u8v_one l)
    simpa using this
  · obtain rfl : l = [] := by cases l; rfl; simp at h0
    obtain ⟨a, c, rfl, _⟩ := hl.form
    have e : (cur.toList.take o ++ ([] : List UInt8).map u8v ++ cur.toList.drop (o + ([] : List UInt8).length)).toArray = cur := by simp
    rw [e, setRow_self w g cur t (0, 0) hg]
    cases hq : Tryz.prog.info? 5 with
    | none => have := byte_size; simp [hq] at this
    | some i => cases a <;> simp [Builtin.copy_, run_underlying (P := Tryz.prog) Tryz.underlying60, Builtin.lenOf, Builtin.firstCells, sizeOf, typeInfo, hq, storeCells, loadCells, loadCellsFrom]
set_option maxHeartbeats 8000000 in
set_option maxRecDepth 20000 in
theorem pack_ok (w : World) (g p : Nat) (v : Value) (l : List UInt8) (hl : BytesAt w v l) (hg : 1 ≤ g ∧ g ≤ 18446744073709551615) (hp : p ≤ 4294967295) (hn : l.length ≤ 48) :
    Calls Tryz.prog 85 #[.int .u64 g, .int .u32 p, v] w fun e w' => e = .returned (.tuple #[blkV (packB g p l), .int .i64 0]) ∧ Below w.heap.size w w' := by
  obtain ⟨a, c, rfl, _⟩ := hl.form
  obtain ⟨rb, bb, W, HRB, HBB, HW, HK, HZ⟩ := boxes2 w
  simp only [zs64] at HW
  have e0 : ((g : Int) == 0) = false := by simp; omega
  have hlen : decide ((48 : Int) < (l.length : Int)) = false := by simp; omega
  obtain ⟨n, hnn⟩ : ∃ n, n = l.length := ⟨_, rfl⟩
  have HN := Lib.hid hnn
  have hn0 : (0 : Int) ≤ (n : Int) := by omega
  have hn1 : (n : Int) ≤ 48 := by omega
  have HL := Lib.hid hl
  have HG := Lib.hid hg
  rw [← hnn] at hlen ⊢
  have H64 := Lib.hid (put64 W (.slice none 0 0) [] (.inl ⟨rfl, .inl rfl⟩) (by simp) g hg.2)
  clear hl hg hnn hn
  go_enter Tryz.func85, Tryz.ntmps85
  go_upto_region 2 with fail
  rw [HBB.out, HRB.out, HW.out]
  go_upto_region 6 with fail
  go_upto_region 7 with fail
  refine H64.out.mono ?_
  rintro e W1 ⟨v1, rfl, ho1, hb1⟩
  have h1 : BytesAt W1 v1 (beB g 8) := (own_bytes (base := W.heap.size) (C := fun _ => True) (by simpa [beB_len] using ho1) (fun _ _ => trivial)).1
  have H32 := Lib.hid (put32 W1 v1 _ h1 (by rw [beB_len]; omega) p hp)
  have HB1 := Lib.hid hb1
  clear ho1 hb1 h1 H64
  go_upto_region 7 with fail
  refine H32.out.mono ?_
  rintro e W2 ⟨v2, rfl, ho2, hb2⟩
  have h2 : BytesAt W2 v2 (beB g 8 ++ beB p 4) := (own_bytes (base := W1.heap.size) (C := fun _ => True) (by simpa [beB_len] using ho2) (fun _ _ => trivial)).1
  have H16 := Lib.hid (put16 W2 v2 _ h2 (by simp [beB_len]) n (by omega))
  have HB2 := Lib.hid hb2
  clear ho2 hb2 h2 H32
  go_upto_region 7 with fail
  refine H16.out.mono ?_
  rintro e W3 ⟨v3, rfl, ho3, hb3⟩
  have h3 : BytesAt W3 v3 (beB g 8 ++ beB p 4 ++ beB n 2) := (own_bytes (base := W2.heap.size) (C := fun _ => True) (by simpa [beB_len] using ho3) (fun _ _ => trivial)).1
  have hB3 : Below W.heap.size W W3 := (HB1.out.trans (HB2.out.mono HB1.out.size)).trans (hb3.mono (Nat.le_trans HB1.out.size HB2.out.size))
  have hbb0 : W.heap[bb]? = some (.cells zs64 38 (0, 0)) := HK.out.blks (bb, _) (by simp)
  have hbb3 : W3.heap[bb]? = some (.cells zs64 38 (0, 0)) := by rw [hB3.block bb (by have := HZ.out; have := HRB.out; have := HBB.out; omega)]; exact hbb0
  obtain ⟨a3, c3, hv3, _⟩ := h3.form
  simp only [List.length_append, beB_len, Nat.reduceAdd] at hv3
  subst hv3
  have HC1 := Lib.hid (copy_to W3 bb 0 64 64 _ _ zs64 38 h3 hbb3 (by simp [beB_len]) (by simp [beB_len, zs64_eq]))
  obtain ⟨W4, hW4⟩ : ∃ W4, W4 = W3.setRow bb (zs64.toList.take 0 ++ (beB g 8 ++ beB p 4 ++ beB n 2).map u8v ++ zs64.toList.drop (0 + (beB g 8 ++ beB p 4 ++ beB n 2).length)).toArray := ⟨_, rfl⟩
  rw [← hW4] at HC1
  have HB3 := Lib.hid hB3
  have HW4 := Lib.hid hW4
  have HH3 := Lib.hid hbb3
  clear ho3 hb3 h3 H16 hB3 hbb0 hbb3 hW4
  go_upto_region 8 with fail
  rw [HC1.out]
  clear HC1
  have hs4 : W4.heap.size = W3.heap.size := by rw [HW4.out]; simp [World.setRow]
  have hb34 : Below w.heap.size W3 W4 := by
    rw [HW4.out]
    exact (setRow_frm W3 bb _).below (fun b hb e => by have := HBB.out; omega) (by have := HB3.out.size; have := HZ.out; have := HRB.out; omega)
  have hbw4 : Below w.heap.size w W4 := (HK.out.below.trans (HB3.out.mono HK.out.below.size)).trans hb34
  have hb4 : W4.heap[bb]? = some (.cells (zs64.toList.take 0 ++ (beB g 8 ++ beB p 4 ++ beB n 2).map u8v ++ zs64.toList.drop (0 + (beB g 8 ++ beB p 4 ++ beB n 2).length)).toArray 38 (0, 0)) := by rw [HW4.out]; exact setRow_blk HH3.out
  have hl4 : BytesAt W4 (.slice a n c) l := by rw [HN.out]; exact HL.out.below hbw4 (Nat.le_refl _)
  have HC2 := Lib.hid (copy_to W4 bb 16 48 48 _ _ _ 38 hl4 hb4 (by rw [← HN.out]; omega) (by rw [← HN.out]; simp [beB_len, zs64_eq]; omega))
  rw [← HN.out] at HC2
  clear hl4
  obtain ⟨W5, hW5⟩ : ∃ W5, W5 = W4.setRow bb (((zs64.toList.take 0 ++ (beB g 8 ++ beB p 4 ++ beB n 2).map u8v ++ zs64.toList.drop (0 + (beB g 8 ++ beB p 4 ++ beB n 2).length)).toArray).toList.take 16 ++ l.map u8v ++ ((zs64.toList.take 0 ++ (beB g 8 ++ beB p 4 ++ beB n 2).map u8v ++ zs64.toList.drop (0 + (beB g 8 ++ beB p 4 ++ beB n 2).length)).toArray).toList.drop (16 + n)).toArray := ⟨_, rfl⟩
  rw [← hW5] at HC2
  have HW5 := Lib.hid hW5
  clear hW5
  have HB4 := Lib.hid hbw4
  have HH4 := Lib.hid hb4
  clear hs4 hb34 hbw4 hb4 HH3
  go_upto_region 8 with fail
  go_upto_region 9 with fail
  rw [HC2.out]
  clear HC2
  have hb5 : W5.heap[bb]? = some (.cells ((packB g p l).map u8v).toArray 38 (0, 0)) := by
    have hk := pack_cells (beB g 8 ++ beB p 4 ++ beB n 2) l (by simp [beB_len]) (by rw [← HN.out]; omega)
    simp only [List.length_map, ← HN.out] at hk
    have e5 := HW5.out
    rw [hk] at e5
    rw [e5, setRow_blk HH4.out]
    unfold packB
    rw [← HN.out]
  have hbw5 : Below w.heap.size w W5 := by
    refine HB4.out.trans ?_
    rw [HW5.out]
    exact (setRow_frm W4 bb _).below (fun b hb e => by have := HBB.out; omega) HB4.out.size
  have HB5 := Lib.hid hb5
  have HBW5 := Lib.hid hbw5
  have hr3 : W5.heap[rb]? = some (.cells zs64 38 (0, 0)) := by
    have h0 : W.heap[rb]? = some (.cells zs64 38 (0, 0)) := HK.out.blks (rb, _) (by simp)
    have hz := HZ.out
    have hne : rb ≠ bb := by have := HRB.out; have := HBB.out; omega
    have h3 : W3.heap[rb]? = some (.cells zs64 38 (0, 0)) := by rw [HB3.out.block rb (by omega)]; exact h0
    have hlt3 : rb < W3.heap.size := (Array.getElem?_eq_some_iff.1 h3).1
    have h4 : W4.heap[rb]? = some (.cells zs64 38 (0, 0)) := by rw [HW4.out, (setRow_frm W3 bb _).block rb hlt3 hne]; exact h3
    have hlt4 : rb < W4.heap.size := (Array.getElem?_eq_some_iff.1 h4).1
    rw [HW5.out, (setRow_frm W4 bb _).block rb hlt4 hne]; exact h4
  have hlen64 : ((packB g p l).map u8v).length = 64 := by rw [List.length_map]; exact packB_len g p l (by rw [← HN.out]; omega)
  have HR5 := Lib.hid (rangeAt_blk hb5)
  have HT5 : Hid (W5.there rb 0 ((packB g p l).map u8v).toArray.size) := there_of_blk hr3 (by rw [List.size_toArray, hlen64]; exact Nat.le_refl _)
  have hi : (Tryz.prog.info? 38).map (·.size) = some 64 := by kernel_rfl
  have HI1 : Hid ((Tryz.prog.info? 38).map (·.size) = some ((packB g p l).map u8v).length) := by rw [hlen64]; exact hi
  have HI2 : Hid ((Tryz.prog.info? 38).map (·.size) = some ((packB g p l).map u8v).toArray.size) := by rw [List.size_toArray, hlen64]; exact hi
  have hb6 : (W5.setCells rb 0 ((packB g p l).map u8v)).heap[rb]? = some (.cells ((packB g p l).map u8v).toArray 38 (0, 0)) := by
    have := blk_setCells (w := W5) (b := rb) (e := 38) ((packB g p l).map u8v) 0 zs64.toList W5 hr3 (by rw [hlen64]; exact Nat.le_refl _)
    rw [this, hlen64]
    simp [zs64_eq]
  have hbw6 : Below w.heap.size w (W5.setCells rb 0 ((packB g p l).map u8v)) := hbw5.trans ((frm_setCells W5 rb _ 0).below (fun b hb e => by have := HRB.out; omega) hbw5.size)
  have HB6 := Lib.hid hb6
  have HBW6 := Lib.hid hbw6
  clear hb5 hbw5 hr3 hlen64 hi hb6 hbw6
  go_upto_region 9 with fail
  go_wp2_with (first | (refine wpList_load_mid rfl 38 (.tmp 8) rfl bb 0 (by rfl) ((packB g p l).map u8v) _ HR5.out Tryz.underlying38 rfl HI1.out ?_) | (refine wpList_store_mid rfl 38 (.tmp 6) (.tmp 33) rfl rb 0 ((packB g p l).map u8v).toArray (by rfl) (by rfl) HT5.out HI2.out (all_oneCell_toArray (u8v_one _)) ?_))
  have hres : ∀ tmps : Array Value, tmps.getD 6 undef = .pointer (some ⟨rb, 0, none⟩) → tmps.getD 7 undef = .int .i64 0 → (results Tryz.f85 tmps).run Tryz.prog (W5.setCells rb 0 ((packB g p l).map u8v)) = .ok (.tuple #[blkV (packB g p l), .int .i64 0]) (W5.setCells rb 0 ((packB g p l).map u8v)) := by
    intro tmps h6 h7
    have hrr : Tryz.f85.results = #[.cell 6 38, .tmp 7] := rfl
    have hl := run_loadVar_row (P := Tryz.prog) _ rb 38 38 _ (0, 0) _ HB6.out Tryz.underlying38 rfl HI2.out
    have h6' : tmps[6]?.getD undef = .pointer (some ⟨rb, 0, none⟩) := by simpa using h6
    have h7' : tmps[7]?.getD undef = .int .i64 0 := by simpa using h7
    simp [results, hrr, h6', h7', asAddr, hl, blkV]
  (try simp only [Exit.inBlock, Exit.then])
  exact bodyPost_ret (hres _ rfl rfl) rfl ⟨rfl, HBW6.out⟩
set_option maxHeartbeats 8000000 in
set_option maxRecDepth 20000 in
theorem pack_zero (w : World) (g p : Nat) (v : Value) (l : List UInt8) (hl : BytesAt w v l) (hg : g = 0) :
    Calls Tryz.prog 85 #[.int .u64 g, .int .u32 p, v] w fun e w' => e = .returned (.tuple #[blkV (List.replicate 64 0), .int .i64 2]) ∧ Below w.heap.size w w' := by
  obtain ⟨a, c, rfl, _⟩ := hl.form
  obtain ⟨rb, bb, W, HRB, HBB, HW, HK, HZ⟩ := boxes2 w
  simp only [zs64] at HW
  obtain ⟨n, hnn⟩ : ∃ n, n = l.length := ⟨_, rfl⟩
  subst hg
  rw [← hnn]
  have hbb0 : W.heap[bb]? = some (.cells zs64 38 (0, 0)) := HK.out.blks (bb, _) (by simp)
  have hrb0 : W.heap[rb]? = some (.cells zs64 38 (0, 0)) := HK.out.blks (rb, _) (by simp)
  have hi : (Tryz.prog.info? 38).map (·.size) = some 64 := by kernel_rfl
  obtain ⟨zl, hzl⟩ : ∃ zl, zl = (List.replicate 64 (0 : UInt8)).map u8v := ⟨_, rfl⟩
  have hzl64 : zl.length = 64 := by rw [hzl]; simp
  have hone : ∀ u ∈ zl, u.oneCell' = true := by rw [hzl]; exact u8v_one _
  rw [zs64_eq, ← hzl] at hbb0 hrb0
  have HR5 := Lib.hid (rangeAt_blk hbb0)
  have HT5 : Hid (W.there rb 0 zl.toArray.size) := there_of_blk hrb0 (Nat.le_refl _)
  have HI1 : Hid ((Tryz.prog.info? 38).map (·.size) = some zl.length) := by rw [hzl64]; exact hi
  have HI2 : Hid ((Tryz.prog.info? 38).map (·.size) = some zl.toArray.size) := by rw [List.size_toArray, hzl64]; exact hi
  have hb6 : (W.setCells rb 0 zl).heap[rb]? = some (.cells zl.toArray 38 (0, 0)) := by
    have := blk_setCells (w := W) (b := rb) (e := 38) zl 0 zl W hrb0 (by rw [hzl64]; exact Nat.le_refl _)
    rw [this]
    simp
  have hbw6 : Below w.heap.size w (W.setCells rb 0 zl) := HK.out.below.trans ((frm_setCells W rb _ 0).below (fun b hb e => by have := HRB.out; omega) HK.out.below.size)
  have HB6 := Lib.hid hb6
  have HBW6 := Lib.hid hbw6
  have HONE := Lib.hid hone
  have HZL := Lib.hid hzl
  clear hl hnn hbb0 hrb0 hi hzl64 hone hb6 hbw6 hzl
  go_enter Tryz.func85, Tryz.ntmps85
  go_upto_region 2 with fail
  rw [HBB.out, HRB.out, HW.out]
  go_wp2_with (first | (refine wpList_load_mid rfl 38 (.tmp 8) rfl bb 0 (by rfl) zl _ HR5.out Tryz.underlying38 rfl HI1.out ?_) | (refine wpList_store_mid rfl 38 (.tmp 6) _ rfl rb 0 zl.toArray (by rfl) (by rfl) HT5.out HI2.out (all_oneCell_toArray HONE.out) ?_))
  have hres : ∀ tmps : Array Value, tmps.getD 6 undef = .pointer (some ⟨rb, 0, none⟩) → tmps.getD 7 undef = .int .i64 2 → (results Tryz.f85 tmps).run Tryz.prog (W.setCells rb 0 zl) = .ok (.tuple #[.agg zl.toArray, .int .i64 2]) (W.setCells rb 0 zl) := by
    intro tmps h6 h7
    have hrr : Tryz.f85.results = #[.cell 6 38, .tmp 7] := rfl
    have hl := run_loadVar_row (P := Tryz.prog) _ rb 38 38 _ (0, 0) _ HB6.out Tryz.underlying38 rfl HI2.out
    have h6' : tmps[6]?.getD undef = .pointer (some ⟨rb, 0, none⟩) := by simpa using h6
    have h7' : tmps[7]?.getD undef = .int .i64 2 := by simpa using h7
    simp [results, hrr, h6', h7', asAddr, hl]
  (try simp only [Exit.inBlock, Exit.then])
  exact bodyPost_ret (hres _ rfl rfl) rfl ⟨by rw [HZL.out]; rfl, HBW6.out⟩
set_option maxHeartbeats 8000000 in
set_option maxRecDepth 20000 in
theorem pack_long (w : World) (g p : Nat) (v : Value) (l : List UInt8) (hl : BytesAt w v l) (hg : 1 ≤ g) (hn : 48 < l.length) :
    Calls Tryz.prog 85 #[.int .u64 g, .int .u32 p, v] w fun e w' => e = .returned (.tuple #[blkV (List.replicate 64 0), .int .i64 3]) ∧ Below w.heap.size w w' := by
  obtain ⟨a, c, rfl, _⟩ := hl.form
  obtain ⟨rb, bb, W, HRB, HBB, HW, HK, HZ⟩ := boxes2 w
  simp only [zs64] at HW
  obtain ⟨n, hnn⟩ : ∃ n, n = l.length := ⟨_, rfl⟩
  have e0 : ((g : Int) == 0) = false := by simp; omega
  have hlen : decide ((48 : Int) < (n : Int)) = true := by simp; omega
  have hn0 : (0 : Int) ≤ (n : Int) := by omega
  have hn1 : (48 : Int) < (n : Int) := by omega
  rw [← hnn]
  have hbb0 : W.heap[bb]? = some (.cells zs64 38 (0, 0)) := HK.out.blks (bb, _) (by simp)
  have hrb0 : W.heap[rb]? = some (.cells zs64 38 (0, 0)) := HK.out.blks (rb, _) (by simp)
  have hi : (Tryz.prog.info? 38).map (·.size) = some 64 := by kernel_rfl
  obtain ⟨zl, hzl⟩ : ∃ zl, zl = (List.replicate 64 (0 : UInt8)).map u8v := ⟨_, rfl⟩
  have hzl64 : zl.length = 64 := by rw [hzl]; simp
  have hone : ∀ u ∈ zl, u.oneCell' = true := by rw [hzl]; exact u8v_one _
  rw [zs64_eq, ← hzl] at hbb0 hrb0
  have HR5 := Lib.hid (rangeAt_blk hbb0)
  have HT5 : Hid (W.there rb 0 zl.toArray.size) := there_of_blk hrb0 (Nat.le_refl _)
  have HI1 : Hid ((Tryz.prog.info? 38).map (·.size) = some zl.length) := by rw [hzl64]; exact hi
  have HI2 : Hid ((Tryz.prog.info? 38).map (·.size) = some zl.toArray.size) := by rw [List.size_toArray, hzl64]; exact hi
  have hb6 : (W.setCells rb 0 zl).heap[rb]? = some (.cells zl.toArray 38 (0, 0)) := by
    have := blk_setCells (w := W) (b := rb) (e := 38) zl 0 zl W hrb0 (by rw [hzl64]; exact Nat.le_refl _)
    rw [this]
    simp
  have hbw6 : Below w.heap.size w (W.setCells rb 0 zl) := HK.out.below.trans ((frm_setCells W rb _ 0).below (fun b hb e => by have := HRB.out; omega) HK.out.below.size)
  have HB6 := Lib.hid hb6
  have HBW6 := Lib.hid hbw6
  have HONE := Lib.hid hone
  have HZL := Lib.hid hzl
  clear hl hnn hbb0 hrb0 hi hzl64 hone hb6 hbw6 hzl
  go_enter Tryz.func85, Tryz.ntmps85
  go_upto_region 2 with fail
  rw [HBB.out, HRB.out, HW.out]
  go_wp2_with (first | (refine wpList_load_mid rfl 38 (.tmp 8) rfl bb 0 (by rfl) zl _ HR5.out Tryz.underlying38 rfl HI1.out ?_) | (refine wpList_store_mid rfl 38 (.tmp 6) _ rfl rb 0 zl.toArray (by rfl) (by rfl) HT5.out HI2.out (all_oneCell_toArray HONE.out) ?_))
  have hres : ∀ tmps : Array Value, tmps.getD 6 undef = .pointer (some ⟨rb, 0, none⟩) → tmps.getD 7 undef = .int .i64 3 → (results Tryz.f85 tmps).run Tryz.prog (W.setCells rb 0 zl) = .ok (.tuple #[.agg zl.toArray, .int .i64 3]) (W.setCells rb 0 zl) := by
    intro tmps h6 h7
    have hrr : Tryz.f85.results = #[.cell 6 38, .tmp 7] := rfl
    have hl := run_loadVar_row (P := Tryz.prog) _ rb 38 38 _ (0, 0) _ HB6.out Tryz.underlying38 rfl HI2.out
    have h6' : tmps[6]?.getD undef = .pointer (some ⟨rb, 0, none⟩) := by simpa using h6
    have h7' : tmps[7]?.getD undef = .int .i64 3 := by simpa using h7
    simp [results, hrr, h6', h7', asAddr, hl]
  (try simp only [Exit.inBlock, Exit.then])
  exact bodyPost_ret (hres _ rfl rfl) rfl ⟨by rw [HZL.out]; rfl, HBW6.out⟩
end Go.Proofs.YtjmocjcjiiopnaaGreat
end

section
set_option linter.unusedVariables false
set_option linter.unusedSimpArgs false
namespace Go.Oct
/-- The number that bytes are, the highest first. -/
def numB (l : List UInt8) : Nat := l.foldl (fun x c => x * 256 + c.toNat) 0
theorem numB_snoc (l : List UInt8) (c : UInt8) : numB (l ++ [c]) = numB l * 256 + c.toNat := by simp [numB, List.foldl_append]
theorem numB_app (l m : List UInt8) : numB (l ++ m) = m.foldl (fun x c => x * 256 + c.toNat) (numB l) := by simp [numB, List.foldl_append]
theorem numB_take (l : List UInt8) : ∀ n, n ≤ l.length → numB (l.take n) < 256 ^ n
  | 0, _ => by simp [numB]
  | n + 1, h => by
    rw [List.take_succ_eq_append_getElem (by omega), numB_snoc, Nat.pow_succ]
    have h1 := numB_take l n (by omega)
    have := (l[n]).toNat_lt
    omega
theorem numB_lt (l : List UInt8) : numB l < 256 ^ l.length := by have := numB_take l l.length (Nat.le_refl _); rwa [List.take_length] at this
theorem numB_step (l : List UInt8) (k : Nat) (h : k < l.length) : numB (l.take (k + 1)) = numB (l.take k) * 256 + (l.getD k 0).toNat := by
  rw [List.take_succ_eq_append_getElem h, numB_snoc, List.getD_eq_getElem?_getD, List.getElem?_eq_getElem h]; rfl
end Go.Oct
namespace Go.Proofs.YtjmocjcjiiopnaaGreat
open Go.RowKit Go.Ice Go.Oct
/-- A reader: its bytes, where it is, its error. -/
def rdrA (rb : Nat) (l : List UInt8) (i e : Nat) : Asn := exA fun v : Value => sepA [purA (i ≤ l.length ∧ l.length ≤ 1000000), blkA rb [v, .int .i64 i, .int .i64 e] 195, ownA 5 1 v l.length (l.map u8v)]
section
variable {w0 w : World} {B : Nat → Prop} {M S : List Asn} {rb i e : Nat} {l : List UInt8}
theorem rdrA.open (h : St w0 B (rdrA rb l i e :: M) S w) : ∃ a c, (i ≤ l.length ∧ l.length ≤ 1000000) ∧ St w0 B (blkA rb [.slice a l.length c, .int .i64 i, .int .i64 e] 195 :: ownA 5 1 (.slice a l.length c) l.length (l.map u8v) :: M) S w := by
  obtain ⟨v, h⟩ := h.open_
  obtain ⟨h1, h⟩ := h.flat.pur
  obtain ⟨a, c, rfl, _⟩ := own_form (St.own h 1)
  exact ⟨a, c, h1, h⟩
theorem rdrA.close {v : Value} (ok : i ≤ l.length ∧ l.length ≤ 1000000) (h : St w0 B (blkA rb [v, .int .i64 i, .int .i64 e] 195 :: ownA 5 1 v l.length (l.map u8v) :: M) S w) : St w0 B (rdrA rb l i e :: M) S w :=
  (St.bind (L := [_, _, _]) (h.addPur ok)).close_ v
end
theorem add_off (b off i : Nat) : (⟨b, off, none⟩ : Addr).add i = ⟨b, off + i, none⟩ := by unfold Addr.add; split <;> simp_all
theorem sub_bytes {w : World} {a : Option Addr} {c i n : Nat} {l : List UInt8} (h : BytesAt w (.slice a l.length c) l) (hn : i + n ≤ l.length) : BytesAt w (subV a c i n) ((l.drop i).take n) := by
  unfold subV
  rcases h with ⟨h1, h2⟩ | ⟨h0, b, off, cap, hv, h1, h2, h3, h4⟩
  · have : l = [] := by simpa using h1
    subst this
    have hi : i = 0 := by simp at hn; omega
    have hn0 : n = 0 := by simp at hn; omega
    subst hi hn0
    refine .inl ⟨by simp, ?_⟩
    rcases h2 with h2 | ⟨x, cap, h2⟩
    · injection h2 with e1 e2 e3
      subst e1 e3
      exact .inl (by simp)
    · injection h2 with e1 e2 e3
      subst e1 e3
      refine .inr ?_
      by_cases hc : c = 0
      · exact ⟨x, c - 0, by rw [if_pos hc]⟩
      · exact ⟨x.add 0, c - 0, by rw [if_neg hc]; rfl⟩
  · rw [List.length_map] at h0 h1 h4
    injection hv with e1 e2 e3
    subst e1 e3
    by_cases hn0 : n = 0
    · subst hn0
      refine .inl ⟨by simp, .inr ?_⟩
      by_cases hc : c = i
      · exact ⟨_, c - i, by rw [if_pos hc]⟩
      · exact ⟨(⟨b, off, none⟩ : Addr).add i, c - i, by rw [if_neg hc]; rfl⟩
    · have hl : ((l.drop i).take n).length = n := by rw [List.length_take, List.length_drop]; omega
      have hadd := add_off b off i
      refine .inr ⟨by rw [List.length_map, hl]; omega, b, off + i, c - i, ?_, by rw [List.length_map, hl]; omega, by omega, h3, fun j hj => ?_⟩
      · rw [if_neg (by omega), List.length_map, hl, Option.map_some, hadd]
      · rw [List.length_map, hl] at hj
        rw [Nat.add_assoc, h4 (i + j) (by omega), List.getElem?_map, List.getElem?_map, List.getElem?_take_of_lt (by omega), List.getElem?_drop]
theorem own_byt {w : World} {base n : Nat} {v : Value} {l : List UInt8} (h : w.ownsRow base 5 1 v n (l.map u8v)) : BytesAt w v l := own_isSl h
set_option maxHeartbeats 4000000 in
set_option maxRecDepth 20000 in
theorem read (w : World) (v : Value) (l : List UInt8) (hl : BytesAt w v l) (hm : l.length ≤ 1000000) {w0 : World} {B : Nat → Prop} {M S : List Asn} (H : St w0 B M S w) :
    Calls Tryz.prog 81 #[v] w fun e w' => ∃ rb, e = .returned (.pointer (some ⟨rb, 0, none⟩)) ∧ St w0 B (rdrA rb l 0 0 :: M) S w' := by
  have HC := Lib.hid (clone w v l hl hm)
  clear hl
  go_enter Tryz.func81, Tryz.ntmps81
  go_wp2_with fail
  refine HC.out.mono ?_
  rintro e w1 ⟨v1, rfl, ho, hb⟩
  have H1 := H.newOwn hb ho
  obtain ⟨a1, c1, rfl, _⟩ := own_form ho
  clear ho hb HC
  go_wp2_with fail
  go_ret
  exact ⟨w1.heap.size, rfl, rdrA.close ⟨Nat.zero_le _, hm⟩ (H1.alloc _ _)⟩
set_option maxHeartbeats 4000000 in
set_option maxRecDepth 20000 in
theorem take_ok (rb : Nat) (l : List UInt8) (i n : Nat) (hn : i + n ≤ l.length) : Meets Tryz.prog 137 #[.pointer (some ⟨rb, 0, none⟩), .int .i64 n] [rdrA rb l i 0] [] fun v L => ∃ a c, v = subV a c i n ∧ L = [blkA rb [.slice a l.length c, .int .i64 ((i + n : Nat) : Int), .int .i64 0] 195, ownA 5 1 (.slice a l.length c) l.length (l.map u8v)] := by
  intro w B H
  obtain ⟨a, c, ⟨hp, hlen⟩, H⟩ := rdrA.open H
  have hcap : l.length ≤ c := bytes_cap (own_byt (H.own 1))
  obtain ⟨_, _, hv, hmax⟩ := own_form (H.own 1)
  obtain ⟨hc, hf⟩ := H.cells 0
  unfold maxLen at hmax
  have b1 : (0 : Int) ≤ (i : Int) := by omega
  have b2 : (i : Int) ≤ 1000000000000 := by omega
  have b3 : (n : Int) ≤ (l.length : Int) - i := by omega
  have b4 : ((i : Int) + n) ≤ 1000000000000 := by omega
  have b5 : (0 : Int) ≤ (n : Int) := by omega
  have e1 : decide ((n : Int) < 0) = false := by simp
  have e2 : decide ((l.length : Int) - (i : Int) < (n : Int)) = false := by simp; omega
  clear hv
  go_enter Tryz.func137, Tryz.ntmps137
  go_upto_region 9 with fail
  go_quiet (fail)
  go_upto_region 9 with fail
  refine wp_world (fun W => St w B _ _ W) (H.drewN nq) ?_
  intro W HW
  clear H hc hf
  obtain ⟨hc, hf⟩ := HW.cells 0
  have H2 := HW.set0 1 (.int .i64 ((i : Int) + n))
  go_upto_region 9 with fail
  go_upto_region 10 with fail
  refine wp_world (fun W => St w B _ _ W) H2 ?_
  intro W2 HW2
  clear HW hc hf
  obtain ⟨hc, hf⟩ := HW2.cells 0
  have b6 : ((i : Int) + n) - n = i := by omega
  have b7 : (0 : Int) ≤ (i : Int) + n := by omega
  have b8 : ((i : Int) + n) ≤ (c : Int) := by omega
  go_quiet (fail)
  obtain ⟨vv, hvv⟩ : ∃ vv, vv = Value.slice (if c = i then a else a.map (fun x => x.add i)) (i + n - i) (c - i) := ⟨_, rfl⟩
  rw [← hvv]
  have HVV := Lib.hid hvv
  clear hvv hc hf
  go_wp2_with fail
  go_ret
  refine Back.mk ⟨a, c, ?_, rfl⟩ (HW2.drewN nq)
  rw [HVV.out, show i + n - i = n by omega]; rfl
set_option maxHeartbeats 4000000 in
set_option maxRecDepth 20000 in
theorem raw_ok (rb : Nat) (l : List UInt8) (i n : Nat) (hn : i + n ≤ l.length) : Meets Tryz.prog 133 #[.pointer (some ⟨rb, 0, none⟩), .int .i64 n] [rdrA rb l i 0] [] fun v L => ∃ a c, v = .slice a n c ∧ L = [ownA 5 1 (.slice a n c) n (((l.drop i).take n).map u8v), rdrA rb l (i + n) 0] := by
  intro w B H
  have hlen : l.length ≤ 1000000 := by obtain ⟨a, c, h, _⟩ := rdrA.open H; exact h.2
  go_enter Tryz.func133, Tryz.ntmps133
  go_wp2_with fail
  refine ((take_ok rb l i n hn).call0 H (by simp)).mono ?_
  rintro e w1 ⟨v, L, rfl, ⟨a, c, hv, rfl⟩, H1⟩
  have hb : BytesAt w1 v ((l.drop i).take n) := by rw [hv]; exact sub_bytes (own_byt (St.own H1 1)) hn
  have hsl : ((l.drop i).take n).length = n := by rw [List.length_take, List.length_drop]; omega
  have HC := Lib.hid (clone w1 v _ hb (by omega))
  clear hb
  clear hv
  go_wp2_with fail
  refine HC.out.mono ?_
  rintro e w2 ⟨v2, rfl, ho, hb2⟩
  rw [hsl] at ho
  have H2 := St.newOwn H1 hb2 ho
  obtain ⟨a2, c2, rfl, _⟩ := own_form ho
  clear ho hb2 HC
  go_wp2_with fail
  go_ret
  exact Back.mk ⟨a2, c2, rfl, rfl⟩ (rdrA.close ⟨hn, hlen⟩ (St.pick H2 [1, 2, 0])).swap
theorem bits_byte (x c : Nat) (hx : x * 256 + 255 < 18446744073709551616) (hc : c < 256) : bits .or .u64 ((x : Int) * 256) (c : Int) = ((x * 256 + c : Nat) : Int) := by
  have := bits_join .u64 64 (Nat.le_refl _) (fun n h0 h1 => by rw [IntKind.wrap_u64]; omega) 8 ((x : Int) * 256) (c : Int) (by omega) (by omega) (by omega) (by omega) (by omega) (by omega)
  rw [this]; omega
set_option maxHeartbeats 8000000 in
set_option maxRecDepth 20000 in
theorem number_ok (rb : Nat) (l : List UInt8) (i n : Nat) (hn : i + n ≤ l.length) (h8 : n ≤ 8) : Meets Tryz.prog 121 #[.pointer (some ⟨rb, 0, none⟩), .int .i64 n] [rdrA rb l i 0] [] fun v L => v = .int .u64 (numB ((l.drop i).take n)) ∧ L = [rdrA rb l (i + n) 0] := by
  intro w B H
  go_enter Tryz.func121, Tryz.ntmps121
  go_wp2_with fail
  refine ((raw_ok rb l i n hn).call0 H (by simp)).mono ?_
  rintro e w1 ⟨v, L, rfl, ⟨a, c, rfl, rfl⟩, H1⟩
  obtain ⟨m, hm⟩ : ∃ m, m = (l.drop i).take n := ⟨_, rfl⟩
  have hml : m.length = n := by rw [hm, List.length_take, List.length_drop]; omega
  rw [← hm] at H1
  have HM := Lib.hid hm
  clear hm
  go_wp2_with fail
  go_loopg [5, 12] n (fun gg b5 b12 wr => ∃ j : Nat, j ≤ n ∧ gg = n - j ∧ b12 = .int .i64 j ∧ b5 = .int .u64 (numB (m.take j)) ∧ Hid (wr = w1))
  case atStart => exact ⟨0, Nat.zero_le _, rfl, rfl, rfl, Lib.hid rfl⟩
  case round =>
  obtain ⟨j, hj, rfl, rfl, rfl, HWR⟩ := hrel
  have hw := HWR.out
  subst hw
  by_cases hlt : j < n
  · obtain ⟨g, rfl, hg1, hg2⟩ := own_pos (St.own H1 0) (by omega)
    have hcell : wr.cell? ⟨g, j, none⟩ = some (u8v (m.getD j 0)) := by
      rw [(St.own H1 0).cellAt j (by omega), List.getElem?_map, List.getD_eq_getElem?_getD, List.getElem?_eq_getElem (by omega)]; rfl
    have hst := numB_step m j (by omega)
    have hb := numB_take m j (by omega)
    have hc := (m.getD j 0).toNat_lt
    generalize (m.getD j 0) = cc at *
    unfold u8v at hcell
    generalize hx : numB (m.take j) = x at *
    have hx256 : x * 256 + 255 < 18446744073709551616 := by
      have : 256 ^ j ≤ 256 ^ 7 := Nat.pow_le_pow_right (by omega) (by omega)
      omega
    have HST := Lib.hid hst
    have HBB := Lib.hid (bits_byte x cc.toNat hx256 hc)
    clear hst hb hx
    go_wp2_with fail
    rw [HBB.out]
    go_roundg (n - (j + 1))
    case measure => omega
    case rel => exact ⟨j + 1, by omega, rfl, by first | rfl | (congr 1; omega), by rw [HST.out], Lib.hid rfl⟩
  · obtain rfl : j = n := by omega
    go_wp2_with fail
    go_ret
    exact Back.mk ⟨by rw [← HM.out, List.take_of_length_le (by omega)]; rfl, rfl⟩ (St.pick H1 [1])
set_option maxHeartbeats 4000000 in
theorem u8_ok (rb : Nat) (l : List UInt8) (i : Nat) (hn : i + 1 ≤ l.length) : Meets Tryz.prog 134 #[.pointer (some ⟨rb, 0, none⟩)] [rdrA rb l i 0] [] fun v L => v = .int .u8 (numB ((l.drop i).take 1)) ∧ L = [rdrA rb l (i + 1) 0] := by
  intro w B H
  have hb := numB_lt ((l.drop i).take 1)
  rw [List.length_take, List.length_drop, Nat.min_eq_left (by omega)] at hb
  have hx : numB ((l.drop i).take 1) < 256 := by simpa using hb
  generalize hxx : numB ((l.drop i).take 1) = x at *
  have HX := Lib.hid hxx
  clear hb hxx
  have hb1 : (0 : Int) ≤ (x : Int) := by omega
  have hb2 : (x : Int) ≤ 255 := by omega
  go_enter Tryz.func134, Tryz.ntmps134
  go_wp2_with fail
  refine ((number_ok rb l i 1 hn (by omega)).call0 H (by simp)).mono ?_
  rintro e w1 ⟨v, L, rfl, ⟨rfl, rfl⟩, H1⟩
  rw [HX.out]
  go_wp2_with fail
  go_ret
  exact Back.mk ⟨rfl, rfl⟩ H1
set_option maxHeartbeats 4000000 in
theorem u16_ok (rb : Nat) (l : List UInt8) (i : Nat) (hn : i + 2 ≤ l.length) : Meets Tryz.prog 84 #[.pointer (some ⟨rb, 0, none⟩)] [rdrA rb l i 0] [] fun v L => v = .int .u16 (numB ((l.drop i).take 2)) ∧ L = [rdrA rb l (i + 2) 0] := by
  intro w B H
  have hb := numB_lt ((l.drop i).take 2)
  rw [List.length_take, List.length_drop, Nat.min_eq_left (by omega)] at hb
  have hx : numB ((l.drop i).take 2) < 65536 := by simpa using hb
  generalize hxx : numB ((l.drop i).take 2) = x at *
  have HX := Lib.hid hxx
  clear hb hxx
  have hb1 : (0 : Int) ≤ (x : Int) := by omega
  have hb2 : (x : Int) ≤ 65535 := by omega
  go_enter Tryz.func84, Tryz.ntmps84
  go_wp2_with fail
  refine ((number_ok rb l i 2 hn (by omega)).call0 H (by simp)).mono ?_
  rintro e w1 ⟨v, L, rfl, ⟨rfl, rfl⟩, H1⟩
  rw [HX.out]
  go_wp2_with fail
  go_ret
  exact Back.mk ⟨rfl, rfl⟩ H1
set_option maxHeartbeats 4000000 in
theorem u32_ok (rb : Nat) (l : List UInt8) (i : Nat) (hn : i + 4 ≤ l.length) : Meets Tryz.prog 83 #[.pointer (some ⟨rb, 0, none⟩)] [rdrA rb l i 0] [] fun v L => v = .int .u32 (numB ((l.drop i).take 4)) ∧ L = [rdrA rb l (i + 4) 0] := by
  intro w B H
  have hb := numB_lt ((l.drop i).take 4)
  rw [List.length_take, List.length_drop, Nat.min_eq_left (by omega)] at hb
  have hx : numB ((l.drop i).take 4) < 4294967296 := by simpa using hb
  generalize hxx : numB ((l.drop i).take 4) = x at *
  have HX := Lib.hid hxx
  clear hb hxx
  have hb1 : (0 : Int) ≤ (x : Int) := by omega
  have hb2 : (x : Int) ≤ 4294967295 := by omega
  go_enter Tryz.func83, Tryz.ntmps83
  go_wp2_with fail
  refine ((number_ok rb l i 4 hn (by omega)).call0 H (by simp)).mono ?_
  rintro e w1 ⟨v, L, rfl, ⟨rfl, rfl⟩, H1⟩
  rw [HX.out]
  go_wp2_with fail
  go_ret
  exact Back.mk ⟨rfl, rfl⟩ H1
set_option maxHeartbeats 4000000 in
theorem u64_ok (rb : Nat) (l : List UInt8) (i : Nat) (hn : i + 8 ≤ l.length) : Meets Tryz.prog 82 #[.pointer (some ⟨rb, 0, none⟩)] [rdrA rb l i 0] [] fun v L => v = .int .u64 (numB ((l.drop i).take 8)) ∧ L = [rdrA rb l (i + 8) 0] := by
  intro w B H
  have hb := numB_lt ((l.drop i).take 8)
  rw [List.length_take, List.length_drop, Nat.min_eq_left (by omega)] at hb
  have hx : numB ((l.drop i).take 8) < 18446744073709551616 := by simpa using hb
  generalize hxx : numB ((l.drop i).take 8) = x at *
  have HX := Lib.hid hxx
  clear hb hxx
  have hb1 : (0 : Int) ≤ (x : Int) := by omega
  have hb2 : (x : Int) ≤ 18446744073709551615 := by omega
  go_enter Tryz.func82, Tryz.ntmps82
  go_wp2_with fail
  refine ((number_ok rb l i 8 hn (by omega)).call0 H (by simp)).mono ?_
  rintro e w1 ⟨v, L, rfl, ⟨rfl, rfl⟩, H1⟩
  rw [HX.out]
  go_wp2_with fail
  go_ret
  exact Back.mk ⟨rfl, rfl⟩ H1
end Go.Proofs.YtjmocjcjiiopnaaGreat
end

section
set_option linter.unusedVariables false
set_option linter.unusedSimpArgs false
namespace Go.Ice
open Go.RowKit
theorem run_eqItems_bytes {P : Program} {e : TypeId} (he : P.plainKey e = true) (hu : P.underlying e = some (.int .u8)) (d : Nat) (a b : List UInt8) (w : World) : ∀ (is : List Nat), (∀ j ∈ is, j < a.length ∧ j < b.length) →
    (Op.eqItems (d + 1) e 1 (a.map u8v).toArray (b.map u8v).toArray is).run P w = .ok (is.all fun j => a.getD j 0 == b.getD j 0) w
  | [], _ => by simp [Op.eqItems]
  | j :: is, h => by
    obtain ⟨h1, h2⟩ := h j (by simp)
    have ih := run_eqItems_bytes he hu d a b w is fun k hk => h k (by simp [hk])
    have p1 := run_part_plain (P := P) (w := w) he (xs := (a.map u8v).toArray) (off := j * 1) (v := u8v (a.getD j 0)) (by simp [h1, List.getD_eq_getElem?_getD])
    have p2 := run_part_plain (P := P) (w := w) he (xs := (b.map u8v).toArray) (off := j * 1) (v := u8v (b.getD j 0)) (by simp [h2, List.getD_eq_getElem?_getD])
    have e1 : (Op.equalIn (d + 1) e (u8v (a.getD j 0)) (u8v (b.getD j 0))).run P w = .ok (a.getD j 0 == b.getD j 0) w := by
      have : ((((a.getD j 0).toNat : Nat) : Int) == ((b.getD j 0).toNat : Int)) = (a.getD j 0 == b.getD j 0) := by
        rw [Bool.eq_iff_iff]
        simp only [beq_iff_eq]
        constructor
        · intro h; exact UInt8.toNat_inj.1 (by exact_mod_cast h)
        · intro h; rw [h]
      simp only [u8v, Op.equalIn, Sem.run_bind, run_underlying hu, Result.andThen_ok, if_true, Sem.run_pure, this]
    simp only [Op.eqItems, Sem.run_bind, p1, p2, e1, Result.andThen_ok]
    rw [List.all_cons]
    generalize (a.getD j 0 == b.getD j 0) = q
    cases q
    · simp
    · simp only [Bool.not_true, Bool.false_eq_true, if_false, Bool.true_and]
      exact ih
/-- Two arrays of bytes are unlike. -/
theorem run_neq_bytes {P : Program} {t e : TypeId} {n : Nat} {i : TypeInfo} (he : P.plainKey e = true) (hu : P.underlying e = some (.int .u8)) (ht : P.underlying t = some (.array n e)) (hi : P.info? e = some i) (hc : P.cellsOf e = 1) (hg : P.eqGuardType P.depth t = false)
    (x y : Operand) (a b : List UInt8) (ha : a.length = n) (hb : b.length = n) (w : World) : (do eqGuard .neq t x y (blkV a) (blkV b); binOp .neq t (blkV a) (blkV b) : Sem Value).run P w = .ok (.bool (!decide (a = b))) w := by
  have h1 := run_eqItems_bytes he hu 9998 a b w (List.range n) fun j hj => by have := List.mem_range.1 hj; omega
  have h2 := run_equalIn_array (P := P) (w := w) 9999 (a.map u8v).toArray (b.map u8v).toArray ht hi
  rw [hc] at h2
  have h3 : ((List.range n).all fun j => a.getD j 0 == b.getD j 0) = decide (a = b) := by
    rw [Bool.eq_iff_iff, List.all_eq_true, decide_eq_true_eq]
    constructor
    · intro h
      refine List.ext_getElem (by omega) fun k k1 k2 => ?_
      have := h k (List.mem_range.2 (by omega))
      simpa [List.getD_eq_getElem?_getD, k1, k2] using this
    · rintro rfl j _; simp
  have h4 : (Op.equalIn 10000 t (blkV a) (blkV b)).run P w = .ok (decide (a = b)) w := by rw [← h3]; exact h2.trans h1
  unfold blkV at *
  rw [Sem.run_bind, run_eqGuard_agg (hm := hg), Result.andThen_ok, run_neq_struct, h4, Result.andThen_ok]
section
variable {P : Program} {ops : Array Oper} {rest : List Oper} {op : Oper} {a : Act} {w w' : World} {Q : Exit → Act → World → Prop} {n : Nat} {cs : List Value}
/-- An operation of a plain region whose run is known, guarded or not. -/
theorem wplg_val {v : Value} (hw : Region.wanted op (yielded ops a.tmps) = true) (hrun : (execOp a.eval op).run P w = .ok (.value v) w') (h : wpList P ops Q rest (a.put op.dst v) w') : wpList P ops Q (op :: rest) a w :=
  wpList_step fun K hK => by
    rw [if_pos hw]
    unfold Oper.wp
    rw [hrun]
    exact hK _ _ h
theorem wplg_load (hw : Region.wanted op (yielded ops a.tmps) = true) (ty : TypeId) (x : Operand) (ho : op.op = .load ty x) (b o : Nat) (hx : a.eval x = .pointer (some ⟨b, o, none⟩)) (hl : cs.length = n) (hr : w.rangeAt b o cs) (T : Big P ty n)
    (h : wpList P ops Q rest (a.put op.dst (.agg cs.toArray)) w) : wpList P ops Q (op :: rest) a w :=
  wplg_val hw (by unfold execOp; simp only [ho, hx, Sem.run_bind, Sem.run_pure, Result.andThen_ok, T.load hl hr]) h
theorem wplg_binop {bop : BinOp} {t t2 : TypeId} {x y : Operand} {vx vy v : Value} (hw : Region.wanted op (yielded ops a.tmps) = true) (ho : op.op = .binOp bop t x y t2) (hx : a.eval x = vx) (hy : a.eval y = vy) (hrun : (do eqGuard bop t x y vx vy; binOp bop t vx vy : Sem Value).run P w = .ok v w)
    (h : wpList P ops Q rest (a.put op.dst v) w) : wpList P ops Q (op :: rest) a w :=
  wplg_val hw (by unfold execOp; simp only [ho, hx, hy]; rw [Sem.run_bind, hrun]; rfl) h
end
end Go.Ice
end
