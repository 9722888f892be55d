/- The document's SameScan: what it says of two scans of the same records. Conditions: the records are in memory. The document's SameScan on scans that the caller owns: of the same records they are the same. Conditions: the records are in memory. -/
import Derived.Test.YtjmocjcjiiopnaaGreatLogScans38
import Derived.Test.YtjmocjcjiiopnaaGreatLogScans31

section
set_option linter.unusedVariables false
set_option linter.unusedSimpArgs false
namespace Go.Proofs.YtjmocjcjiiopnaaGreat
open Go.RowKit Go.Ice Go.Oct Go.Dsk Go.Ring Go.Lg
theorem sameR_self (r : Rc) (k v : List UInt8) : sameR r r k v k v = true := by unfold sameR; simp
/-- The bytes of a placed record. -/
def plS (z : Pl) : List Asn := [bytA (.slice z.x z.ka.length z.c) z.ka, bytA (.slice z.y z.va.length z.d) z.va]
theorem plC_len (i g : Nat) (z : Pl) : (plC i g z).length = 9 := rfl
set_option maxHeartbeats 16000000 in
set_option maxRecDepth 100000 in
theorem samescan (i g u : Nat) (va vb : Value) (zs ys : List Pl) (hzy : zs.map Pl.core = ys.map Pl.core) : Meets Tryz.prog 13 #[.agg #[.int .u64 (g : Int), .int .i64 (u : Int), va], .agg #[.int .u64 (g : Int), .int .i64 (u : Int), vb]] [] (slA 9 va zs.length (zs.flatMap (plC i g)) :: slA 9 vb zs.length (ys.flatMap (plC i g)) :: (zs.flatMap plS ++ ys.flatMap plS)) fun v L => v = .bool true ∧ L = [] := by
  intro w B H
  have hsl1 : IsSlK w 9 zs.length va (zs.flatMap (plC i g)) := St.sl H 0
  have hsl2 : IsSlK w 9 zs.length vb (ys.flatMap (plC i g)) := St.sl H 1
  obtain ⟨a, ca, rfl, hmx⟩ := hsl1.form
  obtain ⟨a2, ca2, rfl, _⟩ := hsl2.form
  have hA : slA 9 (.slice a zs.length ca) zs.length (zs.flatMap (plC i g)) ∈ (slA 9 (.slice a zs.length ca) zs.length (zs.flatMap (plC i g)) :: slA 9 (.slice a2 zs.length ca2) zs.length (ys.flatMap (plC i g)) :: (zs.flatMap plS ++ ys.flatMap plS)) := List.mem_cons_self
  have hA2 : slA 9 (.slice a2 zs.length ca2) zs.length (ys.flatMap (plC i g)) ∈ (slA 9 (.slice a zs.length ca) zs.length (zs.flatMap (plC i g)) :: slA 9 (.slice a2 zs.length ca2) zs.length (ys.flatMap (plC i g)) :: (zs.flatMap plS ++ ys.flatMap plS)) := List.mem_cons_of_mem _ List.mem_cons_self
  have hZ : ∀ z ∈ zs, ∀ A ∈ plS z, A ∈ (slA 9 (.slice a zs.length ca) zs.length (zs.flatMap (plC i g)) :: slA 9 (.slice a2 zs.length ca2) zs.length (ys.flatMap (plC i g)) :: (zs.flatMap plS ++ ys.flatMap plS)) := fun z hz A hA => List.mem_cons_of_mem _ (List.mem_cons_of_mem _ (List.mem_append_left _ (List.mem_flatMap.2 ⟨z, hz, hA⟩)))
  have hY : ∀ z ∈ ys, ∀ A ∈ plS z, A ∈ (slA 9 (.slice a zs.length ca) zs.length (zs.flatMap (plC i g)) :: slA 9 (.slice a2 zs.length ca2) zs.length (ys.flatMap (plC i g)) :: (zs.flatMap plS ++ ys.flatMap plS)) := fun z hz A hA => List.mem_cons_of_mem _ (List.mem_cons_of_mem _ (List.mem_append_right _ (List.mem_flatMap.2 ⟨z, hz, hA⟩)))
  generalize (slA 9 (.slice a zs.length ca) zs.length (zs.flatMap (plC i g)) :: slA 9 (.slice a2 zs.length ca2) zs.length (ys.flatMap (plC i g)) :: (zs.flatMap plS ++ ys.flatMap plS)) = S at *
  obtain ⟨n, hn⟩ : ∃ n, n = zs.length := ⟨_, rfl⟩
  rw [← hn] at hA hA2 hsl1 hsl2 hmx ⊢
  have HA_ := Lib.hid hA
  have HB_ := Lib.hid hA2
  have HZ := Lib.hid hZ
  have HY := Lib.hid hY
  have HN := Lib.hid hn
  have HZY := Lib.hid hzy
  have HSL1 := Lib.hid hsl1
  have HSL2 := Lib.hid hsl2
  unfold maxLen at hmx
  have H1 := (H.alloc [.int .u64 g, .int .i64 u, .slice a n ca] 43).alloc [.int .u64 g, .int .i64 u, .slice a2 n ca2] 43
  simp only [World.size_alloc] at H1
  obtain ⟨pa, hpa⟩ : ∃ pa, pa = w.heap.size := ⟨_, rfl⟩
  obtain ⟨pb, hpb⟩ : ∃ pb, pb = w.heap.size + 1 := ⟨_, rfl⟩
  rw [← hpb, ← hpa] at H1
  clear hA hA2 hsl1 hsl2 hZ hY hn hzy
  go_enter Tryz.func13, Tryz.ntmps13
  go_upto_region 1 with fail
  rw [← hpb, ← hpa]
  clear hpa hpb
  refine wp_world (fun W => St w B _ _ W) H1 ?_
  intro w1 H2
  clear H1 H
  obtain ⟨hc, hf⟩ := St.cells H2 0
  obtain ⟨hc2, hf2⟩ := St.cells H2 1
  go_upto_region 4 with fail
  clear hc hf hc2 hf2
  go_loopg [5] n (fun gg b5 wr => ∃ j, j ≤ n ∧ gg = n - j ∧ b5 = .int .i64 j ∧ Hid (St w B [blkA pb [.int .u64 g, .int .i64 u, .slice a2 n ca2] 43, blkA pa [.int .u64 g, .int .i64 u, .slice a n ca] 43] S wr))
  case atStart => exact ⟨0, Nat.zero_le _, rfl, rfl, Lib.hid H2⟩
  case round =>
  obtain ⟨j, hj, rfl, rfl, HI⟩ := hrel
  clear H2
  have HI := HI.out
  obtain ⟨hc, hf⟩ := St.cells HI 0
  obtain ⟨hc2, hf2⟩ := St.cells HI 1
  by_cases hjn : j = n
  · have e0 : decide ((j : Int) < (n : Int)) = false := decide_eq_false (by omega)
    go_wp2_with fail
    exact bodyPost_ret (results_tmp rfl _ _ _) rfl (Back.mk (L' := []) ⟨rfl, rfl⟩ (St.pick HI []))
  · have hjl : j < n := by omega
    have e0 : decide ((j : Int) < (n : Int)) = true := decide_eq_true (by omega)
    have hjz : j < zs.length := by rw [← HN.out]; exact hjl
    have hyl : ys.length = zs.length := by
      have := congrArg List.length HZY.out
      rw [List.length_map, List.length_map] at this
      exact this.symm
    obtain ⟨z, hz⟩ : ∃ z, zs[j]? = some z := ⟨_, List.getElem?_eq_getElem hjz⟩
    obtain ⟨y, hy⟩ : ∃ y, ys[j]? = some y := ⟨_, List.getElem?_eq_getElem (by rw [hyl]; exact hjz)⟩
    have hcore : z.core = y.core := by
      have h1 : (zs.map Pl.core)[j]? = (ys.map Pl.core)[j]? := by rw [HZY.out]
      rw [List.getElem?_map, List.getElem?_map, hz, hy] at h1
      injection h1
    have hzm := List.mem_of_getElem? hz
    have hym := List.mem_of_getElem? hy
    obtain ⟨xb, xo, _, e, _, _, _, _⟩ := HSL1.out.at (by omega)
    cases e
    obtain ⟨yb, yo, _, e, _, _, _, _⟩ := HSL2.out.at (by omega)
    cases e
    have hr1 : ∀ W M, St w B M S W → W.rangeAt xb (xo + j * 9) (plC i g z) := fun W M h => by
      obtain ⟨F, hF⟩ := h.getS HA_.out
      exact hF.2.2.elem (by omega) (fun q _ => plC_len i g q) hz
    have hr2 : ∀ W M, St w B M S W → W.rangeAt yb (yo + j * 9) (plC i g y) := fun W M h => by
      obtain ⟨F, hF⟩ := h.getS HB_.out
      exact hF.2.2.elem (by omega) (fun q _ => plC_len i g q) hy
    have hz1 := HZ.out z hzm
    have hy1 := HY.out y hym
    obtain ⟨zu, zr, zk, zv, zx, zc, zy, zd⟩ := z
    obtain ⟨yu, yr, yk, yv, yx, yc, yy, yd⟩ := y
    have hcore2 : (zu, zr, zk, zv) = (yu, yr, yk, yv) := hcore
    simp only [Prod.mk.injEq] at hcore2
    obtain ⟨rfl, rfl, rfl, rfl⟩ := hcore2
    unfold plS at hz1 hy1
    dsimp only at hz1 hy1
    obtain ⟨rk, rf, re, rs⟩ := zr
    have hSM := rsame ⟨rk, rf, re, rs⟩ ⟨rk, rf, re, rs⟩ zx zy yx yy zk zv zk zv zc zd yc yd
    rw [sameR_self] at hSM
    have hq1 : ∀ W M, St w B M S W → W.rangeAt xb (xo + j * 9) [.int .i64 i, .int .u64 g, .int .i64 zu] := fun W M h => (rangeAt_append.1 (show W.rangeAt xb (xo + j * 9) ([.int .i64 i, .int .u64 g, .int .i64 zu] ++ [.int .i64 rk, .int .u32 rf, .int .u32 re, .int .u64 rs, .slice zx zk.length zc, .slice zy zv.length zd]) from hr1 W M h)).1
    have hq2 : ∀ W M, St w B M S W → W.rangeAt xb (xo + j * 9 + 3) [.int .i64 rk, .int .u32 rf, .int .u32 re, .int .u64 rs, .slice zx zk.length zc, .slice zy zv.length zd] := fun W M h => (rangeAt_append.1 (show W.rangeAt xb (xo + j * 9) ([.int .i64 i, .int .u64 g, .int .i64 zu] ++ [.int .i64 rk, .int .u32 rf, .int .u32 re, .int .u64 rs, .slice zx zk.length zc, .slice zy zv.length zd]) from hr1 W M h)).2
    have hq3 : ∀ W M, St w B M S W → W.rangeAt yb (yo + j * 9) [.int .i64 i, .int .u64 g, .int .i64 zu] := fun W M h => (rangeAt_append.1 (show W.rangeAt yb (yo + j * 9) ([.int .i64 i, .int .u64 g, .int .i64 zu] ++ [.int .i64 rk, .int .u32 rf, .int .u32 re, .int .u64 rs, .slice yx zk.length yc, .slice yy zv.length yd]) from hr2 W M h)).1
    have hq4 : ∀ W M, St w B M S W → W.rangeAt yb (yo + j * 9 + 3) [.int .i64 rk, .int .u32 rf, .int .u32 re, .int .u64 rs, .slice yx zk.length yc, .slice yy zv.length yd] := fun W M h => (rangeAt_append.1 (show W.rangeAt yb (yo + j * 9) ([.int .i64 i, .int .u64 g, .int .i64 zu] ++ [.int .i64 rk, .int .u32 rf, .int .u32 re, .int .u64 rs, .slice yx zk.length yc, .slice yy zv.length yd]) from hr2 W M h)).2
    have hsh : ∀ A ∈ [bytA (.slice zx zk.length zc) zk, bytA (.slice zy zv.length zd) zv, bytA (.slice yx zk.length yc) zk, bytA (.slice yy zv.length yd) zv], A ∈ S := fun A hA => by
      rcases List.mem_cons.1 hA with rfl | hA
      · exact hz1 _ List.mem_cons_self
      · rcases List.mem_cons.1 hA with rfl | hA
        · exact hz1 _ (List.mem_cons_of_mem _ List.mem_cons_self)
        · exact hy1 A hA
    have HQ1 := Lib.hid hq1
    have HQ2 := Lib.hid hq2
    have HQ3 := Lib.hid hq3
    have HQ4 := Lib.hid hq4
    have HSH := Lib.hid hsh
    have HSM := Lib.hid hSM
    have hjn2 : (j : Int) < (n : Int) := by omega
    have hnj : ¬ n ≤ j := by omega
    have HJL := Lib.hid hjl
    clear hr1 hr2 hq1 hq2 hq3 hq4 hsh hSM hz1 hy1 hz hy hzm hym hcore hjz hyl HSL1 HSL2 HA_ HB_ HZ HY HN HZY hjn
    go_upto_region 6 with fail
    refine wp_region_gh (Θ := Unit) (fun _ => [(0, 34, (.pointer (some ⟨pa, 2, none⟩))), (1, 35, (.slice (some ⟨xb, xo, none⟩) n ca)), (2, 36, (.int .i64 (j : Int))), (3, 37, (.pointer (some ⟨xb, xo + j * 9, none⟩))), (4, 38, (.pointer (some ⟨xb, xo + j * 9, none⟩))), (5, 39, (.agg #[.int .i64 i, .int .u64 g, .int .i64 zu])), (6, 40, (.pointer (some ⟨pb, 2, none⟩))), (7, 41, (.slice (some ⟨yb, yo, none⟩) n ca2)), (8, 42, (.int .i64 (j : Int))), (9, 43, (.pointer (some ⟨yb, yo + j * 9, none⟩))), (10, 44, (.pointer (some ⟨yb, yo + j * 9, none⟩))), (11, 45, (.agg #[.int .i64 i, .int .u64 g, .int .i64 zu])), (12, 46, (.bool false)), (13, 47, (.bool false)), (14, 48, (.pointer (some ⟨pa, 2, none⟩))), (15, 49, (.slice (some ⟨xb, xo, none⟩) n ca)), (16, 50, (.int .i64 (j : Int))), (17, 51, (.pointer (some ⟨xb, xo + j * 9, none⟩))), (18, 52, (.pointer (some ⟨xb, xo + j * 9 + 3, none⟩))), (19, 53, (.agg #[.int .i64 rk, .int .u32 rf, .int .u32 re, .int .u64 rs, .slice zx zk.length zc, .slice zy zv.length zd])), (20, 54, (.pointer (some ⟨pb, 2, none⟩))), (21, 55, (.slice (some ⟨yb, yo, none⟩) n ca2)), (22, 56, (.int .i64 (j : Int))), (23, 57, (.pointer (some ⟨yb, yo + j * 9, none⟩))), (24, 58, (.pointer (some ⟨yb, yo + j * 9 + 3, none⟩))), (25, 59, (.agg #[.int .i64 rk, .int .u32 rf, .int .u32 re, .int .u64 rs, .slice yx zk.length yc, .slice yy zv.length yd])), (26, 60, (.bool true)), (27, 61, (.bool false)), (28, 62, (.bool false))]) (fun _ done WW => St w B ([blkA pb [.int .u64 g, .int .i64 u, .slice (some ⟨yb, yo, none⟩) n ca2] 43, blkA pa [.int .u64 g, .int .i64 u, .slice (some ⟨xb, xo, none⟩) n ca] 43]) S WW) (by kernel_rfl) (hord_of2 (by kernel_rfl)) (fun _ => by kernel_rfl) (fun _ => by kernel_rfl) (fun _ => by kernel_rfl) ⟨(), (show St w B [blkA pb [.int .u64 g, .int .i64 u, .slice (some ⟨yb, yo, none⟩) n ca2] 43, blkA pa [.int .u64 g, .int .i64 u, .slice (some ⟨xb, xo, none⟩) n ca] 43] S _ from HI.drew)⟩ ?_ ?_
    · intro _ done zb WW j oq ho hd hdep hcl HA HJ
      have hj : j < 29 := (Array.getElem?_eq_some_iff.1 ho).1
      obtain rfl | rfl | rfl | rfl | rfl | rfl | rfl | rfl | rfl | rfl | rfl | rfl | rfl | rfl | rfl | rfl | rfl | rfl | rfl | rfl | rfl | rfl | rfl | rfl | rfl | rfl | rfl | rfl | rfl : j = 0 ∨ j = 1 ∨ j = 2 ∨ j = 3 ∨ j = 4 ∨ j = 5 ∨ j = 6 ∨ j = 7 ∨ j = 8 ∨ j = 9 ∨ j = 10 ∨ j = 11 ∨ j = 12 ∨ j = 13 ∨ j = 14 ∨ j = 15 ∨ j = 16 ∨ j = 17 ∨ j = 18 ∨ j = 19 ∨ j = 20 ∨ j = 21 ∨ j = 22 ∨ j = 23 ∨ j = 24 ∨ j = 25 ∨ j = 26 ∨ j = 27 ∨ j = 28 := by omega
      · exact valG (θ := _) (.pointer (some ⟨pa, 2, none⟩)) ho (by cases ho; rfl) (by cases ho; simp [execOp, go_sem, HA.tm, lookT]) (by cases ho; exact fun d hd => by cases hd; exact List.mem_of_getElem? (i := 0) rfl) HJ
      · have p0 : done 0 = true := by cases ho; exact hdep ⟨0, .data⟩ (by simp) rfl
        have hcl_ : ∀ k, WW.cell? ⟨pa, k, none⟩ = ([.int .u64 g, .int .i64 u, .slice (some ⟨xb, xo, none⟩) n ca])[k]? := by
          have HQ := HJ
          (try simp only [hd, cond_true, cond_false] at HQ) <;> first | exact (St.cells HQ 0).1 | exact (St.cells HQ 1).1 | exact (St.cells HQ 2).1 | exact (St.cells HQ 3).1 | exact (St.cells HQ 4).1 | exact (St.cells HQ 5).1 | exact (St.cells HQ 6).1 | exact (St.cells HQ 7).1
        exact valG (θ := _) (.slice (some ⟨xb, xo, none⟩) n ca) ho (by cases ho; rfl) (by cases ho; simp [execOp, go_sem, HA.tm, lookT, p0, hcl_]) (by cases ho; exact fun d hd => by cases hd; exact List.mem_of_getElem? (i := 1) rfl) HJ
      · exact valG (θ := _) (.int .i64 (j : Int)) ho (by cases ho; rfl) (by cases ho; simp [execOp, go_sem, HA.tm, lookT]) (by cases ho; exact fun d hd => by cases hd; exact List.mem_of_getElem? (i := 2) rfl) HJ
      · have p1 : done 1 = true := by cases ho; exact hdep ⟨1, .data⟩ (by simp) rfl
        have p2 : done 2 = true := by cases ho; exact hdep ⟨2, .data⟩ (by simp) rfl
        exact valG (θ := _) (.pointer (some ⟨xb, xo + j * 9, none⟩)) ho (by cases ho; rfl) (by cases ho; simp [execOp, go_sem, HA.tm, lookT, p1, p2, hjn2, hnj]) (by cases ho; exact fun d hd => by cases hd; exact List.mem_of_getElem? (i := 3) rfl) HJ
      · have p3 : done 3 = true := by cases ho; exact hdep ⟨3, .data⟩ (by simp) rfl
        exact valG (θ := _) (.pointer (some ⟨xb, xo + j * 9, none⟩)) ho (by cases ho; rfl) (by cases ho; simp [execOp, go_sem, HA.tm, lookT, p3]) (by cases ho; exact fun d hd => by cases hd; exact List.mem_of_getElem? (i := 4) rfl) HJ
      · have p4 : done 4 = true := by cases ho; exact hdep ⟨4, .data⟩ (by simp) rfl
        have HRg : WW.rangeAt xb (xo + j * 9) ([.int .i64 i, .int .u64 g, .int .i64 zu]) := by
          have HQ := HJ
          (try simp only [hd, cond_true, cond_false] at HQ) <;> exact HQ1.out _ _ HQ
        exact loadG (θ := _) (v := (.agg #[.int .i64 i, .int .u64 g, .int .i64 zu])) _ ((.tmp 38)) ho (by cases ho; rfl) (by cases ho; rfl) (by simp [HA.ev, HA.tm, lookT, Act.eval, p4]) (bigAddr0.load (rfl) HRg) (by cases ho; exact fun d hd => by cases hd; exact List.mem_of_getElem? (i := 5) rfl) HJ
      · exact valG (θ := _) (.pointer (some ⟨pb, 2, none⟩)) ho (by cases ho; rfl) (by cases ho; simp [execOp, go_sem, HA.tm, lookT]) (by cases ho; exact fun d hd => by cases hd; exact List.mem_of_getElem? (i := 6) rfl) HJ
      · have p6 : done 6 = true := by cases ho; exact hdep ⟨6, .data⟩ (by simp) rfl
        have hcl_ : ∀ k, WW.cell? ⟨pb, k, none⟩ = ([.int .u64 g, .int .i64 u, .slice (some ⟨yb, yo, none⟩) n ca2])[k]? := by
          have HQ := HJ
          (try simp only [hd, cond_true, cond_false] at HQ) <;> first | exact (St.cells HQ 0).1 | exact (St.cells HQ 1).1 | exact (St.cells HQ 2).1 | exact (St.cells HQ 3).1 | exact (St.cells HQ 4).1 | exact (St.cells HQ 5).1 | exact (St.cells HQ 6).1 | exact (St.cells HQ 7).1
        exact valG (θ := _) (.slice (some ⟨yb, yo, none⟩) n ca2) ho (by cases ho; rfl) (by cases ho; simp [execOp, go_sem, HA.tm, lookT, p6, hcl_]) (by cases ho; exact fun d hd => by cases hd; exact List.mem_of_getElem? (i := 7) rfl) HJ
      · exact valG (θ := _) (.int .i64 (j : Int)) ho (by cases ho; rfl) (by cases ho; simp [execOp, go_sem, HA.tm, lookT]) (by cases ho; exact fun d hd => by cases hd; exact List.mem_of_getElem? (i := 8) rfl) HJ
      · have p7 : done 7 = true := by cases ho; exact hdep ⟨7, .data⟩ (by simp) rfl
        have p8 : done 8 = true := by cases ho; exact hdep ⟨8, .data⟩ (by simp) rfl
        exact valG (θ := _) (.pointer (some ⟨yb, yo + j * 9, none⟩)) ho (by cases ho; rfl) (by cases ho; simp [execOp, go_sem, HA.tm, lookT, p7, p8, hjn2, hnj]) (by cases ho; exact fun d hd => by cases hd; exact List.mem_of_getElem? (i := 9) rfl) HJ
      · have p9 : done 9 = true := by cases ho; exact hdep ⟨9, .data⟩ (by simp) rfl
        exact valG (θ := _) (.pointer (some ⟨yb, yo + j * 9, none⟩)) ho (by cases ho; rfl) (by cases ho; simp [execOp, go_sem, HA.tm, lookT, p9]) (by cases ho; exact fun d hd => by cases hd; exact List.mem_of_getElem? (i := 10) rfl) HJ
      · have p10 : done 10 = true := by cases ho; exact hdep ⟨10, .data⟩ (by simp) rfl
        have HRg : WW.rangeAt yb (yo + j * 9) ([.int .i64 i, .int .u64 g, .int .i64 zu]) := by
          have HQ := HJ
          (try simp only [hd, cond_true, cond_false] at HQ) <;> exact HQ3.out _ _ HQ
        exact loadG (θ := _) (v := (.agg #[.int .i64 i, .int .u64 g, .int .i64 zu])) _ ((.tmp 44)) ho (by cases ho; rfl) (by cases ho; rfl) (by simp [HA.ev, HA.tm, lookT, Act.eval, p10]) (bigAddr0.load (rfl) HRg) (by cases ho; exact fun d hd => by cases hd; exact List.mem_of_getElem? (i := 11) rfl) HJ
      · have p5 : done 5 = true := by cases ho; exact hdep ⟨5, .data⟩ (by simp) rfl
        have p11 : done 11 = true := by cases ho; exact hdep ⟨11, .data⟩ (by simp) rfl
        exact valG (θ := _) (.bool false) ho (by cases ho; rfl) (by cases ho; simp [execOp, go_sem, HA.tm, lookT, p5, p11]) (by cases ho; exact fun d hd => by cases hd; exact List.mem_of_getElem? (i := 12) rfl) HJ
      · have p12 : done 12 = true := by cases ho; exact hdep ⟨12, .data⟩ (by simp) rfl
        exact valG (θ := _) (.bool false) ho (by cases ho; rfl) (by cases ho; simp [execOp, go_sem, HA.tm, lookT, p12]) (by cases ho; exact fun d hd => by cases hd; exact List.mem_of_getElem? (i := 13) rfl) HJ
      · have p13 : done 13 = true := by cases ho; exact hdep ⟨13, .guard⟩ (by simp) rfl
        exact valG (θ := _) (.pointer (some ⟨pa, 2, none⟩)) ho (by cases ho; simp [Region.wanted, yielded, HA.tm, lookT, go_sem, p13]) (by cases ho; simp [execOp, go_sem, HA.tm, lookT, p13]) (by cases ho; exact fun d hd => by cases hd; exact List.mem_of_getElem? (i := 14) rfl) HJ
      · have p14 : done 14 = true := by cases ho; exact hdep ⟨14, .data⟩ (by simp) rfl
        have p13 : done 13 = true := hcl 14 _ rfl p14 ⟨13, .guard⟩ (by simp) rfl
        have hcl_ : ∀ k, WW.cell? ⟨pa, k, none⟩ = ([.int .u64 g, .int .i64 u, .slice (some ⟨xb, xo, none⟩) n ca])[k]? := by
          have HQ := HJ
          (try simp only [hd, cond_true, cond_false] at HQ) <;> first | exact (St.cells HQ 0).1 | exact (St.cells HQ 1).1 | exact (St.cells HQ 2).1 | exact (St.cells HQ 3).1 | exact (St.cells HQ 4).1 | exact (St.cells HQ 5).1 | exact (St.cells HQ 6).1 | exact (St.cells HQ 7).1
        exact valG (θ := _) (.slice (some ⟨xb, xo, none⟩) n ca) ho (by cases ho; simp [Region.wanted, yielded, HA.tm, lookT, go_sem, p13, p14]) (by cases ho; simp [execOp, go_sem, HA.tm, lookT, p13, p14, hcl_]) (by cases ho; exact fun d hd => by cases hd; exact List.mem_of_getElem? (i := 15) rfl) HJ
      · have p13 : done 13 = true := by cases ho; exact hdep ⟨13, .guard⟩ (by simp) rfl
        exact valG (θ := _) (.int .i64 (j : Int)) ho (by cases ho; simp [Region.wanted, yielded, HA.tm, lookT, go_sem, p13]) (by cases ho; simp [execOp, go_sem, HA.tm, lookT, p13]) (by cases ho; exact fun d hd => by cases hd; exact List.mem_of_getElem? (i := 16) rfl) HJ
      · have p15 : done 15 = true := by cases ho; exact hdep ⟨15, .data⟩ (by simp) rfl
        have p16 : done 16 = true := by cases ho; exact hdep ⟨16, .data⟩ (by simp) rfl
        have p14 : done 14 = true := hcl 15 _ rfl p15 ⟨14, .data⟩ (by simp) rfl
        have p13 : done 13 = true := hcl 14 _ rfl p14 ⟨13, .guard⟩ (by simp) rfl
        exact valG (θ := _) (.pointer (some ⟨xb, xo + j * 9, none⟩)) ho (by cases ho; simp [Region.wanted, yielded, HA.tm, lookT, go_sem, p13, p14, p15, p16, hjn2, hnj]) (by cases ho; simp [execOp, go_sem, HA.tm, lookT, p13, p14, p15, p16, hjn2, hnj]) (by cases ho; exact fun d hd => by cases hd; exact List.mem_of_getElem? (i := 17) rfl) HJ
      · have p17 : done 17 = true := by cases ho; exact hdep ⟨17, .data⟩ (by simp) rfl
        have p15 : done 15 = true := hcl 17 _ rfl p17 ⟨15, .data⟩ (by simp) rfl
        have p14 : done 14 = true := hcl 15 _ rfl p15 ⟨14, .data⟩ (by simp) rfl
        have p13 : done 13 = true := hcl 14 _ rfl p14 ⟨13, .guard⟩ (by simp) rfl
        exact valG (θ := _) (.pointer (some ⟨xb, xo + j * 9 + 3, none⟩)) ho (by cases ho; simp [Region.wanted, yielded, HA.tm, lookT, go_sem, p13, p14, p15, p17]) (by cases ho; simp [execOp, go_sem, HA.tm, lookT, p13, p14, p15, p17]) (by cases ho; exact fun d hd => by cases hd; exact List.mem_of_getElem? (i := 18) rfl) HJ
      · have p18 : done 18 = true := by cases ho; exact hdep ⟨18, .data⟩ (by simp) rfl
        have p17 : done 17 = true := hcl 18 _ rfl p18 ⟨17, .data⟩ (by simp) rfl
        have p15 : done 15 = true := hcl 17 _ rfl p17 ⟨15, .data⟩ (by simp) rfl
        have p14 : done 14 = true := hcl 15 _ rfl p15 ⟨14, .data⟩ (by simp) rfl
        have p13 : done 13 = true := hcl 14 _ rfl p14 ⟨13, .guard⟩ (by simp) rfl
        have HRg : WW.rangeAt xb (xo + j * 9 + 3) ([.int .i64 rk, .int .u32 rf, .int .u32 re, .int .u64 rs, .slice zx zk.length zc, .slice zy zv.length zd]) := by
          have HQ := HJ
          (try simp only [hd, cond_true, cond_false] at HQ) <;> exact HQ2.out _ _ HQ
        exact loadG (θ := _) (v := (.agg #[.int .i64 rk, .int .u32 rf, .int .u32 re, .int .u64 rs, .slice zx zk.length zc, .slice zy zv.length zd])) _ ((.tmp 52)) ho (by cases ho; simp [Region.wanted, yielded, HA.tm, lookT, go_sem, p13, p14, p15, p17, p18]) (by cases ho; rfl) (by simp [HA.ev, HA.tm, lookT, Act.eval, p13, p14, p15, p17, p18]) (bigRec0.load (rfl) HRg) (by cases ho; exact fun d hd => by cases hd; exact List.mem_of_getElem? (i := 19) rfl) HJ
      · have p13 : done 13 = true := by cases ho; exact hdep ⟨13, .guard⟩ (by simp) rfl
        exact valG (θ := _) (.pointer (some ⟨pb, 2, none⟩)) ho (by cases ho; simp [Region.wanted, yielded, HA.tm, lookT, go_sem, p13]) (by cases ho; simp [execOp, go_sem, HA.tm, lookT, p13]) (by cases ho; exact fun d hd => by cases hd; exact List.mem_of_getElem? (i := 20) rfl) HJ
      · have p20 : done 20 = true := by cases ho; exact hdep ⟨20, .data⟩ (by simp) rfl
        have p13 : done 13 = true := hcl 20 _ rfl p20 ⟨13, .guard⟩ (by simp) rfl
        have hcl_ : ∀ k, WW.cell? ⟨pb, k, none⟩ = ([.int .u64 g, .int .i64 u, .slice (some ⟨yb, yo, none⟩) n ca2])[k]? := by
          have HQ := HJ
          (try simp only [hd, cond_true, cond_false] at HQ) <;> first | exact (St.cells HQ 0).1 | exact (St.cells HQ 1).1 | exact (St.cells HQ 2).1 | exact (St.cells HQ 3).1 | exact (St.cells HQ 4).1 | exact (St.cells HQ 5).1 | exact (St.cells HQ 6).1 | exact (St.cells HQ 7).1
        exact valG (θ := _) (.slice (some ⟨yb, yo, none⟩) n ca2) ho (by cases ho; simp [Region.wanted, yielded, HA.tm, lookT, go_sem, p13, p20]) (by cases ho; simp [execOp, go_sem, HA.tm, lookT, p13, p20, hcl_]) (by cases ho; exact fun d hd => by cases hd; exact List.mem_of_getElem? (i := 21) rfl) HJ
      · have p13 : done 13 = true := by cases ho; exact hdep ⟨13, .guard⟩ (by simp) rfl
        exact valG (θ := _) (.int .i64 (j : Int)) ho (by cases ho; simp [Region.wanted, yielded, HA.tm, lookT, go_sem, p13]) (by cases ho; simp [execOp, go_sem, HA.tm, lookT, p13]) (by cases ho; exact fun d hd => by cases hd; exact List.mem_of_getElem? (i := 22) rfl) HJ
      · have p21 : done 21 = true := by cases ho; exact hdep ⟨21, .data⟩ (by simp) rfl
        have p22 : done 22 = true := by cases ho; exact hdep ⟨22, .data⟩ (by simp) rfl
        have p20 : done 20 = true := hcl 21 _ rfl p21 ⟨20, .data⟩ (by simp) rfl
        have p13 : done 13 = true := hcl 20 _ rfl p20 ⟨13, .guard⟩ (by simp) rfl
        exact valG (θ := _) (.pointer (some ⟨yb, yo + j * 9, none⟩)) ho (by cases ho; simp [Region.wanted, yielded, HA.tm, lookT, go_sem, p13, p20, p21, p22, hjn2, hnj]) (by cases ho; simp [execOp, go_sem, HA.tm, lookT, p13, p20, p21, p22, hjn2, hnj]) (by cases ho; exact fun d hd => by cases hd; exact List.mem_of_getElem? (i := 23) rfl) HJ
      · have p23 : done 23 = true := by cases ho; exact hdep ⟨23, .data⟩ (by simp) rfl
        have p21 : done 21 = true := hcl 23 _ rfl p23 ⟨21, .data⟩ (by simp) rfl
        have p20 : done 20 = true := hcl 21 _ rfl p21 ⟨20, .data⟩ (by simp) rfl
        have p13 : done 13 = true := hcl 20 _ rfl p20 ⟨13, .guard⟩ (by simp) rfl
        exact valG (θ := _) (.pointer (some ⟨yb, yo + j * 9 + 3, none⟩)) ho (by cases ho; simp [Region.wanted, yielded, HA.tm, lookT, go_sem, p13, p20, p21, p23]) (by cases ho; simp [execOp, go_sem, HA.tm, lookT, p13, p20, p21, p23]) (by cases ho; exact fun d hd => by cases hd; exact List.mem_of_getElem? (i := 24) rfl) HJ
      · have p24 : done 24 = true := by cases ho; exact hdep ⟨24, .data⟩ (by simp) rfl
        have p23 : done 23 = true := hcl 24 _ rfl p24 ⟨23, .data⟩ (by simp) rfl
        have p21 : done 21 = true := hcl 23 _ rfl p23 ⟨21, .data⟩ (by simp) rfl
        have p20 : done 20 = true := hcl 21 _ rfl p21 ⟨20, .data⟩ (by simp) rfl
        have p13 : done 13 = true := hcl 20 _ rfl p20 ⟨13, .guard⟩ (by simp) rfl
        have HRg : WW.rangeAt yb (yo + j * 9 + 3) ([.int .i64 rk, .int .u32 rf, .int .u32 re, .int .u64 rs, .slice yx zk.length yc, .slice yy zv.length yd]) := by
          have HQ := HJ
          (try simp only [hd, cond_true, cond_false] at HQ) <;> exact HQ4.out _ _ HQ
        exact loadG (θ := _) (v := (.agg #[.int .i64 rk, .int .u32 rf, .int .u32 re, .int .u64 rs, .slice yx zk.length yc, .slice yy zv.length yd])) _ ((.tmp 58)) ho (by cases ho; simp [Region.wanted, yielded, HA.tm, lookT, go_sem, p13, p20, p21, p23, p24]) (by cases ho; rfl) (by simp [HA.ev, HA.tm, lookT, Act.eval, p13, p20, p21, p23, p24]) (bigRec0.load (rfl) HRg) (by cases ho; exact fun d hd => by cases hd; exact List.mem_of_getElem? (i := 25) rfl) HJ
      · have p19 : done 19 = true := by cases ho; exact hdep ⟨19, .data⟩ (by simp) rfl
        have p25 : done 25 = true := by cases ho; exact hdep ⟨25, .data⟩ (by simp) rfl
        have p18 : done 18 = true := hcl 19 _ rfl p19 ⟨18, .data⟩ (by simp) rfl
        have p17 : done 17 = true := hcl 18 _ rfl p18 ⟨17, .data⟩ (by simp) rfl
        have p15 : done 15 = true := hcl 17 _ rfl p17 ⟨15, .data⟩ (by simp) rfl
        have p14 : done 14 = true := hcl 15 _ rfl p15 ⟨14, .data⟩ (by simp) rfl
        have p13 : done 13 = true := hcl 14 _ rfl p14 ⟨13, .guard⟩ (by simp) rfl
        exact callG (θ := _) (f := 23) (args := #[.agg #[.int .i64 rk, .int .u32 rf, .int .u32 re, .int .u64 rs, .slice zx zk.length zc, .slice zy zv.length zd], .agg #[.int .i64 rk, .int .u32 rf, .int .u32 re, .int .u64 rs, .slice yx zk.length yc, .slice yy zv.length yd]]) ho (by cases ho; simp [Region.wanted, yielded, HA.tm, lookT, go_sem, p13, p14, p15, p17, p18, p19, p25]) (by cases ho; simp [execOp, go_sem, HA.tm, lookT, p13, p14, p15, p17, p18, p19, p25]) (HSM.out.call (L := []) (M := [blkA pb [.int .u64 g, .int .i64 u, .slice (some ⟨yb, yo, none⟩) n ca2] 43, blkA pa [.int .u64 g, .int .i64 u, .slice (some ⟨xb, xo, none⟩) n ca] 43]) HJ (fun A hA => ⟨A, List.mem_append_left _ (HSH.out A hA), .refl _⟩)) (by
          rintro e w' ⟨_, _, rfl, ⟨rfl, rfl⟩, HS'⟩
          exact ⟨_, _, rfl, by cases ho; exact fun d hd => by cases hd; exact List.mem_of_getElem? (i := 26) rfl, .inl rfl, HS'⟩)
      · have p26 : done 26 = true := by cases ho; exact hdep ⟨26, .data⟩ (by simp) rfl
        have p19 : done 19 = true := hcl 26 _ rfl p26 ⟨19, .data⟩ (by simp) rfl
        have p18 : done 18 = true := hcl 19 _ rfl p19 ⟨18, .data⟩ (by simp) rfl
        have p17 : done 17 = true := hcl 18 _ rfl p18 ⟨17, .data⟩ (by simp) rfl
        have p15 : done 15 = true := hcl 17 _ rfl p17 ⟨15, .data⟩ (by simp) rfl
        have p14 : done 14 = true := hcl 15 _ rfl p15 ⟨14, .data⟩ (by simp) rfl
        have p13 : done 13 = true := hcl 14 _ rfl p14 ⟨13, .guard⟩ (by simp) rfl
        exact valG (θ := _) (.bool false) ho (by cases ho; simp [Region.wanted, yielded, HA.tm, lookT, go_sem, p13, p14, p15, p17, p18, p19, p26]) (by cases ho; simp [execOp, go_sem, HA.tm, lookT, p13, p14, p15, p17, p18, p19, p26]) (by cases ho; exact fun d hd => by cases hd; exact List.mem_of_getElem? (i := 27) rfl) HJ
      · have p13 : done 13 = true := by cases ho; exact hdep ⟨13, .data⟩ (by simp) rfl
        have p27 : done 27 = true := by cases ho; exact hdep ⟨27, .data⟩ (by simp) rfl
        exact valG (θ := _) (.bool false) ho (by cases ho; rfl) (by cases ho; simp [execOp, go_sem, HA.tm, lookT, p13, p27]) (by cases ho; exact fun d hd => by cases hd; exact List.mem_of_getElem? (i := 28) rfl) HJ
    · intro _ done WW hall HJ
      have HE : St w B [blkA pb [.int .u64 g, .int .i64 u, .slice (some ⟨yb, yo, none⟩) n ca2] 43, blkA pa [.int .u64 g, .int .i64 u, .slice (some ⟨xb, xo, none⟩) n ca] 43] S WW := St.cast (by simp []) HJ
      clear HJ hall 
      simp only [putAll, Act.put, List.setIfInBounds_toArray, List.set_cons_succ, List.set_cons_zero]
      go_wp2_with fail
      go_roundg (n - (j + 1))
      case measure => have := HJL.out; omega
      case rel =>
        exact ⟨j + 1, HJL.out, rfl, by simp, Lib.hid HE⟩
end Go.Proofs.YtjmocjcjiiopnaaGreat
end

section
set_option linter.unusedVariables false
set_option linter.unusedSimpArgs false
namespace Go.Proofs.YtjmocjcjiiopnaaGreat
open Go.RowKit Go.Ice Go.Oct Go.Dsk Go.Ring Go.Lg
section
variable {w0 : World} {B : Nat → Prop} {M S : List Asn} {w : World}
theorem plsA.open {v : Value} {i g : Nat} {l : List PlT} (h : St w0 B (plsA i g v l :: M) S w) : ∃ zs : List Pl, zs.map Pl.core = l ∧ St w0 B (ownA 122 9 v zs.length (zs.flatMap (plC i g)) :: (zs.flatMap plO ++ M)) S w := by
  obtain ⟨zs, h1⟩ := St.open_ (f := fun zs : List Pl => sepA [purA (zs.map Pl.core = l), ownA 122 9 v l.length (zs.flatMap (plC i g)), sepA (zs.flatMap plO)]) h
  have h2 := h1.flat
  obtain ⟨rfl, h3⟩ := St.pur h2
  rw [List.length_map] at h3
  exact ⟨zs, rfl, (St.flat (St.swap h3)).perm List.perm_middle⟩
theorem plsA.form {v : Value} {i g : Nat} {l : List PlT} (h : St w0 B (plsA i g v l :: M) S w) : ∃ a c, v = .slice a l.length c := by
  obtain ⟨zs, hz, h1⟩ := plsA.open h
  obtain ⟨a, c, hv, _⟩ := own_form (St.own h1 0)
  exact ⟨a, c, by rw [hv, ← hz, List.length_map]⟩
/-- Two scans of the same records. -/
theorem samescan2 {i g u : Nat} {va vb : Value} {l : List PlT} (h : St w0 B (plsA i g va l :: plsA i g vb l :: M) S w) : Calls Tryz.prog 13 #[.agg #[.int .u64 (g : Int), .int .i64 (u : Int), va], .agg #[.int .u64 (g : Int), .int .i64 (u : Int), vb]] w fun e w' => e = .returned (.bool true) ∧ St w0 B M S w' := by
  obtain ⟨zs, hz, h1⟩ := plsA.open h
  have h2 : St w0 B (plsA i g vb l :: (ownA 122 9 va zs.length (zs.flatMap (plC i g)) :: (zs.flatMap plO ++ M))) S w := h1.perm ((List.Perm.cons _ List.perm_middle).trans (List.Perm.swap _ _ _))
  obtain ⟨ys, hy, h3⟩ := plsA.open h2
  have hlen : ys.length = zs.length := by
    have := congrArg List.length (hy.trans hz.symm)
    rwa [List.length_map, List.length_map] at this
  rw [hlen] at h3
  refine ((samescan i g u va vb zs ys (hz.trans hy.symm)).call (L := []) h3 fun A hA => ?_).mono ?_
  · rcases List.mem_cons.1 hA with rfl | hA
    · exact ⟨ownA 122 9 va zs.length (zs.flatMap (plC i g)), by simp, own_imp_sl (by decide)⟩
    · rcases List.mem_cons.1 hA with rfl | hA
      · exact ⟨ownA 122 9 vb zs.length (ys.flatMap (plC i g)), by simp, own_imp_sl (by decide)⟩
      · rcases List.mem_append.1 hA with hA | hA
        · obtain ⟨z, hzm, hA⟩ := List.mem_flatMap.1 hA
          unfold plS at hA
          rcases List.mem_cons.1 hA with rfl | hA
          · exact ⟨ownA 5 1 (.slice z.x z.ka.length z.c) z.ka.length (z.ka.map u8v), List.mem_append_right _ (List.mem_cons_of_mem _ (List.mem_append_right _ (List.mem_cons_of_mem _ (List.mem_append_left _ (List.mem_flatMap.2 ⟨z, hzm, by simp [plO]⟩))))), own_imp_byt _ _⟩
          · rw [List.mem_singleton.1 hA]
            exact ⟨ownA 5 1 (.slice z.y z.va.length z.d) z.va.length (z.va.map u8v), List.mem_append_right _ (List.mem_cons_of_mem _ (List.mem_append_right _ (List.mem_cons_of_mem _ (List.mem_append_left _ (List.mem_flatMap.2 ⟨z, hzm, by simp [plO]⟩))))), own_imp_byt _ _⟩
        · obtain ⟨z, hzm, hA⟩ := List.mem_flatMap.1 hA
          unfold plS at hA
          rcases List.mem_cons.1 hA with rfl | hA
          · exact ⟨ownA 5 1 (.slice z.x z.ka.length z.c) z.ka.length (z.ka.map u8v), List.mem_append_right _ (List.mem_cons_of_mem _ (List.mem_append_left _ (List.mem_flatMap.2 ⟨z, hzm, by simp [plO]⟩))), own_imp_byt _ _⟩
          · rw [List.mem_singleton.1 hA]
            exact ⟨ownA 5 1 (.slice z.y z.va.length z.d) z.va.length (z.va.map u8v), List.mem_append_right _ (List.mem_cons_of_mem _ (List.mem_append_left _ (List.mem_flatMap.2 ⟨z, hzm, by simp [plO]⟩))), own_imp_byt _ _⟩
  · rintro e w' ⟨v, L', rfl, ⟨rfl, rfl⟩, h4⟩
    refine ⟨rfl, ?_⟩
    have h5 : St w0 B ((ownA 122 9 vb zs.length (ys.flatMap (plC i g)) :: (ys.flatMap plO ++ ownA 122 9 va zs.length (zs.flatMap (plC i g)) :: zs.flatMap plO)) ++ M) S w' := by
      simpa using h4
    exact (h5.perm List.perm_append_comm).left
end
end Go.Proofs.YtjmocjcjiiopnaaGreat
end
