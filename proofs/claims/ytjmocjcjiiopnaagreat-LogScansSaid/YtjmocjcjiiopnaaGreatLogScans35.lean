/- The document's Read of a sector. Conditions: it has 64 bytes. -/
import Derived.Test.YtjmocjcjiiopnaaGreatLogScans34
import Derived.Test.YtjmocjcjiiopnaaGreatLogScans08

section
set_option linter.unusedVariables false
set_option linter.unusedSimpArgs false
namespace Go.Ice
open Go.RowKit
theorem blk_byt_off {b o n cap : Nat} {xs : List UInt8} {ty : TypeId} (hn : o + n ≤ xs.length) (h1 : n ≤ cap) (h2 : cap ≤ maxLen) : (blkA b (xs.map u8v) ty).imp (bytA (.slice (some ⟨b, o, none⟩) n cap) ((xs.drop o).take n)) := fun F w h => by
  refine ⟨fun x => (xs.drop o).take n ≠ [] ∧ (Value.slice (some ⟨b, o, none⟩) n cap).ownBlock = some x, ⟨fun _ => Iff.rfl, ?_⟩, fun x hx => (h.1 x).2 (by have := hx.2; simp [Value.ownBlock] at this; exact this.symm)⟩
  have hl : ((xs.drop o).take n).length = n := by rw [List.length_take, List.length_drop]; omega
  have := isSl_mk (w := w) (cs := ((xs.drop o).take n).map u8v) (b := b) (off := o) (cap := cap) (by rw [List.length_map, hl]; exact h1) h2 (blk_lt h.2) (fun j hj => by
    rw [List.length_map, hl] at hj
    rw [blk_cell h.2, List.getElem?_toArray, List.getElem?_map, List.getElem?_map, List.getElem?_take, if_pos hj, List.getElem?_drop])
  rwa [List.length_map, hl] at this
end Go.Ice
namespace Go.Proofs.YtjmocjcjiiopnaaGreat
open Go.RowKit Go.Ice Go.Oct Go.Lg
theorem bigSt : Big Tryz.prog 113 3 := ⟨⟨_, Tryz.underlying113, rfl⟩, by kernel_rfl⟩
theorem allocSt_run (W : World) : (Instr.alloc 113 true (.tuple #[])).run Tryz.prog W = .ok (.pointer (some ⟨W.heap.size, 0, none⟩)) (W.alloc (.cells [.int .u64 0, .int .u32 0, .int .i64 0].toArray 113)) := by kernel_rfl
/-- What the document's Read tells. -/
def refQ (o : Option (Nat × Nat × List UInt8)) (v : Value) (L : List Asn) : Prop := match o with
  | some z => ∃ x c, v = .tuple #[.agg #[.int .u64 (z.1 : Int), .int .u32 (z.2.1 : Int), .int .i64 (z.2.2.length : Int)], .slice x z.2.2.length c, .bool true] ∧ L = [ownA 5 1 (.slice x z.2.2.length c) z.2.2.length (z.2.2.map u8v)]
  | none => v = .tuple #[.agg #[.int .u64 0, .int .u32 0, .int .i64 0], .slice none 0 0, .bool false] ∧ L = []
set_option maxHeartbeats 16000000 in
set_option maxRecDepth 20000 in
theorem rread (b : List UInt8) (hb : b.length = 64) : Meets Tryz.prog 46 #[blkV b] [] [] fun v L => refQ (readB b) v L := by
  intro w B H
  have hbl : (b.map u8v).length = 64 := by rw [List.length_map]; exact hb
  have H1 := (H.alloc (b.map u8v) 38).alloc [.int .u64 0, .int .u32 0, .int .i64 0] 113
  simp only [World.size_alloc] at H1
  obtain ⟨xb, hxb⟩ : ∃ xb, xb = w.heap.size := ⟨_, rfl⟩
  obtain ⟨rb, hrb⟩ : ∃ rb, rb = w.heap.size + 1 := ⟨_, rfl⟩
  rw [← hrb, ← hxb] at H1
  have hq0 : ∀ v L, (∀ z, readB b = z → refQ z v L) → refQ (readB b) v L := fun v L h => h _ rfl
  have hnone : readB b = none → ∀ z, z = readB b → z = none := fun h z e => by rw [e, h]
  have hgen : genB b < 18446744073709551616 := by
    have := numB_lt (b.take 8)
    unfold genB
    rw [show (b.take 8).length = 8 by rw [List.length_take]; omega] at this
    omega
  have hpos : posB b < 4294967296 := by
    have := numB_lt ((b.drop 8).take 4)
    unfold posB
    rw [show ((b.drop 8).take 4).length = 4 by rw [List.length_take, List.length_drop]; omega] at this
    omega
  have hfil : filB b < 65536 := by
    have := numB_lt ((b.drop 12).take 2)
    unfold filB
    rw [show ((b.drop 12).take 2).length = 2 by rw [List.length_take, List.length_drop]; omega] at this
    omega
  have hrd0 : genB b = 0 ∨ 48 < filB b → readB b = none := fun h => by
    unfold readB
    by_cases h1 : 48 < filB b
    · rw [if_pos (show 48 < numB ((b.drop 12).take 2) from h1)]
    · rw [if_neg (show ¬ 48 < numB ((b.drop 12).take 2) from h1), if_pos (show numB (b.take 8) = 0 from h.resolve_right h1)]
  have hrd1 := fun h1 h2 => readB_ref hb (show genB b ≠ 0 from h1) (show filB b ≤ 48 from h2)
  have l1 : (b.take 8).length = 8 := by rw [List.length_take]; omega
  have l2 : ((b.drop 8).take 4).length = 4 := by rw [List.length_take, List.length_drop]; omega
  have l3 : ((b.drop 12).take 2).length = 2 := by rw [List.length_take, List.length_drop]; omega
  have n1 := rnumber (some ⟨xb, 0, none⟩) 64 (b.take 8) (by omega)
  have n2 := rnumber (some ⟨xb, 8, none⟩) 56 ((b.drop 8).take 4) (by omega)
  have n3 := rnumber (some ⟨xb, 12, none⟩) 52 ((b.drop 12).take 2) (by omega)
  rw [l1] at n1
  rw [l2] at n2
  rw [l3] at n3
  have i1 : (blkA xb (b.map u8v) 38).imp (bytA (.slice (some ⟨xb, 0, none⟩) 8 64) (b.take 8)) := blk_byt_off (o := 0) (by omega) (by decide) (by decide)
  have i2 : (blkA xb (b.map u8v) 38).imp (bytA (.slice (some ⟨xb, 8, none⟩) 4 56) ((b.drop 8).take 4)) := blk_byt_off (by omega) (by decide) (by decide)
  have i3 : (blkA xb (b.map u8v) 38).imp (bytA (.slice (some ⟨xb, 12, none⟩) 2 52) ((b.drop 12).take 2)) := blk_byt_off (by omega) (by decide) (by decide)
  have i4 : filB b ≤ 48 → (blkA xb (b.map u8v) 38).imp (bytA (.slice (some ⟨xb, 16, none⟩) (filB b) 48) ((b.drop 16).take (filB b))) := fun h => blk_byt_off (by omega) h (by decide)
  have l4 : filB b ≤ 48 → ((b.drop 16).take (filB b)).length = filB b := fun h => by rw [List.length_take, List.length_drop]; omega
  change Meets _ _ _ _ _ (fun v L => v = .int .u64 (genB b : Int) ∧ L = []) at n1
  change Meets _ _ _ _ _ (fun v L => v = .int .u64 (posB b : Int) ∧ L = []) at n2
  change Meets _ _ _ _ _ (fun v L => v = .int .u64 (filB b : Int) ∧ L = []) at n3
  generalize genB b = g at *
  generalize posB b = p at *
  generalize filB b = f at *
  have HN1 := Lib.hid (And.intro n1 i1)
  have HN2 := Lib.hid (And.intro n2 i2)
  have HN3 := Lib.hid (And.intro n3 i3)
  have HI4' := Lib.hid i4
  have HL4 := Lib.hid l4
  have HR0 := Lib.hid hrd0
  have HR1 := Lib.hid hrd1
  have HB := Lib.hid hb
  have HBL := Lib.hid hbl
  have hp32 : IntKind.u32.wrap (p : Int) = p := by rw [IntKind.wrap_u32]; omega
  have hf64 : IntKind.i64.wrap (f : Int) = f := by rw [IntKind.wrap_i64]; omega
  clear n1 n2 n3 i1 i2 i3 i4 l1 l2 l3 l4 hrd0 hrd1 hq0 hnone hb hbl
  unfold blkV
  go_enter Tryz.func46, Tryz.ntmps46
  go_upto_region 1 with fail
  rw [← hrb, ← hxb]
  clear hrb hxb
  refine wp_world (fun W => St w B _ _ W) H1 ?_
  intro w1 H3
  clear H1 H
  refine wp_region_gh (Θ := Nat) (fun sx => [(0, 7, (.slice (some ⟨xb, 0, none⟩) 8 64)), (1, 8, (.int .u64 (g : Int))), (2, 9, (.slice (some ⟨xb, 8, none⟩) 4 56)), (3, 10, (.int .u64 (p : Int))), (4, 11, (.int .u32 (p : Int))), (5, 12, (.slice (some ⟨xb, 12, none⟩) 2 52)), (6, 13, (.int .u64 (f : Int))), (7, 14, (.int .i64 (f : Int))), (8, 15, (.agg #[.int .u64 (g : Int), .int .u32 (p : Int), .int .i64 (f : Int)])), (9, 5, (.pointer (some ⟨sx, 0, none⟩)))]) (fun sx done WW => St w B (bif done 10 then [blkA sx [.int .u64 (g : Int), .int .u32 (p : Int), .int .i64 (f : Int)] 113, blkA rb [.int .u64 0, .int .u32 0, .int .i64 0] 113, blkA xb (b.map u8v) 38] else ((bif done 9 then [blkA sx [.int .u64 0, .int .u32 0, .int .i64 0] 113] else []) ++ [blkA rb [.int .u64 0, .int .u32 0, .int .i64 0] 113, blkA xb (b.map u8v) 38])) [] WW) (by kernel_rfl) (hord_of2 (by kernel_rfl)) (fun _ => by kernel_rfl) (fun _ => by kernel_rfl) (fun _ => by kernel_rfl) ⟨0, (show St w B ([] ++ [blkA rb [.int .u64 0, .int .u32 0, .int .i64 0] 113, blkA xb (b.map u8v) 38]) [] _ from H3.drew)⟩ ?_ ?_
  · intro sx done zb WW j oq ho hd hdep hcl HA HJ
    have hj : j < 11 := (Array.getElem?_eq_some_iff.1 ho).1
    obtain rfl | rfl | rfl | rfl | rfl | rfl | rfl | rfl | rfl | rfl | rfl : j = 0 ∨ j = 1 ∨ j = 2 ∨ j = 3 ∨ j = 4 ∨ j = 5 ∨ j = 6 ∨ j = 7 ∨ j = 8 ∨ j = 9 ∨ j = 10 := by omega
    · exact valG (θ := sx) (.slice (some ⟨xb, 0, none⟩) 8 64) ho (by cases ho; rfl) (by cases ho; simp [execOp, go_sem, HA.tm, lookT]) (by cases ho; exact fun d hd => by cases hd; exact List.mem_of_getElem? (i := 0) rfl) HJ
    · have p0 : done 0 = true := by cases ho; exact hdep ⟨0, .data⟩ (by simp) rfl
      have n8 : done 8 = false := by cases hx : done 8 with | false => rfl | true => have := hcl 8 _ rfl hx ⟨1, .data⟩ (by simp) rfl; rw [hd] at this; cases this
      have n10 : done 10 = false := by cases hx : done 10 with | false => rfl | true => have := hcl 10 _ rfl hx ⟨8, .data⟩ (by simp) rfl; rw [n8] at this; cases this
      have HK := HJ
      simp only [n10, cond_false] at HK
      exact callG (θ := sx) (f := 91) (args := #[.slice (some ⟨xb, 0, none⟩) 8 64]) ho (by cases ho; rfl) (by cases ho; simp [execOp, go_sem, HA.tm, lookT, p0]) (HN1.out.1.call (L := []) (M := (bif done 9 then [blkA sx [.int .u64 0, .int .u32 0, .int .i64 0] 113] else []) ++ [blkA rb [.int .u64 0, .int .u32 0, .int .i64 0] 113, blkA xb (b.map u8v) 38]) HK (fun _ hA => ⟨blkA xb (b.map u8v) 38, List.mem_append_right _ (List.mem_append_right _ (by simp)), by cases List.mem_singleton.1 hA; exact HN1.out.2⟩)) (by
        rintro e w' ⟨_, _, rfl, ⟨rfl, rfl⟩, HS'⟩
        exact ⟨_, sx, rfl, by cases ho; exact fun d hd => by cases hd; exact List.mem_of_getElem? (i := 1) rfl, .inl rfl, St.cast (by simp [n10]) HS'⟩)
    · exact valG (θ := sx) (.slice (some ⟨xb, 8, none⟩) 4 56) ho (by cases ho; rfl) (by cases ho; simp [execOp, go_sem, HA.tm, lookT]) (by cases ho; exact fun d hd => by cases hd; exact List.mem_of_getElem? (i := 2) rfl) HJ
    · have p2 : done 2 = true := by cases ho; exact hdep ⟨2, .data⟩ (by simp) rfl
      have n4 : done 4 = false := by cases hx : done 4 with | false => rfl | true => have := hcl 4 _ rfl hx ⟨3, .data⟩ (by simp) rfl; rw [hd] at this; cases this
      have n8 : done 8 = false := by cases hx : done 8 with | false => rfl | true => have := hcl 8 _ rfl hx ⟨4, .data⟩ (by simp) rfl; rw [n4] at this; cases this
      have n10 : done 10 = false := by cases hx : done 10 with | false => rfl | true => have := hcl 10 _ rfl hx ⟨8, .data⟩ (by simp) rfl; rw [n8] at this; cases this
      have HK := HJ
      simp only [n10, cond_false] at HK
      exact callG (θ := sx) (f := 91) (args := #[.slice (some ⟨xb, 8, none⟩) 4 56]) ho (by cases ho; rfl) (by cases ho; simp [execOp, go_sem, HA.tm, lookT, p2]) (HN2.out.1.call (L := []) (M := (bif done 9 then [blkA sx [.int .u64 0, .int .u32 0, .int .i64 0] 113] else []) ++ [blkA rb [.int .u64 0, .int .u32 0, .int .i64 0] 113, blkA xb (b.map u8v) 38]) HK (fun _ hA => ⟨blkA xb (b.map u8v) 38, List.mem_append_right _ (List.mem_append_right _ (by simp)), by cases List.mem_singleton.1 hA; exact HN2.out.2⟩)) (by
        rintro e w' ⟨_, _, rfl, ⟨rfl, rfl⟩, HS'⟩
        exact ⟨_, sx, rfl, by cases ho; exact fun d hd => by cases hd; exact List.mem_of_getElem? (i := 3) rfl, .inl rfl, St.cast (by simp [n10]) HS'⟩)
    · have p3 : done 3 = true := by cases ho; exact hdep ⟨3, .data⟩ (by simp) rfl
      exact valG (θ := sx) (.int .u32 (p : Int)) ho (by cases ho; rfl) (by cases ho; simp [execOp, go_sem, HA.tm, lookT, p3, hp32]) (by cases ho; exact fun d hd => by cases hd; exact List.mem_of_getElem? (i := 4) rfl) HJ
    · exact valG (θ := sx) (.slice (some ⟨xb, 12, none⟩) 2 52) ho (by cases ho; rfl) (by cases ho; simp [execOp, go_sem, HA.tm, lookT]) (by cases ho; exact fun d hd => by cases hd; exact List.mem_of_getElem? (i := 5) rfl) HJ
    · have p5 : done 5 = true := by cases ho; exact hdep ⟨5, .data⟩ (by simp) rfl
      have n7 : done 7 = false := by cases hx : done 7 with | false => rfl | true => have := hcl 7 _ rfl hx ⟨6, .data⟩ (by simp) rfl; rw [hd] at this; cases this
      have n8 : done 8 = false := by cases hx : done 8 with | false => rfl | true => have := hcl 8 _ rfl hx ⟨7, .data⟩ (by simp) rfl; rw [n7] at this; cases this
      have n10 : done 10 = false := by cases hx : done 10 with | false => rfl | true => have := hcl 10 _ rfl hx ⟨8, .data⟩ (by simp) rfl; rw [n8] at this; cases this
      have HK := HJ
      simp only [n10, cond_false] at HK
      exact callG (θ := sx) (f := 91) (args := #[.slice (some ⟨xb, 12, none⟩) 2 52]) ho (by cases ho; rfl) (by cases ho; simp [execOp, go_sem, HA.tm, lookT, p5]) (HN3.out.1.call (L := []) (M := (bif done 9 then [blkA sx [.int .u64 0, .int .u32 0, .int .i64 0] 113] else []) ++ [blkA rb [.int .u64 0, .int .u32 0, .int .i64 0] 113, blkA xb (b.map u8v) 38]) HK (fun _ hA => ⟨blkA xb (b.map u8v) 38, List.mem_append_right _ (List.mem_append_right _ (by simp)), by cases List.mem_singleton.1 hA; exact HN3.out.2⟩)) (by
        rintro e w' ⟨_, _, rfl, ⟨rfl, rfl⟩, HS'⟩
        exact ⟨_, sx, rfl, by cases ho; exact fun d hd => by cases hd; exact List.mem_of_getElem? (i := 6) rfl, .inl rfl, St.cast (by simp [n10]) HS'⟩)
    · have p6 : done 6 = true := by cases ho; exact hdep ⟨6, .data⟩ (by simp) rfl
      exact valG (θ := sx) (.int .i64 (f : Int)) ho (by cases ho; rfl) (by cases ho; simp [execOp, go_sem, HA.tm, lookT, p6, hf64]) (by cases ho; exact fun d hd => by cases hd; exact List.mem_of_getElem? (i := 7) rfl) HJ
    · have p1 : done 1 = true := by cases ho; exact hdep ⟨1, .data⟩ (by simp) rfl
      have p4 : done 4 = true := by cases ho; exact hdep ⟨4, .data⟩ (by simp) rfl
      have p7 : done 7 = true := by cases ho; exact hdep ⟨7, .data⟩ (by simp) rfl
      exact valG (θ := sx) (.agg #[.int .u64 (g : Int), .int .u32 (p : Int), .int .i64 (f : Int)]) ho (by cases ho; rfl) (by cases ho; simp [execOp, go_sem, HA.tm, lookT, p1, p4, p7]) (by cases ho; exact fun d hd => by cases hd; exact List.mem_of_getElem? (i := 8) rfl) HJ
    · have n10 : done 10 = false := by cases hx : done 10 with | false => rfl | true => have := hcl 10 _ rfl hx ⟨9, .data⟩ (by simp) rfl; rw [hd] at this; cases this
      have HK := HJ
      simp only [hd, n10, cond_false, List.nil_append] at HK
      exact allocG (θ := sx) WW.heap.size _ ho (by cases ho; rfl) (by cases ho; rfl) (allocSt_run WW) (by cases ho; exact fun d hd => by cases hd; exact List.mem_of_getElem? (i := 9) rfl) (.inr (.cons (.inl rfl) (.cons (.inl rfl) (.cons (.inl rfl) (.cons (.inl rfl) (.cons (.inl rfl) (.cons (.inl rfl) (.cons (.inl rfl) (.cons (.inl rfl) (.cons (.inl rfl) (.cons (.inr ⟨rfl, hd⟩) (.nil)))))))))))) (St.cast (by simp [n10]) (HK.alloc [.int .u64 0, .int .u32 0, .int .i64 0] 113))
    · have p9 : done 9 = true := by cases ho; exact hdep ⟨9, .data⟩ (by simp) rfl
      have p8 : done 8 = true := by cases ho; exact hdep ⟨8, .data⟩ (by simp) rfl
      have HK := HJ
      simp only [p9, hd, cond_true, cond_false] at HK
      exact storeG (θ := sx) _ (.tmp 5) (.tmp 15) ho (by cases ho; rfl) (by cases ho; rfl) (by cases ho; rfl) (by simp [HA.ev, HA.tm, lookT, Act.eval, p8, p9]) (by first | (simp [HA.ev, HA.tm, lookT, Act.eval, p8, p9]; done) | (simp [HA.ev, HA.tm, lookT, Act.eval, p8, p9]; rfl)) (bigSt.store (show ([.int .u64 (g : Int), .int .u32 (p : Int), .int .i64 (f : Int)] : List Value).length = 3 from rfl) (St.there HK 0 3) (by simp [Value.oneCell'])) (St.cast (by simp) (St.setAllAt HK 0 (vs := [.int .u64 (g : Int), .int .u32 (p : Int), .int .i64 (f : Int)]) rfl rfl))
  · intro sx done WW hall HJ
    have z10 := hall 10 (by decide)
    have z9 := hall 9 (by decide)
    have HE : St w B [blkA sx [.int .u64 (g : Int), .int .u32 (p : Int), .int .i64 (f : Int)] 113, blkA rb [.int .u64 0, .int .u32 0, .int .i64 0] 113, blkA xb (b.map u8v) 38] [] WW := St.cast (by simp [z10, z9]) HJ
    clear HJ hall z10 z9
    simp only [putAll, Act.put, List.setIfInBounds_toArray, List.set_cons_succ, List.set_cons_zero]
    have H4 : St w B [blkA sx [.int .u64 (g : Int), .int .u32 (p : Int), .int .i64 (f : Int)] 113, blkA rb [.int .u64 0, .int .u32 0, .int .i64 0] 113, blkA xb (b.map u8v) 38] [] WW := HE
    clear HE H3
    have HZ0 := ((H4.set_ 1 0 (.int .u64 0)).set_ 1 1 (.int .u32 0)).set_ 1 2 (.int .i64 0)
    obtain ⟨hc, hf⟩ := St.cells H4 0
    obtain ⟨hc2, hf2⟩ := St.cells H4 1
    by_cases hg0 : g = 0
    · have hq1 : ((g : Int) == 0) = true := by simp; omega
      have HN := Lib.hid (HR0.out (.inl hg0))
      have HZ := HZ0
      clear hg0 HZ0
      go_wp2_with fail
      exact bodyPost_ret (results_ctt rfl rfl bigSt (St.range HZ 1)) rfl (Back.mk (L' := []) (by rw [HN.out]; exact ⟨rfl, rfl⟩) (St.pick HZ []))
    · have hq1 : ((g : Int) == 0) = false := by simp; omega
      by_cases hf0 : 48 < f
      · have hq2 : (f : Int) > 48 := by omega
        have HN := Lib.hid (HR0.out (.inr hf0))
        have HZ := HZ0
        clear hg0 HZ0 hf0
        go_wp2_with fail
        exact bodyPost_ret (results_ctt rfl rfl bigSt (St.range HZ 1)) rfl (Back.mk (L' := []) (by rw [HN.out]; exact ⟨rfl, rfl⟩) (St.pick HZ []))
      · have hq2 : ¬ (f : Int) > 48 := by omega
        have HRB := Lib.hid (HR1.out hg0 (by omega))
        have HFL := Lib.hid (HL4.out (by omega))
        have HI4 := Lib.hid (HI4'.out (by omega))
        have hf48 : f ≤ 48 := by omega
        clear hg0 hf0
        have hcb : ∀ j, j < 64 → (b.map u8v)[j]? = some (.int .u8 ((b.getD j 0).toNat : Int)) := fun j hj => by
          rw [List.getElem?_map, List.getD_eq_getElem?_getD, List.getElem?_eq_getElem (by rw [HB.out]; exact hj)]; rfl
        obtain ⟨BL, hbl⟩ : ∃ BL, BL = b.map u8v := ⟨_, rfl⟩
        rw [← hbl] at hcb H4 HZ0
        have h14 := hcb 14 (by decide)
        have h15 := hcb 15 (by decide)
        have HCB := Lib.hid hcb
        have HBLV := Lib.hid hbl
        clear hcb hbl
        obtain ⟨hc3, hf3⟩ := St.cells H4 2
        have hz : ∀ c : UInt8, c ≠ 0 → (((c.toNat : Int)) != 0) = true := fun c h => by
          have : c.toNat ≠ 0 := fun e => h (UInt8.toNat_inj.1 e)
          simp; omega
        have HNZ := Lib.hid hz
        clear hz
        by_cases e14 : b.getD 14 0 = 0
        · have hq3 : (((b.getD 14 0).toNat : Int) != 0) = false := by rw [e14]; rfl
          by_cases e15 : b.getD 15 0 = 0
          · have hq4 : (((b.getD 15 0).toNat : Int) != 0) = false := by rw [e15]; rfl
            have HE4 := Lib.hid (And.intro e14 e15)
            clear e14 e15
            generalize (b.getD 14 0).toNat = c14 at *
            generalize (b.getD 15 0).toNat = c15 at *
            go_wp2_with fail
            go_loopg [6] (64 - (16 + f)) (fun gg b6 wr => ∃ j : Nat, 16 + f ≤ j ∧ j ≤ 64 ∧ gg = 64 - j ∧ b6 = .int .i64 j ∧ Hid (∀ i, 16 + f ≤ i → i < j → b.getD i 0 = 0) ∧ Hid (St w B [blkA sx [.int .u64 (g : Int), .int .u32 (p : Int), .int .i64 (f : Int)] 113, blkA rb [.int .u64 0, .int .u32 0, .int .i64 0] 113, blkA xb BL 38] [] wr))
            case atStart => exact ⟨16 + f, Nat.le_refl _, by omega, rfl, by go_num, Lib.hid (fun i h1 h2 => by omega), Lib.hid H4⟩
            case round =>
            obtain ⟨j, hj1, hj, rfl, rfl, HAZ, HI⟩ := hrel
            clear H4 HZ0 hc hf hc2 hf2 hc3 hf3 h14 h15
            have H5 := HI.out
            by_cases hlt : j < 64
            · have hbj := HCB.out j hlt
              obtain ⟨hc3, hf3⟩ := St.cells H5 2
              obtain ⟨hc2, hf2⟩ := St.cells H5 1
              have j0 : (0 : Int) ≤ (j : Int) := by omega
              have j1 : (j : Int) < 64 := by omega
              by_cases ej : b.getD j 0 = 0
              · have hq5 : (((b.getD j 0).toNat : Int) != 0) = false := by rw [ej]; rfl
                have HAZ2 := Lib.hid (show ∀ i, 16 + f ≤ i → i < j + 1 → b.getD i 0 = 0 from fun i h1 h2 => by
                  rcases Nat.lt_succ_iff_lt_or_eq.1 h2 with h | rfl
                  · exact HAZ.out i h1 h
                  · exact ej)
                clear ej
                generalize (b.getD j 0).toNat = cj at *
                go_wp2_with fail
                go_roundg (64 - (j + 1))
                case measure => omega
                case rel => exact ⟨j + 1, by omega, by omega, rfl, by go_num, HAZ2, HI⟩
              · have hq5 := HNZ.out _ ej
                have HN := Lib.hid (show readB b = none from (HRB.out.resolve_left fun h => ej (h.1.2.2 j hj1 hlt)).2)
                have HZ := ((H5.set_ 1 0 (.int .u64 0)).set_ 1 1 (.int .u32 0)).set_ 1 2 (.int .i64 0)
                clear ej
                generalize (b.getD j 0).toNat = cj at *
                go_wp2_with fail
                exact bodyPost_ret (results_ctt rfl rfl bigSt (St.range HZ 1)) rfl (Back.mk (L' := []) (by rw [HN.out]; exact ⟨rfl, rfl⟩) (St.pick HZ []))
            · obtain rfl : j = 64 := by omega
              have hsome := (HRB.out.resolve_right fun h => h.1 ⟨HE4.out.1, HE4.out.2, HAZ.out⟩).2
              have HS := Lib.hid hsome
              clear hsome
              have H6 := H5
              rw [HBLV.out] at H6
              obtain ⟨hc, hf⟩ := St.cells H6 0
              go_upto_region 9 with fail
              have H8 : St w B [blkA sx [.int .u64 (g : Int), .int .u32 (p : Int), .int .i64 (f : Int)] 113, blkA rb [.int .u64 0, .int .u32 0, .int .i64 0] 113, blkA xb (b.map u8v) 38] [] wr := H6
              clear H5 H6 HI hc hf
              have hf16 : IntKind.i64.wrap (16 + (f : Int)) = 16 + (f : Int) := by rw [IntKind.wrap_i64]; omega
              have hf16a : (16 : Int) ≤ 16 + (f : Int) := by omega
              have hf16b : 16 + (f : Int) ≤ 64 := by omega
              have hf16c : (16 + (f : Int)).toNat - 16 = f := by omega
              refine wp_region_gh (Θ := Option Addr × Nat) (fun (x4, y4) => [(0, 47, (.agg #[.int .u64 (g : Int), .int .u32 (p : Int), .int .i64 (f : Int)])), (1, 48, (.pointer (some ⟨sx, 2, none⟩))), (2, 49, (.int .i64 (f : Int))), (3, 50, (.int .i64 (16 + (f : Int)))), (4, 51, (.slice (some ⟨xb, 16, none⟩) f 48)), (5, 52, (.slice x4 f y4)), (7, 3, (.slice x4 f y4)), (8, 4, (.bool true))]) (fun (x4, y4) done WW => St w B (bif done 6 then (ownA 5 1 (.slice x4 f y4) f (((b.drop 16).take f).map u8v) :: [blkA sx [.int .u64 (g : Int), .int .u32 (p : Int), .int .i64 (f : Int)] 113, blkA rb [.int .u64 (g : Int), .int .u32 (p : Int), .int .i64 (f : Int)] 113, blkA xb (b.map u8v) 38]) else (bif done 5 then (ownA 5 1 (.slice x4 f y4) f (((b.drop 16).take f).map u8v) :: [blkA sx [.int .u64 (g : Int), .int .u32 (p : Int), .int .i64 (f : Int)] 113, blkA rb [.int .u64 0, .int .u32 0, .int .i64 0] 113, blkA xb (b.map u8v) 38]) else ([blkA sx [.int .u64 (g : Int), .int .u32 (p : Int), .int .i64 (f : Int)] 113, blkA rb [.int .u64 0, .int .u32 0, .int .i64 0] 113, blkA xb (b.map u8v) 38]))) [] WW) (by kernel_rfl) (hord_of2 (by kernel_rfl)) (fun _ => by kernel_rfl) (fun _ => by kernel_rfl) (fun _ => by kernel_rfl) ⟨(none, 0), H8.drew⟩ ?_ ?_
              · intro (x4, y4) done zb WW j oq ho hd hdep hcl HA HJ
                have hj : j < 9 := (Array.getElem?_eq_some_iff.1 ho).1
                obtain rfl | rfl | rfl | rfl | rfl | rfl | rfl | rfl | rfl : j = 0 ∨ j = 1 ∨ j = 2 ∨ j = 3 ∨ j = 4 ∨ j = 5 ∨ j = 6 ∨ j = 7 ∨ j = 8 := by omega
                · have n6 : done 6 = false := by cases hx : done 6 with | false => rfl | true => have := hcl 6 _ rfl hx ⟨0, .data⟩ (by simp) rfl; rw [hd] at this; cases this
                  have HRg : WW.rangeAt sx (0) ([.int .u64 (g : Int), .int .u32 (p : Int), .int .i64 (f : Int)]) := by
                    have HQ := HJ
                    cases g5 : done 5 <;> (try simp only [n6, g5, hd, cond_true, cond_false] at HQ) <;> first | exact (St.range HQ 0) | exact (St.range HQ 1)
                  exact loadG (θ := (x4, y4)) (v := (.agg #[.int .u64 (g : Int), .int .u32 (p : Int), .int .i64 (f : Int)])) _ ((.tmp 5)) ho (by cases ho; rfl) (by cases ho; rfl) (by simp [HA.ev, HA.tm, lookT, Act.eval]) (bigSt.load (rfl) HRg) (by cases ho; exact fun d hd => by cases hd; exact List.mem_of_getElem? (i := 0) rfl) HJ
                · exact valG (θ := (x4, y4)) (.pointer (some ⟨sx, 2, none⟩)) ho (by cases ho; rfl) (by cases ho; simp [execOp, go_sem, HA.tm, lookT]) (by cases ho; exact fun d hd => by cases hd; exact List.mem_of_getElem? (i := 1) rfl) HJ
                · have p1 : done 1 = true := by cases ho; exact hdep ⟨1, .data⟩ (by simp) rfl
                  have n3 : done 3 = false := by cases hx : done 3 with | false => rfl | true => have := hcl 3 _ rfl hx ⟨2, .data⟩ (by simp) rfl; rw [hd] at this; cases this
                  have n4 : done 4 = false := by cases hx : done 4 with | false => rfl | true => have := hcl 4 _ rfl hx ⟨3, .data⟩ (by simp) rfl; rw [n3] at this; cases this
                  have n5 : done 5 = false := by cases hx : done 5 with | false => rfl | true => have := hcl 5 _ rfl hx ⟨4, .data⟩ (by simp) rfl; rw [n4] at this; cases this
                  have n6 : done 6 = false := by cases hx : done 6 with | false => rfl | true => have := hcl 6 _ rfl hx ⟨5, .chain⟩ (by simp) rfl; rw [n5] at this; cases this
                  have hcl_ : ∀ k, WW.cell? ⟨sx, k, none⟩ = ([.int .u64 (g : Int), .int .u32 (p : Int), .int .i64 (f : Int)])[k]? := by
                    have HQ := HJ
                    (try simp only [n5, n6, hd, cond_true, cond_false] at HQ) <;> first | exact (St.cells HQ 0).1 | exact (St.cells HQ 1).1 | exact (St.cells HQ 2).1 | exact (St.cells HQ 3).1 | exact (St.cells HQ 4).1 | exact (St.cells HQ 5).1 | exact (St.cells HQ 6).1 | exact (St.cells HQ 7).1
                  exact valG (θ := (x4, y4)) (.int .i64 (f : Int)) ho (by cases ho; rfl) (by cases ho; simp [execOp, go_sem, HA.tm, lookT, p1, hcl_]) (by cases ho; exact fun d hd => by cases hd; exact List.mem_of_getElem? (i := 2) rfl) HJ
                · have p2 : done 2 = true := by cases ho; exact hdep ⟨2, .data⟩ (by simp) rfl
                  exact valG (θ := (x4, y4)) (.int .i64 (16 + (f : Int))) ho (by cases ho; rfl) (by cases ho; simp [execOp, go_sem, HA.tm, lookT, p2, hf16]) (by cases ho; exact fun d hd => by cases hd; exact List.mem_of_getElem? (i := 3) rfl) HJ
                · have p3 : done 3 = true := by cases ho; exact hdep ⟨3, .data⟩ (by simp) rfl
                  exact valG (θ := (x4, y4)) (.slice (some ⟨xb, 16, none⟩) f 48) ho (by cases ho; rfl) (by cases ho; simp [execOp, go_sem, HA.tm, lookT, p3, hf16a, hf16b, hf16c]) (by cases ho; exact fun d hd => by cases hd; exact List.mem_of_getElem? (i := 4) rfl) HJ
                · have p4 : done 4 = true := by cases ho; exact hdep ⟨4, .data⟩ (by simp) rfl
                  have n6 : done 6 = false := by cases hx : done 6 with | false => rfl | true => have := hcl 6 _ rfl hx ⟨5, .chain⟩ (by simp) rfl; rw [hd] at this; cases this
                  have n7 : done 7 = false := by cases hx : done 7 with | false => rfl | true => have := hcl 7 _ rfl hx ⟨5, .data⟩ (by simp) rfl; rw [hd] at this; cases this
                  have HK : St w B [blkA sx [.int .u64 (g : Int), .int .u32 (p : Int), .int .i64 (f : Int)] 113, blkA rb [.int .u64 0, .int .u32 0, .int .i64 0] 113, blkA xb (b.map u8v) 38] [] WW := St.cast (by simp [hd, n6]) HJ
                  have HBO := rbothH (some ⟨xb, 16, none⟩) none f 0 48 0 ((b.drop 16).take f) [] HFL.out rfl (by omega) (by decide) HK ⟨blkA xb (b.map u8v) 38, List.mem_append_right _ (by simp), HI4.out⟩ ⟨blkA xb (b.map u8v) 38, List.mem_append_right _ (by simp), byt_nil_imp _⟩
                  exact callG (θ := (x4, y4)) (f := 92) (args := #[.slice (some ⟨xb, 16, none⟩) f 48, .slice none 0 0]) ho (by cases ho; rfl) (by cases ho; simp [execOp, go_sem, HA.tm, lookT, p4]) HBO (by
                    rintro e w' ⟨x4', y4', rfl, HS'⟩
                    have HS2 : St w B (ownA 5 1 (.slice x4' f y4') f (((b.drop 16).take f).map u8v) :: [blkA sx [.int .u64 (g : Int), .int .u32 (p : Int), .int .i64 (f : Int)] 113, blkA rb [.int .u64 0, .int .u32 0, .int .i64 0] 113, blkA xb (b.map u8v) 38]) [] w' := St.cast (by rw [List.append_nil]; rfl) HS'
                    exact ⟨_, (x4', y4'), rfl, by cases ho; exact fun d hd => by cases hd; exact List.mem_of_getElem? (i := 5) rfl, (.inr (.cons (.inl rfl) (.cons (.inl rfl) (.cons (.inl rfl) (.cons (.inl rfl) (.cons (.inl rfl) (.cons (.inr ⟨rfl, hd⟩) (.cons (.inr ⟨rfl, n7⟩) (.cons (.inl rfl) (.nil)))))))))), St.cast (by simp [n6]) HS2⟩)
                · have p0 : done 0 = true := by cases ho; exact hdep ⟨0, .data⟩ (by simp) rfl
                  have p5 : done 5 = true := by cases ho; exact hdep ⟨5, .chain⟩ (by simp) rfl
                  have n7 : done 7 = false := by cases hx : done 7 with | false => rfl | true => have := hcl 7 _ rfl hx ⟨6, .chain⟩ (by simp) rfl; rw [hd] at this; cases this
                  have HS : St w B (ownA 5 1 (.slice x4 f y4) f (((b.drop 16).take f).map u8v) :: [blkA sx [.int .u64 (g : Int), .int .u32 (p : Int), .int .i64 (f : Int)] 113, blkA rb [.int .u64 0, .int .u32 0, .int .i64 0] 113, blkA xb (b.map u8v) 38]) [] WW := St.cast (by simp only [p5, hd, cond_true, cond_false]) HJ
                  exact storeG (θ := (x4, y4)) _ ((.tmp 2)) ((.tmp 47)) ho (by cases ho; rfl) (by cases ho; rfl) (by cases ho; rfl) (by first | (simp [HA.ev, HA.tm, lookT, Act.eval, p0, p5]; done) | (simp [HA.ev, HA.tm, lookT, Act.eval, p0, p5]; rfl)) (by first | (simp [HA.ev, HA.tm, lookT, Act.eval, p0, p5]; done) | (simp [HA.ev, HA.tm, lookT, Act.eval, p0, p5]; rfl)) (bigSt.store (show ([.int .u64 (g : Int), .int .u32 (p : Int), .int .i64 (f : Int)] : List Value).length = 3 from rfl) (St.there HS 2 3) ((by simp [Value.oneCell']))) (St.cast (by simp [p5] <;> rfl) (St.setAllAt HS 2 (vs := [.int .u64 (g : Int), .int .u32 (p : Int), .int .i64 (f : Int)]) rfl rfl))
                · have p5 : done 5 = true := by cases ho; exact hdep ⟨5, .data⟩ (by simp) rfl
                  exact valG (θ := (x4, y4)) (.slice x4 f y4) ho (by cases ho; rfl) (by cases ho; simp [execOp, go_sem, HA.tm, lookT, p5]) (by cases ho; exact fun d hd => by cases hd; exact List.mem_of_getElem? (i := 6) rfl) HJ
                · exact valG (θ := (x4, y4)) (.bool true) ho (by cases ho; rfl) (by cases ho; simp [execOp, go_sem, HA.tm, lookT]) (by cases ho; exact fun d hd => by cases hd; exact List.mem_of_getElem? (i := 7) rfl) HJ
              · intro (x4, y4) done WW hall HJ
                have z5 := hall 5 (by decide)
                have z6 := hall 6 (by decide)
                have HE : St w B (ownA 5 1 (.slice x4 f y4) f (((b.drop 16).take f).map u8v) :: [blkA sx [.int .u64 (g : Int), .int .u32 (p : Int), .int .i64 (f : Int)] 113, blkA rb [.int .u64 (g : Int), .int .u32 (p : Int), .int .i64 (f : Int)] 113, blkA xb (b.map u8v) 38]) [] WW := St.cast (by simp [z5, z6]) HJ
                clear HJ hall z5 z6
                simp only [putAll, Act.put, List.setIfInBounds_toArray, List.set_cons_succ, List.set_cons_zero]
                go_wp2_with fail
                refine bodyPost_ret (results_ctt rfl rfl bigSt (St.range HE 2)) rfl (Back.mk ?_ (St.pick HE [0]))
                rw [HS.out]
                unfold refQ
                dsimp only
                rw [HFL.out]
                exact ⟨x4, y4, rfl, rfl⟩
          · have hq4 := HNZ.out _ e15
            have HN := Lib.hid (show readB b = none from (HRB.out.resolve_left fun h => e15 h.1.2.1).2)
            have HZ := HZ0
            clear e14 e15 HZ0
            generalize (b.getD 14 0).toNat = c14 at *
            generalize (b.getD 15 0).toNat = c15 at *
            go_wp2_with fail
            exact bodyPost_ret (results_ctt rfl rfl bigSt (St.range HZ 1)) rfl (Back.mk (L' := []) (by rw [HN.out]; exact ⟨rfl, rfl⟩) (St.pick HZ []))
        · have hq3 := HNZ.out _ e14
          have HN := Lib.hid (show readB b = none from (HRB.out.resolve_left fun h => e14 h.1.1).2)
          have HZ := HZ0
          clear e14 HZ0
          generalize (b.getD 14 0).toNat = c14 at *
          go_wp2_with fail
          exact bodyPost_ret (results_ctt rfl rfl bigSt (St.range HZ 1)) rfl (Back.mk (L' := []) (by rw [HN.out]; exact ⟨rfl, rfl⟩) (St.pick HZ []))
end Go.Proofs.YtjmocjcjiiopnaaGreat
end
