/- The log: a sector that is read. Conditions: places are small. -/
import Derived.Test.YtjmocjcjiiopnaaGreatLogScans20

section
set_option linter.unusedVariables false
set_option linter.unusedSimpArgs false
namespace Go.Lg
open Go.Ring Go.Dsk Go.Oct
/-- What is read of a sector: the disk, the payload, the block, whether it is of the generation and place, the error. -/
def secF (D : Dk) (base : Int) (most : Int) (gen i : Nat) : Dk × List UInt8 × List UInt8 × Bool × Nat :=
  if most ≤ i then (D, [], zB, false, 0) else if (D.read (base + i)).2.2 ≠ 0 then ((D.read (base + i)).1, [], (D.read (base + i)).2.1, false, (D.read (base + i)).2.2)
  else match readB (D.read (base + i)).2.1 with
  | none => ((D.read (base + i)).1, [], (D.read (base + i)).2.1, false, 0)
  | some x => ((D.read (base + i)).1, x.2.2, (D.read (base + i)).2.1, decide (x.1 = gen ∧ x.2.1 = i), 0)
end Go.Lg
namespace Go.Proofs.YtjmocjcjiiopnaaGreat
open Go.RowKit Go.Ice Go.Oct Go.Dsk Go.Ring Go.Lg
def rdgC (p : Nat) (base most : Int) (gen : Nat) : List Value := [.pointer (some ⟨p, 0, none⟩), .int .i64 base, .int .i64 most, .int .u64 gen]
theorem bigRdg : Big Tryz.prog 118 4 := ⟨⟨_, Tryz.underlying118, rfl⟩, by kernel_rfl⟩
theorem results_tctt {P : Program} {fn : Func} {tmps : Array Value} {w : World} {s1 s2 s3 s4 rb n : Nat} {ty : TypeId} {cs : List Value} (hr : fn.results = #[.tmp s1, .cell s2 ty, .tmp s3, .tmp s4]) (h1 : tmps.getD s2 undef = .pointer (some ⟨rb, 0, none⟩)) (T : Big P ty n) (hrg : w.rangeAt rb 0 cs) (hl : cs.length = n) : (results fn tmps).run P w = .ok (.tuple #[tmps.getD s1 undef, .agg cs.toArray, tmps.getD s3 undef, tmps.getD s4 undef]) w := by
  have h1' : tmps[s2]?.getD undef = .pointer (some ⟨rb, 0, none⟩) := by simpa using h1
  simp [results, hr, h1', asAddr, T.loadVar hl hrg]
/-- What reading a sector tells and leaves. -/
def secQ (p : Nat) (r : Dk × List UInt8 × List UInt8 × Bool × Nat) (v : Value) (L : List Asn) : Prop := ∃ a c, v = .tuple #[.slice a r.2.1.length c, blkV r.2.2.1, .bool r.2.2.2.1, .int .i64 r.2.2.2.2] ∧ L = [dskA p r.1, ownA 5 1 (.slice a r.2.1.length c) r.2.1.length (r.2.1.map u8v)]
theorem secQ.mk {p : Nat} {r : Dk × List UInt8 × List UInt8 × Bool × Nat} {D : Dk} {pl bl : List UInt8} {ok : Bool} {e : Nat} (h : r = (D, pl, bl, ok, e)) (a : Option Addr) (c : Nat) : secQ p r (.tuple #[.slice a pl.length c, blkV bl, .bool ok, .int .i64 e]) [dskA p D, ownA 5 1 (.slice a pl.length c) pl.length (pl.map u8v)] := by subst h; exact ⟨a, c, rfl, rfl⟩
set_option maxHeartbeats 16000000 in
set_option maxRecDepth 100000 in
theorem sector (p : Nat) (D : Dk) (base most : Int) (gen i : Nat) (hb : 0 ≤ base ∧ base ≤ 100000) (hi : i ≤ 100000) : Meets Tryz.prog 87 #[.agg (rdgC p base most gen).toArray, .int .i64 i] [dskA p D] [] fun v L => secQ p (secF D base most gen i) v L := by
  intro w B H
  have ok := dskA_ok H
  have HRD := dread p D (base + i)
  have la := Dk.read_len ok (base + i)
  have H1 := (H.alloc (rdgC p base most gen) 118).alloc zL64 38
  simp only [World.size_alloc] at H1
  obtain ⟨rb, hrb⟩ : ∃ rb, rb = w.heap.size + 1 := ⟨_, rfl⟩
  obtain ⟨xb, hxb⟩ : ∃ xb, xb = w.heap.size := ⟨_, rfl⟩
  rw [← hrb, ← hxb] at H1
  have hro : secF D base most gen i = if most ≤ i then (D, [], zB, false, 0) else if (D.read (base + i)).2.2 ≠ 0 then ((D.read (base + i)).1, [], (D.read (base + i)).2.1, false, (D.read (base + i)).2.2)
    else match readB (D.read (base + i)).2.1 with
    | none => ((D.read (base + i)).1, [], (D.read (base + i)).2.1, false, 0)
    | some x => ((D.read (base + i)).1, x.2.2, (D.read (base + i)).2.1, decide (x.1 = gen ∧ x.2.1 = i), 0) := rfl
  obtain ⟨r, hr⟩ : ∃ r, r = secF D base most gen i := ⟨_, rfl⟩
  rw [← hr] at hro ⊢
  clear hr ok
  unfold rdgC at H1 ⊢
  by_cases hm : most ≤ i
  · rw [if_pos hm] at hro
    have HQ := Lib.hid hro
    have e0 : decide ((i : Int) ≥ most) = true := decide_eq_true hm
    clear hro hm HRD la
    go_enter Tryz.func87, Tryz.ntmps87
    go_upto_region 1 with fail
    rw [← hrb, ← hxb]
    clear hrb hxb
    refine wp_world (fun W => St w B _ _ W) H1 ?_
    intro w1 H2
    clear H1
    obtain ⟨hc, hf⟩ := St.cells H2 1
    have HT : w1.there rb 0 64 := St.there H2 0 64
    go_upto_region 2 with fail
    go_step
    refine wpl_build rfl _ _ rfl (vals := #[]) (by simp) (build_zeroB w1) ?_
    simp only [Act.put, List.setIfInBounds_toArray, List.set_cons_succ, List.set_cons_zero]
    generalize hz : zL64 = zl at *
    have hz64 : zl.length = 64 := by rw [← hz]; rfl
    have hz1 : ∀ u ∈ zl, u.oneCell' = true := by rw [← hz]; exact zL_one
    have H5 := St.setAllAt H2 0 (vs := zl) rfl rfl
    clear hc hf
    go_wp2_with ((refine wpl_store rfl _ _ _ rfl rb 0 (by rfl) zl (by rfl) 64 hz64 HT bigBlock hz1 ?_); (refine wpl_world _ H5 ?_); intro w5 H6)
    have H7 := (H6.newNil 5 1)
    have e := secQ.mk (p := p) HQ.out none 0
    rw [show blkV zB = .agg zl.toArray by rw [← hz]; unfold blkV zB; rw [zeroBlock]] at e
    exact bodyPost_ret (results_tctt rfl rfl bigBlock (St.range H6 0) hz64) rfl (Back.mk e (St.pick H7 [3, 0]))
  · rw [if_neg hm] at hro
    have e0 : decide ((i : Int) ≥ most) = false := decide_eq_false (by omega)
    have hwb : IntKind.i64.wrap (base + (i : Int)) = base + (i : Int) := by rw [IntKind.wrap_i64]; omega
    generalize D.read (base + i) = r1 at *
    obtain ⟨D1, bl, e1⟩ := r1
    dsimp only at hro HRD la
    have HSR := stamp_read bl la
    obtain ⟨fb, hfb⟩ : ∃ fb, fb = bl.map u8v := ⟨_, rfl⟩
    have hfbl : fb.length = 64 := by rw [hfb, List.length_map, la]
    have hfb1 : ∀ u ∈ fb, u.oneCell' = true := by rw [hfb]; exact u8v_one _
    have HBL : Hid (blkV bl = .agg fb.toArray) := Lib.hid (by rw [hfb]; rfl)
    rw [HBL.out] at HRD HSR
    have HRO := Lib.hid hro
    have HRD := Lib.hid HRD
    have HLA := Lib.hid la
    clear hfb hm hro la
    go_enter Tryz.func87, Tryz.ntmps87
    go_upto_region 1 with fail
    rw [← hrb, ← hxb]
    clear hrb hxb
    refine wp_world (fun W => St w B _ _ W) H1 ?_
    intro w1 H2
    clear H1
    obtain ⟨hc, hf⟩ := St.cells H2 1
    go_wp2_with fail
    refine (HRD.out.call (L := [_]) (M := [_, _]) (St.pick H2 [2, 0, 1]) (by simp)).mono ?_
    rintro e w3 ⟨_, L, rfl, ⟨rfl, rfl⟩, H3⟩
    clear H2 hc hf hwb e0
    obtain ⟨bk, hbk⟩ : ∃ bk, bk = w3.heap.size := ⟨_, rfl⟩
    by_cases h1 : e1 = 0
    · subst h1
      have hro2 := HRO.out
      rw [if_neg (show ¬ ((0 : Nat) ≠ 0) by decide)] at hro2
      have HRO2 := Lib.hid hro2
      clear hro2 HRO
      go_wp2_with (first | ((refine wpl_store rfl _ _ _ rfl w3.heap.size 0 (by rfl) fb (by rfl) 64 hfbl (there_whole _ _ _ _ (by decide)) bigBlock hfb1 ?_); (refine wpl_world _ (H3.whole _ _ fb (by rw [hfbl]; rfl)) ?_); intro w4 H4; (have hrg := St.range H4 0)) | (refine wpl_load rfl _ _ rfl w3.heap.size 0 (by rfl) fb 64 hfbl hrg bigBlock ?_))
      rw [← hbk] at H4 ⊢
      clear hbk H3 hrg
      cases hrb : readB bl with
      | none =>
        have hro3 := HRO2.out
        rw [hrb] at hro3 HSR
        dsimp only at hro3 HSR
        have HQ := Lib.hid hro3
        clear hro3 HRO2 hrb
        unfold stV at HSR
        refine (HSR.call (L := []) (M := [_, _, _, _]) H4 (by simp)).mono ?_
        rintro e w5 ⟨_, L, rfl, ⟨rfl, rfl⟩, H5⟩
        have H6 := H5.alloc [.int .u64 0, .int .u32 0, .int .i64 0] 113
        obtain ⟨sb, hsb⟩ : ∃ sb, sb = w5.heap.size := ⟨_, rfl⟩
        rw [← hsb] at H6
        go_upto_region 7 with fail
        rw [← hsb]
        clear hsb
        refine wp_world (fun W => St w B _ _ W) H6 ?_
        clear H4 H5 H6 HSR
        intro w6 H7
        refine wp_region_gh (Θ := Unit) (fun _ => [(0, 37, (.slice none 0 0)), (1, 38, (.agg fb.toArray)), (2, 39, (.int .i64 150)), (3, 40, (.bool false)), (4, 41, (.bool false)), (5, 42, undef), (6, 43, undef), (7, 44, undef), (8, 45, undef), (9, 46, undef), (10, 47, (.bool false)), (11, 48, (.bool false)), (12, 49, undef), (13, 50, undef), (14, 51, undef), (15, 52, undef), (16, 53, undef), (17, 54, (.bool false)), (18, 4, (.slice none 0 0)), (20, 6, (.bool false)), (21, 7, (.int .i64 0))]) (fun _ done WW => St w B (bif done 19 then [blkA sb [.int .u64 0, .int .u32 0, .int .i64 0] 113, blkA bk fb 38, dskA p D1, blkA rb fb 38, blkA xb [.pointer (some ⟨p, 0, none⟩), .int .i64 base, .int .i64 most, .int .u64 gen] 118] else ([blkA sb [.int .u64 0, .int .u32 0, .int .i64 0] 113, blkA bk fb 38, dskA p D1, blkA rb zL64 38, blkA xb [.pointer (some ⟨p, 0, none⟩), .int .i64 base, .int .i64 most, .int .u64 gen] 118])) [] WW) (by kernel_rfl) (hord_of2 (by kernel_rfl)) (fun _ => by kernel_rfl) (fun _ => by kernel_rfl) (fun _ => by kernel_rfl) ⟨(), H7.drew⟩ ?_ ?_
        · intro _ done zb WW j oq ho hd hdep hcl HA HJ
          have hj : j < 22 := (Array.getElem?_eq_some_iff.1 ho).1
          obtain rfl | rfl | rfl | rfl | rfl | rfl | rfl | rfl | rfl | rfl | rfl | rfl | rfl | rfl | rfl | rfl | rfl | rfl | rfl | rfl | rfl | rfl : j = 0 ∨ j = 1 ∨ j = 2 ∨ j = 3 ∨ j = 4 ∨ j = 5 ∨ j = 6 ∨ j = 7 ∨ j = 8 ∨ j = 9 ∨ j = 10 ∨ j = 11 ∨ j = 12 ∨ j = 13 ∨ j = 14 ∨ j = 15 ∨ j = 16 ∨ j = 17 ∨ j = 18 ∨ j = 19 ∨ j = 20 ∨ j = 21 := by omega
          · exact valG (θ := _) (.slice none 0 0) ho (by cases ho; rfl) (by cases ho; simp [execOp, go_sem, HA.tm, lookT]) (by cases ho; exact fun d hd => by cases hd; simp) HJ
          · have n19 : done 19 = false := by cases hx : done 19 with | false => rfl | true => have := hcl 19 _ rfl hx ⟨1, .data⟩ (by simp) rfl; rw [hd] at this; cases this
            have HRg : WW.rangeAt bk (0) (fb) := by
              have HQ := HJ
              simp only [n19, hd, cond_true, cond_false] at HQ <;> exact St.range HQ 1
            exact loadG (θ := _) (v := (.agg fb.toArray)) _ ((.tmp 8)) ho (by cases ho; rfl) (by cases ho; rfl) (by simp [HA.ev, HA.tm, lookT, Act.eval]) (bigBlock.load (hfbl) HRg) (by cases ho; exact fun d hd => by cases hd; simp) HJ
          · exact valG (θ := _) (.int .i64 150) ho (by cases ho; rfl) (by cases ho; simp [execOp, go_sem, HA.tm, lookT]) (by cases ho; exact fun d hd => by cases hd; simp) HJ
          · have p2 : done 2 = true := by cases ho; exact hdep ⟨2, .data⟩ (by simp) rfl
            exact valG (θ := _) (.bool false) ho (by cases ho; rfl) (by cases ho; simp [execOp, go_sem, HA.tm, lookT, p2]) (by cases ho; exact fun d hd => by cases hd; simp) HJ
          · have p3 : done 3 = true := by cases ho; exact hdep ⟨3, .data⟩ (by simp) rfl
            exact valG (θ := _) (.bool false) ho (by cases ho; rfl) (by cases ho; simp [execOp, go_sem, HA.tm, lookT, p3]) (by cases ho; exact fun d hd => by cases hd; simp) HJ
          · have p4 : done 4 = true := by cases ho; exact hdep ⟨4, .guard⟩ (by simp) rfl
            exact passG (θ := _) ho (by cases ho; simp [Region.wanted, yielded, HA.tm, lookT, go_sem, p4]) (by cases ho; exact fun d hd => by cases hd; simp) HJ
          · have p5 : done 5 = true := by cases ho; exact hdep ⟨5, .data⟩ (by simp) rfl
            have p4 : done 4 = true := hcl 5 _ rfl p5 ⟨4, .guard⟩ (by simp) rfl
            have n9 : done 9 = false := by cases hx : done 9 with | false => rfl | true => have := hcl 9 _ rfl hx ⟨6, .data⟩ (by simp) rfl; rw [hd] at this; cases this
            have n10 : done 10 = false := by cases hx : done 10 with | false => rfl | true => have := hcl 10 _ rfl hx ⟨9, .data⟩ (by simp) rfl; rw [n9] at this; cases this
            have n11 : done 11 = false := by cases hx : done 11 with | false => rfl | true => have := hcl 11 _ rfl hx ⟨10, .data⟩ (by simp) rfl; rw [n10] at this; cases this
            have n18 : done 18 = false := by cases hx : done 18 with | false => rfl | true => have := hcl 18 _ rfl hx ⟨11, .chain⟩ (by simp) rfl; rw [n11] at this; cases this
            have n19 : done 19 = false := by cases hx : done 19 with | false => rfl | true => have := hcl 19 _ rfl hx ⟨18, .chain⟩ (by simp) rfl; rw [n18] at this; cases this
            exact passG (θ := _) ho (by cases ho; simp [Region.wanted, yielded, HA.tm, lookT, go_sem, p4, p5]) (by cases ho; exact fun d hd => by cases hd; simp) HJ
          · have p4 : done 4 = true := by cases ho; exact hdep ⟨4, .guard⟩ (by simp) rfl
            exact passG (θ := _) ho (by cases ho; simp [Region.wanted, yielded, HA.tm, lookT, go_sem, p4]) (by cases ho; exact fun d hd => by cases hd; simp) HJ
          · have p7 : done 7 = true := by cases ho; exact hdep ⟨7, .data⟩ (by simp) rfl
            have p4 : done 4 = true := hcl 7 _ rfl p7 ⟨4, .guard⟩ (by simp) rfl
            have n9 : done 9 = false := by cases hx : done 9 with | false => rfl | true => have := hcl 9 _ rfl hx ⟨8, .data⟩ (by simp) rfl; rw [hd] at this; cases this
            have n10 : done 10 = false := by cases hx : done 10 with | false => rfl | true => have := hcl 10 _ rfl hx ⟨9, .data⟩ (by simp) rfl; rw [n9] at this; cases this
            have n11 : done 11 = false := by cases hx : done 11 with | false => rfl | true => have := hcl 11 _ rfl hx ⟨10, .data⟩ (by simp) rfl; rw [n10] at this; cases this
            have n18 : done 18 = false := by cases hx : done 18 with | false => rfl | true => have := hcl 18 _ rfl hx ⟨11, .chain⟩ (by simp) rfl; rw [n11] at this; cases this
            have n19 : done 19 = false := by cases hx : done 19 with | false => rfl | true => have := hcl 19 _ rfl hx ⟨18, .chain⟩ (by simp) rfl; rw [n18] at this; cases this
            exact passG (θ := _) ho (by cases ho; simp [Region.wanted, yielded, HA.tm, lookT, go_sem, p4, p7]) (by cases ho; exact fun d hd => by cases hd; simp) HJ
          · have p6 : done 6 = true := by cases ho; exact hdep ⟨6, .data⟩ (by simp) rfl
            have p8 : done 8 = true := by cases ho; exact hdep ⟨8, .data⟩ (by simp) rfl
            have p5 : done 5 = true := hcl 6 _ rfl p6 ⟨5, .data⟩ (by simp) rfl
            have p4 : done 4 = true := hcl 5 _ rfl p5 ⟨4, .guard⟩ (by simp) rfl
            exact passG (θ := _) ho (by cases ho; simp [Region.wanted, yielded, HA.tm, lookT, go_sem, p4, p5, p6, p8]) (by cases ho; exact fun d hd => by cases hd; simp) HJ
          · have p4 : done 4 = true := by cases ho; exact hdep ⟨4, .data⟩ (by simp) rfl
            have p9 : done 9 = true := by cases ho; exact hdep ⟨9, .data⟩ (by simp) rfl
            exact valG (θ := _) (.bool false) ho (by cases ho; rfl) (by cases ho; simp [execOp, go_sem, HA.tm, lookT, p4, p9]) (by cases ho; exact fun d hd => by cases hd; simp) HJ
          · have p10 : done 10 = true := by cases ho; exact hdep ⟨10, .data⟩ (by simp) rfl
            exact valG (θ := _) (.bool false) ho (by cases ho; rfl) (by cases ho; simp [execOp, go_sem, HA.tm, lookT, p10]) (by cases ho; exact fun d hd => by cases hd; simp) HJ
          · have p11 : done 11 = true := by cases ho; exact hdep ⟨11, .guard⟩ (by simp) rfl
            exact passG (θ := _) ho (by cases ho; simp [Region.wanted, yielded, HA.tm, lookT, go_sem, p11]) (by cases ho; exact fun d hd => by cases hd; simp) HJ
          · have p12 : done 12 = true := by cases ho; exact hdep ⟨12, .data⟩ (by simp) rfl
            have p11 : done 11 = true := hcl 12 _ rfl p12 ⟨11, .guard⟩ (by simp) rfl
            exact passG (θ := _) ho (by cases ho; simp [Region.wanted, yielded, HA.tm, lookT, go_sem, p11, p12]) (by cases ho; exact fun d hd => by cases hd; simp) HJ
          · have p11 : done 11 = true := by cases ho; exact hdep ⟨11, .guard⟩ (by simp) rfl
            exact passG (θ := _) ho (by cases ho; simp [Region.wanted, yielded, HA.tm, lookT, go_sem, p11]) (by cases ho; exact fun d hd => by cases hd; simp) HJ
          · have p14 : done 14 = true := by cases ho; exact hdep ⟨14, .data⟩ (by simp) rfl
            have p11 : done 11 = true := hcl 14 _ rfl p14 ⟨11, .guard⟩ (by simp) rfl
            exact passG (θ := _) ho (by cases ho; simp [Region.wanted, yielded, HA.tm, lookT, go_sem, p11, p14]) (by cases ho; exact fun d hd => by cases hd; simp) HJ
          · have p13 : done 13 = true := by cases ho; exact hdep ⟨13, .data⟩ (by simp) rfl
            have p15 : done 15 = true := by cases ho; exact hdep ⟨15, .data⟩ (by simp) rfl
            have p12 : done 12 = true := hcl 13 _ rfl p13 ⟨12, .data⟩ (by simp) rfl
            have p11 : done 11 = true := hcl 12 _ rfl p12 ⟨11, .guard⟩ (by simp) rfl
            exact passG (θ := _) ho (by cases ho; simp [Region.wanted, yielded, HA.tm, lookT, go_sem, p11, p12, p13, p15]) (by cases ho; exact fun d hd => by cases hd; simp) HJ
          · have p11 : done 11 = true := by cases ho; exact hdep ⟨11, .data⟩ (by simp) rfl
            have p16 : done 16 = true := by cases ho; exact hdep ⟨16, .data⟩ (by simp) rfl
            exact valG (θ := _) (.bool false) ho (by cases ho; rfl) (by cases ho; simp [execOp, go_sem, HA.tm, lookT, p11, p16]) (by cases ho; exact fun d hd => by cases hd; simp) HJ
          · have p0 : done 0 = true := by cases ho; exact hdep ⟨0, .data⟩ (by simp) rfl
            exact valG (θ := _) (.slice none 0 0) ho (by cases ho; rfl) (by cases ho; simp [execOp, go_sem, HA.tm, lookT, p0]) (by cases ho; exact fun d hd => by cases hd; simp) HJ
          · have p1 : done 1 = true := by cases ho; exact hdep ⟨1, .data⟩ (by simp) rfl
            have HS : St w B [blkA sb [.int .u64 0, .int .u32 0, .int .i64 0] 113, blkA bk fb 38, dskA p D1, blkA rb zL64 38, blkA xb [.pointer (some ⟨p, 0, none⟩), .int .i64 base, .int .i64 most, .int .u64 gen] 118] [] WW := St.cast (by simp only [hd, cond_true, cond_false]) HJ
            exact storeG (θ := _) _ ((.tmp 5)) ((.tmp 38)) ho (by cases ho; rfl) (by cases ho; rfl) (by cases ho; rfl) (by first | (simp [HA.ev, HA.tm, lookT, Act.eval, p1]; done) | (simp [HA.ev, HA.tm, lookT, Act.eval, p1]; rfl)) (by first | (simp [HA.ev, HA.tm, lookT, Act.eval, p1]; done) | (simp [HA.ev, HA.tm, lookT, Act.eval, p1]; rfl)) (bigBlock.store (hfbl) (St.there HS 3 64) (hfb1)) (St.cast (by simp [] <;> rfl) (St.setAllAt HS 3 rfl (by rw [hfbl]; rfl)))
          · have p17 : done 17 = true := by cases ho; exact hdep ⟨17, .data⟩ (by simp) rfl
            exact valG (θ := _) (.bool false) ho (by cases ho; rfl) (by cases ho; simp [execOp, go_sem, HA.tm, lookT, p17]) (by cases ho; exact fun d hd => by cases hd; simp) HJ
          · exact valG (θ := _) (.int .i64 0) ho (by cases ho; rfl) (by cases ho; simp [execOp, go_sem, HA.tm, lookT]) (by cases ho; exact fun d hd => by cases hd; simp) HJ
        · intro _ done WW hall HJ
          have z19 := hall 19 (by decide)
          have HE : St w B [blkA sb [.int .u64 0, .int .u32 0, .int .i64 0] 113, blkA bk fb 38, dskA p D1, blkA rb fb 38, blkA xb [.pointer (some ⟨p, 0, none⟩), .int .i64 base, .int .i64 most, .int .u64 gen] 118] [] WW := St.cast (by simp [z19]) HJ
          clear HJ hall z19
          simp only [putAll, Act.put, List.setIfInBounds_toArray, List.set_cons_succ, List.set_cons_zero]
          have H8 := HE.newNil 5 1
          have e := secQ.mk (p := p) HQ.out none 0
          rw [HBL.out] at e
          go_wp2_with fail
          exact bodyPost_ret (results_tctt rfl rfl bigBlock (St.range HE 3) hfbl) rfl (Back.mk e (St.pick H8 [3, 0]))
      | some z =>
        obtain ⟨g', p', pl⟩ := z
        have hro3 := HRO2.out
        rw [hrb] at hro3 HSR
        dsimp only at hro3 HSR
        have HRO3 := Lib.hid hro3
        have hbd := readB_bound HLA.out hrb
        clear hro3 HRO2 hrb
        unfold stV at HSR
        refine (HSR.call (L := []) (M := [_, _, _, _]) H4 (by simp)).mono ?_
        rintro e w5 ⟨_, L, rfl, ⟨ap, cp, rfl, rfl⟩, H5⟩
        have H6 := H5.alloc [.int .u64 g', .int .u32 p', .int .i64 pl.length] 113
        obtain ⟨sb, hsb⟩ : ∃ sb, sb = w5.heap.size := ⟨_, rfl⟩
        rw [← hsb] at H6
        go_upto_region 7 with fail
        rw [← hsb]
        clear hsb
        refine wp_world (fun W => St w B _ _ W) H6 ?_
        clear H4 H5 H6 HSR
        intro w6 H7
        have hwi : IntKind.u32.wrap (i : Int) = (i : Int) := by simp [IntKind.wrap, IntKind.bits, IntKind.signed]; omega
        by_cases hg : g' = gen
        · have hqg : ((g' : Int) == (gen : Int)) = true := by simp; omega
          obtain ⟨qp, hqp⟩ : ∃ qp, qp = decide (p' = i) := ⟨_, rfl⟩
          have hq2 : ((p' : Int) == (i : Int)) = qp := by rw [hqp, Bool.eq_iff_iff]; simp; omega
          have HQ : Hid (r = (D1, pl, bl, qp, 0)) := Lib.hid (by rw [HRO3.out, hqp]; simp [hg])
          clear hg hqp HRO3
          refine wp_region_gh (Θ := Unit) (fun _ => [(0, 37, (.slice ap pl.length cp)), (1, 38, (.agg fb.toArray)), (2, 39, (.int .i64 0)), (3, 40, (.bool true)), (4, 41, (.bool true)), (5, 42, (.pointer (some ⟨sb, 0, none⟩))), (6, 43, (.int .u64 g')), (7, 44, (.pointer (some ⟨xb, 3, none⟩))), (8, 45, (.int .u64 gen)), (9, 46, (.bool true)), (10, 47, (.bool true)), (11, 48, (.bool true)), (12, 49, (.pointer (some ⟨sb, 1, none⟩))), (13, 50, (.int .u32 p')), (14, 51, (.int .i64 i)), (15, 52, (.int .u32 (i : Int))), (16, 53, (.bool qp)), (17, 54, (.bool qp)), (18, 4, (.slice ap pl.length cp)), (20, 6, (.bool qp)), (21, 7, (.int .i64 0))]) (fun _ done WW => St w B (bif done 19 then [blkA sb [.int .u64 g', .int .u32 p', .int .i64 pl.length] 113, ownA 5 1 (.slice ap pl.length cp) pl.length (pl.map u8v), blkA bk fb 38, dskA p D1, blkA rb fb 38, blkA xb [.pointer (some ⟨p, 0, none⟩), .int .i64 base, .int .i64 most, .int .u64 gen] 118] else ([blkA sb [.int .u64 g', .int .u32 p', .int .i64 pl.length] 113, ownA 5 1 (.slice ap pl.length cp) pl.length (pl.map u8v), blkA bk fb 38, dskA p D1, blkA rb zL64 38, blkA xb [.pointer (some ⟨p, 0, none⟩), .int .i64 base, .int .i64 most, .int .u64 gen] 118])) [] WW) (by kernel_rfl) (hord_of2 (by kernel_rfl)) (fun _ => by kernel_rfl) (fun _ => by kernel_rfl) (fun _ => by kernel_rfl) ⟨(), H7.drew⟩ ?_ ?_
          · intro _ done zb WW j oq ho hd hdep hcl HA HJ
            have hj : j < 22 := (Array.getElem?_eq_some_iff.1 ho).1
            obtain rfl | rfl | rfl | rfl | rfl | rfl | rfl | rfl | rfl | rfl | rfl | rfl | rfl | rfl | rfl | rfl | rfl | rfl | rfl | rfl | rfl | rfl : j = 0 ∨ j = 1 ∨ j = 2 ∨ j = 3 ∨ j = 4 ∨ j = 5 ∨ j = 6 ∨ j = 7 ∨ j = 8 ∨ j = 9 ∨ j = 10 ∨ j = 11 ∨ j = 12 ∨ j = 13 ∨ j = 14 ∨ j = 15 ∨ j = 16 ∨ j = 17 ∨ j = 18 ∨ j = 19 ∨ j = 20 ∨ j = 21 := by omega
            · exact valG (θ := _) (.slice ap pl.length cp) ho (by cases ho; rfl) (by cases ho; simp [execOp, go_sem, HA.tm, lookT]) (by cases ho; exact fun d hd => by cases hd; simp) HJ
            · have n19 : done 19 = false := by cases hx : done 19 with | false => rfl | true => have := hcl 19 _ rfl hx ⟨1, .data⟩ (by simp) rfl; rw [hd] at this; cases this
              have HRg : WW.rangeAt bk (0) (fb) := by
                have HQ := HJ
                simp only [n19, hd, cond_true, cond_false] at HQ <;> exact St.range HQ 2
              exact loadG (θ := _) (v := (.agg fb.toArray)) _ ((.tmp 8)) ho (by cases ho; rfl) (by cases ho; rfl) (by simp [HA.ev, HA.tm, lookT, Act.eval]) (bigBlock.load (hfbl) HRg) (by cases ho; exact fun d hd => by cases hd; simp) HJ
            · exact valG (θ := _) (.int .i64 0) ho (by cases ho; rfl) (by cases ho; simp [execOp, go_sem, HA.tm, lookT]) (by cases ho; exact fun d hd => by cases hd; simp) HJ
            · have p2 : done 2 = true := by cases ho; exact hdep ⟨2, .data⟩ (by simp) rfl
              exact valG (θ := _) (.bool true) ho (by cases ho; rfl) (by cases ho; simp [execOp, go_sem, HA.tm, lookT, p2]) (by cases ho; exact fun d hd => by cases hd; simp) HJ
            · have p3 : done 3 = true := by cases ho; exact hdep ⟨3, .data⟩ (by simp) rfl
              exact valG (θ := _) (.bool true) ho (by cases ho; rfl) (by cases ho; simp [execOp, go_sem, HA.tm, lookT, p3]) (by cases ho; exact fun d hd => by cases hd; simp) HJ
            · have p4 : done 4 = true := by cases ho; exact hdep ⟨4, .guard⟩ (by simp) rfl
              exact valG (θ := _) (.pointer (some ⟨sb, 0, none⟩)) ho (by cases ho; simp [Region.wanted, yielded, HA.tm, lookT, go_sem, p4]) (by cases ho; simp [execOp, go_sem, HA.tm, lookT, p4]) (by cases ho; exact fun d hd => by cases hd; simp) HJ
            · have p5 : done 5 = true := by cases ho; exact hdep ⟨5, .data⟩ (by simp) rfl
              have p4 : done 4 = true := hcl 5 _ rfl p5 ⟨4, .guard⟩ (by simp) rfl
              have n9 : done 9 = false := by cases hx : done 9 with | false => rfl | true => have := hcl 9 _ rfl hx ⟨6, .data⟩ (by simp) rfl; rw [hd] at this; cases this
              have n10 : done 10 = false := by cases hx : done 10 with | false => rfl | true => have := hcl 10 _ rfl hx ⟨9, .data⟩ (by simp) rfl; rw [n9] at this; cases this
              have n11 : done 11 = false := by cases hx : done 11 with | false => rfl | true => have := hcl 11 _ rfl hx ⟨10, .data⟩ (by simp) rfl; rw [n10] at this; cases this
              have n18 : done 18 = false := by cases hx : done 18 with | false => rfl | true => have := hcl 18 _ rfl hx ⟨11, .chain⟩ (by simp) rfl; rw [n11] at this; cases this
              have n19 : done 19 = false := by cases hx : done 19 with | false => rfl | true => have := hcl 19 _ rfl hx ⟨18, .chain⟩ (by simp) rfl; rw [n18] at this; cases this
              have hcl_ : ∀ k, WW.cell? ⟨sb, k, none⟩ = ([.int .u64 g', .int .u32 p', .int .i64 pl.length])[k]? := by
                have HQ := HJ
                simp only [n19, hd, cond_true, cond_false] at HQ <;> first | exact (St.cells HQ 0).1 | exact (St.cells HQ 1).1 | exact (St.cells HQ 2).1 | exact (St.cells HQ 3).1 | exact (St.cells HQ 4).1 | exact (St.cells HQ 5).1 | exact (St.cells HQ 6).1 | exact (St.cells HQ 7).1
              exact valG (θ := _) (.int .u64 g') ho (by cases ho; simp [Region.wanted, yielded, HA.tm, lookT, go_sem, p4, p5]) (by cases ho; simp [execOp, go_sem, HA.tm, lookT, p4, p5, hcl_]) (by cases ho; exact fun d hd => by cases hd; simp) HJ
            · have p4 : done 4 = true := by cases ho; exact hdep ⟨4, .guard⟩ (by simp) rfl
              exact valG (θ := _) (.pointer (some ⟨xb, 3, none⟩)) ho (by cases ho; simp [Region.wanted, yielded, HA.tm, lookT, go_sem, p4]) (by cases ho; simp [execOp, go_sem, HA.tm, lookT, p4]) (by cases ho; exact fun d hd => by cases hd; simp) HJ
            · have p7 : done 7 = true := by cases ho; exact hdep ⟨7, .data⟩ (by simp) rfl
              have p4 : done 4 = true := hcl 7 _ rfl p7 ⟨4, .guard⟩ (by simp) rfl
              have n9 : done 9 = false := by cases hx : done 9 with | false => rfl | true => have := hcl 9 _ rfl hx ⟨8, .data⟩ (by simp) rfl; rw [hd] at this; cases this
              have n10 : done 10 = false := by cases hx : done 10 with | false => rfl | true => have := hcl 10 _ rfl hx ⟨9, .data⟩ (by simp) rfl; rw [n9] at this; cases this
              have n11 : done 11 = false := by cases hx : done 11 with | false => rfl | true => have := hcl 11 _ rfl hx ⟨10, .data⟩ (by simp) rfl; rw [n10] at this; cases this
              have n18 : done 18 = false := by cases hx : done 18 with | false => rfl | true => have := hcl 18 _ rfl hx ⟨11, .chain⟩ (by simp) rfl; rw [n11] at this; cases this
              have n19 : done 19 = false := by cases hx : done 19 with | false => rfl | true => have := hcl 19 _ rfl hx ⟨18, .chain⟩ (by simp) rfl; rw [n18] at this; cases this
              have hcl_ : ∀ k, WW.cell? ⟨xb, k, none⟩ = ([.pointer (some ⟨p, 0, none⟩), .int .i64 base, .int .i64 most, .int .u64 gen])[k]? := by
                have HQ := HJ
                simp only [n19, hd, cond_true, cond_false] at HQ <;> first | exact (St.cells HQ 0).1 | exact (St.cells HQ 1).1 | exact (St.cells HQ 2).1 | exact (St.cells HQ 3).1 | exact (St.cells HQ 4).1 | exact (St.cells HQ 5).1 | exact (St.cells HQ 6).1 | exact (St.cells HQ 7).1
              exact valG (θ := _) (.int .u64 gen) ho (by cases ho; simp [Region.wanted, yielded, HA.tm, lookT, go_sem, p4, p7]) (by cases ho; simp [execOp, go_sem, HA.tm, lookT, p4, p7, hcl_]) (by cases ho; exact fun d hd => by cases hd; simp) HJ
            · have p6 : done 6 = true := by cases ho; exact hdep ⟨6, .data⟩ (by simp) rfl
              have p8 : done 8 = true := by cases ho; exact hdep ⟨8, .data⟩ (by simp) rfl
              have p5 : done 5 = true := hcl 6 _ rfl p6 ⟨5, .data⟩ (by simp) rfl
              have p4 : done 4 = true := hcl 5 _ rfl p5 ⟨4, .guard⟩ (by simp) rfl
              exact valG (θ := _) (.bool true) ho (by cases ho; simp [Region.wanted, yielded, HA.tm, lookT, go_sem, p4, p5, p6, p8, hqg]) (by cases ho; simp [execOp, go_sem, HA.tm, lookT, p4, p5, p6, p8, hqg]) (by cases ho; exact fun d hd => by cases hd; simp) HJ
            · have p4 : done 4 = true := by cases ho; exact hdep ⟨4, .data⟩ (by simp) rfl
              have p9 : done 9 = true := by cases ho; exact hdep ⟨9, .data⟩ (by simp) rfl
              exact valG (θ := _) (.bool true) ho (by cases ho; rfl) (by cases ho; simp [execOp, go_sem, HA.tm, lookT, p4, p9]) (by cases ho; exact fun d hd => by cases hd; simp) HJ
            · have p10 : done 10 = true := by cases ho; exact hdep ⟨10, .data⟩ (by simp) rfl
              exact valG (θ := _) (.bool true) ho (by cases ho; rfl) (by cases ho; simp [execOp, go_sem, HA.tm, lookT, p10]) (by cases ho; exact fun d hd => by cases hd; simp) HJ
            · have p11 : done 11 = true := by cases ho; exact hdep ⟨11, .guard⟩ (by simp) rfl
              exact valG (θ := _) (.pointer (some ⟨sb, 1, none⟩)) ho (by cases ho; simp [Region.wanted, yielded, HA.tm, lookT, go_sem, p11]) (by cases ho; simp [execOp, go_sem, HA.tm, lookT, p11]) (by cases ho; exact fun d hd => by cases hd; simp) HJ
            · have p12 : done 12 = true := by cases ho; exact hdep ⟨12, .data⟩ (by simp) rfl
              have p11 : done 11 = true := hcl 12 _ rfl p12 ⟨11, .guard⟩ (by simp) rfl
              have hcl_ : ∀ k, WW.cell? ⟨sb, k, none⟩ = ([.int .u64 g', .int .u32 p', .int .i64 pl.length])[k]? := by
                have HQ := HJ
                cases g19 : done 19 <;> simp only [g19, hd, cond_true, cond_false] at HQ <;> first | exact (St.cells HQ 0).1 | exact (St.cells HQ 1).1 | exact (St.cells HQ 2).1 | exact (St.cells HQ 3).1 | exact (St.cells HQ 4).1 | exact (St.cells HQ 5).1 | exact (St.cells HQ 6).1 | exact (St.cells HQ 7).1
              exact valG (θ := _) (.int .u32 p') ho (by cases ho; simp [Region.wanted, yielded, HA.tm, lookT, go_sem, p11, p12]) (by cases ho; simp [execOp, go_sem, HA.tm, lookT, p11, p12, hcl_]) (by cases ho; exact fun d hd => by cases hd; simp) HJ
            · have p11 : done 11 = true := by cases ho; exact hdep ⟨11, .guard⟩ (by simp) rfl
              exact valG (θ := _) (.int .i64 i) ho (by cases ho; simp [Region.wanted, yielded, HA.tm, lookT, go_sem, p11]) (by cases ho; simp [execOp, go_sem, HA.tm, lookT, p11]) (by cases ho; exact fun d hd => by cases hd; simp) HJ
            · have p14 : done 14 = true := by cases ho; exact hdep ⟨14, .data⟩ (by simp) rfl
              have p11 : done 11 = true := hcl 14 _ rfl p14 ⟨11, .guard⟩ (by simp) rfl
              exact valG (θ := _) (.int .u32 (i : Int)) ho (by cases ho; simp [Region.wanted, yielded, HA.tm, lookT, go_sem, p11, p14, hwi]) (by cases ho; simp [execOp, go_sem, HA.tm, lookT, p11, p14, hwi]) (by cases ho; exact fun d hd => by cases hd; simp) HJ
            · have p13 : done 13 = true := by cases ho; exact hdep ⟨13, .data⟩ (by simp) rfl
              have p15 : done 15 = true := by cases ho; exact hdep ⟨15, .data⟩ (by simp) rfl
              have p12 : done 12 = true := hcl 13 _ rfl p13 ⟨12, .data⟩ (by simp) rfl
              have p11 : done 11 = true := hcl 12 _ rfl p12 ⟨11, .guard⟩ (by simp) rfl
              exact valG (θ := _) (.bool qp) ho (by cases ho; simp [Region.wanted, yielded, HA.tm, lookT, go_sem, p11, p12, p13, p15, hq2]) (by cases ho; simp [execOp, go_sem, HA.tm, lookT, p11, p12, p13, p15, hq2]) (by cases ho; exact fun d hd => by cases hd; simp) HJ
            · have p11 : done 11 = true := by cases ho; exact hdep ⟨11, .data⟩ (by simp) rfl
              have p16 : done 16 = true := by cases ho; exact hdep ⟨16, .data⟩ (by simp) rfl
              exact valG (θ := _) (.bool qp) ho (by cases ho; rfl) (by cases ho; simp [execOp, go_sem, HA.tm, lookT, p11, p16]) (by cases ho; exact fun d hd => by cases hd; simp) HJ
            · have p0 : done 0 = true := by cases ho; exact hdep ⟨0, .data⟩ (by simp) rfl
              exact valG (θ := _) (.slice ap pl.length cp) ho (by cases ho; rfl) (by cases ho; simp [execOp, go_sem, HA.tm, lookT, p0]) (by cases ho; exact fun d hd => by cases hd; simp) HJ
            · have p1 : done 1 = true := by cases ho; exact hdep ⟨1, .data⟩ (by simp) rfl
              have HS : St w B [blkA sb [.int .u64 g', .int .u32 p', .int .i64 pl.length] 113, ownA 5 1 (.slice ap pl.length cp) pl.length (pl.map u8v), blkA bk fb 38, dskA p D1, blkA rb zL64 38, blkA xb [.pointer (some ⟨p, 0, none⟩), .int .i64 base, .int .i64 most, .int .u64 gen] 118] [] WW := St.cast (by simp only [hd, cond_true, cond_false]) HJ
              exact storeG (θ := _) _ ((.tmp 5)) ((.tmp 38)) ho (by cases ho; rfl) (by cases ho; rfl) (by cases ho; rfl) (by first | (simp [HA.ev, HA.tm, lookT, Act.eval, p1]; done) | (simp [HA.ev, HA.tm, lookT, Act.eval, p1]; rfl)) (by first | (simp [HA.ev, HA.tm, lookT, Act.eval, p1]; done) | (simp [HA.ev, HA.tm, lookT, Act.eval, p1]; rfl)) (bigBlock.store (hfbl) (St.there HS 4 64) (hfb1)) (St.cast (by simp [] <;> rfl) (St.setAllAt HS 4 rfl (by rw [hfbl]; rfl)))
            · have p17 : done 17 = true := by cases ho; exact hdep ⟨17, .data⟩ (by simp) rfl
              exact valG (θ := _) (.bool qp) ho (by cases ho; rfl) (by cases ho; simp [execOp, go_sem, HA.tm, lookT, p17]) (by cases ho; exact fun d hd => by cases hd; simp) HJ
            · exact valG (θ := _) (.int .i64 0) ho (by cases ho; rfl) (by cases ho; simp [execOp, go_sem, HA.tm, lookT]) (by cases ho; exact fun d hd => by cases hd; simp) HJ
          · intro _ done WW hall HJ
            have z19 := hall 19 (by decide)
            have HE : St w B [blkA sb [.int .u64 g', .int .u32 p', .int .i64 pl.length] 113, ownA 5 1 (.slice ap pl.length cp) pl.length (pl.map u8v), blkA bk fb 38, dskA p D1, blkA rb fb 38, blkA xb [.pointer (some ⟨p, 0, none⟩), .int .i64 base, .int .i64 most, .int .u64 gen] 118] [] WW := St.cast (by simp [z19]) HJ
            clear HJ hall z19
            simp only [putAll, Act.put, List.setIfInBounds_toArray, List.set_cons_succ, List.set_cons_zero]
            have H8 := HE
            have e := secQ.mk (p := p) HQ.out ap cp
            rw [HBL.out] at e
            go_wp2_with fail
            exact bodyPost_ret (results_tctt rfl rfl bigBlock (St.range HE 4) hfbl) rfl (Back.mk e (St.pick H8 [3, 1]))
        · have hqg : ((g' : Int) == (gen : Int)) = false := by simp; omega
          have HQ : Hid (r = (D1, pl, bl, false, 0)) := Lib.hid (by rw [HRO3.out]; simp [hg])
          clear hg HRO3
          refine wp_region_gh (Θ := Unit) (fun _ => [(0, 37, (.slice ap pl.length cp)), (1, 38, (.agg fb.toArray)), (2, 39, (.int .i64 0)), (3, 40, (.bool true)), (4, 41, (.bool true)), (5, 42, (.pointer (some ⟨sb, 0, none⟩))), (6, 43, (.int .u64 g')), (7, 44, (.pointer (some ⟨xb, 3, none⟩))), (8, 45, (.int .u64 gen)), (9, 46, (.bool false)), (10, 47, (.bool false)), (11, 48, (.bool false)), (12, 49, undef), (13, 50, undef), (14, 51, undef), (15, 52, undef), (16, 53, undef), (17, 54, (.bool false)), (18, 4, (.slice ap pl.length cp)), (20, 6, (.bool false)), (21, 7, (.int .i64 0))]) (fun _ done WW => St w B (bif done 19 then [blkA sb [.int .u64 g', .int .u32 p', .int .i64 pl.length] 113, ownA 5 1 (.slice ap pl.length cp) pl.length (pl.map u8v), blkA bk fb 38, dskA p D1, blkA rb fb 38, blkA xb [.pointer (some ⟨p, 0, none⟩), .int .i64 base, .int .i64 most, .int .u64 gen] 118] else ([blkA sb [.int .u64 g', .int .u32 p', .int .i64 pl.length] 113, ownA 5 1 (.slice ap pl.length cp) pl.length (pl.map u8v), blkA bk fb 38, dskA p D1, blkA rb zL64 38, blkA xb [.pointer (some ⟨p, 0, none⟩), .int .i64 base, .int .i64 most, .int .u64 gen] 118])) [] WW) (by kernel_rfl) (hord_of2 (by kernel_rfl)) (fun _ => by kernel_rfl) (fun _ => by kernel_rfl) (fun _ => by kernel_rfl) ⟨(), H7.drew⟩ ?_ ?_
          · intro _ done zb WW j oq ho hd hdep hcl HA HJ
            have hj : j < 22 := (Array.getElem?_eq_some_iff.1 ho).1
            obtain rfl | rfl | rfl | rfl | rfl | rfl | rfl | rfl | rfl | rfl | rfl | rfl | rfl | rfl | rfl | rfl | rfl | rfl | rfl | rfl | rfl | rfl : j = 0 ∨ j = 1 ∨ j = 2 ∨ j = 3 ∨ j = 4 ∨ j = 5 ∨ j = 6 ∨ j = 7 ∨ j = 8 ∨ j = 9 ∨ j = 10 ∨ j = 11 ∨ j = 12 ∨ j = 13 ∨ j = 14 ∨ j = 15 ∨ j = 16 ∨ j = 17 ∨ j = 18 ∨ j = 19 ∨ j = 20 ∨ j = 21 := by omega
            · exact valG (θ := _) (.slice ap pl.length cp) ho (by cases ho; rfl) (by cases ho; simp [execOp, go_sem, HA.tm, lookT]) (by cases ho; exact fun d hd => by cases hd; simp) HJ
            · have n19 : done 19 = false := by cases hx : done 19 with | false => rfl | true => have := hcl 19 _ rfl hx ⟨1, .data⟩ (by simp) rfl; rw [hd] at this; cases this
              have HRg : WW.rangeAt bk (0) (fb) := by
                have HQ := HJ
                simp only [n19, hd, cond_true, cond_false] at HQ <;> exact St.range HQ 2
              exact loadG (θ := _) (v := (.agg fb.toArray)) _ ((.tmp 8)) ho (by cases ho; rfl) (by cases ho; rfl) (by simp [HA.ev, HA.tm, lookT, Act.eval]) (bigBlock.load (hfbl) HRg) (by cases ho; exact fun d hd => by cases hd; simp) HJ
            · exact valG (θ := _) (.int .i64 0) ho (by cases ho; rfl) (by cases ho; simp [execOp, go_sem, HA.tm, lookT]) (by cases ho; exact fun d hd => by cases hd; simp) HJ
            · have p2 : done 2 = true := by cases ho; exact hdep ⟨2, .data⟩ (by simp) rfl
              exact valG (θ := _) (.bool true) ho (by cases ho; rfl) (by cases ho; simp [execOp, go_sem, HA.tm, lookT, p2]) (by cases ho; exact fun d hd => by cases hd; simp) HJ
            · have p3 : done 3 = true := by cases ho; exact hdep ⟨3, .data⟩ (by simp) rfl
              exact valG (θ := _) (.bool true) ho (by cases ho; rfl) (by cases ho; simp [execOp, go_sem, HA.tm, lookT, p3]) (by cases ho; exact fun d hd => by cases hd; simp) HJ
            · have p4 : done 4 = true := by cases ho; exact hdep ⟨4, .guard⟩ (by simp) rfl
              exact valG (θ := _) (.pointer (some ⟨sb, 0, none⟩)) ho (by cases ho; simp [Region.wanted, yielded, HA.tm, lookT, go_sem, p4]) (by cases ho; simp [execOp, go_sem, HA.tm, lookT, p4]) (by cases ho; exact fun d hd => by cases hd; simp) HJ
            · have p5 : done 5 = true := by cases ho; exact hdep ⟨5, .data⟩ (by simp) rfl
              have p4 : done 4 = true := hcl 5 _ rfl p5 ⟨4, .guard⟩ (by simp) rfl
              have n9 : done 9 = false := by cases hx : done 9 with | false => rfl | true => have := hcl 9 _ rfl hx ⟨6, .data⟩ (by simp) rfl; rw [hd] at this; cases this
              have n10 : done 10 = false := by cases hx : done 10 with | false => rfl | true => have := hcl 10 _ rfl hx ⟨9, .data⟩ (by simp) rfl; rw [n9] at this; cases this
              have n11 : done 11 = false := by cases hx : done 11 with | false => rfl | true => have := hcl 11 _ rfl hx ⟨10, .data⟩ (by simp) rfl; rw [n10] at this; cases this
              have n18 : done 18 = false := by cases hx : done 18 with | false => rfl | true => have := hcl 18 _ rfl hx ⟨11, .chain⟩ (by simp) rfl; rw [n11] at this; cases this
              have n19 : done 19 = false := by cases hx : done 19 with | false => rfl | true => have := hcl 19 _ rfl hx ⟨18, .chain⟩ (by simp) rfl; rw [n18] at this; cases this
              have hcl_ : ∀ k, WW.cell? ⟨sb, k, none⟩ = ([.int .u64 g', .int .u32 p', .int .i64 pl.length])[k]? := by
                have HQ := HJ
                simp only [n19, hd, cond_true, cond_false] at HQ <;> first | exact (St.cells HQ 0).1 | exact (St.cells HQ 1).1 | exact (St.cells HQ 2).1 | exact (St.cells HQ 3).1 | exact (St.cells HQ 4).1 | exact (St.cells HQ 5).1 | exact (St.cells HQ 6).1 | exact (St.cells HQ 7).1
              exact valG (θ := _) (.int .u64 g') ho (by cases ho; simp [Region.wanted, yielded, HA.tm, lookT, go_sem, p4, p5]) (by cases ho; simp [execOp, go_sem, HA.tm, lookT, p4, p5, hcl_]) (by cases ho; exact fun d hd => by cases hd; simp) HJ
            · have p4 : done 4 = true := by cases ho; exact hdep ⟨4, .guard⟩ (by simp) rfl
              exact valG (θ := _) (.pointer (some ⟨xb, 3, none⟩)) ho (by cases ho; simp [Region.wanted, yielded, HA.tm, lookT, go_sem, p4]) (by cases ho; simp [execOp, go_sem, HA.tm, lookT, p4]) (by cases ho; exact fun d hd => by cases hd; simp) HJ
            · have p7 : done 7 = true := by cases ho; exact hdep ⟨7, .data⟩ (by simp) rfl
              have p4 : done 4 = true := hcl 7 _ rfl p7 ⟨4, .guard⟩ (by simp) rfl
              have n9 : done 9 = false := by cases hx : done 9 with | false => rfl | true => have := hcl 9 _ rfl hx ⟨8, .data⟩ (by simp) rfl; rw [hd] at this; cases this
              have n10 : done 10 = false := by cases hx : done 10 with | false => rfl | true => have := hcl 10 _ rfl hx ⟨9, .data⟩ (by simp) rfl; rw [n9] at this; cases this
              have n11 : done 11 = false := by cases hx : done 11 with | false => rfl | true => have := hcl 11 _ rfl hx ⟨10, .data⟩ (by simp) rfl; rw [n10] at this; cases this
              have n18 : done 18 = false := by cases hx : done 18 with | false => rfl | true => have := hcl 18 _ rfl hx ⟨11, .chain⟩ (by simp) rfl; rw [n11] at this; cases this
              have n19 : done 19 = false := by cases hx : done 19 with | false => rfl | true => have := hcl 19 _ rfl hx ⟨18, .chain⟩ (by simp) rfl; rw [n18] at this; cases this
              have hcl_ : ∀ k, WW.cell? ⟨xb, k, none⟩ = ([.pointer (some ⟨p, 0, none⟩), .int .i64 base, .int .i64 most, .int .u64 gen])[k]? := by
                have HQ := HJ
                simp only [n19, hd, cond_true, cond_false] at HQ <;> first | exact (St.cells HQ 0).1 | exact (St.cells HQ 1).1 | exact (St.cells HQ 2).1 | exact (St.cells HQ 3).1 | exact (St.cells HQ 4).1 | exact (St.cells HQ 5).1 | exact (St.cells HQ 6).1 | exact (St.cells HQ 7).1
              exact valG (θ := _) (.int .u64 gen) ho (by cases ho; simp [Region.wanted, yielded, HA.tm, lookT, go_sem, p4, p7]) (by cases ho; simp [execOp, go_sem, HA.tm, lookT, p4, p7, hcl_]) (by cases ho; exact fun d hd => by cases hd; simp) HJ
            · have p6 : done 6 = true := by cases ho; exact hdep ⟨6, .data⟩ (by simp) rfl
              have p8 : done 8 = true := by cases ho; exact hdep ⟨8, .data⟩ (by simp) rfl
              have p5 : done 5 = true := hcl 6 _ rfl p6 ⟨5, .data⟩ (by simp) rfl
              have p4 : done 4 = true := hcl 5 _ rfl p5 ⟨4, .guard⟩ (by simp) rfl
              exact valG (θ := _) (.bool false) ho (by cases ho; simp [Region.wanted, yielded, HA.tm, lookT, go_sem, p4, p5, p6, p8, hqg]) (by cases ho; simp [execOp, go_sem, HA.tm, lookT, p4, p5, p6, p8, hqg]) (by cases ho; exact fun d hd => by cases hd; simp) HJ
            · have p4 : done 4 = true := by cases ho; exact hdep ⟨4, .data⟩ (by simp) rfl
              have p9 : done 9 = true := by cases ho; exact hdep ⟨9, .data⟩ (by simp) rfl
              exact valG (θ := _) (.bool false) ho (by cases ho; rfl) (by cases ho; simp [execOp, go_sem, HA.tm, lookT, p4, p9]) (by cases ho; exact fun d hd => by cases hd; simp) HJ
            · have p10 : done 10 = true := by cases ho; exact hdep ⟨10, .data⟩ (by simp) rfl
              exact valG (θ := _) (.bool false) ho (by cases ho; rfl) (by cases ho; simp [execOp, go_sem, HA.tm, lookT, p10]) (by cases ho; exact fun d hd => by cases hd; simp) HJ
            · have p11 : done 11 = true := by cases ho; exact hdep ⟨11, .guard⟩ (by simp) rfl
              exact passG (θ := _) ho (by cases ho; simp [Region.wanted, yielded, HA.tm, lookT, go_sem, p11]) (by cases ho; exact fun d hd => by cases hd; simp) HJ
            · have p12 : done 12 = true := by cases ho; exact hdep ⟨12, .data⟩ (by simp) rfl
              have p11 : done 11 = true := hcl 12 _ rfl p12 ⟨11, .guard⟩ (by simp) rfl
              exact passG (θ := _) ho (by cases ho; simp [Region.wanted, yielded, HA.tm, lookT, go_sem, p11, p12]) (by cases ho; exact fun d hd => by cases hd; simp) HJ
            · have p11 : done 11 = true := by cases ho; exact hdep ⟨11, .guard⟩ (by simp) rfl
              exact passG (θ := _) ho (by cases ho; simp [Region.wanted, yielded, HA.tm, lookT, go_sem, p11]) (by cases ho; exact fun d hd => by cases hd; simp) HJ
            · have p14 : done 14 = true := by cases ho; exact hdep ⟨14, .data⟩ (by simp) rfl
              have p11 : done 11 = true := hcl 14 _ rfl p14 ⟨11, .guard⟩ (by simp) rfl
              exact passG (θ := _) ho (by cases ho; simp [Region.wanted, yielded, HA.tm, lookT, go_sem, p11, p14]) (by cases ho; exact fun d hd => by cases hd; simp) HJ
            · have p13 : done 13 = true := by cases ho; exact hdep ⟨13, .data⟩ (by simp) rfl
              have p15 : done 15 = true := by cases ho; exact hdep ⟨15, .data⟩ (by simp) rfl
              have p12 : done 12 = true := hcl 13 _ rfl p13 ⟨12, .data⟩ (by simp) rfl
              have p11 : done 11 = true := hcl 12 _ rfl p12 ⟨11, .guard⟩ (by simp) rfl
              exact passG (θ := _) ho (by cases ho; simp [Region.wanted, yielded, HA.tm, lookT, go_sem, p11, p12, p13, p15]) (by cases ho; exact fun d hd => by cases hd; simp) HJ
            · have p11 : done 11 = true := by cases ho; exact hdep ⟨11, .data⟩ (by simp) rfl
              have p16 : done 16 = true := by cases ho; exact hdep ⟨16, .data⟩ (by simp) rfl
              exact valG (θ := _) (.bool false) ho (by cases ho; rfl) (by cases ho; simp [execOp, go_sem, HA.tm, lookT, p11, p16]) (by cases ho; exact fun d hd => by cases hd; simp) HJ
            · have p0 : done 0 = true := by cases ho; exact hdep ⟨0, .data⟩ (by simp) rfl
              exact valG (θ := _) (.slice ap pl.length cp) ho (by cases ho; rfl) (by cases ho; simp [execOp, go_sem, HA.tm, lookT, p0]) (by cases ho; exact fun d hd => by cases hd; simp) HJ
            · have p1 : done 1 = true := by cases ho; exact hdep ⟨1, .data⟩ (by simp) rfl
              have HS : St w B [blkA sb [.int .u64 g', .int .u32 p', .int .i64 pl.length] 113, ownA 5 1 (.slice ap pl.length cp) pl.length (pl.map u8v), blkA bk fb 38, dskA p D1, blkA rb zL64 38, blkA xb [.pointer (some ⟨p, 0, none⟩), .int .i64 base, .int .i64 most, .int .u64 gen] 118] [] WW := St.cast (by simp only [hd, cond_true, cond_false]) HJ
              exact storeG (θ := _) _ ((.tmp 5)) ((.tmp 38)) ho (by cases ho; rfl) (by cases ho; rfl) (by cases ho; rfl) (by first | (simp [HA.ev, HA.tm, lookT, Act.eval, p1]; done) | (simp [HA.ev, HA.tm, lookT, Act.eval, p1]; rfl)) (by first | (simp [HA.ev, HA.tm, lookT, Act.eval, p1]; done) | (simp [HA.ev, HA.tm, lookT, Act.eval, p1]; rfl)) (bigBlock.store (hfbl) (St.there HS 4 64) (hfb1)) (St.cast (by simp [] <;> rfl) (St.setAllAt HS 4 rfl (by rw [hfbl]; rfl)))
            · have p17 : done 17 = true := by cases ho; exact hdep ⟨17, .data⟩ (by simp) rfl
              exact valG (θ := _) (.bool false) ho (by cases ho; rfl) (by cases ho; simp [execOp, go_sem, HA.tm, lookT, p17]) (by cases ho; exact fun d hd => by cases hd; simp) HJ
            · exact valG (θ := _) (.int .i64 0) ho (by cases ho; rfl) (by cases ho; simp [execOp, go_sem, HA.tm, lookT]) (by cases ho; exact fun d hd => by cases hd; simp) HJ
          · intro _ done WW hall HJ
            have z19 := hall 19 (by decide)
            have HE : St w B [blkA sb [.int .u64 g', .int .u32 p', .int .i64 pl.length] 113, ownA 5 1 (.slice ap pl.length cp) pl.length (pl.map u8v), blkA bk fb 38, dskA p D1, blkA rb fb 38, blkA xb [.pointer (some ⟨p, 0, none⟩), .int .i64 base, .int .i64 most, .int .u64 gen] 118] [] WW := St.cast (by simp [z19]) HJ
            clear HJ hall z19
            simp only [putAll, Act.put, List.setIfInBounds_toArray, List.set_cons_succ, List.set_cons_zero]
            have H8 := HE
            have e := secQ.mk (p := p) HQ.out ap cp
            rw [HBL.out] at e
            go_wp2_with fail
            exact bodyPost_ret (results_tctt rfl rfl bigBlock (St.range HE 4) hfbl) rfl (Back.mk e (St.pick H8 [3, 1]))
    · have hne : ((e1 : Int) != 0) = true := by simp; omega
      have hro2 := HRO.out
      rw [if_pos h1] at hro2
      have HQ := Lib.hid hro2
      clear hro2 HRO h1
      go_upto_region 5 with ((refine wpl_store rfl _ _ _ rfl w3.heap.size 0 (by rfl) fb (by rfl) 64 hfbl (there_whole _ _ _ _ (by decide)) bigBlock hfb1 ?_); (refine wpl_world _ (H3.whole _ _ fb (by rw [hfbl]; rfl)) ?_); intro w4 H4)
      try dsimp only [Act.put]
      rw [← hbk] at H4 ⊢
      clear hbk H3 hne
      refine wp_region_gh (Θ := Unit) (fun _ => [(0, 29, (.agg fb.toArray)), (1, 30, (.int .i64 (e1 : Int))), (2, 4, (.slice none 0 0)), (4, 6, (.bool false)), (5, 7, (.int .i64 (e1 : Int)))]) (fun _ done WW => St w B (bif done 3 then [blkA bk fb 38, dskA p D1, blkA rb fb 38, blkA xb [.pointer (some ⟨p, 0, none⟩), .int .i64 base, .int .i64 most, .int .u64 gen] 118] else ([blkA bk fb 38, dskA p D1, blkA rb zL64 38, blkA xb [.pointer (some ⟨p, 0, none⟩), .int .i64 base, .int .i64 most, .int .u64 gen] 118])) [] WW) (by kernel_rfl) (hord_of2 (by kernel_rfl)) (fun _ => by kernel_rfl) (fun _ => by kernel_rfl) (fun _ => by kernel_rfl) ⟨(), H4.drew⟩ ?_ ?_
      · intro _ done zb WW j oq ho hd hdep hcl HA HJ
        have hj : j < 6 := (Array.getElem?_eq_some_iff.1 ho).1
        obtain rfl | rfl | rfl | rfl | rfl | rfl : j = 0 ∨ j = 1 ∨ j = 2 ∨ j = 3 ∨ j = 4 ∨ j = 5 := by omega
        · have n3 : done 3 = false := by cases hx : done 3 with | false => rfl | true => have := hcl 3 _ rfl hx ⟨0, .data⟩ (by simp) rfl; rw [hd] at this; cases this
          have HRg : WW.rangeAt bk (0) (fb) := by
            have HQ := HJ
            simp only [n3, hd, cond_true, cond_false] at HQ <;> exact St.range HQ 0
          exact loadG (θ := _) (v := (.agg fb.toArray)) _ ((.tmp 8)) ho (by cases ho; rfl) (by cases ho; rfl) (by simp [HA.ev, HA.tm, lookT, Act.eval]) (bigBlock.load (hfbl) HRg) (by cases ho; exact fun d hd => by cases hd; simp) HJ
        · exact valG (θ := _) (.int .i64 (e1 : Int)) ho (by cases ho; rfl) (by cases ho; simp [execOp, go_sem, HA.tm, lookT]) (by cases ho; exact fun d hd => by cases hd; simp) HJ
        · exact valG (θ := _) (.slice none 0 0) ho (by cases ho; rfl) (by cases ho; simp [execOp, go_sem, HA.tm, lookT]) (by cases ho; exact fun d hd => by cases hd; simp) HJ
        · have p0 : done 0 = true := by cases ho; exact hdep ⟨0, .data⟩ (by simp) rfl
          have HS : St w B [blkA bk fb 38, dskA p D1, blkA rb zL64 38, blkA xb [.pointer (some ⟨p, 0, none⟩), .int .i64 base, .int .i64 most, .int .u64 gen] 118] [] WW := St.cast (by simp only [hd, cond_true, cond_false]) HJ
          exact storeG (θ := _) _ ((.tmp 5)) ((.tmp 29)) ho (by cases ho; rfl) (by cases ho; rfl) (by cases ho; rfl) (by first | (simp [HA.ev, HA.tm, lookT, Act.eval, p0]; done) | (simp [HA.ev, HA.tm, lookT, Act.eval, p0]; rfl)) (by first | (simp [HA.ev, HA.tm, lookT, Act.eval, p0]; done) | (simp [HA.ev, HA.tm, lookT, Act.eval, p0]; rfl)) (bigBlock.store (hfbl) (St.there HS 2 64) (hfb1)) (St.cast (by simp [] <;> rfl) (St.setAllAt HS 2 rfl (by rw [hfbl]; rfl)))
        · exact valG (θ := _) (.bool false) ho (by cases ho; rfl) (by cases ho; simp [execOp, go_sem, HA.tm, lookT]) (by cases ho; exact fun d hd => by cases hd; simp) HJ
        · have p1 : done 1 = true := by cases ho; exact hdep ⟨1, .data⟩ (by simp) rfl
          exact valG (θ := _) (.int .i64 (e1 : Int)) ho (by cases ho; rfl) (by cases ho; simp [execOp, go_sem, HA.tm, lookT, p1]) (by cases ho; exact fun d hd => by cases hd; simp) HJ
      · intro _ done WW hall HJ
        have z3 := hall 3 (by decide)
        have HE : St w B [blkA bk fb 38, dskA p D1, blkA rb fb 38, blkA xb [.pointer (some ⟨p, 0, none⟩), .int .i64 base, .int .i64 most, .int .u64 gen] 118] [] WW := St.cast (by simp [z3]) HJ
        clear HJ hall z3
        simp only [putAll, Act.put, List.setIfInBounds_toArray, List.set_cons_succ, List.set_cons_zero]
        have H5 := HE.newNil 5 1
        have e := secQ.mk (p := p) HQ.out none 0
        rw [HBL.out] at e
        go_wp2_with fail
        exact bodyPost_ret (results_tctt rfl rfl bigBlock (St.range HE 2) hfbl) rfl (Back.mk e (St.pick H5 [2, 0]))
end Go.Proofs.YtjmocjcjiiopnaaGreat
end
