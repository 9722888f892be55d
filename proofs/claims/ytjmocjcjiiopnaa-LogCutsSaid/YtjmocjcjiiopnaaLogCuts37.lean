/- The law LogCuts, walked. Conditions: the numbers fit. -/
import Derived.Test.YtjmocjcjiiopnaaLogCuts36

section
set_option linter.unusedVariables false
set_option linter.unusedSimpArgs false
namespace Go.Proofs.Ytjmocjcjiiopnaa
open Go.RowKit Go.Ice Go.Oct Go.Dsk Go.Ring Go.Lg
/-- The greater of two. -/
theorem wpl_max {P : Program} {ops : Array Oper} {rest : List Oper} {dst : Option Nat} {ty : TypeId} {pos : String} {after : Array Edge} {a : Act} {w : World} {Q : Exit → Act → World → Prop} {ts : Array TypeId} {x y : Operand} {p q r : Int} (hx : a.eval x = .int .i64 p) (hy : a.eval y = .int .i64 q) (hr : (if q > p then q else p) = r) (hk : wpList P ops Q rest (a.put dst (.int .i64 r)) w) : wpList P ops Q ({ dst := dst, op := .call { callee := .builtin .max, args := #[x, y], argTypes := ts }, type := ty, pos := pos, after := after, guard := none } :: rest) a w :=
  wpList_plain rfl fun _ hK => by
    unfold Oper.wp execOp
    simp only [resolve, invoke, builtin, Sem.run_bind, Sem.run_pure, Result.andThen_ok, List.map_toArray, List.map_cons, List.map_nil, hx, hy, run_max_int2, hr]
    exact hK _ _ hk
/-- What was put, in the memory. -/
def putsA (pb : Nat) (PV : Nat → Value) (pl : Nat → List (AdT × RIn)) : List Asn := [blkA pb ((List.range 5).map PV) 28, sepA ((List.range 5).map fun k => ownA 40 9 (PV k) (pl k).length ((pl k).flatMap pinC))]
def sureA (sb : Nat) (sf : Nat → Nat) : Asn := blkA sb ((List.range 5).map fun k => .int .i64 (sf k)) 3
theorem elemBool : Elem Try.prog 52 4 1 1 (.bool false) :=
  ⟨Try.underlying52, by
    obtain ⟨i0, hi, hz0, hz1, hz2⟩ := info_parts (show (Try.prog.info? 4).map (fun i => (i.zero, i.size, i.bytes)) = some (some (.bool false), 1, 1) by kernel_rfl)
    exact ⟨i0, hi, hz0, hz1, hz2⟩, rfl, by decide⟩
theorem make_put (W : World) : (Instr.makeSlice 55 (.int .i64 5) (.int .i64 5)).run Try.prog W = .ok (.slice (some ⟨W.heap.size, 0, none⟩) 5 5) (W.alloc (.cells (((List.range 5).map fun _ => .slice none 0 0) : List Value).toArray 28)) := by kernel_rfl
theorem make_sure (W : World) : (Instr.makeSlice 56 (.int .i64 5) (.int .i64 5)).run Try.prog W = .ok (.slice (some ⟨W.heap.size, 0, none⟩) 5 5) (W.alloc (.cells (((List.range 5).map fun _ => .int .i64 0) : List Value).toArray 3)) := by kernel_rfl
set_option maxHeartbeats 32000000 in
set_option maxRecDepth 100000 in
theorem logCuts (l : List RIn) (a0 : Option Addr) (c0 : Nat) (hlen : l.length ≤ maxLen) (hfits : ∀ z ∈ l, z.rc.fits) (sy : List Bool) (sa : Option Addr) (sc : Nat) (at_ : Int) (hat : at_ ≤ 9223372036854775807) (fl : Bool) (keep : List Bool) (ka0 : Option Addr) (kc0 : Nat) (hkl : keep.length ≤ 140737488355328) :
    Meets Try.prog 4 #[.slice a0 l.length c0, .slice sa sy.length sc, .agg #[.int .i64 at_, .bool fl, .slice ka0 keep.length kc0]] [] (slA 6 (.slice a0 l.length c0) l.length (l.flatMap rinC) :: slA 1 (.slice sa sy.length sc) sy.length (sy.map .bool) :: slA 1 (.slice ka0 keep.length kc0) keep.length (keep.map .bool) :: rinS l) fun v L => v = .bool true ∧ L = [] := by
  intro w B H
  have hin : ∃ S, S = slA 6 (.slice a0 l.length c0) l.length (l.flatMap rinC) :: slA 1 (.slice sa sy.length sc) sy.length (sy.map .bool) :: slA 1 (.slice ka0 keep.length kc0) keep.length (keep.map .bool) :: rinS l := ⟨_, rfl⟩
  obtain ⟨S, hS⟩ := hin
  have hss : ∀ z ∈ l, bytA (.slice z.x z.ka.length z.c) z.ka ∈ S ∧ bytA (.slice z.y z.va.length z.d) z.va ∈ S := fun z hz => by
    have := rinS_mem hz
    rw [hS]
    simp [this.1, this.2]
  have hsl : slA 6 (.slice a0 l.length c0) l.length (l.flatMap rinC) ∈ S := by rw [hS]; simp
  have hsy : slA 1 (.slice sa sy.length sc) sy.length (sy.map .bool) ∈ S := by rw [hS]; simp
  have hkp : slA 1 (.slice ka0 keep.length kc0) keep.length (keep.map .bool) ∈ S := by rw [hS]; simp
  have hrn : ∀ A ∈ slA 6 (.slice a0 l.length c0) l.length (l.flatMap rinC) :: rinS l, A ∈ S := fun A hA => by
    rw [hS]
    rcases List.mem_cons.1 hA with rfl | hA
    · simp
    · simp [hA]
  rw [← hS] at H ⊢
  clear hS
  obtain ⟨n, hn⟩ : ∃ n, n = l.length := ⟨_, rfl⟩
  have hlen0 := hlen
  rw [← hn] at hsl hlen ⊢
  unfold maxLen at hlen
  have HSS := Lib.hid hss
  have HSL := Lib.hid hsl
  have HSY := Lib.hid hsy
  have HKP := Lib.hid hkp
  have HRN := Lib.hid hrn
  have HN := Lib.hid hn
  have HLE := Lib.hid hlen0
  have HFT := Lib.hid hfits
  clear hss hsl hsy hkp hrn hn hfits hlen0
  have HKL := Lib.hid hkl
  clear hkl
  have HW := wakes
  have HB := born 5 24 (by decide) (by decide)
  have H0 := H.alloc [.int .i64 at_, .bool fl, .slice ka0 keep.length kc0] 54
  obtain ⟨xc, hxc⟩ : ∃ xc, xc = w.heap.size := ⟨_, rfl⟩
  rw [← hxc] at H0
  go_enter Try.func4, Try.ntmps4
  go_upto_region 1 with fail
  rw [← hxc]
  clear hxc
  refine wp_world (fun W => St w B _ _ W) H0 ?_
  intro w0 H1
  clear H H0
  go_wp2_with fail
  refine (HW.call (L := []) (M := [_]) H1 (by simp)).mono ?_
  rintro e w1 ⟨_, L1, rfl, ⟨rfl, rfl⟩, H2⟩
  go_wp2_with fail
  refine (HB.call (L := []) (M := [_]) H2 (by simp)).mono ?_
  rintro e w2 ⟨_, L1, rfl, ⟨g, s, p, rfl, rfl⟩, H3⟩
  clear HB HW H1 H2
  obtain ⟨av, cv, H4⟩ := logA.open H3
  clear H3
  have H5 : St w B [dskA p (D0 5 24), blkA xc [.int .i64 at_, .bool fl, .slice ka0 keep.length kc0] 54, blkA g (logC s (x0 5 24).sec (.slice av (L0 5 24).segs.length cv) false) 76, blkA s (stoC (x0 5 24) 0 p) 119, segsA (.slice av (L0 5 24).segs.length cv) (L0 5 24).segs] S w2 := St.pick H4 [2, 4, 0, 1, 3]
  clear H4
  obtain ⟨hc, hf⟩ := St.cells H5 1
  go_upto_if 32 with fail
  go_cut [] from 31 to 44 (fun wr => ∃ D : Dk, D.ok ∧ D.safe = (D0 5 24).safe ∧ D.pend = [] ∧ Hid (St w B [dskA p D, blkA xc [.int .i64 at_, .bool fl, .slice ka0 keep.length kc0] 54, blkA g (logC s (x0 5 24).sec (.slice av (L0 5 24).segs.length cv) false) 76, blkA s (stoC (x0 5 24) 0 p) 119, segsA (.slice av (L0 5 24).segs.length cv) (L0 5 24).segs] S wr))
  case first =>
    have hd0 := (D0_at (n := 5) (sec := 24) (q := 2) (by decide) (by decide)).2
    have hok := hd0.1
    have hdd := hd0.2.1.dead
    have hp0 := hd0.2.2.2
    clear hd0
    have HAR := Lib.hid (fun n hn => arm_up p (D := D0 5 24) n hn hdd)
    have HFA := Lib.hid (fun n => fail_up p (D := D0 5 24) n hdd)
    have HOK := Lib.hid hok
    have HP0 := Lib.hid hp0
    clear hok hdd hp0
    cases fl
    · go_wp2_with fail
      all_goals
        refine ((HAR.out _ (by omega)).call (L := [_]) (M := [_, _, _, _]) H5 (by simp)).mono ?_
        rintro e w3 ⟨_, L1, rfl, ⟨rfl, rfl⟩, H6⟩
        go_wp2_with fail
        go_meet
        case rel =>
          refine ⟨_, ?_, ?_, ?_, Lib.hid H6⟩
          · exact ⟨HOK.out.s64, HOK.out.p64, HOK.out.len, HOK.out.plen, fun e => ⟨of_decide_eq_true e, by first | exact (by decide : (0 : Int) ≤ 9223372036854775807) | exact Int.le_trans (Int.le_of_lt (Int.emod_lt_of_pos at_ (by decide : (0 : Int) < 200))) (by decide)⟩, HOK.out.fails0⟩
          · exact rfl
          · exact HP0.out
    · go_wp2_with fail
      all_goals
        refine ((HFA.out _).call (L := [_]) (M := [_, _, _, _]) H5 (by simp)).mono ?_
        rintro e w3 ⟨_, L1, rfl, ⟨rfl, rfl⟩, H6⟩
        go_wp2_with fail
        go_meet
        case rel =>
          refine ⟨_, ?_, ?_, ?_, Lib.hid H6⟩
          · exact ⟨HOK.out.s64, HOK.out.p64, HOK.out.len, HOK.out.plen, HOK.out.left0, by dsimp only; split <;> omega⟩
          · exact rfl
          · exact HP0.out
  case rest =>
    obtain ⟨D, hok, hsafe, hpend, HI⟩ := hcut
    clear H5 hc hf
    have H5 := HI.out
    clear HI
    have HC0 := Lib.hid (CutI.born l hok hsafe hpend)
    clear hok hsafe hpend
    have HM1 := make_put
    have HM2 := make_sure
    have H6 := H5.alloc ((List.range 5).map fun _ => .slice none 0 0) 28
    obtain ⟨pb, hpb⟩ : ∃ pb, pb = wc.heap.size := ⟨_, rfl⟩
    rw [← hpb] at H6
    go_upto_region 10 with (first | (refine wpl_make rfl _ _ _ rfl rfl rfl (HM1 _) ?_) | fail)
    rw [← hpb]
    clear hpb
    refine wp_world (fun W => St w B _ _ W) H6 ?_
    intro w4 H7
    clear H5 H6
    have H8 := H7.alloc ((List.range 5).map fun _ => .int .i64 0) 3
    obtain ⟨sb, hsb⟩ : ∃ sb, sb = w4.heap.size := ⟨_, rfl⟩
    rw [← hsb] at H8
    go_upto_region 11 with (first | (refine wpl_make rfl _ _ _ rfl rfl rfl (HM2 _) ?_) | fail)
    rw [← hsb]
    clear hsb
    refine wp_world (fun W => St w B _ _ W) H8 ?_
    intro w5 H9
    clear H7 H8
    have H10 := St.newNil (St.newNil (St.newNil (St.newNil (St.newNil H9 40 9) 40 9) 40 9) 40 9) 40 9
    have H11 := St.bind (L := [_, _, _, _, _]) (M := [_, _, _, _, _, _, _]) H10
    have H12 : St w B ([logA g s p { L0 5 24 with D := D }, blkA xc [.int .i64 at_, .bool fl, .slice ka0 keep.length kc0] 54, sureA sb (fun _ => 0)] ++ putsA pb (fun _ => .slice none 0 0) (fun _ => [])) S w5 := St.pick (logA.close (L := { L0 5 24 with D := D }) (v := .slice av (L0 5 24).segs.length cv) (St.pick H11 [5, 6, 3, 7, 4, 1, 2, 0])) [0, 1, 2, 3, 4]
    clear H9 H10 H11 HM1 HM2
    go_upto_block 0 with fail
    go_cut [] from 47 to 107 (fun wr => ∃ (k : Nat) (L : Lg) (pl : Nat → List (AdT × RIn)) (sf : Nat → Nat) (PV : Nat → Value), Hid (CutI l k L pl sf) ∧ Hid (St w B ([logA g s p L, blkA xc [.int .i64 at_, .bool fl, .slice ka0 keep.length kc0] 54, sureA sb sf] ++ putsA pb PV pl) S wr))
    case first =>
      go_wp2_with fail
      go_loopg [49] n (fun gq b49 wr => ∃ (i : Nat) (L : Lg) (pl : Nat → List (AdT × RIn)) (sf : Nat → Nat) (PV : Nat → Value), i ≤ n ∧ i ≤ 40 ∧ gq = n - i ∧ b49 = .int .i64 i ∧ Hid (CutI l (2 * i) L pl sf) ∧ Hid (St w B ([logA g s p L, blkA xc [.int .i64 at_, .bool fl, .slice ka0 keep.length kc0] 54, sureA sb sf] ++ putsA pb PV pl) S wr))
      case atStart => exact ⟨0, _, _, _, _, Nat.zero_le _, Nat.zero_le _, rfl, rfl, HC0, Lib.hid H12⟩
      case round =>
        obtain ⟨i, L, pl, sf, PV, hi, hi40, rfl, rfl, HCT, HI⟩ := hrel
        clear H12 HC0
        have HI := HI.out
        by_cases hlt : i < n
        · obtain ⟨z, hz⟩ : ∃ z, l[i]? = some z := ⟨_, List.getElem?_eq_getElem (by rw [← HN.out]; exact hlt)⟩
          have HZ := Lib.hid (List.mem_of_getElem? hz)
          obtain ⟨F, hF⟩ := HI.getS HSL.out
          have hK : IsSlK wr 6 n (.slice a0 n c0) (l.flatMap rinC) := hF.2.2
          obtain ⟨b0, o0, cap, hv, _⟩ := hK.at (by omega)
          cases hv
          have HRX := rin_range hK (by omega) hz
          clear hF hK hz
          have HFZ := Lib.hid (HFT.out z HZ.out)
          have HSZ := Lib.hid (HSS.out z HZ.out)
          have i0 : (0 : Int) ≤ (i : Int) := by omega
          have i1 : (i : Int) < (n : Int) := by omega
          obtain ⟨z0, hz0⟩ : ∃ z0, z0 = z := ⟨_, rfl⟩
          obtain ⟨⟨rk, rf, re, rs⟩, ka, va, x, cx, y, cy⟩ := z
          unfold rinC at HRX
          dsimp only at HRX HSZ
          have HZ0 := Lib.hid hz0
          clear hz0
          have H5 := HI.alloc [.int .i64 rk, .int .u32 rf, .int .u32 re, .int .u64 rs, .slice x ka.length cx, .slice y va.length cy] 33
          obtain ⟨xr, hxr⟩ : ∃ xr, xr = wr.heap.size := ⟨_, rfl⟩
          rw [← hxr] at H5
          go_upto_region 14 with (first | (refine wpl_load rfl _ _ rfl b0 (o0 + i * 6) (by rfl) [.int .i64 rk, .int .u32 rf, .int .u32 re, .int .u64 rs, .slice x ka.length cx, .slice y va.length cy] 6 rfl HRX bigRec ?_) | fail)
          rw [← hxr]
          clear hxr
          refine wp_world (fun W => St w B _ _ W) H5 ?_
          intro w5 H6
          clear HI H5 HRX
          by_cases h40 : i = 40
          · have h40b : ((i : Int) == 40) = true := by simp; omega
            clear h40
            go_wp2_with fail
            go_meet
            case rel => exact ⟨_, L, pl, sf, PV, HCT, Lib.hid (St.tail H6)⟩
          · have h40b : ((i : Int) == 40) = false := by simp; omega
            have H40 := Lib.hid h40
            clear h40
            obtain ⟨hfit, hput, L', e, ai, ag, au, hae, hcase⟩ := HCT.out.step (by have := H40.out; omega) HZ.out HFZ.out
            rw [← HZ0.out] at hcase
            have HAP := append g s p L ⟨rk, rf, re, rs⟩ HFZ.out x y ka va cx cy hfit hput
            rw [hae] at HAP
            have HAP : Meets Try.prog 7 #[.pointer (some ⟨g, 0, none⟩), .agg #[.int .i64 rk, .int .u32 rf, .int .u32 re, .int .u64 rs, .slice x ka.length cx, .slice y va.length cy]] [logA g s p L] [bytA (.slice x ka.length cx) ka, bytA (.slice y va.length cy) va] (fun v M => v = .tuple #[.agg #[.int .i64 ai, .int .u64 ag, .int .i64 au], .int .i64 e] ∧ M = [logA g s p L']) := HAP
            have HAP := Lib.hid HAP
            have HCASE := Lib.hid hcase
            clear hfit hput hae hcase
            have hsh : ∀ A ∈ [bytA (.slice x ka.length cx) ka, bytA (.slice y va.length cy) va], A ∈ S := fun A hA => by
              rcases List.mem_cons.1 hA with rfl | hA
              · exact HSZ.out.1
              · cases List.mem_singleton.1 hA; exact HSZ.out.2
            have HSH := Lib.hid hsh
            clear hsh
            obtain ⟨hc, hf⟩ := St.cells H6 0
            go_wp2_with fail
            refine (HAP.out.call (L := [_]) (M := [_, _, _, _, _]) (St.pick H6 [1, 0, 2, 3, 4, 5]) (self_imp' HSH.out)).mono ?_
            rintro e' w6 ⟨_, M', rfl, ⟨rfl, rfl⟩, H7⟩
            clear H6 hc hf HAP
            have H8 := H7.alloc [.int .i64 ai, .int .u64 ag, .int .i64 au] 35
            obtain ⟨xa, hxa⟩ : ∃ xa, xa = w6.heap.size := ⟨_, rfl⟩
            rw [← hxa] at H8
            go_upto_region 16 with fail
            rw [← hxa]
            clear hxa
            refine wp_world (fun W => St w B _ _ W) H8 ?_
            intro w8 H9
            clear H7 H8
            go_upto_if 63 with fail
            go_cut [14] from 56 to 77 (fun s14 wr => ∃ (pl' : Nat → List (AdT × RIn)) (PV' : Nat → Value), Hid (CutI l (2 * i + 2) L' pl' sf) ∧ Hid (St w B ([logA g s p L', blkA xc [.int .i64 at_, .bool fl, .slice ka0 keep.length kc0] 54, sureA sb sf] ++ putsA pb PV' pl') S wr))
            case first =>
              rcases HCASE.out with ⟨he, hC⟩ | ⟨rfl, ha5, hC⟩
              · have hne : ((e : Int) == 0) = false := by simp; omega
                have HC := Lib.hid hC
                clear hC he
                go_wp2_with fail
                go_meet
                case rel => exact ⟨pl, PV, HC, Lib.hid (St.pick H9 [1, 3, 4, 5, 6])⟩
              · have HC := Lib.hid hC
                clear hC
                have H10 := sep_out (f := fun k => ownA 40 9 (PV k) (pl k).length ((pl k).flatMap pinC)) ha5 (St.pick H9 [6, 0, 1, 2, 3, 4, 5])
                obtain ⟨aj, cj, hpv, _⟩ := own_form (St.own H10 0)
                obtain ⟨PVL, hpvl⟩ : ∃ PVL, PVL = (List.range 5).map PV := ⟨_, rfl⟩
                have hpk : PVL[ai]? = some (.slice aj (pl ai).length cj) := by rw [hpvl, range_get PV ha5, hpv]
                have hpl40 : (pl ai).length ≤ 100 := by have := HCT.out.len ha5; omega
                obtain ⟨ow, how⟩ : ∃ ow, ow = sepA (((List.range 5).erase ai).map fun k => ownA 40 9 (PV k) (pl k).length ((pl k).flatMap pinC)) := ⟨_, rfl⟩
                have H11 : St w B [blkA xa [.int .i64 ai, .int .u64 ag, .int .i64 au] 35, blkA xr [.int .i64 rk, .int .u32 rf, .int .u32 re, .int .u64 rs, .slice x ka.length cx, .slice y va.length cy] 33, blkA pb PVL 28, ownA 40 9 (.slice aj (pl ai).length cj) (pl ai).length ((pl ai).flatMap pinC), ow, logA g s p L', blkA xc [.int .i64 at_, .bool fl, .slice ka0 keep.length kc0] 54, sureA sb sf] S w8 := by
                  have := St.pick H10 [2, 4, 7, 0, 1, 3, 5, 6]
                  rw [hpvl, how, ← hpv]
                  exact this
                clear H9 H10
                have HPVL := Lib.hid hpvl
                have HPV := Lib.hid hpv
                have HOW := Lib.hid how
                clear hpvl hpv how
                have ha0 : (0 : Int) ≤ (ai : Int) := by omega
                have ha1 : (ai : Int) < 5 := by omega
                go_wp2_with fail
                refine wp_region_gh (Θ := Nat × Option Addr × Nat) (fun (ab, a2, c2) => [(0, 64, (.slice (some ⟨pb, 0, none⟩) 5 5)), (1, 65, (.pointer (some ⟨xa, 0, none⟩))), (2, 66, (.int .i64 ai)), (3, 67, (.slice (some ⟨pb, 0, none⟩) 5 5)), (4, 68, (.pointer (some ⟨xa, 0, none⟩))), (5, 69, (.int .i64 ai)), (6, 70, (.pointer (some ⟨pb, ai, none⟩))), (7, 71, (.slice aj (pl ai).length cj)), (8, 72, (.agg #[.int .i64 ai, .int .u64 ag, .int .i64 au])), (9, 73, (.agg #[.int .i64 rk, .int .u32 rf, .int .u32 re, .int .u64 rs, .slice x ka.length cx, .slice y va.length cy])), (10, 74, (.agg [.int .i64 ai, .int .u64 ag, .int .i64 au, .int .i64 rk, .int .u32 rf, .int .u32 re, .int .u64 rs, .slice x ka.length cx, .slice y va.length cy].toArray)), (11, 75, (.slice (some ⟨ab, 0, none⟩) 1 1)), (12, 76, (.slice a2 ((pl ai).length + 1) c2)), (13, 77, (.pointer (some ⟨pb, ai, none⟩)))]) (fun (ab, a2, c2) done WW => St w B (bif done 14 then [blkA xa [.int .i64 ai, .int .u64 ag, .int .i64 au] 35, blkA xr [.int .i64 rk, .int .u32 rf, .int .u32 re, .int .u64 rs, .slice x ka.length cx, .slice y va.length cy] 33, blkA pb (PVL.set ai (.slice a2 ((pl ai).length + 1) c2)) 28, ownA 40 9 (.slice a2 ((pl ai).length + 1) c2) ((pl ai).length + 1) ((pl ai).flatMap pinC ++ [.int .i64 ai, .int .u64 ag, .int .i64 au, .int .i64 rk, .int .u32 rf, .int .u32 re, .int .u64 rs, .slice x ka.length cx, .slice y va.length cy]), ow, logA g s p L', blkA xc [.int .i64 at_, .bool fl, .slice ka0 keep.length kc0] 54, sureA sb sf] else (bif done 12 then (blkA ab [.int .i64 ai, .int .u64 ag, .int .i64 au, .int .i64 rk, .int .u32 rf, .int .u32 re, .int .u64 rs, .slice x ka.length cx, .slice y va.length cy] 40 :: [blkA xa [.int .i64 ai, .int .u64 ag, .int .i64 au] 35, blkA xr [.int .i64 rk, .int .u32 rf, .int .u32 re, .int .u64 rs, .slice x ka.length cx, .slice y va.length cy] 33, blkA pb PVL 28, ownA 40 9 (.slice a2 ((pl ai).length + 1) c2) ((pl ai).length + 1) ((pl ai).flatMap pinC ++ [.int .i64 ai, .int .u64 ag, .int .i64 au, .int .i64 rk, .int .u32 rf, .int .u32 re, .int .u64 rs, .slice x ka.length cx, .slice y va.length cy]), ow, logA g s p L', blkA xc [.int .i64 at_, .bool fl, .slice ka0 keep.length kc0] 54, sureA sb sf]) else (bif done 11 then (blkA ab [.int .i64 ai, .int .u64 ag, .int .i64 au, .int .i64 rk, .int .u32 rf, .int .u32 re, .int .u64 rs, .slice x ka.length cx, .slice y va.length cy] 40 :: [blkA xa [.int .i64 ai, .int .u64 ag, .int .i64 au] 35, blkA xr [.int .i64 rk, .int .u32 rf, .int .u32 re, .int .u64 rs, .slice x ka.length cx, .slice y va.length cy] 33, blkA pb PVL 28, ownA 40 9 (.slice aj (pl ai).length cj) (pl ai).length ((pl ai).flatMap pinC), ow, logA g s p L', blkA xc [.int .i64 at_, .bool fl, .slice ka0 keep.length kc0] 54, sureA sb sf]) else ([blkA xa [.int .i64 ai, .int .u64 ag, .int .i64 au] 35, blkA xr [.int .i64 rk, .int .u32 rf, .int .u32 re, .int .u64 rs, .slice x ka.length cx, .slice y va.length cy] 33, blkA pb PVL 28, ownA 40 9 (.slice aj (pl ai).length cj) (pl ai).length ((pl ai).flatMap pinC), ow, logA g s p L', blkA xc [.int .i64 at_, .bool fl, .slice ka0 keep.length kc0] 54, sureA sb sf])))) S WW) (by kernel_rfl) (hord_of2 (by kernel_rfl)) (fun _ => by kernel_rfl) (fun _ => by kernel_rfl) (fun _ => by kernel_rfl) ⟨(0, none, 0), H11.drew⟩ ?_ ?_
                · intro (ab, a2, c2) done zb WW j oq ho hd hdep hcl HA HJ
                  have hj : j < 15 := (Array.getElem?_eq_some_iff.1 ho).1
                  obtain rfl | rfl | rfl | rfl | rfl | rfl | rfl | rfl | rfl | rfl | rfl | rfl | rfl | rfl | rfl : j = 0 ∨ j = 1 ∨ j = 2 ∨ j = 3 ∨ j = 4 ∨ j = 5 ∨ j = 6 ∨ j = 7 ∨ j = 8 ∨ j = 9 ∨ j = 10 ∨ j = 11 ∨ j = 12 ∨ j = 13 ∨ j = 14 := by omega
                  · exact valG (θ := (ab, a2, c2)) (.slice (some ⟨pb, 0, none⟩) 5 5) ho (by cases ho; rfl) (by cases ho; simp [execOp, go_sem, HA.tm, lookT]) (by cases ho; exact fun d hd => by cases hd; exact List.mem_of_getElem? (i := 0) rfl) HJ
                  · exact valG (θ := (ab, a2, c2)) (.pointer (some ⟨xa, 0, none⟩)) ho (by cases ho; rfl) (by cases ho; simp [execOp, go_sem, HA.tm, lookT]) (by cases ho; exact fun d hd => by cases hd; exact List.mem_of_getElem? (i := 1) rfl) HJ
                  · have p1 : done 1 = true := by cases ho; exact hdep ⟨1, .data⟩ (by simp) rfl
                    have n13 : done 13 = false := by cases hx : done 13 with | false => rfl | true => have := hcl 13 _ rfl hx ⟨2, .data⟩ (by simp) rfl; rw [hd] at this; cases this
                    have n14 : done 14 = false := by cases hx : done 14 with | false => rfl | true => have := hcl 14 _ rfl hx ⟨13, .data⟩ (by simp) rfl; rw [n13] at this; cases this
                    have hcl_ : ∀ k, WW.cell? ⟨xa, k, none⟩ = ([.int .i64 ai, .int .u64 ag, .int .i64 au])[k]? := by
                      have HQ := HJ
                      cases g11 : done 11 <;> cases g12 : done 12 <;> (try simp only [n14, g11, g12, hd, cond_true, cond_false] at HQ) <;> first | exact (St.cells HQ 0).1 | exact (St.cells HQ 1).1 | exact (St.cells HQ 2).1 | exact (St.cells HQ 3).1 | exact (St.cells HQ 4).1 | exact (St.cells HQ 5).1 | exact (St.cells HQ 6).1 | exact (St.cells HQ 7).1
                    exact valG (θ := (ab, a2, c2)) (.int .i64 ai) ho (by cases ho; rfl) (by cases ho; simp [execOp, go_sem, HA.tm, lookT, p1, hcl_]) (by cases ho; exact fun d hd => by cases hd; exact List.mem_of_getElem? (i := 2) rfl) HJ
                  · exact valG (θ := (ab, a2, c2)) (.slice (some ⟨pb, 0, none⟩) 5 5) ho (by cases ho; rfl) (by cases ho; simp [execOp, go_sem, HA.tm, lookT]) (by cases ho; exact fun d hd => by cases hd; exact List.mem_of_getElem? (i := 3) rfl) HJ
                  · exact valG (θ := (ab, a2, c2)) (.pointer (some ⟨xa, 0, none⟩)) ho (by cases ho; rfl) (by cases ho; simp [execOp, go_sem, HA.tm, lookT]) (by cases ho; exact fun d hd => by cases hd; exact List.mem_of_getElem? (i := 4) rfl) HJ
                  · have p4 : done 4 = true := by cases ho; exact hdep ⟨4, .data⟩ (by simp) rfl
                    have n6 : done 6 = false := by cases hx : done 6 with | false => rfl | true => have := hcl 6 _ rfl hx ⟨5, .data⟩ (by simp) rfl; rw [hd] at this; cases this
                    have n7 : done 7 = false := by cases hx : done 7 with | false => rfl | true => have := hcl 7 _ rfl hx ⟨6, .data⟩ (by simp) rfl; rw [n6] at this; cases this
                    have n12 : done 12 = false := by cases hx : done 12 with | false => rfl | true => have := hcl 12 _ rfl hx ⟨7, .data⟩ (by simp) rfl; rw [n7] at this; cases this
                    have n13 : done 13 = false := by cases hx : done 13 with | false => rfl | true => have := hcl 13 _ rfl hx ⟨5, .phase⟩ (by simp) rfl; rw [hd] at this; cases this
                    have n14 : done 14 = false := by cases hx : done 14 with | false => rfl | true => have := hcl 14 _ rfl hx ⟨13, .data⟩ (by simp) rfl; rw [n13] at this; cases this
                    have hcl_ : ∀ k, WW.cell? ⟨xa, k, none⟩ = ([.int .i64 ai, .int .u64 ag, .int .i64 au])[k]? := by
                      have HQ := HJ
                      cases g11 : done 11 <;> (try simp only [n12, n14, g11, hd, cond_true, cond_false] at HQ) <;> first | exact (St.cells HQ 0).1 | exact (St.cells HQ 1).1 | exact (St.cells HQ 2).1 | exact (St.cells HQ 3).1 | exact (St.cells HQ 4).1 | exact (St.cells HQ 5).1 | exact (St.cells HQ 6).1 | exact (St.cells HQ 7).1
                    exact valG (θ := (ab, a2, c2)) (.int .i64 ai) ho (by cases ho; rfl) (by cases ho; simp [execOp, go_sem, HA.tm, lookT, p4, hcl_]) (by cases ho; exact fun d hd => by cases hd; exact List.mem_of_getElem? (i := 5) rfl) HJ
                  · have p3 : done 3 = true := by cases ho; exact hdep ⟨3, .data⟩ (by simp) rfl
                    have p5 : done 5 = true := by cases ho; exact hdep ⟨5, .data⟩ (by simp) rfl
                    exact valG (θ := (ab, a2, c2)) (.pointer (some ⟨pb, ai, none⟩)) ho (by cases ho; rfl) (by cases ho; simp [execOp, go_sem, HA.tm, lookT, p3, p5, ha0, ha1]) (by cases ho; exact fun d hd => by cases hd; exact List.mem_of_getElem? (i := 6) rfl) HJ
                  · have p6 : done 6 = true := by cases ho; exact hdep ⟨6, .data⟩ (by simp) rfl
                    have n12 : done 12 = false := by cases hx : done 12 with | false => rfl | true => have := hcl 12 _ rfl hx ⟨7, .data⟩ (by simp) rfl; rw [hd] at this; cases this
                    have n13 : done 13 = false := by cases hx : done 13 with | false => rfl | true => have := hcl 13 _ rfl hx ⟨7, .phase⟩ (by simp) rfl; rw [hd] at this; cases this
                    have n14 : done 14 = false := by cases hx : done 14 with | false => rfl | true => have := hcl 14 _ rfl hx ⟨13, .data⟩ (by simp) rfl; rw [n13] at this; cases this
                    have hcl_ : ∀ k, WW.cell? ⟨pb, k, none⟩ = (PVL)[k]? := by
                      have HQ := HJ
                      cases g11 : done 11 <;> (try simp only [n12, n14, g11, hd, cond_true, cond_false] at HQ) <;> first | exact (St.cells HQ 0).1 | exact (St.cells HQ 1).1 | exact (St.cells HQ 2).1 | exact (St.cells HQ 3).1 | exact (St.cells HQ 4).1 | exact (St.cells HQ 5).1 | exact (St.cells HQ 6).1 | exact (St.cells HQ 7).1
                    exact valG (θ := (ab, a2, c2)) (.slice aj (pl ai).length cj) ho (by cases ho; rfl) (by cases ho; simp [execOp, go_sem, HA.tm, lookT, p6, hpk, hcl_]) (by cases ho; exact fun d hd => by cases hd; exact List.mem_of_getElem? (i := 7) rfl) HJ
                  · have n10 : done 10 = false := by cases hx : done 10 with | false => rfl | true => have := hcl 10 _ rfl hx ⟨8, .data⟩ (by simp) rfl; rw [hd] at this; cases this
                    have n11 : done 11 = false := by cases hx : done 11 with | false => rfl | true => have := hcl 11 _ rfl hx ⟨10, .data⟩ (by simp) rfl; rw [n10] at this; cases this
                    have n12 : done 12 = false := by cases hx : done 12 with | false => rfl | true => have := hcl 12 _ rfl hx ⟨11, .data⟩ (by simp) rfl; rw [n11] at this; cases this
                    have n13 : done 13 = false := by cases hx : done 13 with | false => rfl | true => have := hcl 13 _ rfl hx ⟨8, .phase⟩ (by simp) rfl; rw [hd] at this; cases this
                    have n14 : done 14 = false := by cases hx : done 14 with | false => rfl | true => have := hcl 14 _ rfl hx ⟨13, .data⟩ (by simp) rfl; rw [n13] at this; cases this
                    have HRg : WW.rangeAt xa (0) ([.int .i64 ai, .int .u64 ag, .int .i64 au]) := by
                      have HQ := HJ
                      (try simp only [n11, n12, n14, hd, cond_true, cond_false] at HQ) <;> exact St.range HQ 0
                    exact loadG (θ := (ab, a2, c2)) (v := (.agg #[.int .i64 ai, .int .u64 ag, .int .i64 au])) _ ((.tmp 13)) ho (by cases ho; rfl) (by cases ho; rfl) (by simp [HA.ev, HA.tm, lookT, Act.eval]) (bigAddr.load (rfl) HRg) (by cases ho; exact fun d hd => by cases hd; exact List.mem_of_getElem? (i := 8) rfl) HJ
                  · have n10 : done 10 = false := by cases hx : done 10 with | false => rfl | true => have := hcl 10 _ rfl hx ⟨9, .data⟩ (by simp) rfl; rw [hd] at this; cases this
                    have n11 : done 11 = false := by cases hx : done 11 with | false => rfl | true => have := hcl 11 _ rfl hx ⟨10, .data⟩ (by simp) rfl; rw [n10] at this; cases this
                    have n12 : done 12 = false := by cases hx : done 12 with | false => rfl | true => have := hcl 12 _ rfl hx ⟨11, .data⟩ (by simp) rfl; rw [n11] at this; cases this
                    have n13 : done 13 = false := by cases hx : done 13 with | false => rfl | true => have := hcl 13 _ rfl hx ⟨9, .phase⟩ (by simp) rfl; rw [hd] at this; cases this
                    have n14 : done 14 = false := by cases hx : done 14 with | false => rfl | true => have := hcl 14 _ rfl hx ⟨13, .data⟩ (by simp) rfl; rw [n13] at this; cases this
                    have HRg : WW.rangeAt xr (0) ([.int .i64 rk, .int .u32 rf, .int .u32 re, .int .u64 rs, .slice x ka.length cx, .slice y va.length cy]) := by
                      have HQ := HJ
                      (try simp only [n11, n12, n14, hd, cond_true, cond_false] at HQ) <;> exact St.range HQ 1
                    exact loadG (θ := (ab, a2, c2)) (v := (.agg #[.int .i64 rk, .int .u32 rf, .int .u32 re, .int .u64 rs, .slice x ka.length cx, .slice y va.length cy])) _ ((.tmp 12)) ho (by cases ho; rfl) (by cases ho; rfl) (by simp [HA.ev, HA.tm, lookT, Act.eval]) (bigRec.load (rfl) HRg) (by cases ho; exact fun d hd => by cases hd; exact List.mem_of_getElem? (i := 9) rfl) HJ
                  · have p8 : done 8 = true := by cases ho; exact hdep ⟨8, .data⟩ (by simp) rfl
                    have p9 : done 9 = true := by cases ho; exact hdep ⟨9, .data⟩ (by simp) rfl
                    exact valG (θ := (ab, a2, c2)) (.agg [.int .i64 ai, .int .u64 ag, .int .i64 au, .int .i64 rk, .int .u32 rf, .int .u32 re, .int .u64 rs, .slice x ka.length cx, .slice y va.length cy].toArray) ho (by cases ho; rfl) (by cases ho; simp [execOp, go_sem, HA.tm, lookT, p8, p9]) (by cases ho; exact fun d hd => by cases hd; exact List.mem_of_getElem? (i := 10) rfl) HJ
                  · have p10 : done 10 = true := by cases ho; exact hdep ⟨10, .data⟩ (by simp) rfl
                    have n12 : done 12 = false := by cases hx : done 12 with | false => rfl | true => have := hcl 12 _ rfl hx ⟨11, .data⟩ (by simp) rfl; rw [hd] at this; cases this
                    have n13 : done 13 = false := by cases hx : done 13 with | false => rfl | true => have := hcl 13 _ rfl hx ⟨11, .phase⟩ (by simp) rfl; rw [hd] at this; cases this
                    have n14 : done 14 = false := by cases hx : done 14 with | false => rfl | true => have := hcl 14 _ rfl hx ⟨13, .data⟩ (by simp) rfl; rw [n13] at this; cases this
                    have HS : St w B [blkA xa [.int .i64 ai, .int .u64 ag, .int .i64 au] 35, blkA xr [.int .i64 rk, .int .u32 rf, .int .u32 re, .int .u64 rs, .slice x ka.length cx, .slice y va.length cy] 33, blkA pb PVL 28, ownA 40 9 (.slice aj (pl ai).length cj) (pl ai).length ((pl ai).flatMap pinC), ow, logA g s p L', blkA xc [.int .i64 at_, .bool fl, .slice ka0 keep.length kc0] 54, sureA sb sf] S WW := St.cast (by simp only [n12, n14, hd, cond_true, cond_false]) HJ
                    exact buildSliceG (θ := (ab, a2, c2)) (WW.heap.size, a2, c2) (vals := #[(0, .agg ([.int .i64 ai, .int .u64 ag, .int .i64 au, .int .i64 rk, .int .u32 rf, .int .u32 re, .int .u64 rs, .slice x ka.length cx, .slice y va.length cy] : List Value).toArray)]) _ _ _ ho (by cases ho; rfl) (by cases ho; rfl) (by simp [HA.ev, HA.tm, lookT, Act.eval, p10]) (elemPlaced.lit1 [.int .i64 ai, .int .u64 ag, .int .i64 au, .int .i64 rk, .int .u32 rf, .int .u32 re, .int .u64 rs, .slice x ka.length cx, .slice y va.length cy] rfl (by decide) WW) (by cases ho; exact fun d hd => by cases hd; exact List.mem_of_getElem? (i := 11) rfl) (.inr (.cons (.inl rfl) (.cons (.inl rfl) (.cons (.inl rfl) (.cons (.inl rfl) (.cons (.inl rfl) (.cons (.inl rfl) (.cons (.inl rfl) (.cons (.inl rfl) (.cons (.inl rfl) (.cons (.inl rfl) (.cons (.inl rfl) (.cons (.inr ⟨rfl, hd⟩) (.cons (.inr ⟨rfl, n12⟩) (.cons (.inl rfl) (.nil)))))))))))))))) (St.cast (by simp [n12, n14, n12, n14] <;> rfl) (HS.alloc _ _))
                  · have p7 : done 7 = true := by cases ho; exact hdep ⟨7, .data⟩ (by simp) rfl
                    have p11 : done 11 = true := by cases ho; exact hdep ⟨11, .data⟩ (by simp) rfl
                    have n13 : done 13 = false := by cases hx : done 13 with | false => rfl | true => have := hcl 13 _ rfl hx ⟨12, .phase⟩ (by simp) rfl; rw [hd] at this; cases this
                    have n14 : done 14 = false := by cases hx : done 14 with | false => rfl | true => have := hcl 14 _ rfl hx ⟨13, .data⟩ (by simp) rfl; rw [n13] at this; cases this
                    have HS : St w B (blkA ab [.int .i64 ai, .int .u64 ag, .int .i64 au, .int .i64 rk, .int .u32 rf, .int .u32 re, .int .u64 rs, .slice x ka.length cx, .slice y va.length cy] 40 :: [blkA xa [.int .i64 ai, .int .u64 ag, .int .i64 au] 35, blkA xr [.int .i64 rk, .int .u32 rf, .int .u32 re, .int .u64 rs, .slice x ka.length cx, .slice y va.length cy] 33, blkA pb PVL 28, ownA 40 9 (.slice aj (pl ai).length cj) (pl ai).length ((pl ai).flatMap pinC), ow, logA g s p L', blkA xc [.int .i64 at_, .bool fl, .slice ka0 keep.length kc0] 54, sureA sb sf]) S WW := St.cast (by simp only [p11, n14, hd, cond_true, cond_false]) HJ
                    obtain ⟨v', w', hr, HS'⟩ := St.app elemPlaced HS 4 rfl (isSlK_of_blk HS 0 rfl 1 (by omega) rfl (by decide)) (by simp [Value.oneCell']) (by omega) (by unfold maxLen; omega)
                    obtain ⟨a', c', rfl, _⟩ := own_form (St.own HS' 4)
                    exact appG (θ := (ab, a2, c2)) (v := (.slice aj (pl ai).length cj)) (vx := (.slice (some ⟨ab, 0, none⟩) 1 1)) (ab, a', c') (.tmp 71) (.tmp 75) _ ho (by cases ho; rfl) (by cases ho; rfl) (by simp [HA.ev, HA.tm, lookT, Act.eval, p7, p11]) (by simp [HA.ev, HA.tm, lookT, Act.eval, p7, p11]) hr (by cases ho; exact fun d hd => by cases hd; exact List.mem_of_getElem? (i := 12) rfl) (.inr (.cons (.inl rfl) (.cons (.inl rfl) (.cons (.inl rfl) (.cons (.inl rfl) (.cons (.inl rfl) (.cons (.inl rfl) (.cons (.inl rfl) (.cons (.inl rfl) (.cons (.inl rfl) (.cons (.inl rfl) (.cons (.inl rfl) (.cons (.inl rfl) (.cons (.inr ⟨rfl, hd⟩) (.cons (.inl rfl) (.nil)))))))))))))))) (St.cast (by simp [p11, n14, n14] <;> rfl) HS')
                  · have p0 : done 0 = true := by cases ho; exact hdep ⟨0, .data⟩ (by simp) rfl
                    have p2 : done 2 = true := by cases ho; exact hdep ⟨2, .data⟩ (by simp) rfl
                    exact valG (θ := (ab, a2, c2)) (.pointer (some ⟨pb, ai, none⟩)) ho (by cases ho; rfl) (by cases ho; simp [execOp, go_sem, HA.tm, lookT, p0, p2, ha0, ha1]) (by cases ho; exact fun d hd => by cases hd; exact List.mem_of_getElem? (i := 13) rfl) HJ
                  · have p13 : done 13 = true := by cases ho; exact hdep ⟨13, .data⟩ (by simp) rfl
                    have p12 : done 12 = true := hcl 13 _ rfl p13 ⟨12, .phase⟩ (by simp) rfl
                    have p11 : done 11 = true := hcl 13 _ rfl p13 ⟨11, .phase⟩ (by simp) rfl
                    have HS : St w B (blkA ab [.int .i64 ai, .int .u64 ag, .int .i64 au, .int .i64 rk, .int .u32 rf, .int .u32 re, .int .u64 rs, .slice x ka.length cx, .slice y va.length cy] 40 :: [blkA xa [.int .i64 ai, .int .u64 ag, .int .i64 au] 35, blkA xr [.int .i64 rk, .int .u32 rf, .int .u32 re, .int .u64 rs, .slice x ka.length cx, .slice y va.length cy] 33, blkA pb PVL 28, ownA 40 9 (.slice a2 ((pl ai).length + 1) c2) ((pl ai).length + 1) ((pl ai).flatMap pinC ++ [.int .i64 ai, .int .u64 ag, .int .i64 au, .int .i64 rk, .int .u32 rf, .int .u32 re, .int .u64 rs, .slice x ka.length cx, .slice y va.length cy]), ow, logA g s p L', blkA xc [.int .i64 at_, .bool fl, .slice ka0 keep.length kc0] 54, sureA sb sf]) S WW := St.cast (by simp only [p11, p12, hd, cond_true, cond_false]) HJ
                    have hcl_ : ∀ k, WW.cell? ⟨pb, k, none⟩ = (PVL)[k]? := by
                      have HQ := HJ
                      (try simp only [p11, p12, hd, cond_true, cond_false] at HQ) <;> first | exact (St.cells HQ 0).1 | exact (St.cells HQ 1).1 | exact (St.cells HQ 2).1 | exact (St.cells HQ 3).1 | exact (St.cells HQ 4).1 | exact (St.cells HQ 5).1 | exact (St.cells HQ 6).1 | exact (St.cells HQ 7).1
                    have hfl_ : ∀ k, WW.frozen? ⟨pb, k, none⟩ = false := by
                      have HQ := HJ
                      (try simp only [p11, p12, hd, cond_true, cond_false] at HQ) <;> first | exact (St.cells HQ 0).2 | exact (St.cells HQ 1).2 | exact (St.cells HQ 2).2 | exact (St.cells HQ 3).2 | exact (St.cells HQ 4).2 | exact (St.cells HQ 5).2 | exact (St.cells HQ 6).2 | exact (St.cells HQ 7).2
                    exact skipG (θ := (ab, a2, c2)) ho (by cases ho; rfl) (by cases ho; rfl) (by cases ho; first | (simp [execOp, go_sem, HA.tm, lookT, hcl_, hfl_, p11, p12, p13, hpk]; done) | (simp [execOp, go_sem, HA.tm, lookT, hcl_, hfl_, p11, p12, p13, hpk]; rfl)) (St.cast (by simp [p11, p12] <;> rfl) (HS.set_ 3 ai (.slice a2 ((pl ai).length + 1) c2) rfl).tail)
                · intro (ab, a2, c2) done WW hall HJ
                  have z11 := hall 11 (by decide)
                  have z12 := hall 12 (by decide)
                  have z14 := hall 14 (by decide)
                  have HE : St w B [blkA xa [.int .i64 ai, .int .u64 ag, .int .i64 au] 35, blkA xr [.int .i64 rk, .int .u32 rf, .int .u32 re, .int .u64 rs, .slice x ka.length cx, .slice y va.length cy] 33, blkA pb (PVL.set ai (.slice a2 ((pl ai).length + 1) c2)) 28, ownA 40 9 (.slice a2 ((pl ai).length + 1) c2) ((pl ai).length + 1) ((pl ai).flatMap pinC ++ [.int .i64 ai, .int .u64 ag, .int .i64 au, .int .i64 rk, .int .u32 rf, .int .u32 re, .int .u64 rs, .slice x ka.length cx, .slice y va.length cy]), ow, logA g s p L', blkA xc [.int .i64 at_, .bool fl, .slice ka0 keep.length kc0] 54, sureA sb sf] S WW := St.cast (by simp [z11, z12, z14]) HJ
                  clear HJ hall z11 z12 z14
                  simp only [putAll, Act.put, List.setIfInBounds_toArray, List.set_cons_succ, List.set_cons_zero]
                  have H12 := HE
                  clear HE H11
                  go_wp2_with fail
                  go_meet
                  case rel =>
                    refine ⟨fun j => if j = ai then pl j ++ [((ai, ag, au), z0)] else pl j, fun j => if j = ai then .slice a2 ((pl ai).length + 1) c2 else PV j, HC, Lib.hid ?_⟩
                    have e1 : (pl ai ++ [((ai, ag, au), z0)]).flatMap pinC = (pl ai).flatMap pinC ++ [.int .i64 ai, .int .u64 ag, .int .i64 au, .int .i64 rk, .int .u32 rf, .int .u32 re, .int .u64 rs, .slice x ka.length cx, .slice y va.length cy] := by rw [List.flatMap_append, List.flatMap_singleton, HZ0.out]; rfl
                    have h2 := sep_in (f := fun k => ownA 40 9 (PV k) (pl k).length ((pl k).flatMap pinC)) (f' := fun k => ownA 40 9 (if k = ai then .slice a2 ((pl ai).length + 1) c2 else PV k) (if k = ai then pl k ++ [((ai, ag, au), z0)] else pl k).length ((if k = ai then pl k ++ [((ai, ag, au), z0)] else pl k).flatMap pinC)) ha5 (fun j hj => by simp only [if_neg hj]) (St.cast (by simp only [if_true]; rw [e1, HOW.out, List.length_append]; rfl) (St.pick H12 [3, 4, 2, 5, 6, 7]))
                    refine St.cast ?_ (St.pick h2 [2, 3, 4, 1, 0])
                    rw [HPVL.out, range_set PV _ ha5]
                    rfl
            case rest =>
              obtain ⟨pl', PV', HCT', HI'⟩ := hcut
              clear H9 HCT HCASE
              have H10 := HI'.out
              by_cases hs : i < sy.length
              · obtain ⟨F, hF⟩ := H10.getS HSY.out
                have hK : IsSlK wc 1 sy.length (.slice sa sy.length sc) (sy.map .bool) := hF.2.2
                obtain ⟨ys, yo, cap, hv, _, _, _, h4⟩ := hK.at (by omega)
                cases hv
                obtain ⟨b, hb⟩ : ∃ b, sy[i]? = some b := ⟨_, List.getElem?_eq_getElem hs⟩
                have hcell : wc.cell? ⟨ys, yo + i, none⟩ = some (.bool b) := by
                  rw [h4 i (by simpa using hs), List.getElem?_map, hb]; rfl
                clear hF hK h4 hb
                have s1 : (i : Int) < (sy.length : Int) := by omega
                cases b with
                | false =>
                  go_wp2_with fail
                  go_roundg (n - (i + 1))
                  case measure => omega
                  case rel => exact ⟨i + 1, L', pl', sf, PV', by omega, by have := H40.out; omega, rfl, by go_num, Lib.hid (HCT'.out.later (by omega)), Lib.hid H10⟩
                | true =>
                  have HLS := lsync g s p L'
                  have hcs := HCT'.out.sync
                  generalize hls : L'.sync = LS at *
                  obtain ⟨L2, e2⟩ := LS
                  have HLS := Lib.hid HLS
                  dsimp only at hcs
                  rcases hcs with ⟨h0, hC⟩ | ⟨h0, hC⟩
                  · subst h0
                    have HC2 := Lib.hid hC
                    clear hC hls
                    go_wp2_with fail
                    refine (HLS.out.call (L := [_]) (M := [_, _, _, _]) H10 (by simp)).mono ?_
                    rintro e' w9 ⟨_, M', rfl, ⟨rfl, rfl⟩, H13⟩
                    clear H10 hcell
                    go_wp2_with fail
                    go_loopg [95] 5 (fun gq b95 wr => ∃ j : Nat, j ≤ 5 ∧ gq = 5 - j ∧ b95 = .int .i64 j ∧ Hid (St w B ([logA g s p L2, blkA xc [.int .i64 at_, .bool fl, .slice ka0 keep.length kc0] 54, sureA sb (fun k => if k < j then (pl' k).length else sf k)] ++ putsA pb PV' pl') S wr))
                    case atStart => exact ⟨0, Nat.zero_le _, rfl, rfl, Lib.hid (St.cast (by simp only [Nat.not_lt_zero, if_false]; rfl) H13)⟩
                    case round =>
                      obtain ⟨j, hj, rfl, rfl, HI3⟩ := hrel
                      clear H13
                      have H14 := HI3.out
                      by_cases hjl : j < 5
                      · have H15 := sep_out (f := fun k => ownA 40 9 (PV' k) (pl' k).length ((pl' k).flatMap pinC)) hjl (St.pick H14 [4, 0, 1, 2, 3])
                        obtain ⟨aj, cj, hpv, _⟩ := own_form (St.own H15 0)
                        obtain ⟨PVL, hpvl⟩ : ∃ PVL, PVL = (List.range 5).map PV' := ⟨_, rfl⟩
                        have hpk : PVL[j]? = some (.slice aj (pl' j).length cj) := by rw [hpvl, range_get PV' hjl, hpv]
                        obtain ⟨SFL, hsfl⟩ : ∃ SFL : List Value, SFL = (List.range 5).map fun k => .int .i64 ((if k < j then (pl' k).length else sf k : Nat) : Int) := ⟨_, rfl⟩
                        have hsk : SFL[j]? = some (.int .i64 (sf j)) := by rw [hsfl, range_get _ hjl, if_neg (Nat.lt_irrefl j)]
                        clear H15
                        have H16 : St w B [logA g s p L2, blkA xc [.int .i64 at_, .bool fl, .slice ka0 keep.length kc0] 54, blkA sb SFL 3, blkA pb PVL 28, sepA ((List.range 5).map fun k => ownA 40 9 (PV' k) (pl' k).length ((pl' k).flatMap pinC))] S wr := by
                          rw [hpvl, hsfl]
                          exact H14
                        have HPVL := Lib.hid hpvl
                        have HSFL := Lib.hid hsfl
                        have H17 := St.set_ H16 2 j (.int .i64 (pl' j).length)
                        clear hpvl hsfl hpv H14
                        have j0 : (0 : Int) ≤ (j : Int) := by omega
                        have j1 : (j : Int) < 5 := by omega
                        obtain ⟨hc, hf⟩ := St.cells H16 3
                        obtain ⟨hc2, hf2⟩ := St.cells H16 2
                        go_wp2_with fail
                        go_roundg (5 - (j + 1))
                        case measure => omega
                        case rel =>
                          refine ⟨j + 1, by omega, rfl, by go_num, Lib.hid (St.cast ?_ H17)⟩
                          rw [HPVL.out, HSFL.out]
                          show [_, _, blkA sb (((List.range 5).map _).set j _) _, _, _] = _
                          rw [range_set _ _ hjl]
                          have : (fun k => if k = j then Value.int .i64 ((pl' j).length : Int) else .int .i64 ((if k < j then (pl' k).length else sf k : Nat) : Int)) = fun k => .int .i64 ((if k < j + 1 then (pl' k).length else sf k : Nat) : Int) := by
                            funext k
                            by_cases e1 : k = j
                            · subst e1; rw [if_pos rfl, if_pos (by omega)]
                            · rw [if_neg e1]
                              by_cases e2 : k < j
                              · rw [if_pos e2, if_pos (by omega)]
                              · rw [if_neg e2, if_neg (by omega)]
                          rw [this]
                          rfl
                      · have hj1 : ¬ (j : Int) < 5 := by omega
                        have hj5 : j = 5 := by omega
                        have HJ5 := Lib.hid hj5
                        clear hj5
                        go_wp2_with fail
                        go_roundg (n - (i + 1))
                        case measure => omega
                        case rel =>
                          refine ⟨i + 1, L2, pl', fun k => (pl' k).length, PV', by omega, by have := H40.out; omega, rfl, by go_num, Lib.hid (HC2.out.later (by omega)), Lib.hid (St.cast ?_ H14)⟩
                          have : (List.range 5).map (fun k => Value.int .i64 ((if k < j then (pl' k).length else sf k : Nat) : Int)) = (List.range 5).map fun k => .int .i64 ((pl' k).length : Int) := List.map_congr_left fun k hk => by
                            have := List.mem_range.1 hk
                            rw [if_pos (by rw [HJ5.out]; exact this)]
                          unfold sureA
                          rw [this]
                  · have HC2 := Lib.hid hC
                    have hne : ((e2 : Int) == 0) = false := by simp; omega
                    clear hC hls h0
                    go_wp2_with fail
                    refine (HLS.out.call (L := [_]) (M := [_, _, _, _]) H10 (by simp)).mono ?_
                    rintro e' w9 ⟨_, M', rfl, ⟨rfl, rfl⟩, H13⟩
                    clear H10 hcell
                    go_wp2_with fail
                    go_roundg (n - (i + 1))
                    case measure => omega
                    case rel => exact ⟨i + 1, L2, pl', sf, PV', by omega, by have := H40.out; omega, rfl, by go_num, Lib.hid (HC2.out.later (by omega)), Lib.hid H13⟩
              · have s1 : ¬ (i : Int) < (sy.length : Int) := by omega
                go_wp2_with fail
                go_roundg (n - (i + 1))
                case measure => omega
                case rel => exact ⟨i + 1, L', pl', sf, PV', by omega, by have := H40.out; omega, rfl, by go_num, Lib.hid (HCT'.out.later (by omega)), Lib.hid H10⟩
        · have i1 : ¬ (i : Int) < (n : Int) := by omega
          go_wp2_with fail
          go_meet
          case rel => exact ⟨_, L, pl, sf, PV, HCT, Lib.hid HI⟩
    case rest =>
      obtain ⟨k, L, pl, sf, PV, HCT, HI⟩ := hcut
      clear H12 HC0
      obtain ⟨aw, cw, H1⟩ := logA.open HI.out
      clear HI
      have H2 : St w B [dskA p L.D, blkA xc [.int .i64 at_, .bool fl, .slice ka0 keep.length kc0] 54, sureA sb sf, blkA pb ((List.range 5).map PV) 28, sepA ((List.range 5).map fun k => ownA 40 9 (PV k) (pl k).length ((pl k).flatMap pinC))] S wc := St.pick H1 [2, 4, 5, 6, 7]
      clear H1
      have hkm := HKL.out
      have H3 := H2.alloc [] 4
      have hK : IsSlK (wc.alloc (.cells ([] : List Value).toArray 4)) 1 keep.length (.slice ka0 keep.length kc0) (keep.map .bool) := by
        obtain ⟨F, hF⟩ := H3.getS HKP.out
        exact hF.2.2
      obtain ⟨v6, w6, hr6, H4⟩ := (St.toOwn H3 0 (n := 0) (size := 1) rfl rfl (by decide)).app (ty := 52) elemBool 0 rfl hK (fun u hu => by obtain ⟨b, _, rfl⟩ := List.mem_map.1 hu; rfl) (by omega) (by unfold maxLen; omega)
      obtain ⟨a6, c6, rfl, _⟩ := own_form (St.own H4 0)
      have HR6 := Lib.hid hr6
      have hc : ∀ k, (wc.alloc (.cells #[] 4)).cell? ⟨xc, k, none⟩ = [.int .i64 at_, .bool fl, .slice ka0 keep.length kc0][k]? := (St.cells H3 2).1
      have hf : ∀ k, (wc.alloc (.cells #[] 4)).frozen? ⟨xc, k, none⟩ = false := (St.cells H3 2).2
      clear hr6 hK H3 hkm
      rw [Nat.zero_add] at H4
      have HCR := crash p L.D (.slice a6 keep.length c6) keep
      go_wp2_with (first | (at_builtin; refine wpList_append_eq rfl _ _ _ rfl rfl rfl HR6.out ?_) | fail)
      refine (HCR.call (L := [_]) (M := [ownA 4 1 (.slice a6 keep.length c6) keep.length ([] ++ keep.map .bool), _, _, _, _]) (St.pick H4 [1, 0, 2, 3, 4, 5]) (fun A hA => ⟨ownA 4 1 (.slice a6 keep.length c6) keep.length ([] ++ keep.map .bool), List.mem_append_right _ (by simp), by cases List.mem_singleton.1 hA; exact own_imp_sl (by decide)⟩)).mono ?_
      rintro e w7 ⟨_, M', rfl, ⟨rfl, rfl⟩, H5⟩
      clear H2 H4 hc hf HCR HR6
      obtain ⟨hop, xs, ts, hos, hxseg, hxsec, hxmay⟩ := HCT.out.found keep
      have HOP := sopen p (L.D.crash keep)
      rw [hop, hos] at HOP
      obtain ⟨D', hD'⟩ : ∃ D', D' = L.D.crash keep := ⟨_, rfl⟩
      rw [← hD'] at HOP H5
      have HDD := Lib.hid hD'
      have HX := Lib.hid (And.intro hxseg (And.intro hxsec hxmay))
      clear hop hos hxseg hxsec hxmay hD'
      go_wp2_with fail
      refine (HOP.call (L := [_]) (M := [_, _, _]) (St.pick H5 [0, 3, 4, 5]) (by simp)).mono ?_
      rintro e w8 ⟨_, M', rfl, ⟨x1, t1, hxt, hq⟩, H6⟩
      obtain ⟨s2, rfl, rfl⟩ := stoQ.ok hq
      have hxt' : some (xs, ts) = some (x1, t1) := by first | exact hxt rfl | simpa using hxt
      cases hxt'
      clear H5 hq HOP
      go_wp2_with fail
      go_loopg [16, 17, 119] 3 (fun gq b16 b17 b119 wr => ∃ j : Nat, j ≤ 3 ∧ gq = 3 - j ∧ b16 = .pointer (some ⟨s2, 0, none⟩) ∧ b17 = .int .i64 0 ∧ b119 = .int .i64 j ∧ Hid (St w B [blkA s2 (stoC xs ts p) 119, dskA p D', sureA sb sf, blkA pb ((List.range 5).map PV) 28, sepA ((List.range 5).map fun k => ownA 40 9 (PV k) (pl k).length ((pl k).flatMap pinC))] S wr))
      case atStart => exact ⟨0, Nat.zero_le _, rfl, rfl, rfl, rfl, Lib.hid H6⟩
      case round =>
        obtain ⟨j, hj, rfl, rfl, rfl, rfl, HI⟩ := hrel
        clear H6
        by_cases hjl : j < 3
        · have j1 : (j : Int) < 3 := by omega
          go_wp2_with fail
          go_roundg (3 - (j + 1))
          case measure => omega
          case rel => exact ⟨j + 1, by omega, rfl, rfl, rfl, by go_num, HI⟩
        · have j1 : ¬ (j : Int) < 3 := by omega
          have H7 := HI.out
          clear HI
          go_wp2_with fail
          go_loopg [133] 5 (fun gq b133 wr => ∃ k : Nat, k ≤ 5 ∧ gq = 5 - k ∧ b133 = .int .i64 k ∧ Hid (St w B [blkA s2 (stoC xs ts p) 119, dskA p D', sureA sb sf, blkA pb ((List.range 5).map PV) 28, sepA ((List.range 5).map fun k => ownA 40 9 (PV k) (pl k).length ((pl k).flatMap pinC))] S wr))
          case atStart => exact ⟨0, Nat.zero_le _, rfl, rfl, Lib.hid H7⟩
          case round =>
            obtain ⟨i, hi, rfl, rfl, HI⟩ := hrel
            clear H7
            have H8 := HI.out
            by_cases hil : i < 5
            · have hsc0 := HCT.out.told keep HX.out.2.1 hil
              rw [← HDD.out] at hsc0
              obtain ⟨gk, uk, ps, hsc, htc⟩ := hsc0
              have HSC := lscan s2 p xs ts D' i HX.out.2.2 (by rw [HX.out.1]; omega)
              rw [hsc] at HSC
              have HSC : Meets Try.prog 8 #[.pointer (some ⟨s2, 0, none⟩), .int .i64 i] [blkA s2 (stoC xs ts p) 119, dskA p D'] [] (fun v M => ∃ vs, v = .tuple #[.agg #[.int .u64 gk, .int .i64 uk, vs], .int .i64 0] ∧ M = [blkA s2 (stoC xs ts p) 119, dskA p D', plsA i gk vs ps]) := HSC
              have HSC := Lib.hid HSC
              have HTC := Lib.hid htc
              clear hsc htc
              have H9 := sep_out (f := fun k => ownA 40 9 (PV k) (pl k).length ((pl k).flatMap pinC)) hil (St.pick H8 [4, 0, 1, 2, 3])
              obtain ⟨aj, cj, hpv, _⟩ := own_form (St.own H9 0)
              obtain ⟨PVL, hpvl⟩ : ∃ PVL, PVL = (List.range 5).map PV := ⟨_, rfl⟩
              have hpk : PVL[i]? = some (.slice aj (pl i).length cj) := by rw [hpvl, range_get PV hil, hpv]
              obtain ⟨SFL, hsfl⟩ : ∃ SFL : List Value, SFL = (List.range 5).map fun k => .int .i64 (sf k : Int) := ⟨_, rfl⟩
              have hsk : SFL[i]? = some (.int .i64 (sf i)) := by rw [hsfl, range_get _ hil]
              have hpl40 : (pl i).length ≤ maxLen := by have := own_len (St.own H9 0); exact this
              unfold maxLen at hpl40
              obtain ⟨ow, how⟩ : ∃ ow, ow = sepA (((List.range 5).erase i).map fun k => ownA 40 9 (PV k) (pl k).length ((pl k).flatMap pinC)) := ⟨_, rfl⟩
              have H10 : St w B [blkA s2 (stoC xs ts p) 119, dskA p D', ownA 40 9 (.slice aj (pl i).length cj) (pl i).length ((pl i).flatMap pinC), ow, blkA sb SFL 3, blkA pb PVL 28] S wr := by
                have := St.pick H9 [2, 3, 0, 1, 4, 5]
                rw [hpvl, hsfl, how, ← hpv]
                exact this
              have HPVL := Lib.hid hpvl
              have HSFL := Lib.hid hsfl
              have HPV := Lib.hid hpv
              have HOW := Lib.hid how
              clear hpvl hsfl hpv how H8 H9 HI
              have k0 : (0 : Int) ≤ (i : Int) := by omega
              have k1 : (i : Int) < 5 := by omega
              go_wp2_with fail
              refine (HSC.out.call (L := [_, _]) (M := [_, _, _, _]) H10 (by simp)).mono ?_
              rintro e w11 ⟨_, M', rfl, ⟨vs, rfl, rfl⟩, H11⟩
              clear H10 HSC
              obtain ⟨zs, H12⟩ := St.open_ (St.pick H11 [2, 0, 1, 3, 4, 5, 6])
              obtain ⟨hzs, H13⟩ := St.pur (St.flat H12)
              obtain ⟨S1, H14, hs1, hs2⟩ := St.shareAll (zs.flatMap plO) (St.flat (St.pick H13 [1, 0, 2, 3, 4, 5, 6, 7]))
              obtain ⟨nk, hnk⟩ : ∃ nk, nk = ps.length := ⟨_, rfl⟩
              rw [← hnk] at H14
              obtain ⟨a9, c9, rfl, hnm⟩ := own_form (St.own H14 0)
              have H15 := St.share H14
              clear H14 H13 H12 H11
              have hown : ownA 40 9 (.slice a9 nk c9) nk (zs.flatMap (plC i gk)) ∈ ownA 40 9 (.slice a9 nk c9) nk (zs.flatMap (plC i gk)) :: S1 := List.mem_cons_self
              have hzo : ∀ A ∈ zs.flatMap plO, A ∈ ownA 40 9 (.slice a9 nk c9) nk (zs.flatMap (plC i gk)) :: S1 := fun A hA => List.mem_cons_of_mem _ (hs1 A hA)
              have hso : ∀ A ∈ S, A ∈ ownA 40 9 (.slice a9 nk c9) nk (zs.flatMap (plC i gk)) :: S1 := fun A hA => List.mem_cons_of_mem _ (hs2 A hA)
              generalize ownA 40 9 (.slice a9 nk c9) nk (zs.flatMap (plC i gk)) :: S1 = S2 at *
              have hnk64 : nk ≤ 64 := by rw [hnk]; exact HTC.out.most
              have hss : ¬ nk < sf i := by have := HTC.out.sure; omega
              have HZS := Lib.hid hzs
              have HNK := Lib.hid hnk
              have HOWN := Lib.hid hown
              have HZO := Lib.hid hzo
              have HSO := Lib.hid hso
              clear hzs hnk hown hzo hso hs1 hs2
              have H16 := H15.alloc [.int .u64 gk, .int .i64 uk, .slice a9 nk c9] 42
              obtain ⟨xb, hxb⟩ : ∃ xb, xb = w11.heap.size := ⟨_, rfl⟩
              rw [← hxb] at H16
              go_upto_region 38 with fail
              rw [← hxb]
              clear hxb
              refine wp_world (fun W => St w B _ _ W) H16 ?_
              intro w12 H17
              clear H15 H16
              go_upto_region 40 with fail
              go_cut [185] from 150 to 184 (fun s185 wr => s185 = .bool false ∧ Hid (St w B [blkA xb [.int .u64 gk, .int .i64 uk, .slice a9 nk c9] 42, blkA s2 (stoC xs ts p) 119, dskA p D', ownA 40 9 (.slice aj (pl i).length cj) (pl i).length ((pl i).flatMap pinC), ow, blkA sb SFL 3, blkA pb PVL 28] S2 wr))
              case first =>
                by_cases hmore : (pl i).length < nk
                · obtain ⟨hn1, z, hz, hyz⟩ := HTC.out.more (by rw [← HNK.out]; exact hmore)
                  rw [← HNK.out] at hn1
                  rw [← HZS.out, List.getElem?_map] at hz
                  obtain ⟨z9, hz9, rfl⟩ := Option.map_eq_some_iff.1 hz
                  obtain ⟨u9, rc9, kb, vb, zx, zc, zy, zd⟩ := z9
                  have hzo2 : ∀ A ∈ plO ⟨u9, rc9, kb, vb, zx, zc, zy, zd⟩, A ∈ S2 := fun A hA => HZO.out A (List.mem_flatMap.2 ⟨_, List.mem_of_getElem? hz9, hA⟩)
                  obtain ⟨F, hF⟩ := H17.getS HOWN.out
                  obtain ⟨g9, hg9, hc9, hc9m⟩ := own_pos hF.2 (by omega)
                  subst hg9
                  clear hF
                  have him : ∀ A ∈ slA 9 (.slice (some ⟨g9, (pl i).length * 9, none⟩) 1 (c9 - (pl i).length)) 1 (plC i gk ⟨u9, rc9, kb, vb, zx, zc, zy, zd⟩) :: bytA (.slice zx kb.length zc) kb :: bytA (.slice zy vb.length zd) vb :: slA 6 (.slice a0 l.length c0) l.length (l.flatMap rinC) :: rinS l, ∃ A' ∈ S2, A'.imp A := by
                    intro A hA
                    rcases List.mem_cons.1 hA with rfl | hA
                    · exact ⟨_, HOWN.out, own_part_imp (by decide) (fun y _ => rfl) hz9⟩
                    rcases List.mem_cons.1 hA with rfl | hA
                    · exact ⟨ownA 5 1 (.slice zx kb.length zc) kb.length (kb.map u8v), hzo2 _ (by simp [plO]), own_imp_byt _ _⟩
                    rcases List.mem_cons.1 hA with rfl | hA
                    · exact ⟨ownA 5 1 (.slice zy vb.length zd) vb.length (vb.map u8v), hzo2 _ (by simp [plO]), own_imp_byt _ _⟩
                    · exact ⟨_, HSO.out _ (HRN.out _ hA), Asn.imp.refl _⟩
                  have hun := under i gk u9 rc9 kb vb zx zy zc zd g9 ((pl i).length * 9) (c9 - (pl i).length) l a0 c0 HLE.out hyz
                  have hun2 : Meets Try.prog 18 #[.slice (some ⟨g9, (pl i).length * 9, none⟩) 1 (c9 - (pl i).length), .slice a0 n c0] [] (slA 9 (.slice (some ⟨g9, (pl i).length * 9, none⟩) 1 (c9 - (pl i).length)) 1 (plC i gk ⟨u9, rc9, kb, vb, zx, zc, zy, zd⟩) :: bytA (.slice zx kb.length zc) kb :: bytA (.slice zy vb.length zd) vb :: slA 6 (.slice a0 l.length c0) l.length (l.flatMap rinC) :: rinS l) (fun v L => v = .bool true ∧ L = []) := by
                    rw [HN.out]; exact hun
                  have hrun : ∀ W, (Instr.sliceAt 28 (.slice (some ⟨g9, 0, none⟩) nk c9) (some (.int .i64 ((pl i).length : Int))) none none).run Try.prog W = .ok (.slice (some ⟨g9, (pl i).length * 9, none⟩) 1 (c9 - (pl i).length)) W := fun W => by
                    have := run_fromP W g9 nk c9 (pl i).length (by omega) (by omega) (by omega)
                    rw [show nk - (pl i).length = 1 by omega] at this
                    exact this
                  have HIM := Lib.hid him
                  have HUN := Lib.hid hun2
                  have HRUN := Lib.hid hrun
                  clear him hun hun2 hrun hzo2 hyz hz9 hn1 hc9 hc9m
                  refine wp_region_gh (Θ := Unit) (fun _ => [(0, 150, (.int .i64 0)), (1, 151, (.bool false)), (2, 152, (.bool false)), (3, 153, (.pointer (some ⟨xb, 2, none⟩))), (4, 154, (.slice (some ⟨g9, 0, none⟩) nk c9)), (5, 155, (.int .i64 nk)), (6, 156, (.slice (some ⟨sb, 0, none⟩) 5 5)), (7, 157, (.int .i64 i)), (8, 158, (.pointer (some ⟨sb, i, none⟩))), (9, 159, (.int .i64 (sf i))), (10, 160, (.bool false)), (11, 161, (.bool false)), (12, 162, (.bool false)), (13, 163, (.pointer (some ⟨xb, 2, none⟩))), (14, 164, (.slice (some ⟨g9, 0, none⟩) nk c9)), (15, 165, (.int .i64 nk)), (16, 166, (.slice (some ⟨pb, 0, none⟩) 5 5)), (17, 167, (.int .i64 i)), (18, 168, (.pointer (some ⟨pb, i, none⟩))), (19, 169, (.slice aj (pl i).length cj)), (20, 170, (.int .i64 (pl i).length)), (21, 171, (.bool true)), (22, 172, (.bool true)), (23, 173, (.pointer (some ⟨xb, 2, none⟩))), (24, 174, (.slice (some ⟨g9, 0, none⟩) nk c9)), (25, 175, (.slice (some ⟨pb, 0, none⟩) 5 5)), (26, 176, (.int .i64 i)), (27, 177, (.pointer (some ⟨pb, i, none⟩))), (28, 178, (.slice aj (pl i).length cj)), (29, 179, (.int .i64 (pl i).length)), (30, 180, (.slice (some ⟨g9, (pl i).length * 9, none⟩) 1 (c9 - (pl i).length))), (31, 181, (.slice a0 n c0)), (32, 182, (.bool true)), (33, 183, (.bool false)), (34, 184, (.bool false)), (35, 185, (.bool false))]) (fun _ done WW => St w B ([blkA xb [.int .u64 gk, .int .i64 uk, .slice (some ⟨g9, 0, none⟩) nk c9] 42, blkA s2 (stoC xs ts p) 119, dskA p D', ownA 40 9 (.slice aj (pl i).length cj) (pl i).length ((pl i).flatMap pinC), ow, blkA sb SFL 3, blkA pb PVL 28]) S2 WW) (by kernel_rfl) (hord_of2 (by kernel_rfl)) (fun _ => by kernel_rfl) (fun _ => by kernel_rfl) (fun _ => by kernel_rfl) ⟨(), H17.drew⟩ ?_ ?_
                  · intro _ done zb WW j oq ho hd hdep hcl HA HJ
                    have hj : j < 36 := (Array.getElem?_eq_some_iff.1 ho).1
                    obtain rfl | rfl | rfl | rfl | rfl | rfl | rfl | rfl | rfl | rfl | rfl | rfl | rfl | rfl | rfl | rfl | rfl | rfl | rfl | rfl | rfl | rfl | rfl | rfl | rfl | rfl | rfl | rfl | rfl | rfl | rfl | rfl | rfl | rfl | rfl | rfl : j = 0 ∨ j = 1 ∨ j = 2 ∨ j = 3 ∨ j = 4 ∨ j = 5 ∨ j = 6 ∨ j = 7 ∨ j = 8 ∨ j = 9 ∨ j = 10 ∨ j = 11 ∨ j = 12 ∨ j = 13 ∨ j = 14 ∨ j = 15 ∨ j = 16 ∨ j = 17 ∨ j = 18 ∨ j = 19 ∨ j = 20 ∨ j = 21 ∨ j = 22 ∨ j = 23 ∨ j = 24 ∨ j = 25 ∨ j = 26 ∨ j = 27 ∨ j = 28 ∨ j = 29 ∨ j = 30 ∨ j = 31 ∨ j = 32 ∨ j = 33 ∨ j = 34 ∨ j = 35 := by omega
                    · exact valG (θ := _) (.int .i64 0) ho (by cases ho; rfl) (by cases ho; simp [execOp, go_sem, HA.tm, lookT]) (by cases ho; exact fun d hd => by cases hd; exact List.mem_of_getElem? (i := 0) rfl) HJ
                    · have p0 : done 0 = true := by cases ho; exact hdep ⟨0, .data⟩ (by simp) rfl
                      exact valG (θ := _) (.bool false) ho (by cases ho; rfl) (by cases ho; simp [execOp, go_sem, HA.tm, lookT, p0]) (by cases ho; exact fun d hd => by cases hd; exact List.mem_of_getElem? (i := 1) rfl) HJ
                    · have p1 : done 1 = true := by cases ho; exact hdep ⟨1, .data⟩ (by simp) rfl
                      exact valG (θ := _) (.bool false) ho (by cases ho; rfl) (by cases ho; simp [execOp, go_sem, HA.tm, lookT, p1]) (by cases ho; exact fun d hd => by cases hd; exact List.mem_of_getElem? (i := 2) rfl) HJ
                    · have p2 : done 2 = true := by cases ho; exact hdep ⟨2, .guard⟩ (by simp) rfl
                      exact valG (θ := _) (.pointer (some ⟨xb, 2, none⟩)) ho (by cases ho; simp [Region.wanted, yielded, HA.tm, lookT, go_sem, p2]) (by cases ho; simp [execOp, go_sem, HA.tm, lookT, p2]) (by cases ho; exact fun d hd => by cases hd; exact List.mem_of_getElem? (i := 3) rfl) HJ
                    · have p3 : done 3 = true := by cases ho; exact hdep ⟨3, .data⟩ (by simp) rfl
                      have p2 : done 2 = true := hcl 3 _ rfl p3 ⟨2, .guard⟩ (by simp) rfl
                      have hcl_ : ∀ k, WW.cell? ⟨xb, k, none⟩ = ([.int .u64 gk, .int .i64 uk, .slice (some ⟨g9, 0, none⟩) nk c9])[k]? := by
                        have HQ := HJ
                        (try simp only [hd, cond_true, cond_false] at HQ) <;> first | exact (St.cells HQ 0).1 | exact (St.cells HQ 1).1 | exact (St.cells HQ 2).1 | exact (St.cells HQ 3).1 | exact (St.cells HQ 4).1 | exact (St.cells HQ 5).1 | exact (St.cells HQ 6).1 | exact (St.cells HQ 7).1
                      exact valG (θ := _) (.slice (some ⟨g9, 0, none⟩) nk c9) ho (by cases ho; simp [Region.wanted, yielded, HA.tm, lookT, go_sem, p2, p3]) (by cases ho; simp [execOp, go_sem, HA.tm, lookT, p2, p3, hcl_]) (by cases ho; exact fun d hd => by cases hd; exact List.mem_of_getElem? (i := 4) rfl) HJ
                    · have p4 : done 4 = true := by cases ho; exact hdep ⟨4, .data⟩ (by simp) rfl
                      have p3 : done 3 = true := hcl 4 _ rfl p4 ⟨3, .data⟩ (by simp) rfl
                      have p2 : done 2 = true := hcl 3 _ rfl p3 ⟨2, .guard⟩ (by simp) rfl
                      exact valG (θ := _) (.int .i64 nk) ho (by cases ho; simp [Region.wanted, yielded, HA.tm, lookT, go_sem, p2, p3, p4]) (by cases ho; simp [execOp, go_sem, HA.tm, lookT, p2, p3, p4]) (by cases ho; exact fun d hd => by cases hd; exact List.mem_of_getElem? (i := 5) rfl) HJ
                    · have p2 : done 2 = true := by cases ho; exact hdep ⟨2, .guard⟩ (by simp) rfl
                      exact valG (θ := _) (.slice (some ⟨sb, 0, none⟩) 5 5) ho (by cases ho; simp [Region.wanted, yielded, HA.tm, lookT, go_sem, p2]) (by cases ho; simp [execOp, go_sem, HA.tm, lookT, p2]) (by cases ho; exact fun d hd => by cases hd; exact List.mem_of_getElem? (i := 6) rfl) HJ
                    · have p2 : done 2 = true := by cases ho; exact hdep ⟨2, .guard⟩ (by simp) rfl
                      exact valG (θ := _) (.int .i64 i) ho (by cases ho; simp [Region.wanted, yielded, HA.tm, lookT, go_sem, p2]) (by cases ho; simp [execOp, go_sem, HA.tm, lookT, p2]) (by cases ho; exact fun d hd => by cases hd; exact List.mem_of_getElem? (i := 7) rfl) HJ
                    · have p6 : done 6 = true := by cases ho; exact hdep ⟨6, .data⟩ (by simp) rfl
                      have p7 : done 7 = true := by cases ho; exact hdep ⟨7, .data⟩ (by simp) rfl
                      have p2 : done 2 = true := hcl 6 _ rfl p6 ⟨2, .guard⟩ (by simp) rfl
                      exact valG (θ := _) (.pointer (some ⟨sb, i, none⟩)) ho (by cases ho; simp [Region.wanted, yielded, HA.tm, lookT, go_sem, p2, p6, p7, k0, k1]) (by cases ho; simp [execOp, go_sem, HA.tm, lookT, p2, p6, p7, k0, k1]) (by cases ho; exact fun d hd => by cases hd; exact List.mem_of_getElem? (i := 8) rfl) HJ
                    · have p8 : done 8 = true := by cases ho; exact hdep ⟨8, .data⟩ (by simp) rfl
                      have p6 : done 6 = true := hcl 8 _ rfl p8 ⟨6, .data⟩ (by simp) rfl
                      have p2 : done 2 = true := hcl 6 _ rfl p6 ⟨2, .guard⟩ (by simp) rfl
                      have hcl_ : ∀ k, WW.cell? ⟨sb, k, none⟩ = (SFL)[k]? := by
                        have HQ := HJ
                        (try simp only [hd, cond_true, cond_false] at HQ) <;> first | exact (St.cells HQ 0).1 | exact (St.cells HQ 1).1 | exact (St.cells HQ 2).1 | exact (St.cells HQ 3).1 | exact (St.cells HQ 4).1 | exact (St.cells HQ 5).1 | exact (St.cells HQ 6).1 | exact (St.cells HQ 7).1
                      exact valG (θ := _) (.int .i64 (sf i)) ho (by cases ho; simp [Region.wanted, yielded, HA.tm, lookT, go_sem, p2, p6, p8, hsk]) (by cases ho; simp [execOp, go_sem, HA.tm, lookT, p2, p6, p8, hsk, hcl_]) (by cases ho; exact fun d hd => by cases hd; exact List.mem_of_getElem? (i := 9) rfl) HJ
                    · have p5 : done 5 = true := by cases ho; exact hdep ⟨5, .data⟩ (by simp) rfl
                      have p9 : done 9 = true := by cases ho; exact hdep ⟨9, .data⟩ (by simp) rfl
                      have p4 : done 4 = true := hcl 5 _ rfl p5 ⟨4, .data⟩ (by simp) rfl
                      have p3 : done 3 = true := hcl 4 _ rfl p4 ⟨3, .data⟩ (by simp) rfl
                      have p2 : done 2 = true := hcl 3 _ rfl p3 ⟨2, .guard⟩ (by simp) rfl
                      exact valG (θ := _) (.bool false) ho (by cases ho; simp [Region.wanted, yielded, HA.tm, lookT, go_sem, p2, p3, p4, p5, p9, hss]) (by cases ho; simp [execOp, go_sem, HA.tm, lookT, p2, p3, p4, p5, p9, hss]) (by cases ho; exact fun d hd => by cases hd; exact List.mem_of_getElem? (i := 10) rfl) HJ
                    · have p2 : done 2 = true := by cases ho; exact hdep ⟨2, .data⟩ (by simp) rfl
                      have p10 : done 10 = true := by cases ho; exact hdep ⟨10, .data⟩ (by simp) rfl
                      exact valG (θ := _) (.bool false) ho (by cases ho; rfl) (by cases ho; simp [execOp, go_sem, HA.tm, lookT, p2, p10]) (by cases ho; exact fun d hd => by cases hd; exact List.mem_of_getElem? (i := 11) rfl) HJ
                    · have p11 : done 11 = true := by cases ho; exact hdep ⟨11, .data⟩ (by simp) rfl
                      exact valG (θ := _) (.bool false) ho (by cases ho; rfl) (by cases ho; simp [execOp, go_sem, HA.tm, lookT, p11]) (by cases ho; exact fun d hd => by cases hd; exact List.mem_of_getElem? (i := 12) rfl) HJ
                    · have p12 : done 12 = true := by cases ho; exact hdep ⟨12, .guard⟩ (by simp) rfl
                      exact valG (θ := _) (.pointer (some ⟨xb, 2, none⟩)) ho (by cases ho; simp [Region.wanted, yielded, HA.tm, lookT, go_sem, p12]) (by cases ho; simp [execOp, go_sem, HA.tm, lookT, p12]) (by cases ho; exact fun d hd => by cases hd; exact List.mem_of_getElem? (i := 13) rfl) HJ
                    · have p13 : done 13 = true := by cases ho; exact hdep ⟨13, .data⟩ (by simp) rfl
                      have p12 : done 12 = true := hcl 13 _ rfl p13 ⟨12, .guard⟩ (by simp) rfl
                      have hcl_ : ∀ k, WW.cell? ⟨xb, k, none⟩ = ([.int .u64 gk, .int .i64 uk, .slice (some ⟨g9, 0, none⟩) nk c9])[k]? := by
                        have HQ := HJ
                        (try simp only [hd, cond_true, cond_false] at HQ) <;> first | exact (St.cells HQ 0).1 | exact (St.cells HQ 1).1 | exact (St.cells HQ 2).1 | exact (St.cells HQ 3).1 | exact (St.cells HQ 4).1 | exact (St.cells HQ 5).1 | exact (St.cells HQ 6).1 | exact (St.cells HQ 7).1
                      exact valG (θ := _) (.slice (some ⟨g9, 0, none⟩) nk c9) ho (by cases ho; simp [Region.wanted, yielded, HA.tm, lookT, go_sem, p12, p13]) (by cases ho; simp [execOp, go_sem, HA.tm, lookT, p12, p13, hcl_]) (by cases ho; exact fun d hd => by cases hd; exact List.mem_of_getElem? (i := 14) rfl) HJ
                    · have p14 : done 14 = true := by cases ho; exact hdep ⟨14, .data⟩ (by simp) rfl
                      have p13 : done 13 = true := hcl 14 _ rfl p14 ⟨13, .data⟩ (by simp) rfl
                      have p12 : done 12 = true := hcl 13 _ rfl p13 ⟨12, .guard⟩ (by simp) rfl
                      exact valG (θ := _) (.int .i64 nk) ho (by cases ho; simp [Region.wanted, yielded, HA.tm, lookT, go_sem, p12, p13, p14]) (by cases ho; simp [execOp, go_sem, HA.tm, lookT, p12, p13, p14]) (by cases ho; exact fun d hd => by cases hd; exact List.mem_of_getElem? (i := 15) rfl) HJ
                    · have p12 : done 12 = true := by cases ho; exact hdep ⟨12, .guard⟩ (by simp) rfl
                      exact valG (θ := _) (.slice (some ⟨pb, 0, none⟩) 5 5) ho (by cases ho; simp [Region.wanted, yielded, HA.tm, lookT, go_sem, p12]) (by cases ho; simp [execOp, go_sem, HA.tm, lookT, p12]) (by cases ho; exact fun d hd => by cases hd; exact List.mem_of_getElem? (i := 16) rfl) HJ
                    · have p12 : done 12 = true := by cases ho; exact hdep ⟨12, .guard⟩ (by simp) rfl
                      exact valG (θ := _) (.int .i64 i) ho (by cases ho; simp [Region.wanted, yielded, HA.tm, lookT, go_sem, p12]) (by cases ho; simp [execOp, go_sem, HA.tm, lookT, p12]) (by cases ho; exact fun d hd => by cases hd; exact List.mem_of_getElem? (i := 17) rfl) HJ
                    · have p16 : done 16 = true := by cases ho; exact hdep ⟨16, .data⟩ (by simp) rfl
                      have p17 : done 17 = true := by cases ho; exact hdep ⟨17, .data⟩ (by simp) rfl
                      have p12 : done 12 = true := hcl 16 _ rfl p16 ⟨12, .guard⟩ (by simp) rfl
                      exact valG (θ := _) (.pointer (some ⟨pb, i, none⟩)) ho (by cases ho; simp [Region.wanted, yielded, HA.tm, lookT, go_sem, p12, p16, p17, k0, k1]) (by cases ho; simp [execOp, go_sem, HA.tm, lookT, p12, p16, p17, k0, k1]) (by cases ho; exact fun d hd => by cases hd; exact List.mem_of_getElem? (i := 18) rfl) HJ
                    · have p18 : done 18 = true := by cases ho; exact hdep ⟨18, .data⟩ (by simp) rfl
                      have p16 : done 16 = true := hcl 18 _ rfl p18 ⟨16, .data⟩ (by simp) rfl
                      have p12 : done 12 = true := hcl 16 _ rfl p16 ⟨12, .guard⟩ (by simp) rfl
                      have hcl_ : ∀ k, WW.cell? ⟨pb, k, none⟩ = (PVL)[k]? := by
                        have HQ := HJ
                        (try simp only [hd, cond_true, cond_false] at HQ) <;> first | exact (St.cells HQ 0).1 | exact (St.cells HQ 1).1 | exact (St.cells HQ 2).1 | exact (St.cells HQ 3).1 | exact (St.cells HQ 4).1 | exact (St.cells HQ 5).1 | exact (St.cells HQ 6).1 | exact (St.cells HQ 7).1
                      exact valG (θ := _) (.slice aj (pl i).length cj) ho (by cases ho; simp [Region.wanted, yielded, HA.tm, lookT, go_sem, p12, p16, p18, hpk]) (by cases ho; simp [execOp, go_sem, HA.tm, lookT, p12, p16, p18, hpk, hcl_]) (by cases ho; exact fun d hd => by cases hd; exact List.mem_of_getElem? (i := 19) rfl) HJ
                    · have p19 : done 19 = true := by cases ho; exact hdep ⟨19, .data⟩ (by simp) rfl
                      have p18 : done 18 = true := hcl 19 _ rfl p19 ⟨18, .data⟩ (by simp) rfl
                      have p16 : done 16 = true := hcl 18 _ rfl p18 ⟨16, .data⟩ (by simp) rfl
                      have p12 : done 12 = true := hcl 16 _ rfl p16 ⟨12, .guard⟩ (by simp) rfl
                      exact valG (θ := _) (.int .i64 (pl i).length) ho (by cases ho; simp [Region.wanted, yielded, HA.tm, lookT, go_sem, p12, p16, p18, p19]) (by cases ho; simp [execOp, go_sem, HA.tm, lookT, p12, p16, p18, p19]) (by cases ho; exact fun d hd => by cases hd; exact List.mem_of_getElem? (i := 20) rfl) HJ
                    · have p15 : done 15 = true := by cases ho; exact hdep ⟨15, .data⟩ (by simp) rfl
                      have p20 : done 20 = true := by cases ho; exact hdep ⟨20, .data⟩ (by simp) rfl
                      have p14 : done 14 = true := hcl 15 _ rfl p15 ⟨14, .data⟩ (by simp) rfl
                      have p13 : done 13 = true := hcl 14 _ rfl p14 ⟨13, .data⟩ (by simp) rfl
                      have p12 : done 12 = true := hcl 13 _ rfl p13 ⟨12, .guard⟩ (by simp) rfl
                      exact valG (θ := _) (.bool true) ho (by cases ho; simp [Region.wanted, yielded, HA.tm, lookT, go_sem, p12, p13, p14, p15, p20, hmore]) (by cases ho; simp [execOp, go_sem, HA.tm, lookT, p12, p13, p14, p15, p20, hmore]) (by cases ho; exact fun d hd => by cases hd; exact List.mem_of_getElem? (i := 21) rfl) HJ
                    · have p21 : done 21 = true := by cases ho; exact hdep ⟨21, .data⟩ (by simp) rfl
                      have p15 : done 15 = true := hcl 21 _ rfl p21 ⟨15, .data⟩ (by simp) rfl
                      have p14 : done 14 = true := hcl 15 _ rfl p15 ⟨14, .data⟩ (by simp) rfl
                      have p13 : done 13 = true := hcl 14 _ rfl p14 ⟨13, .data⟩ (by simp) rfl
                      have p12 : done 12 = true := hcl 13 _ rfl p13 ⟨12, .guard⟩ (by simp) rfl
                      exact valG (θ := _) (.bool true) ho (by cases ho; simp [Region.wanted, yielded, HA.tm, lookT, go_sem, p12, p13, p14, p15, p21]) (by cases ho; simp [execOp, go_sem, HA.tm, lookT, p12, p13, p14, p15, p21]) (by cases ho; exact fun d hd => by cases hd; exact List.mem_of_getElem? (i := 22) rfl) HJ
                    · have p22 : done 22 = true := by cases ho; exact hdep ⟨22, .guard⟩ (by simp) rfl
                      exact valG (θ := _) (.pointer (some ⟨xb, 2, none⟩)) ho (by cases ho; simp [Region.wanted, yielded, HA.tm, lookT, go_sem, p22]) (by cases ho; simp [execOp, go_sem, HA.tm, lookT, p22]) (by cases ho; exact fun d hd => by cases hd; exact List.mem_of_getElem? (i := 23) rfl) HJ
                    · have p23 : done 23 = true := by cases ho; exact hdep ⟨23, .data⟩ (by simp) rfl
                      have p22 : done 22 = true := hcl 23 _ rfl p23 ⟨22, .guard⟩ (by simp) rfl
                      have hcl_ : ∀ k, WW.cell? ⟨xb, k, none⟩ = ([.int .u64 gk, .int .i64 uk, .slice (some ⟨g9, 0, none⟩) nk c9])[k]? := by
                        have HQ := HJ
                        (try simp only [hd, cond_true, cond_false] at HQ) <;> first | exact (St.cells HQ 0).1 | exact (St.cells HQ 1).1 | exact (St.cells HQ 2).1 | exact (St.cells HQ 3).1 | exact (St.cells HQ 4).1 | exact (St.cells HQ 5).1 | exact (St.cells HQ 6).1 | exact (St.cells HQ 7).1
                      exact valG (θ := _) (.slice (some ⟨g9, 0, none⟩) nk c9) ho (by cases ho; simp [Region.wanted, yielded, HA.tm, lookT, go_sem, p22, p23]) (by cases ho; simp [execOp, go_sem, HA.tm, lookT, p22, p23, hcl_]) (by cases ho; exact fun d hd => by cases hd; exact List.mem_of_getElem? (i := 24) rfl) HJ
                    · have p22 : done 22 = true := by cases ho; exact hdep ⟨22, .guard⟩ (by simp) rfl
                      exact valG (θ := _) (.slice (some ⟨pb, 0, none⟩) 5 5) ho (by cases ho; simp [Region.wanted, yielded, HA.tm, lookT, go_sem, p22]) (by cases ho; simp [execOp, go_sem, HA.tm, lookT, p22]) (by cases ho; exact fun d hd => by cases hd; exact List.mem_of_getElem? (i := 25) rfl) HJ
                    · have p22 : done 22 = true := by cases ho; exact hdep ⟨22, .guard⟩ (by simp) rfl
                      exact valG (θ := _) (.int .i64 i) ho (by cases ho; simp [Region.wanted, yielded, HA.tm, lookT, go_sem, p22]) (by cases ho; simp [execOp, go_sem, HA.tm, lookT, p22]) (by cases ho; exact fun d hd => by cases hd; exact List.mem_of_getElem? (i := 26) rfl) HJ
                    · have p25 : done 25 = true := by cases ho; exact hdep ⟨25, .data⟩ (by simp) rfl
                      have p26 : done 26 = true := by cases ho; exact hdep ⟨26, .data⟩ (by simp) rfl
                      have p22 : done 22 = true := hcl 25 _ rfl p25 ⟨22, .guard⟩ (by simp) rfl
                      exact valG (θ := _) (.pointer (some ⟨pb, i, none⟩)) ho (by cases ho; simp [Region.wanted, yielded, HA.tm, lookT, go_sem, p22, p25, p26, k0, k1]) (by cases ho; simp [execOp, go_sem, HA.tm, lookT, p22, p25, p26, k0, k1]) (by cases ho; exact fun d hd => by cases hd; exact List.mem_of_getElem? (i := 27) rfl) HJ
                    · have p27 : done 27 = true := by cases ho; exact hdep ⟨27, .data⟩ (by simp) rfl
                      have p25 : done 25 = true := hcl 27 _ rfl p27 ⟨25, .data⟩ (by simp) rfl
                      have p22 : done 22 = true := hcl 25 _ rfl p25 ⟨22, .guard⟩ (by simp) rfl
                      have hcl_ : ∀ k, WW.cell? ⟨pb, k, none⟩ = (PVL)[k]? := by
                        have HQ := HJ
                        (try simp only [hd, cond_true, cond_false] at HQ) <;> first | exact (St.cells HQ 0).1 | exact (St.cells HQ 1).1 | exact (St.cells HQ 2).1 | exact (St.cells HQ 3).1 | exact (St.cells HQ 4).1 | exact (St.cells HQ 5).1 | exact (St.cells HQ 6).1 | exact (St.cells HQ 7).1
                      exact valG (θ := _) (.slice aj (pl i).length cj) ho (by cases ho; simp [Region.wanted, yielded, HA.tm, lookT, go_sem, p22, p25, p27, hpk]) (by cases ho; simp [execOp, go_sem, HA.tm, lookT, p22, p25, p27, hpk, hcl_]) (by cases ho; exact fun d hd => by cases hd; exact List.mem_of_getElem? (i := 28) rfl) HJ
                    · have p28 : done 28 = true := by cases ho; exact hdep ⟨28, .data⟩ (by simp) rfl
                      have p27 : done 27 = true := hcl 28 _ rfl p28 ⟨27, .data⟩ (by simp) rfl
                      have p25 : done 25 = true := hcl 27 _ rfl p27 ⟨25, .data⟩ (by simp) rfl
                      have p22 : done 22 = true := hcl 25 _ rfl p25 ⟨22, .guard⟩ (by simp) rfl
                      exact valG (θ := _) (.int .i64 (pl i).length) ho (by cases ho; simp [Region.wanted, yielded, HA.tm, lookT, go_sem, p22, p25, p27, p28]) (by cases ho; simp [execOp, go_sem, HA.tm, lookT, p22, p25, p27, p28]) (by cases ho; exact fun d hd => by cases hd; exact List.mem_of_getElem? (i := 29) rfl) HJ
                    · have p24 : done 24 = true := by cases ho; exact hdep ⟨24, .data⟩ (by simp) rfl
                      have p29 : done 29 = true := by cases ho; exact hdep ⟨29, .data⟩ (by simp) rfl
                      have p23 : done 23 = true := hcl 24 _ rfl p24 ⟨23, .data⟩ (by simp) rfl
                      have p22 : done 22 = true := hcl 23 _ rfl p23 ⟨22, .guard⟩ (by simp) rfl
                      exact sliceG1 (θ := _) (v := (.slice (some ⟨g9, (pl i).length * 9, none⟩) 1 (c9 - (pl i).length))) _ _ _ ho (by cases ho; simp [Region.wanted, yielded, HA.tm, lookT, go_sem, p22, p23, p24, p29]) (by cases ho; rfl) (by simp [HA.ev, HA.tm, lookT, Act.eval, p22, p23, p24, p29]) (by simp [HA.ev, HA.tm, lookT, Act.eval, p22, p23, p24, p29]) (HRUN.out WW) (by cases ho; exact fun d hd => by cases hd; exact List.mem_of_getElem? (i := 30) rfl) HJ
                    · have p22 : done 22 = true := by cases ho; exact hdep ⟨22, .guard⟩ (by simp) rfl
                      exact valG (θ := _) (.slice a0 n c0) ho (by cases ho; simp [Region.wanted, yielded, HA.tm, lookT, go_sem, p22]) (by cases ho; simp [execOp, go_sem, HA.tm, lookT, p22]) (by cases ho; exact fun d hd => by cases hd; exact List.mem_of_getElem? (i := 31) rfl) HJ
                    · have p30 : done 30 = true := by cases ho; exact hdep ⟨30, .data⟩ (by simp) rfl
                      have p31 : done 31 = true := by cases ho; exact hdep ⟨31, .data⟩ (by simp) rfl
                      have p24 : done 24 = true := hcl 30 _ rfl p30 ⟨24, .data⟩ (by simp) rfl
                      have p23 : done 23 = true := hcl 24 _ rfl p24 ⟨23, .data⟩ (by simp) rfl
                      have p22 : done 22 = true := hcl 23 _ rfl p23 ⟨22, .guard⟩ (by simp) rfl
                      exact callG (θ := _) (f := 18) (args := #[.slice (some ⟨g9, (pl i).length * 9, none⟩) 1 (c9 - (pl i).length), .slice a0 n c0]) ho (by cases ho; simp [Region.wanted, yielded, HA.tm, lookT, go_sem, p22, p23, p24, p30, p31]) (by cases ho; simp [execOp, go_sem, HA.tm, lookT, p22, p23, p24, p30, p31]) (HUN.out.call (L := []) (M := [_, _, _, _, _, _, _]) HJ (imp_app HIM.out)) (by
                        rintro e w' ⟨_, _, rfl, ⟨rfl, rfl⟩, HS'⟩
                        exact ⟨_, _, rfl, by cases ho; exact fun d hd => by cases hd; exact List.mem_of_getElem? (i := 32) rfl, .inl rfl, HS'⟩)
                    · have p32 : done 32 = true := by cases ho; exact hdep ⟨32, .data⟩ (by simp) rfl
                      have p30 : done 30 = true := hcl 32 _ rfl p32 ⟨30, .data⟩ (by simp) rfl
                      have p24 : done 24 = true := hcl 30 _ rfl p30 ⟨24, .data⟩ (by simp) rfl
                      have p23 : done 23 = true := hcl 24 _ rfl p24 ⟨23, .data⟩ (by simp) rfl
                      have p22 : done 22 = true := hcl 23 _ rfl p23 ⟨22, .guard⟩ (by simp) rfl
                      exact valG (θ := _) (.bool false) ho (by cases ho; simp [Region.wanted, yielded, HA.tm, lookT, go_sem, p22, p23, p24, p30, p32]) (by cases ho; simp [execOp, go_sem, HA.tm, lookT, p22, p23, p24, p30, p32]) (by cases ho; exact fun d hd => by cases hd; exact List.mem_of_getElem? (i := 33) rfl) HJ
                    · have p22 : done 22 = true := by cases ho; exact hdep ⟨22, .data⟩ (by simp) rfl
                      have p33 : done 33 = true := by cases ho; exact hdep ⟨33, .data⟩ (by simp) rfl
                      have p21 : done 21 = true := hcl 22 _ rfl p22 ⟨21, .data⟩ (by simp) rfl
                      have p15 : done 15 = true := hcl 21 _ rfl p21 ⟨15, .data⟩ (by simp) rfl
                      have p14 : done 14 = true := hcl 15 _ rfl p15 ⟨14, .data⟩ (by simp) rfl
                      have p13 : done 13 = true := hcl 14 _ rfl p14 ⟨13, .data⟩ (by simp) rfl
                      have p12 : done 12 = true := hcl 13 _ rfl p13 ⟨12, .guard⟩ (by simp) rfl
                      exact valG (θ := _) (.bool false) ho (by cases ho; simp [Region.wanted, yielded, HA.tm, lookT, go_sem, p12, p13, p14, p15, p21, p22, p33]) (by cases ho; simp [execOp, go_sem, HA.tm, lookT, p12, p13, p14, p15, p21, p22, p33]) (by cases ho; exact fun d hd => by cases hd; exact List.mem_of_getElem? (i := 34) rfl) HJ
                    · have p12 : done 12 = true := by cases ho; exact hdep ⟨12, .data⟩ (by simp) rfl
                      have p34 : done 34 = true := by cases ho; exact hdep ⟨34, .data⟩ (by simp) rfl
                      exact valG (θ := _) (.bool false) ho (by cases ho; rfl) (by cases ho; simp [execOp, go_sem, HA.tm, lookT, p12, p34]) (by cases ho; exact fun d hd => by cases hd; exact List.mem_of_getElem? (i := 35) rfl) HJ
                  · intro _ done WW hall HJ
                    have HE : St w B [blkA xb [.int .u64 gk, .int .i64 uk, .slice (some ⟨g9, 0, none⟩) nk c9] 42, blkA s2 (stoC xs ts p) 119, dskA p D', ownA 40 9 (.slice aj (pl i).length cj) (pl i).length ((pl i).flatMap pinC), ow, blkA sb SFL 3, blkA pb PVL 28] S2 WW := St.cast (by simp []) HJ
                    clear HJ hall 
                    simp only [putAll, Act.put, List.setIfInBounds_toArray, List.set_cons_succ, List.set_cons_zero]
                    try go_wp2_with fail
                    go_meet
                    case rel => exact ⟨rfl, Lib.hid HE⟩
                · skip
                  refine wp_region_gh (Θ := Unit) (fun _ => [(0, 150, (.int .i64 0)), (1, 151, (.bool false)), (2, 152, (.bool false)), (3, 153, (.pointer (some ⟨xb, 2, none⟩))), (4, 154, (.slice a9 nk c9)), (5, 155, (.int .i64 nk)), (6, 156, (.slice (some ⟨sb, 0, none⟩) 5 5)), (7, 157, (.int .i64 i)), (8, 158, (.pointer (some ⟨sb, i, none⟩))), (9, 159, (.int .i64 (sf i))), (10, 160, (.bool false)), (11, 161, (.bool false)), (12, 162, (.bool false)), (13, 163, (.pointer (some ⟨xb, 2, none⟩))), (14, 164, (.slice a9 nk c9)), (15, 165, (.int .i64 nk)), (16, 166, (.slice (some ⟨pb, 0, none⟩) 5 5)), (17, 167, (.int .i64 i)), (18, 168, (.pointer (some ⟨pb, i, none⟩))), (19, 169, (.slice aj (pl i).length cj)), (20, 170, (.int .i64 (pl i).length)), (21, 171, (.bool false)), (22, 172, (.bool false)), (23, 173, undef), (24, 174, undef), (25, 175, undef), (26, 176, undef), (27, 177, undef), (28, 178, undef), (29, 179, undef), (30, 180, undef), (31, 181, undef), (32, 182, undef), (33, 183, undef), (34, 184, (.bool false)), (35, 185, (.bool false))]) (fun _ done WW => St w B ([blkA xb [.int .u64 gk, .int .i64 uk, .slice a9 nk c9] 42, blkA s2 (stoC xs ts p) 119, dskA p D', ownA 40 9 (.slice aj (pl i).length cj) (pl i).length ((pl i).flatMap pinC), ow, blkA sb SFL 3, blkA pb PVL 28]) S2 WW) (by kernel_rfl) (hord_of2 (by kernel_rfl)) (fun _ => by kernel_rfl) (fun _ => by kernel_rfl) (fun _ => by kernel_rfl) ⟨(), H17.drew⟩ ?_ ?_
                  · intro _ done zb WW j oq ho hd hdep hcl HA HJ
                    have hj : j < 36 := (Array.getElem?_eq_some_iff.1 ho).1
                    obtain rfl | rfl | rfl | rfl | rfl | rfl | rfl | rfl | rfl | rfl | rfl | rfl | rfl | rfl | rfl | rfl | rfl | rfl | rfl | rfl | rfl | rfl | rfl | rfl | rfl | rfl | rfl | rfl | rfl | rfl | rfl | rfl | rfl | rfl | rfl | rfl : j = 0 ∨ j = 1 ∨ j = 2 ∨ j = 3 ∨ j = 4 ∨ j = 5 ∨ j = 6 ∨ j = 7 ∨ j = 8 ∨ j = 9 ∨ j = 10 ∨ j = 11 ∨ j = 12 ∨ j = 13 ∨ j = 14 ∨ j = 15 ∨ j = 16 ∨ j = 17 ∨ j = 18 ∨ j = 19 ∨ j = 20 ∨ j = 21 ∨ j = 22 ∨ j = 23 ∨ j = 24 ∨ j = 25 ∨ j = 26 ∨ j = 27 ∨ j = 28 ∨ j = 29 ∨ j = 30 ∨ j = 31 ∨ j = 32 ∨ j = 33 ∨ j = 34 ∨ j = 35 := by omega
                    · exact valG (θ := _) (.int .i64 0) ho (by cases ho; rfl) (by cases ho; simp [execOp, go_sem, HA.tm, lookT]) (by cases ho; exact fun d hd => by cases hd; exact List.mem_of_getElem? (i := 0) rfl) HJ
                    · have p0 : done 0 = true := by cases ho; exact hdep ⟨0, .data⟩ (by simp) rfl
                      exact valG (θ := _) (.bool false) ho (by cases ho; rfl) (by cases ho; simp [execOp, go_sem, HA.tm, lookT, p0]) (by cases ho; exact fun d hd => by cases hd; exact List.mem_of_getElem? (i := 1) rfl) HJ
                    · have p1 : done 1 = true := by cases ho; exact hdep ⟨1, .data⟩ (by simp) rfl
                      exact valG (θ := _) (.bool false) ho (by cases ho; rfl) (by cases ho; simp [execOp, go_sem, HA.tm, lookT, p1]) (by cases ho; exact fun d hd => by cases hd; exact List.mem_of_getElem? (i := 2) rfl) HJ
                    · have p2 : done 2 = true := by cases ho; exact hdep ⟨2, .guard⟩ (by simp) rfl
                      exact valG (θ := _) (.pointer (some ⟨xb, 2, none⟩)) ho (by cases ho; simp [Region.wanted, yielded, HA.tm, lookT, go_sem, p2]) (by cases ho; simp [execOp, go_sem, HA.tm, lookT, p2]) (by cases ho; exact fun d hd => by cases hd; exact List.mem_of_getElem? (i := 3) rfl) HJ
                    · have p3 : done 3 = true := by cases ho; exact hdep ⟨3, .data⟩ (by simp) rfl
                      have p2 : done 2 = true := hcl 3 _ rfl p3 ⟨2, .guard⟩ (by simp) rfl
                      have hcl_ : ∀ k, WW.cell? ⟨xb, k, none⟩ = ([.int .u64 gk, .int .i64 uk, .slice a9 nk c9])[k]? := by
                        have HQ := HJ
                        (try simp only [hd, cond_true, cond_false] at HQ) <;> first | exact (St.cells HQ 0).1 | exact (St.cells HQ 1).1 | exact (St.cells HQ 2).1 | exact (St.cells HQ 3).1 | exact (St.cells HQ 4).1 | exact (St.cells HQ 5).1 | exact (St.cells HQ 6).1 | exact (St.cells HQ 7).1
                      exact valG (θ := _) (.slice a9 nk c9) ho (by cases ho; simp [Region.wanted, yielded, HA.tm, lookT, go_sem, p2, p3]) (by cases ho; simp [execOp, go_sem, HA.tm, lookT, p2, p3, hcl_]) (by cases ho; exact fun d hd => by cases hd; exact List.mem_of_getElem? (i := 4) rfl) HJ
                    · have p4 : done 4 = true := by cases ho; exact hdep ⟨4, .data⟩ (by simp) rfl
                      have p3 : done 3 = true := hcl 4 _ rfl p4 ⟨3, .data⟩ (by simp) rfl
                      have p2 : done 2 = true := hcl 3 _ rfl p3 ⟨2, .guard⟩ (by simp) rfl
                      exact valG (θ := _) (.int .i64 nk) ho (by cases ho; simp [Region.wanted, yielded, HA.tm, lookT, go_sem, p2, p3, p4]) (by cases ho; simp [execOp, go_sem, HA.tm, lookT, p2, p3, p4]) (by cases ho; exact fun d hd => by cases hd; exact List.mem_of_getElem? (i := 5) rfl) HJ
                    · have p2 : done 2 = true := by cases ho; exact hdep ⟨2, .guard⟩ (by simp) rfl
                      exact valG (θ := _) (.slice (some ⟨sb, 0, none⟩) 5 5) ho (by cases ho; simp [Region.wanted, yielded, HA.tm, lookT, go_sem, p2]) (by cases ho; simp [execOp, go_sem, HA.tm, lookT, p2]) (by cases ho; exact fun d hd => by cases hd; exact List.mem_of_getElem? (i := 6) rfl) HJ
                    · have p2 : done 2 = true := by cases ho; exact hdep ⟨2, .guard⟩ (by simp) rfl
                      exact valG (θ := _) (.int .i64 i) ho (by cases ho; simp [Region.wanted, yielded, HA.tm, lookT, go_sem, p2]) (by cases ho; simp [execOp, go_sem, HA.tm, lookT, p2]) (by cases ho; exact fun d hd => by cases hd; exact List.mem_of_getElem? (i := 7) rfl) HJ
                    · have p6 : done 6 = true := by cases ho; exact hdep ⟨6, .data⟩ (by simp) rfl
                      have p7 : done 7 = true := by cases ho; exact hdep ⟨7, .data⟩ (by simp) rfl
                      have p2 : done 2 = true := hcl 6 _ rfl p6 ⟨2, .guard⟩ (by simp) rfl
                      exact valG (θ := _) (.pointer (some ⟨sb, i, none⟩)) ho (by cases ho; simp [Region.wanted, yielded, HA.tm, lookT, go_sem, p2, p6, p7, k0, k1]) (by cases ho; simp [execOp, go_sem, HA.tm, lookT, p2, p6, p7, k0, k1]) (by cases ho; exact fun d hd => by cases hd; exact List.mem_of_getElem? (i := 8) rfl) HJ
                    · have p8 : done 8 = true := by cases ho; exact hdep ⟨8, .data⟩ (by simp) rfl
                      have p6 : done 6 = true := hcl 8 _ rfl p8 ⟨6, .data⟩ (by simp) rfl
                      have p2 : done 2 = true := hcl 6 _ rfl p6 ⟨2, .guard⟩ (by simp) rfl
                      have hcl_ : ∀ k, WW.cell? ⟨sb, k, none⟩ = (SFL)[k]? := by
                        have HQ := HJ
                        (try simp only [hd, cond_true, cond_false] at HQ) <;> first | exact (St.cells HQ 0).1 | exact (St.cells HQ 1).1 | exact (St.cells HQ 2).1 | exact (St.cells HQ 3).1 | exact (St.cells HQ 4).1 | exact (St.cells HQ 5).1 | exact (St.cells HQ 6).1 | exact (St.cells HQ 7).1
                      exact valG (θ := _) (.int .i64 (sf i)) ho (by cases ho; simp [Region.wanted, yielded, HA.tm, lookT, go_sem, p2, p6, p8, hsk]) (by cases ho; simp [execOp, go_sem, HA.tm, lookT, p2, p6, p8, hsk, hcl_]) (by cases ho; exact fun d hd => by cases hd; exact List.mem_of_getElem? (i := 9) rfl) HJ
                    · have p5 : done 5 = true := by cases ho; exact hdep ⟨5, .data⟩ (by simp) rfl
                      have p9 : done 9 = true := by cases ho; exact hdep ⟨9, .data⟩ (by simp) rfl
                      have p4 : done 4 = true := hcl 5 _ rfl p5 ⟨4, .data⟩ (by simp) rfl
                      have p3 : done 3 = true := hcl 4 _ rfl p4 ⟨3, .data⟩ (by simp) rfl
                      have p2 : done 2 = true := hcl 3 _ rfl p3 ⟨2, .guard⟩ (by simp) rfl
                      exact valG (θ := _) (.bool false) ho (by cases ho; simp [Region.wanted, yielded, HA.tm, lookT, go_sem, p2, p3, p4, p5, p9, hss]) (by cases ho; simp [execOp, go_sem, HA.tm, lookT, p2, p3, p4, p5, p9, hss]) (by cases ho; exact fun d hd => by cases hd; exact List.mem_of_getElem? (i := 10) rfl) HJ
                    · have p2 : done 2 = true := by cases ho; exact hdep ⟨2, .data⟩ (by simp) rfl
                      have p10 : done 10 = true := by cases ho; exact hdep ⟨10, .data⟩ (by simp) rfl
                      exact valG (θ := _) (.bool false) ho (by cases ho; rfl) (by cases ho; simp [execOp, go_sem, HA.tm, lookT, p2, p10]) (by cases ho; exact fun d hd => by cases hd; exact List.mem_of_getElem? (i := 11) rfl) HJ
                    · have p11 : done 11 = true := by cases ho; exact hdep ⟨11, .data⟩ (by simp) rfl
                      exact valG (θ := _) (.bool false) ho (by cases ho; rfl) (by cases ho; simp [execOp, go_sem, HA.tm, lookT, p11]) (by cases ho; exact fun d hd => by cases hd; exact List.mem_of_getElem? (i := 12) rfl) HJ
                    · have p12 : done 12 = true := by cases ho; exact hdep ⟨12, .guard⟩ (by simp) rfl
                      exact valG (θ := _) (.pointer (some ⟨xb, 2, none⟩)) ho (by cases ho; simp [Region.wanted, yielded, HA.tm, lookT, go_sem, p12]) (by cases ho; simp [execOp, go_sem, HA.tm, lookT, p12]) (by cases ho; exact fun d hd => by cases hd; exact List.mem_of_getElem? (i := 13) rfl) HJ
                    · have p13 : done 13 = true := by cases ho; exact hdep ⟨13, .data⟩ (by simp) rfl
                      have p12 : done 12 = true := hcl 13 _ rfl p13 ⟨12, .guard⟩ (by simp) rfl
                      have hcl_ : ∀ k, WW.cell? ⟨xb, k, none⟩ = ([.int .u64 gk, .int .i64 uk, .slice a9 nk c9])[k]? := by
                        have HQ := HJ
                        (try simp only [hd, cond_true, cond_false] at HQ) <;> first | exact (St.cells HQ 0).1 | exact (St.cells HQ 1).1 | exact (St.cells HQ 2).1 | exact (St.cells HQ 3).1 | exact (St.cells HQ 4).1 | exact (St.cells HQ 5).1 | exact (St.cells HQ 6).1 | exact (St.cells HQ 7).1
                      exact valG (θ := _) (.slice a9 nk c9) ho (by cases ho; simp [Region.wanted, yielded, HA.tm, lookT, go_sem, p12, p13]) (by cases ho; simp [execOp, go_sem, HA.tm, lookT, p12, p13, hcl_]) (by cases ho; exact fun d hd => by cases hd; exact List.mem_of_getElem? (i := 14) rfl) HJ
                    · have p14 : done 14 = true := by cases ho; exact hdep ⟨14, .data⟩ (by simp) rfl
                      have p13 : done 13 = true := hcl 14 _ rfl p14 ⟨13, .data⟩ (by simp) rfl
                      have p12 : done 12 = true := hcl 13 _ rfl p13 ⟨12, .guard⟩ (by simp) rfl
                      exact valG (θ := _) (.int .i64 nk) ho (by cases ho; simp [Region.wanted, yielded, HA.tm, lookT, go_sem, p12, p13, p14]) (by cases ho; simp [execOp, go_sem, HA.tm, lookT, p12, p13, p14]) (by cases ho; exact fun d hd => by cases hd; exact List.mem_of_getElem? (i := 15) rfl) HJ
                    · have p12 : done 12 = true := by cases ho; exact hdep ⟨12, .guard⟩ (by simp) rfl
                      exact valG (θ := _) (.slice (some ⟨pb, 0, none⟩) 5 5) ho (by cases ho; simp [Region.wanted, yielded, HA.tm, lookT, go_sem, p12]) (by cases ho; simp [execOp, go_sem, HA.tm, lookT, p12]) (by cases ho; exact fun d hd => by cases hd; exact List.mem_of_getElem? (i := 16) rfl) HJ
                    · have p12 : done 12 = true := by cases ho; exact hdep ⟨12, .guard⟩ (by simp) rfl
                      exact valG (θ := _) (.int .i64 i) ho (by cases ho; simp [Region.wanted, yielded, HA.tm, lookT, go_sem, p12]) (by cases ho; simp [execOp, go_sem, HA.tm, lookT, p12]) (by cases ho; exact fun d hd => by cases hd; exact List.mem_of_getElem? (i := 17) rfl) HJ
                    · have p16 : done 16 = true := by cases ho; exact hdep ⟨16, .data⟩ (by simp) rfl
                      have p17 : done 17 = true := by cases ho; exact hdep ⟨17, .data⟩ (by simp) rfl
                      have p12 : done 12 = true := hcl 16 _ rfl p16 ⟨12, .guard⟩ (by simp) rfl
                      exact valG (θ := _) (.pointer (some ⟨pb, i, none⟩)) ho (by cases ho; simp [Region.wanted, yielded, HA.tm, lookT, go_sem, p12, p16, p17, k0, k1]) (by cases ho; simp [execOp, go_sem, HA.tm, lookT, p12, p16, p17, k0, k1]) (by cases ho; exact fun d hd => by cases hd; exact List.mem_of_getElem? (i := 18) rfl) HJ
                    · have p18 : done 18 = true := by cases ho; exact hdep ⟨18, .data⟩ (by simp) rfl
                      have p16 : done 16 = true := hcl 18 _ rfl p18 ⟨16, .data⟩ (by simp) rfl
                      have p12 : done 12 = true := hcl 16 _ rfl p16 ⟨12, .guard⟩ (by simp) rfl
                      have hcl_ : ∀ k, WW.cell? ⟨pb, k, none⟩ = (PVL)[k]? := by
                        have HQ := HJ
                        (try simp only [hd, cond_true, cond_false] at HQ) <;> first | exact (St.cells HQ 0).1 | exact (St.cells HQ 1).1 | exact (St.cells HQ 2).1 | exact (St.cells HQ 3).1 | exact (St.cells HQ 4).1 | exact (St.cells HQ 5).1 | exact (St.cells HQ 6).1 | exact (St.cells HQ 7).1
                      exact valG (θ := _) (.slice aj (pl i).length cj) ho (by cases ho; simp [Region.wanted, yielded, HA.tm, lookT, go_sem, p12, p16, p18, hpk]) (by cases ho; simp [execOp, go_sem, HA.tm, lookT, p12, p16, p18, hpk, hcl_]) (by cases ho; exact fun d hd => by cases hd; exact List.mem_of_getElem? (i := 19) rfl) HJ
                    · have p19 : done 19 = true := by cases ho; exact hdep ⟨19, .data⟩ (by simp) rfl
                      have p18 : done 18 = true := hcl 19 _ rfl p19 ⟨18, .data⟩ (by simp) rfl
                      have p16 : done 16 = true := hcl 18 _ rfl p18 ⟨16, .data⟩ (by simp) rfl
                      have p12 : done 12 = true := hcl 16 _ rfl p16 ⟨12, .guard⟩ (by simp) rfl
                      exact valG (θ := _) (.int .i64 (pl i).length) ho (by cases ho; simp [Region.wanted, yielded, HA.tm, lookT, go_sem, p12, p16, p18, p19]) (by cases ho; simp [execOp, go_sem, HA.tm, lookT, p12, p16, p18, p19]) (by cases ho; exact fun d hd => by cases hd; exact List.mem_of_getElem? (i := 20) rfl) HJ
                    · have p15 : done 15 = true := by cases ho; exact hdep ⟨15, .data⟩ (by simp) rfl
                      have p20 : done 20 = true := by cases ho; exact hdep ⟨20, .data⟩ (by simp) rfl
                      have p14 : done 14 = true := hcl 15 _ rfl p15 ⟨14, .data⟩ (by simp) rfl
                      have p13 : done 13 = true := hcl 14 _ rfl p14 ⟨13, .data⟩ (by simp) rfl
                      have p12 : done 12 = true := hcl 13 _ rfl p13 ⟨12, .guard⟩ (by simp) rfl
                      exact valG (θ := _) (.bool false) ho (by cases ho; simp [Region.wanted, yielded, HA.tm, lookT, go_sem, p12, p13, p14, p15, p20, hmore]) (by cases ho; simp [execOp, go_sem, HA.tm, lookT, p12, p13, p14, p15, p20, hmore]) (by cases ho; exact fun d hd => by cases hd; exact List.mem_of_getElem? (i := 21) rfl) HJ
                    · have p21 : done 21 = true := by cases ho; exact hdep ⟨21, .data⟩ (by simp) rfl
                      have p15 : done 15 = true := hcl 21 _ rfl p21 ⟨15, .data⟩ (by simp) rfl
                      have p14 : done 14 = true := hcl 15 _ rfl p15 ⟨14, .data⟩ (by simp) rfl
                      have p13 : done 13 = true := hcl 14 _ rfl p14 ⟨13, .data⟩ (by simp) rfl
                      have p12 : done 12 = true := hcl 13 _ rfl p13 ⟨12, .guard⟩ (by simp) rfl
                      exact valG (θ := _) (.bool false) ho (by cases ho; simp [Region.wanted, yielded, HA.tm, lookT, go_sem, p12, p13, p14, p15, p21]) (by cases ho; simp [execOp, go_sem, HA.tm, lookT, p12, p13, p14, p15, p21]) (by cases ho; exact fun d hd => by cases hd; exact List.mem_of_getElem? (i := 22) rfl) HJ
                    · have p22 : done 22 = true := by cases ho; exact hdep ⟨22, .guard⟩ (by simp) rfl
                      exact passG (θ := _) ho (by cases ho; simp [Region.wanted, yielded, HA.tm, lookT, go_sem, p22]) (by cases ho; exact fun d hd => by cases hd; exact List.mem_of_getElem? (i := 23) rfl) HJ
                    · have p23 : done 23 = true := by cases ho; exact hdep ⟨23, .data⟩ (by simp) rfl
                      have p22 : done 22 = true := hcl 23 _ rfl p23 ⟨22, .guard⟩ (by simp) rfl
                      exact passG (θ := _) ho (by cases ho; simp [Region.wanted, yielded, HA.tm, lookT, go_sem, p22, p23]) (by cases ho; exact fun d hd => by cases hd; exact List.mem_of_getElem? (i := 24) rfl) HJ
                    · have p22 : done 22 = true := by cases ho; exact hdep ⟨22, .guard⟩ (by simp) rfl
                      exact passG (θ := _) ho (by cases ho; simp [Region.wanted, yielded, HA.tm, lookT, go_sem, p22]) (by cases ho; exact fun d hd => by cases hd; exact List.mem_of_getElem? (i := 25) rfl) HJ
                    · have p22 : done 22 = true := by cases ho; exact hdep ⟨22, .guard⟩ (by simp) rfl
                      exact passG (θ := _) ho (by cases ho; simp [Region.wanted, yielded, HA.tm, lookT, go_sem, p22]) (by cases ho; exact fun d hd => by cases hd; exact List.mem_of_getElem? (i := 26) rfl) HJ
                    · have p25 : done 25 = true := by cases ho; exact hdep ⟨25, .data⟩ (by simp) rfl
                      have p26 : done 26 = true := by cases ho; exact hdep ⟨26, .data⟩ (by simp) rfl
                      have p22 : done 22 = true := hcl 25 _ rfl p25 ⟨22, .guard⟩ (by simp) rfl
                      exact passG (θ := _) ho (by cases ho; simp [Region.wanted, yielded, HA.tm, lookT, go_sem, p22, p25, p26]) (by cases ho; exact fun d hd => by cases hd; exact List.mem_of_getElem? (i := 27) rfl) HJ
                    · have p27 : done 27 = true := by cases ho; exact hdep ⟨27, .data⟩ (by simp) rfl
                      have p25 : done 25 = true := hcl 27 _ rfl p27 ⟨25, .data⟩ (by simp) rfl
                      have p22 : done 22 = true := hcl 25 _ rfl p25 ⟨22, .guard⟩ (by simp) rfl
                      exact passG (θ := _) ho (by cases ho; simp [Region.wanted, yielded, HA.tm, lookT, go_sem, p22, p25, p27]) (by cases ho; exact fun d hd => by cases hd; exact List.mem_of_getElem? (i := 28) rfl) HJ
                    · have p28 : done 28 = true := by cases ho; exact hdep ⟨28, .data⟩ (by simp) rfl
                      have p27 : done 27 = true := hcl 28 _ rfl p28 ⟨27, .data⟩ (by simp) rfl
                      have p25 : done 25 = true := hcl 27 _ rfl p27 ⟨25, .data⟩ (by simp) rfl
                      have p22 : done 22 = true := hcl 25 _ rfl p25 ⟨22, .guard⟩ (by simp) rfl
                      exact passG (θ := _) ho (by cases ho; simp [Region.wanted, yielded, HA.tm, lookT, go_sem, p22, p25, p27, p28]) (by cases ho; exact fun d hd => by cases hd; exact List.mem_of_getElem? (i := 29) rfl) HJ
                    · have p24 : done 24 = true := by cases ho; exact hdep ⟨24, .data⟩ (by simp) rfl
                      have p29 : done 29 = true := by cases ho; exact hdep ⟨29, .data⟩ (by simp) rfl
                      have p23 : done 23 = true := hcl 24 _ rfl p24 ⟨23, .data⟩ (by simp) rfl
                      have p22 : done 22 = true := hcl 23 _ rfl p23 ⟨22, .guard⟩ (by simp) rfl
                      exact passG (θ := _) ho (by cases ho; simp [Region.wanted, yielded, HA.tm, lookT, go_sem, p22, p23, p24, p29]) (by cases ho; exact fun d hd => by cases hd; exact List.mem_of_getElem? (i := 30) rfl) HJ
                    · have p22 : done 22 = true := by cases ho; exact hdep ⟨22, .guard⟩ (by simp) rfl
                      exact passG (θ := _) ho (by cases ho; simp [Region.wanted, yielded, HA.tm, lookT, go_sem, p22]) (by cases ho; exact fun d hd => by cases hd; exact List.mem_of_getElem? (i := 31) rfl) HJ
                    · have p30 : done 30 = true := by cases ho; exact hdep ⟨30, .data⟩ (by simp) rfl
                      have p31 : done 31 = true := by cases ho; exact hdep ⟨31, .data⟩ (by simp) rfl
                      have p24 : done 24 = true := hcl 30 _ rfl p30 ⟨24, .data⟩ (by simp) rfl
                      have p23 : done 23 = true := hcl 24 _ rfl p24 ⟨23, .data⟩ (by simp) rfl
                      have p22 : done 22 = true := hcl 23 _ rfl p23 ⟨22, .guard⟩ (by simp) rfl
                      exact passG (θ := _) ho (by cases ho; simp [Region.wanted, yielded, HA.tm, lookT, go_sem, p22, p23, p24, p30, p31]) (by cases ho; exact fun d hd => by cases hd; exact List.mem_of_getElem? (i := 32) rfl) HJ
                    · have p32 : done 32 = true := by cases ho; exact hdep ⟨32, .data⟩ (by simp) rfl
                      have p30 : done 30 = true := hcl 32 _ rfl p32 ⟨30, .data⟩ (by simp) rfl
                      have p24 : done 24 = true := hcl 30 _ rfl p30 ⟨24, .data⟩ (by simp) rfl
                      have p23 : done 23 = true := hcl 24 _ rfl p24 ⟨23, .data⟩ (by simp) rfl
                      have p22 : done 22 = true := hcl 23 _ rfl p23 ⟨22, .guard⟩ (by simp) rfl
                      exact passG (θ := _) ho (by cases ho; simp [Region.wanted, yielded, HA.tm, lookT, go_sem, p22, p23, p24, p30, p32]) (by cases ho; exact fun d hd => by cases hd; exact List.mem_of_getElem? (i := 33) rfl) HJ
                    · have p22 : done 22 = true := by cases ho; exact hdep ⟨22, .data⟩ (by simp) rfl
                      have p33 : done 33 = true := by cases ho; exact hdep ⟨33, .data⟩ (by simp) rfl
                      have p21 : done 21 = true := hcl 22 _ rfl p22 ⟨21, .data⟩ (by simp) rfl
                      have p15 : done 15 = true := hcl 21 _ rfl p21 ⟨15, .data⟩ (by simp) rfl
                      have p14 : done 14 = true := hcl 15 _ rfl p15 ⟨14, .data⟩ (by simp) rfl
                      have p13 : done 13 = true := hcl 14 _ rfl p14 ⟨13, .data⟩ (by simp) rfl
                      have p12 : done 12 = true := hcl 13 _ rfl p13 ⟨12, .guard⟩ (by simp) rfl
                      exact valG (θ := _) (.bool false) ho (by cases ho; simp [Region.wanted, yielded, HA.tm, lookT, go_sem, p12, p13, p14, p15, p21, p22, p33]) (by cases ho; simp [execOp, go_sem, HA.tm, lookT, p12, p13, p14, p15, p21, p22, p33]) (by cases ho; exact fun d hd => by cases hd; exact List.mem_of_getElem? (i := 34) rfl) HJ
                    · have p12 : done 12 = true := by cases ho; exact hdep ⟨12, .data⟩ (by simp) rfl
                      have p34 : done 34 = true := by cases ho; exact hdep ⟨34, .data⟩ (by simp) rfl
                      exact valG (θ := _) (.bool false) ho (by cases ho; rfl) (by cases ho; simp [execOp, go_sem, HA.tm, lookT, p12, p34]) (by cases ho; exact fun d hd => by cases hd; exact List.mem_of_getElem? (i := 35) rfl) HJ
                  · intro _ done WW hall HJ
                    have HE : St w B [blkA xb [.int .u64 gk, .int .i64 uk, .slice a9 nk c9] 42, blkA s2 (stoC xs ts p) 119, dskA p D', ownA 40 9 (.slice aj (pl i).length cj) (pl i).length ((pl i).flatMap pinC), ow, blkA sb SFL 3, blkA pb PVL 28] S2 WW := St.cast (by simp []) HJ
                    clear HJ hall 
                    simp only [putAll, Act.put, List.setIfInBounds_toArray, List.set_cons_succ, List.set_cons_zero]
                    try go_wp2_with fail
                    go_meet
                    case rel => exact ⟨rfl, Lib.hid HE⟩
              case rest =>
                obtain ⟨rfl, HI9⟩ := hcut
                clear H17
                have H18 := HI9.out
                obtain ⟨hc, hf⟩ := St.cells H18 0
                go_wp2_with fail
                go_loopg [189] nk (fun gq b189 wr => ∃ j : Nat, j ≤ nk ∧ gq = nk - j ∧ b189 = .int .i64 j ∧ Hid (St w B [blkA s2 (stoC xs ts p) 119, dskA p D', ownA 40 9 (.slice aj (pl i).length cj) (pl i).length ((pl i).flatMap pinC), ow, blkA sb SFL 3, blkA pb PVL 28] S2 wr))
                case atStart => exact ⟨0, Nat.zero_le _, rfl, rfl, Lib.hid (St.tail H18)⟩
                case round =>
                  obtain ⟨j, hj, rfl, rfl, HI10⟩ := hrel
                  clear H18 hc hf HI9
                  have H19 := HI10.out
                  by_cases hjl : j < nk
                  · obtain ⟨z, hz⟩ : ∃ z, zs[j]? = some z := by
                      have : zs.length = nk := by rw [HNK.out, ← HZS.out, List.length_map]
                      exact ⟨_, List.getElem?_eq_getElem (by omega)⟩
                    have hps : ps[j]? = some z.core := by rw [← HZS.out, List.getElem?_map, hz]; rfl
                    have HSAME := Lib.hid (HTC.out.same j _ hps)
                    have HZM := Lib.hid (List.mem_of_getElem? hz)
                    obtain ⟨u, ⟨rk, rf, re, rs⟩, ka, va, zx, zc, zy, zd⟩ := z
                    obtain ⟨F, hF⟩ := H19.getS HOWN.out
                    obtain ⟨gz, hgz, _, _⟩ := own_pos hF.2 (by omega)
                    subst hgz
                    have HRZ : wr.rangeAt gz (j * 9) [.int .i64 i, .int .u64 gk, .int .i64 u, .int .i64 rk, .int .u32 rf, .int .u32 re, .int .u64 rs, .slice zx ka.length zc, .slice zy va.length zd] := rangeAt_flat (f := plC i gk) (own_range hF.2) (fun y _ => rfl) hz
                    have j0 : (0 : Int) ≤ (j : Int) := by omega
                    have j1 : (j : Int) < (nk : Int) := by omega
                    clear hF hz hps
                    have H20 := H19.alloc [.int .i64 i, .int .u64 gk, .int .i64 u, .int .i64 rk, .int .u32 rf, .int .u32 re, .int .u64 rs, .slice zx ka.length zc, .slice zy va.length zd] 40
                    obtain ⟨xp, hxp⟩ : ∃ xp, xp = wr.heap.size := ⟨_, rfl⟩
                    rw [← hxp] at H20
                    go_upto_region 45 with (first | (refine wpl_load rfl _ _ rfl gz (j * 9) (by rfl) [.int .i64 i, .int .u64 gk, .int .i64 u, .int .i64 rk, .int .u32 rf, .int .u32 re, .int .u64 rs, .slice zx ka.length zc, .slice zy va.length zd] 9 rfl HRZ bigPlaced ?_) | fail)
                    rw [← hxp]
                    clear hxp
                    refine wp_world (fun W => St w B _ _ W) H20 ?_
                    intro w14 H21
                    clear H19 H20 HRZ HI10
                    go_cut [227] from 194 to 226 (fun s227 wr => s227 = .bool false ∧ Hid (St w B [blkA xp [.int .i64 i, .int .u64 gk, .int .i64 u, .int .i64 rk, .int .u32 rf, .int .u32 re, .int .u64 rs, .slice zx ka.length zc, .slice zy va.length zd] 40, blkA s2 (stoC xs ts p) 119, dskA p D', ownA 40 9 (.slice aj (pl i).length cj) (pl i).length ((pl i).flatMap pinC), ow, blkA sb SFL 3, blkA pb PVL 28] S2 wr))
                    case first =>
                      by_cases hjp : j < (pl i).length
                      · obtain ⟨q, hq, hq1, hq2, hq3, hq4⟩ := HSAME.out hjp
                        have hqm := HCT.out.mem hil q (List.mem_of_getElem? hq)
                        have hs4 := HSS.out _ hqm
                        obtain ⟨qa, prc, pka, pva, px, pc, py, pd⟩ := q
                        unfold Pl.core at hq1 hq2 hq3 hq4
                        dsimp only at hq1 hq2 hq3 hq4 hs4
                        subst hq1 hq2
                        have hq3 := hq3.symm
                        have hq4 := hq4.symm
                        subst hq3 hq4
                        obtain ⟨gp, hgp, _, _⟩ := own_pos (St.own H21 3) (by omega)
                        subst hgp
                        have hpr : ∀ W : World, W.ownsRow 0 40 9 (.slice (some ⟨gp, 0, none⟩) (pl i).length cj) (pl i).length ((pl i).flatMap pinC) → W.rangeAt gp (j * 9) [.int .i64 i, .int .u64 gk, .int .i64 u] ∧ W.rangeAt gp (j * 9 + 3) [.int .i64 rk, .int .u32 rf, .int .u32 re, .int .u64 rs, .slice px ka.length pc, .slice py va.length pd] := fun W h => rangeAt_append.1 (rangeAt_flat (f := pinC) (own_range h) (fun y _ => rfl) hq)
                        have HPR := Lib.hid hpr
                        have HSA := same ⟨rk, rf, re, rs⟩ ⟨rk, rf, re, rs⟩ zx zy px py ka va ka va zc zd pc pd
                        rw [sameR_self] at HSA
                        unfold recV at HSA
                        have HSA := Lib.hid HSA
                        have him : ∀ A ∈ [bytA (.slice zx ka.length zc) ka, bytA (.slice zy va.length zd) va, bytA (.slice px ka.length pc) ka, bytA (.slice py va.length pd) va], ∃ A' ∈ S2, A'.imp A := by
                          intro A hA
                          simp only [List.mem_cons, List.mem_nil_iff, or_false] at hA
                          rcases hA with rfl | rfl | rfl | rfl
                          · exact ⟨ownA 5 1 (.slice zx ka.length zc) ka.length (ka.map u8v), HZO.out _ (List.mem_flatMap.2 ⟨_, HZM.out, by simp [plO]⟩), own_imp_byt _ _⟩
                          · exact ⟨ownA 5 1 (.slice zy va.length zd) va.length (va.map u8v), HZO.out _ (List.mem_flatMap.2 ⟨_, HZM.out, by simp [plO]⟩), own_imp_byt _ _⟩
                          · exact ⟨_, HSO.out _ hs4.1, Asn.imp.refl _⟩
                          · exact ⟨_, HSO.out _ hs4.2, Asn.imp.refl _⟩
                        have HIM := Lib.hid him
                        clear hpr him hs4 hqm hq HSAME
                        have j2 : (j : Int) < ((pl i).length : Int) := by omega
                        refine wp_region_gh (Θ := Unit) (fun _ => [(0, 194, (.int .i64 j)), (1, 195, (.slice (some ⟨pb, 0, none⟩) 5 5)), (2, 196, (.int .i64 i)), (3, 197, (.pointer (some ⟨pb, i, none⟩))), (4, 198, (.slice (some ⟨gp, 0, none⟩) (pl i).length cj)), (5, 199, (.int .i64 (pl i).length)), (6, 200, (.bool true)), (7, 201, (.bool true)), (8, 202, (.pointer (some ⟨xp, 0, none⟩))), (9, 203, (.agg #[.int .i64 i, .int .u64 gk, .int .i64 u])), (10, 204, (.slice (some ⟨pb, 0, none⟩) 5 5)), (11, 205, (.int .i64 i)), (12, 206, (.pointer (some ⟨pb, i, none⟩))), (13, 207, (.slice (some ⟨gp, 0, none⟩) (pl i).length cj)), (14, 208, (.int .i64 j)), (15, 209, (.pointer (some ⟨gp, j * 9, none⟩))), (16, 210, (.pointer (some ⟨gp, j * 9, none⟩))), (17, 211, (.agg #[.int .i64 i, .int .u64 gk, .int .i64 u])), (18, 212, (.bool false)), (19, 213, (.bool false)), (20, 214, (.pointer (some ⟨xp, 3, none⟩))), (21, 215, (.agg #[.int .i64 rk, .int .u32 rf, .int .u32 re, .int .u64 rs, .slice zx ka.length zc, .slice zy va.length zd])), (22, 216, (.slice (some ⟨pb, 0, none⟩) 5 5)), (23, 217, (.int .i64 i)), (24, 218, (.pointer (some ⟨pb, i, none⟩))), (25, 219, (.slice (some ⟨gp, 0, none⟩) (pl i).length cj)), (26, 220, (.int .i64 j)), (27, 221, (.pointer (some ⟨gp, j * 9, none⟩))), (28, 222, (.pointer (some ⟨gp, j * 9 + 3, none⟩))), (29, 223, (.agg #[.int .i64 rk, .int .u32 rf, .int .u32 re, .int .u64 rs, .slice px ka.length pc, .slice py va.length pd])), (30, 224, (.bool true)), (31, 225, (.bool false)), (32, 226, (.bool false)), (33, 227, (.bool false))]) (fun _ done WW => St w B ([blkA xp [.int .i64 i, .int .u64 gk, .int .i64 u, .int .i64 rk, .int .u32 rf, .int .u32 re, .int .u64 rs, .slice zx ka.length zc, .slice zy va.length zd] 40, blkA s2 (stoC xs ts p) 119, dskA p D', ownA 40 9 (.slice (some ⟨gp, 0, none⟩) (pl i).length cj) (pl i).length ((pl i).flatMap pinC), ow, blkA sb SFL 3, blkA pb PVL 28]) S2 WW) (by kernel_rfl) (hord_of2 (by kernel_rfl)) (fun _ => by kernel_rfl) (fun _ => by kernel_rfl) (fun _ => by kernel_rfl) ⟨(), H21.drew⟩ ?_ ?_
                        · intro _ done zb WW j oq ho hd hdep hcl HA HJ
                          have hj : j < 34 := (Array.getElem?_eq_some_iff.1 ho).1
                          obtain rfl | rfl | rfl | rfl | rfl | rfl | rfl | rfl | rfl | rfl | rfl | rfl | rfl | rfl | rfl | rfl | rfl | rfl | rfl | rfl | rfl | rfl | rfl | rfl | rfl | rfl | rfl | rfl | rfl | rfl | rfl | rfl | rfl | rfl : j = 0 ∨ j = 1 ∨ j = 2 ∨ j = 3 ∨ j = 4 ∨ j = 5 ∨ j = 6 ∨ j = 7 ∨ j = 8 ∨ j = 9 ∨ j = 10 ∨ j = 11 ∨ j = 12 ∨ j = 13 ∨ j = 14 ∨ j = 15 ∨ j = 16 ∨ j = 17 ∨ j = 18 ∨ j = 19 ∨ j = 20 ∨ j = 21 ∨ j = 22 ∨ j = 23 ∨ j = 24 ∨ j = 25 ∨ j = 26 ∨ j = 27 ∨ j = 28 ∨ j = 29 ∨ j = 30 ∨ j = 31 ∨ j = 32 ∨ j = 33 := by omega
                          · exact valG (θ := _) (.int .i64 j) ho (by cases ho; rfl) (by cases ho; simp [execOp, go_sem, HA.tm, lookT]) (by cases ho; exact fun d hd => by cases hd; exact List.mem_of_getElem? (i := 0) rfl) HJ
                          · exact valG (θ := _) (.slice (some ⟨pb, 0, none⟩) 5 5) ho (by cases ho; rfl) (by cases ho; simp [execOp, go_sem, HA.tm, lookT]) (by cases ho; exact fun d hd => by cases hd; exact List.mem_of_getElem? (i := 1) rfl) HJ
                          · exact valG (θ := _) (.int .i64 i) ho (by cases ho; rfl) (by cases ho; simp [execOp, go_sem, HA.tm, lookT]) (by cases ho; exact fun d hd => by cases hd; exact List.mem_of_getElem? (i := 2) rfl) HJ
                          · have p1 : done 1 = true := by cases ho; exact hdep ⟨1, .data⟩ (by simp) rfl
                            have p2 : done 2 = true := by cases ho; exact hdep ⟨2, .data⟩ (by simp) rfl
                            exact valG (θ := _) (.pointer (some ⟨pb, i, none⟩)) ho (by cases ho; rfl) (by cases ho; simp [execOp, go_sem, HA.tm, lookT, p1, p2, k0, k1]) (by cases ho; exact fun d hd => by cases hd; exact List.mem_of_getElem? (i := 3) rfl) HJ
                          · have p3 : done 3 = true := by cases ho; exact hdep ⟨3, .data⟩ (by simp) rfl
                            have hcl_ : ∀ k, WW.cell? ⟨pb, k, none⟩ = (PVL)[k]? := by
                              have HQ := HJ
                              (try simp only [hd, cond_true, cond_false] at HQ) <;> first | exact (St.cells HQ 0).1 | exact (St.cells HQ 1).1 | exact (St.cells HQ 2).1 | exact (St.cells HQ 3).1 | exact (St.cells HQ 4).1 | exact (St.cells HQ 5).1 | exact (St.cells HQ 6).1 | exact (St.cells HQ 7).1
                            exact valG (θ := _) (.slice (some ⟨gp, 0, none⟩) (pl i).length cj) ho (by cases ho; rfl) (by cases ho; simp [execOp, go_sem, HA.tm, lookT, p3, hpk, hcl_]) (by cases ho; exact fun d hd => by cases hd; exact List.mem_of_getElem? (i := 4) rfl) HJ
                          · have p4 : done 4 = true := by cases ho; exact hdep ⟨4, .data⟩ (by simp) rfl
                            exact valG (θ := _) (.int .i64 (pl i).length) ho (by cases ho; rfl) (by cases ho; simp [execOp, go_sem, HA.tm, lookT, p4]) (by cases ho; exact fun d hd => by cases hd; exact List.mem_of_getElem? (i := 5) rfl) HJ
                          · have p0 : done 0 = true := by cases ho; exact hdep ⟨0, .data⟩ (by simp) rfl
                            have p5 : done 5 = true := by cases ho; exact hdep ⟨5, .data⟩ (by simp) rfl
                            exact valG (θ := _) (.bool true) ho (by cases ho; rfl) (by cases ho; simp [execOp, go_sem, HA.tm, lookT, p0, p5, hjp]) (by cases ho; exact fun d hd => by cases hd; exact List.mem_of_getElem? (i := 6) rfl) HJ
                          · have p6 : done 6 = true := by cases ho; exact hdep ⟨6, .data⟩ (by simp) rfl
                            exact valG (θ := _) (.bool true) ho (by cases ho; rfl) (by cases ho; simp [execOp, go_sem, HA.tm, lookT, p6]) (by cases ho; exact fun d hd => by cases hd; exact List.mem_of_getElem? (i := 7) rfl) HJ
                          · have p7 : done 7 = true := by cases ho; exact hdep ⟨7, .guard⟩ (by simp) rfl
                            exact valG (θ := _) (.pointer (some ⟨xp, 0, none⟩)) ho (by cases ho; simp [Region.wanted, yielded, HA.tm, lookT, go_sem, p7]) (by cases ho; simp [execOp, go_sem, HA.tm, lookT, p7]) (by cases ho; exact fun d hd => by cases hd; exact List.mem_of_getElem? (i := 8) rfl) HJ
                          · have p8 : done 8 = true := by cases ho; exact hdep ⟨8, .data⟩ (by simp) rfl
                            have p7 : done 7 = true := hcl 8 _ rfl p8 ⟨7, .guard⟩ (by simp) rfl
                            have HRg : WW.rangeAt xp (0) ([.int .i64 i, .int .u64 gk, .int .i64 u]) := by
                              have HQ := HJ
                              (try simp only [hd, cond_true, cond_false] at HQ) <;> exact (rangeAt_append.1 (show _ from St.range HQ 0 : WW.rangeAt xp 0 ([.int .i64 i, .int .u64 gk, .int .i64 u] ++ [.int .i64 rk, .int .u32 rf, .int .u32 re, .int .u64 rs, .slice zx ka.length zc, .slice zy va.length zd]))).1
                            exact loadG (θ := _) (v := (.agg #[.int .i64 i, .int .u64 gk, .int .i64 u])) _ ((.tmp 202)) ho (by cases ho; simp [Region.wanted, yielded, HA.tm, lookT, go_sem, p7, p8]) (by cases ho; rfl) (by simp [HA.ev, HA.tm, lookT, Act.eval, p7, p8]) (bigAddr.load (rfl) HRg) (by cases ho; exact fun d hd => by cases hd; exact List.mem_of_getElem? (i := 9) rfl) HJ
                          · have p7 : done 7 = true := by cases ho; exact hdep ⟨7, .guard⟩ (by simp) rfl
                            exact valG (θ := _) (.slice (some ⟨pb, 0, none⟩) 5 5) ho (by cases ho; simp [Region.wanted, yielded, HA.tm, lookT, go_sem, p7]) (by cases ho; simp [execOp, go_sem, HA.tm, lookT, p7]) (by cases ho; exact fun d hd => by cases hd; exact List.mem_of_getElem? (i := 10) rfl) HJ
                          · have p7 : done 7 = true := by cases ho; exact hdep ⟨7, .guard⟩ (by simp) rfl
                            exact valG (θ := _) (.int .i64 i) ho (by cases ho; simp [Region.wanted, yielded, HA.tm, lookT, go_sem, p7]) (by cases ho; simp [execOp, go_sem, HA.tm, lookT, p7]) (by cases ho; exact fun d hd => by cases hd; exact List.mem_of_getElem? (i := 11) rfl) HJ
                          · have p10 : done 10 = true := by cases ho; exact hdep ⟨10, .data⟩ (by simp) rfl
                            have p11 : done 11 = true := by cases ho; exact hdep ⟨11, .data⟩ (by simp) rfl
                            have p7 : done 7 = true := hcl 10 _ rfl p10 ⟨7, .guard⟩ (by simp) rfl
                            exact valG (θ := _) (.pointer (some ⟨pb, i, none⟩)) ho (by cases ho; simp [Region.wanted, yielded, HA.tm, lookT, go_sem, p7, p10, p11, k0, k1]) (by cases ho; simp [execOp, go_sem, HA.tm, lookT, p7, p10, p11, k0, k1]) (by cases ho; exact fun d hd => by cases hd; exact List.mem_of_getElem? (i := 12) rfl) HJ
                          · have p12 : done 12 = true := by cases ho; exact hdep ⟨12, .data⟩ (by simp) rfl
                            have p10 : done 10 = true := hcl 12 _ rfl p12 ⟨10, .data⟩ (by simp) rfl
                            have p7 : done 7 = true := hcl 10 _ rfl p10 ⟨7, .guard⟩ (by simp) rfl
                            have hcl_ : ∀ k, WW.cell? ⟨pb, k, none⟩ = (PVL)[k]? := by
                              have HQ := HJ
                              (try simp only [hd, cond_true, cond_false] at HQ) <;> first | exact (St.cells HQ 0).1 | exact (St.cells HQ 1).1 | exact (St.cells HQ 2).1 | exact (St.cells HQ 3).1 | exact (St.cells HQ 4).1 | exact (St.cells HQ 5).1 | exact (St.cells HQ 6).1 | exact (St.cells HQ 7).1
                            exact valG (θ := _) (.slice (some ⟨gp, 0, none⟩) (pl i).length cj) ho (by cases ho; simp [Region.wanted, yielded, HA.tm, lookT, go_sem, p7, p10, p12, hpk]) (by cases ho; simp [execOp, go_sem, HA.tm, lookT, p7, p10, p12, hpk, hcl_]) (by cases ho; exact fun d hd => by cases hd; exact List.mem_of_getElem? (i := 13) rfl) HJ
                          · have p7 : done 7 = true := by cases ho; exact hdep ⟨7, .guard⟩ (by simp) rfl
                            exact valG (θ := _) (.int .i64 j) ho (by cases ho; simp [Region.wanted, yielded, HA.tm, lookT, go_sem, p7]) (by cases ho; simp [execOp, go_sem, HA.tm, lookT, p7]) (by cases ho; exact fun d hd => by cases hd; exact List.mem_of_getElem? (i := 14) rfl) HJ
                          · have p13 : done 13 = true := by cases ho; exact hdep ⟨13, .data⟩ (by simp) rfl
                            have p14 : done 14 = true := by cases ho; exact hdep ⟨14, .data⟩ (by simp) rfl
                            have p12 : done 12 = true := hcl 13 _ rfl p13 ⟨12, .data⟩ (by simp) rfl
                            have p10 : done 10 = true := hcl 12 _ rfl p12 ⟨10, .data⟩ (by simp) rfl
                            have p7 : done 7 = true := hcl 10 _ rfl p10 ⟨7, .guard⟩ (by simp) rfl
                            exact valG (θ := _) (.pointer (some ⟨gp, j * 9, none⟩)) ho (by cases ho; simp [Region.wanted, yielded, HA.tm, lookT, go_sem, p7, p10, p12, p13, p14, j0, j2]) (by cases ho; simp [execOp, go_sem, HA.tm, lookT, p7, p10, p12, p13, p14, j0, j2]) (by cases ho; exact fun d hd => by cases hd; exact List.mem_of_getElem? (i := 15) rfl) HJ
                          · have p15 : done 15 = true := by cases ho; exact hdep ⟨15, .data⟩ (by simp) rfl
                            have p13 : done 13 = true := hcl 15 _ rfl p15 ⟨13, .data⟩ (by simp) rfl
                            have p12 : done 12 = true := hcl 13 _ rfl p13 ⟨12, .data⟩ (by simp) rfl
                            have p10 : done 10 = true := hcl 12 _ rfl p12 ⟨10, .data⟩ (by simp) rfl
                            have p7 : done 7 = true := hcl 10 _ rfl p10 ⟨7, .guard⟩ (by simp) rfl
                            exact valG (θ := _) (.pointer (some ⟨gp, j * 9, none⟩)) ho (by cases ho; simp [Region.wanted, yielded, HA.tm, lookT, go_sem, p7, p10, p12, p13, p15]) (by cases ho; simp [execOp, go_sem, HA.tm, lookT, p7, p10, p12, p13, p15]) (by cases ho; exact fun d hd => by cases hd; exact List.mem_of_getElem? (i := 16) rfl) HJ
                          · have p16 : done 16 = true := by cases ho; exact hdep ⟨16, .data⟩ (by simp) rfl
                            have p15 : done 15 = true := hcl 16 _ rfl p16 ⟨15, .data⟩ (by simp) rfl
                            have p13 : done 13 = true := hcl 15 _ rfl p15 ⟨13, .data⟩ (by simp) rfl
                            have p12 : done 12 = true := hcl 13 _ rfl p13 ⟨12, .data⟩ (by simp) rfl
                            have p10 : done 10 = true := hcl 12 _ rfl p12 ⟨10, .data⟩ (by simp) rfl
                            have p7 : done 7 = true := hcl 10 _ rfl p10 ⟨7, .guard⟩ (by simp) rfl
                            have HRg : WW.rangeAt gp (j * 9) ([.int .i64 i, .int .u64 gk, .int .i64 u]) := by
                              have HQ := HJ
                              (try simp only [hd, cond_true, cond_false] at HQ) <;> exact (HPR WW (St.own HQ 3)).1
                            exact loadG (θ := _) (v := (.agg #[.int .i64 i, .int .u64 gk, .int .i64 u])) _ ((.tmp 210)) ho (by cases ho; simp [Region.wanted, yielded, HA.tm, lookT, go_sem, p7, p10, p12, p13, p15, p16]) (by cases ho; rfl) (by simp [HA.ev, HA.tm, lookT, Act.eval, p7, p10, p12, p13, p15, p16]) (bigAddr.load (rfl) HRg) (by cases ho; exact fun d hd => by cases hd; exact List.mem_of_getElem? (i := 17) rfl) HJ
                          · have p9 : done 9 = true := by cases ho; exact hdep ⟨9, .data⟩ (by simp) rfl
                            have p17 : done 17 = true := by cases ho; exact hdep ⟨17, .data⟩ (by simp) rfl
                            have p8 : done 8 = true := hcl 9 _ rfl p9 ⟨8, .data⟩ (by simp) rfl
                            have p7 : done 7 = true := hcl 8 _ rfl p8 ⟨7, .guard⟩ (by simp) rfl
                            exact valG (θ := _) (.bool false) ho (by cases ho; simp [Region.wanted, yielded, HA.tm, lookT, go_sem, p7, p8, p9, p17]) (by cases ho; simp [execOp, go_sem, HA.tm, lookT, p7, p8, p9, p17]) (by cases ho; exact fun d hd => by cases hd; exact List.mem_of_getElem? (i := 18) rfl) HJ
                          · have p18 : done 18 = true := by cases ho; exact hdep ⟨18, .data⟩ (by simp) rfl
                            have p9 : done 9 = true := hcl 18 _ rfl p18 ⟨9, .data⟩ (by simp) rfl
                            have p8 : done 8 = true := hcl 9 _ rfl p9 ⟨8, .data⟩ (by simp) rfl
                            have p7 : done 7 = true := hcl 8 _ rfl p8 ⟨7, .guard⟩ (by simp) rfl
                            exact valG (θ := _) (.bool false) ho (by cases ho; simp [Region.wanted, yielded, HA.tm, lookT, go_sem, p7, p8, p9, p18]) (by cases ho; simp [execOp, go_sem, HA.tm, lookT, p7, p8, p9, p18]) (by cases ho; exact fun d hd => by cases hd; exact List.mem_of_getElem? (i := 19) rfl) HJ
                          · have p19 : done 19 = true := by cases ho; exact hdep ⟨19, .guard⟩ (by simp) rfl
                            exact valG (θ := _) (.pointer (some ⟨xp, 3, none⟩)) ho (by cases ho; simp [Region.wanted, yielded, HA.tm, lookT, go_sem, p19]) (by cases ho; simp [execOp, go_sem, HA.tm, lookT, p19]) (by cases ho; exact fun d hd => by cases hd; exact List.mem_of_getElem? (i := 20) rfl) HJ
                          · have p20 : done 20 = true := by cases ho; exact hdep ⟨20, .data⟩ (by simp) rfl
                            have p19 : done 19 = true := hcl 20 _ rfl p20 ⟨19, .guard⟩ (by simp) rfl
                            have HRg : WW.rangeAt xp (3) ([.int .i64 rk, .int .u32 rf, .int .u32 re, .int .u64 rs, .slice zx ka.length zc, .slice zy va.length zd]) := by
                              have HQ := HJ
                              (try simp only [hd, cond_true, cond_false] at HQ) <;> exact (rangeAt_append.1 (show _ from St.range HQ 0 : WW.rangeAt xp 0 ([.int .i64 i, .int .u64 gk, .int .i64 u] ++ [.int .i64 rk, .int .u32 rf, .int .u32 re, .int .u64 rs, .slice zx ka.length zc, .slice zy va.length zd]))).2
                            exact loadG (θ := _) (v := (.agg #[.int .i64 rk, .int .u32 rf, .int .u32 re, .int .u64 rs, .slice zx ka.length zc, .slice zy va.length zd])) _ ((.tmp 214)) ho (by cases ho; simp [Region.wanted, yielded, HA.tm, lookT, go_sem, p19, p20]) (by cases ho; rfl) (by simp [HA.ev, HA.tm, lookT, Act.eval, p19, p20]) (bigRec.load (rfl) HRg) (by cases ho; exact fun d hd => by cases hd; exact List.mem_of_getElem? (i := 21) rfl) HJ
                          · have p19 : done 19 = true := by cases ho; exact hdep ⟨19, .guard⟩ (by simp) rfl
                            exact valG (θ := _) (.slice (some ⟨pb, 0, none⟩) 5 5) ho (by cases ho; simp [Region.wanted, yielded, HA.tm, lookT, go_sem, p19]) (by cases ho; simp [execOp, go_sem, HA.tm, lookT, p19]) (by cases ho; exact fun d hd => by cases hd; exact List.mem_of_getElem? (i := 22) rfl) HJ
                          · have p19 : done 19 = true := by cases ho; exact hdep ⟨19, .guard⟩ (by simp) rfl
                            exact valG (θ := _) (.int .i64 i) ho (by cases ho; simp [Region.wanted, yielded, HA.tm, lookT, go_sem, p19]) (by cases ho; simp [execOp, go_sem, HA.tm, lookT, p19]) (by cases ho; exact fun d hd => by cases hd; exact List.mem_of_getElem? (i := 23) rfl) HJ
                          · have p22 : done 22 = true := by cases ho; exact hdep ⟨22, .data⟩ (by simp) rfl
                            have p23 : done 23 = true := by cases ho; exact hdep ⟨23, .data⟩ (by simp) rfl
                            have p19 : done 19 = true := hcl 22 _ rfl p22 ⟨19, .guard⟩ (by simp) rfl
                            exact valG (θ := _) (.pointer (some ⟨pb, i, none⟩)) ho (by cases ho; simp [Region.wanted, yielded, HA.tm, lookT, go_sem, p19, p22, p23, k0, k1]) (by cases ho; simp [execOp, go_sem, HA.tm, lookT, p19, p22, p23, k0, k1]) (by cases ho; exact fun d hd => by cases hd; exact List.mem_of_getElem? (i := 24) rfl) HJ
                          · have p24 : done 24 = true := by cases ho; exact hdep ⟨24, .data⟩ (by simp) rfl
                            have p22 : done 22 = true := hcl 24 _ rfl p24 ⟨22, .data⟩ (by simp) rfl
                            have p19 : done 19 = true := hcl 22 _ rfl p22 ⟨19, .guard⟩ (by simp) rfl
                            have hcl_ : ∀ k, WW.cell? ⟨pb, k, none⟩ = (PVL)[k]? := by
                              have HQ := HJ
                              (try simp only [hd, cond_true, cond_false] at HQ) <;> first | exact (St.cells HQ 0).1 | exact (St.cells HQ 1).1 | exact (St.cells HQ 2).1 | exact (St.cells HQ 3).1 | exact (St.cells HQ 4).1 | exact (St.cells HQ 5).1 | exact (St.cells HQ 6).1 | exact (St.cells HQ 7).1
                            exact valG (θ := _) (.slice (some ⟨gp, 0, none⟩) (pl i).length cj) ho (by cases ho; simp [Region.wanted, yielded, HA.tm, lookT, go_sem, p19, p22, p24, hpk]) (by cases ho; simp [execOp, go_sem, HA.tm, lookT, p19, p22, p24, hpk, hcl_]) (by cases ho; exact fun d hd => by cases hd; exact List.mem_of_getElem? (i := 25) rfl) HJ
                          · have p19 : done 19 = true := by cases ho; exact hdep ⟨19, .guard⟩ (by simp) rfl
                            exact valG (θ := _) (.int .i64 j) ho (by cases ho; simp [Region.wanted, yielded, HA.tm, lookT, go_sem, p19]) (by cases ho; simp [execOp, go_sem, HA.tm, lookT, p19]) (by cases ho; exact fun d hd => by cases hd; exact List.mem_of_getElem? (i := 26) rfl) HJ
                          · have p25 : done 25 = true := by cases ho; exact hdep ⟨25, .data⟩ (by simp) rfl
                            have p26 : done 26 = true := by cases ho; exact hdep ⟨26, .data⟩ (by simp) rfl
                            have p24 : done 24 = true := hcl 25 _ rfl p25 ⟨24, .data⟩ (by simp) rfl
                            have p22 : done 22 = true := hcl 24 _ rfl p24 ⟨22, .data⟩ (by simp) rfl
                            have p19 : done 19 = true := hcl 22 _ rfl p22 ⟨19, .guard⟩ (by simp) rfl
                            exact valG (θ := _) (.pointer (some ⟨gp, j * 9, none⟩)) ho (by cases ho; simp [Region.wanted, yielded, HA.tm, lookT, go_sem, p19, p22, p24, p25, p26, j0, j2]) (by cases ho; simp [execOp, go_sem, HA.tm, lookT, p19, p22, p24, p25, p26, j0, j2]) (by cases ho; exact fun d hd => by cases hd; exact List.mem_of_getElem? (i := 27) rfl) HJ
                          · have p27 : done 27 = true := by cases ho; exact hdep ⟨27, .data⟩ (by simp) rfl
                            have p25 : done 25 = true := hcl 27 _ rfl p27 ⟨25, .data⟩ (by simp) rfl
                            have p24 : done 24 = true := hcl 25 _ rfl p25 ⟨24, .data⟩ (by simp) rfl
                            have p22 : done 22 = true := hcl 24 _ rfl p24 ⟨22, .data⟩ (by simp) rfl
                            have p19 : done 19 = true := hcl 22 _ rfl p22 ⟨19, .guard⟩ (by simp) rfl
                            exact valG (θ := _) (.pointer (some ⟨gp, j * 9 + 3, none⟩)) ho (by cases ho; simp [Region.wanted, yielded, HA.tm, lookT, go_sem, p19, p22, p24, p25, p27]) (by cases ho; simp [execOp, go_sem, HA.tm, lookT, p19, p22, p24, p25, p27]) (by cases ho; exact fun d hd => by cases hd; exact List.mem_of_getElem? (i := 28) rfl) HJ
                          · have p28 : done 28 = true := by cases ho; exact hdep ⟨28, .data⟩ (by simp) rfl
                            have p27 : done 27 = true := hcl 28 _ rfl p28 ⟨27, .data⟩ (by simp) rfl
                            have p25 : done 25 = true := hcl 27 _ rfl p27 ⟨25, .data⟩ (by simp) rfl
                            have p24 : done 24 = true := hcl 25 _ rfl p25 ⟨24, .data⟩ (by simp) rfl
                            have p22 : done 22 = true := hcl 24 _ rfl p24 ⟨22, .data⟩ (by simp) rfl
                            have p19 : done 19 = true := hcl 22 _ rfl p22 ⟨19, .guard⟩ (by simp) rfl
                            have HRg : WW.rangeAt gp (j * 9 + 3) ([.int .i64 rk, .int .u32 rf, .int .u32 re, .int .u64 rs, .slice px ka.length pc, .slice py va.length pd]) := by
                              have HQ := HJ
                              (try simp only [hd, cond_true, cond_false] at HQ) <;> exact (HPR WW (St.own HQ 3)).2
                            exact loadG (θ := _) (v := (.agg #[.int .i64 rk, .int .u32 rf, .int .u32 re, .int .u64 rs, .slice px ka.length pc, .slice py va.length pd])) _ ((.tmp 222)) ho (by cases ho; simp [Region.wanted, yielded, HA.tm, lookT, go_sem, p19, p22, p24, p25, p27, p28]) (by cases ho; rfl) (by simp [HA.ev, HA.tm, lookT, Act.eval, p19, p22, p24, p25, p27, p28]) (bigRec.load (rfl) HRg) (by cases ho; exact fun d hd => by cases hd; exact List.mem_of_getElem? (i := 29) rfl) HJ
                          · have p21 : done 21 = true := by cases ho; exact hdep ⟨21, .data⟩ (by simp) rfl
                            have p29 : done 29 = true := by cases ho; exact hdep ⟨29, .data⟩ (by simp) rfl
                            have p20 : done 20 = true := hcl 21 _ rfl p21 ⟨20, .data⟩ (by simp) rfl
                            have p19 : done 19 = true := hcl 20 _ rfl p20 ⟨19, .guard⟩ (by simp) rfl
                            exact callG (θ := _) (f := 10) (args := #[.agg #[.int .i64 rk, .int .u32 rf, .int .u32 re, .int .u64 rs, .slice zx ka.length zc, .slice zy va.length zd], .agg #[.int .i64 rk, .int .u32 rf, .int .u32 re, .int .u64 rs, .slice px ka.length pc, .slice py va.length pd]]) ho (by cases ho; simp [Region.wanted, yielded, HA.tm, lookT, go_sem, p19, p20, p21, p29]) (by cases ho; simp [execOp, go_sem, HA.tm, lookT, p19, p20, p21, p29]) (HSA.out.call (L := []) (M := [_, _, _, _, _, _, _]) HJ (imp_app HIM.out)) (by
                              rintro e w' ⟨_, _, rfl, ⟨rfl, rfl⟩, HS'⟩
                              exact ⟨_, _, rfl, by cases ho; exact fun d hd => by cases hd; exact List.mem_of_getElem? (i := 30) rfl, .inl rfl, HS'⟩)
                          · have p30 : done 30 = true := by cases ho; exact hdep ⟨30, .data⟩ (by simp) rfl
                            have p21 : done 21 = true := hcl 30 _ rfl p30 ⟨21, .data⟩ (by simp) rfl
                            have p20 : done 20 = true := hcl 21 _ rfl p21 ⟨20, .data⟩ (by simp) rfl
                            have p19 : done 19 = true := hcl 20 _ rfl p20 ⟨19, .guard⟩ (by simp) rfl
                            exact valG (θ := _) (.bool false) ho (by cases ho; simp [Region.wanted, yielded, HA.tm, lookT, go_sem, p19, p20, p21, p30]) (by cases ho; simp [execOp, go_sem, HA.tm, lookT, p19, p20, p21, p30]) (by cases ho; exact fun d hd => by cases hd; exact List.mem_of_getElem? (i := 31) rfl) HJ
                          · have p19 : done 19 = true := by cases ho; exact hdep ⟨19, .data⟩ (by simp) rfl
                            have p31 : done 31 = true := by cases ho; exact hdep ⟨31, .data⟩ (by simp) rfl
                            have p18 : done 18 = true := hcl 19 _ rfl p19 ⟨18, .data⟩ (by simp) rfl
                            have p9 : done 9 = true := hcl 18 _ rfl p18 ⟨9, .data⟩ (by simp) rfl
                            have p8 : done 8 = true := hcl 9 _ rfl p9 ⟨8, .data⟩ (by simp) rfl
                            have p7 : done 7 = true := hcl 8 _ rfl p8 ⟨7, .guard⟩ (by simp) rfl
                            exact valG (θ := _) (.bool false) ho (by cases ho; simp [Region.wanted, yielded, HA.tm, lookT, go_sem, p7, p8, p9, p18, p19, p31]) (by cases ho; simp [execOp, go_sem, HA.tm, lookT, p7, p8, p9, p18, p19, p31]) (by cases ho; exact fun d hd => by cases hd; exact List.mem_of_getElem? (i := 32) rfl) HJ
                          · have p7 : done 7 = true := by cases ho; exact hdep ⟨7, .data⟩ (by simp) rfl
                            have p32 : done 32 = true := by cases ho; exact hdep ⟨32, .data⟩ (by simp) rfl
                            exact valG (θ := _) (.bool false) ho (by cases ho; rfl) (by cases ho; simp [execOp, go_sem, HA.tm, lookT, p7, p32]) (by cases ho; exact fun d hd => by cases hd; exact List.mem_of_getElem? (i := 33) rfl) HJ
                        · intro _ done WW hall HJ
                          have HE : St w B [blkA xp [.int .i64 i, .int .u64 gk, .int .i64 u, .int .i64 rk, .int .u32 rf, .int .u32 re, .int .u64 rs, .slice zx ka.length zc, .slice zy va.length zd] 40, blkA s2 (stoC xs ts p) 119, dskA p D', ownA 40 9 (.slice (some ⟨gp, 0, none⟩) (pl i).length cj) (pl i).length ((pl i).flatMap pinC), ow, blkA sb SFL 3, blkA pb PVL 28] S2 WW := St.cast (by simp []) HJ
                          clear HJ hall 
                          simp only [putAll, Act.put, List.setIfInBounds_toArray, List.set_cons_succ, List.set_cons_zero]
                          try go_wp2_with fail
                          go_meet
                          case rel => exact ⟨rfl, Lib.hid HE⟩
                      · skip
                        refine wp_region_gh (Θ := Unit) (fun _ => [(0, 194, (.int .i64 j)), (1, 195, (.slice (some ⟨pb, 0, none⟩) 5 5)), (2, 196, (.int .i64 i)), (3, 197, (.pointer (some ⟨pb, i, none⟩))), (4, 198, (.slice aj (pl i).length cj)), (5, 199, (.int .i64 (pl i).length)), (6, 200, (.bool false)), (7, 201, (.bool false)), (8, 202, undef), (9, 203, undef), (10, 204, undef), (11, 205, undef), (12, 206, undef), (13, 207, undef), (14, 208, undef), (15, 209, undef), (16, 210, undef), (17, 211, undef), (18, 212, undef), (19, 213, undef), (20, 214, undef), (21, 215, undef), (22, 216, undef), (23, 217, undef), (24, 218, undef), (25, 219, undef), (26, 220, undef), (27, 221, undef), (28, 222, undef), (29, 223, undef), (30, 224, undef), (31, 225, undef), (32, 226, undef), (33, 227, (.bool false))]) (fun _ done WW => St w B ([blkA xp [.int .i64 i, .int .u64 gk, .int .i64 u, .int .i64 rk, .int .u32 rf, .int .u32 re, .int .u64 rs, .slice zx ka.length zc, .slice zy va.length zd] 40, blkA s2 (stoC xs ts p) 119, dskA p D', ownA 40 9 (.slice aj (pl i).length cj) (pl i).length ((pl i).flatMap pinC), ow, blkA sb SFL 3, blkA pb PVL 28]) S2 WW) (by kernel_rfl) (hord_of2 (by kernel_rfl)) (fun _ => by kernel_rfl) (fun _ => by kernel_rfl) (fun _ => by kernel_rfl) ⟨(), H21.drew⟩ ?_ ?_
                        · intro _ done zb WW j oq ho hd hdep hcl HA HJ
                          have hj : j < 34 := (Array.getElem?_eq_some_iff.1 ho).1
                          obtain rfl | rfl | rfl | rfl | rfl | rfl | rfl | rfl | rfl | rfl | rfl | rfl | rfl | rfl | rfl | rfl | rfl | rfl | rfl | rfl | rfl | rfl | rfl | rfl | rfl | rfl | rfl | rfl | rfl | rfl | rfl | rfl | rfl | rfl : j = 0 ∨ j = 1 ∨ j = 2 ∨ j = 3 ∨ j = 4 ∨ j = 5 ∨ j = 6 ∨ j = 7 ∨ j = 8 ∨ j = 9 ∨ j = 10 ∨ j = 11 ∨ j = 12 ∨ j = 13 ∨ j = 14 ∨ j = 15 ∨ j = 16 ∨ j = 17 ∨ j = 18 ∨ j = 19 ∨ j = 20 ∨ j = 21 ∨ j = 22 ∨ j = 23 ∨ j = 24 ∨ j = 25 ∨ j = 26 ∨ j = 27 ∨ j = 28 ∨ j = 29 ∨ j = 30 ∨ j = 31 ∨ j = 32 ∨ j = 33 := by omega
                          · exact valG (θ := _) (.int .i64 j) ho (by cases ho; rfl) (by cases ho; simp [execOp, go_sem, HA.tm, lookT]) (by cases ho; exact fun d hd => by cases hd; exact List.mem_of_getElem? (i := 0) rfl) HJ
                          · exact valG (θ := _) (.slice (some ⟨pb, 0, none⟩) 5 5) ho (by cases ho; rfl) (by cases ho; simp [execOp, go_sem, HA.tm, lookT]) (by cases ho; exact fun d hd => by cases hd; exact List.mem_of_getElem? (i := 1) rfl) HJ
                          · exact valG (θ := _) (.int .i64 i) ho (by cases ho; rfl) (by cases ho; simp [execOp, go_sem, HA.tm, lookT]) (by cases ho; exact fun d hd => by cases hd; exact List.mem_of_getElem? (i := 2) rfl) HJ
                          · have p1 : done 1 = true := by cases ho; exact hdep ⟨1, .data⟩ (by simp) rfl
                            have p2 : done 2 = true := by cases ho; exact hdep ⟨2, .data⟩ (by simp) rfl
                            exact valG (θ := _) (.pointer (some ⟨pb, i, none⟩)) ho (by cases ho; rfl) (by cases ho; simp [execOp, go_sem, HA.tm, lookT, p1, p2, k0, k1]) (by cases ho; exact fun d hd => by cases hd; exact List.mem_of_getElem? (i := 3) rfl) HJ
                          · have p3 : done 3 = true := by cases ho; exact hdep ⟨3, .data⟩ (by simp) rfl
                            have hcl_ : ∀ k, WW.cell? ⟨pb, k, none⟩ = (PVL)[k]? := by
                              have HQ := HJ
                              (try simp only [hd, cond_true, cond_false] at HQ) <;> first | exact (St.cells HQ 0).1 | exact (St.cells HQ 1).1 | exact (St.cells HQ 2).1 | exact (St.cells HQ 3).1 | exact (St.cells HQ 4).1 | exact (St.cells HQ 5).1 | exact (St.cells HQ 6).1 | exact (St.cells HQ 7).1
                            exact valG (θ := _) (.slice aj (pl i).length cj) ho (by cases ho; rfl) (by cases ho; simp [execOp, go_sem, HA.tm, lookT, p3, hpk, hcl_]) (by cases ho; exact fun d hd => by cases hd; exact List.mem_of_getElem? (i := 4) rfl) HJ
                          · have p4 : done 4 = true := by cases ho; exact hdep ⟨4, .data⟩ (by simp) rfl
                            exact valG (θ := _) (.int .i64 (pl i).length) ho (by cases ho; rfl) (by cases ho; simp [execOp, go_sem, HA.tm, lookT, p4]) (by cases ho; exact fun d hd => by cases hd; exact List.mem_of_getElem? (i := 5) rfl) HJ
                          · have p0 : done 0 = true := by cases ho; exact hdep ⟨0, .data⟩ (by simp) rfl
                            have p5 : done 5 = true := by cases ho; exact hdep ⟨5, .data⟩ (by simp) rfl
                            exact valG (θ := _) (.bool false) ho (by cases ho; rfl) (by cases ho; simp [execOp, go_sem, HA.tm, lookT, p0, p5, hjp]) (by cases ho; exact fun d hd => by cases hd; exact List.mem_of_getElem? (i := 6) rfl) HJ
                          · have p6 : done 6 = true := by cases ho; exact hdep ⟨6, .data⟩ (by simp) rfl
                            exact valG (θ := _) (.bool false) ho (by cases ho; rfl) (by cases ho; simp [execOp, go_sem, HA.tm, lookT, p6]) (by cases ho; exact fun d hd => by cases hd; exact List.mem_of_getElem? (i := 7) rfl) HJ
                          · have p7 : done 7 = true := by cases ho; exact hdep ⟨7, .guard⟩ (by simp) rfl
                            exact passG (θ := _) ho (by cases ho; simp [Region.wanted, yielded, HA.tm, lookT, go_sem, p7]) (by cases ho; exact fun d hd => by cases hd; exact List.mem_of_getElem? (i := 8) rfl) HJ
                          · have p8 : done 8 = true := by cases ho; exact hdep ⟨8, .data⟩ (by simp) rfl
                            have p7 : done 7 = true := hcl 8 _ rfl p8 ⟨7, .guard⟩ (by simp) rfl
                            exact passG (θ := _) ho (by cases ho; simp [Region.wanted, yielded, HA.tm, lookT, go_sem, p7, p8]) (by cases ho; exact fun d hd => by cases hd; exact List.mem_of_getElem? (i := 9) rfl) HJ
                          · have p7 : done 7 = true := by cases ho; exact hdep ⟨7, .guard⟩ (by simp) rfl
                            exact passG (θ := _) ho (by cases ho; simp [Region.wanted, yielded, HA.tm, lookT, go_sem, p7]) (by cases ho; exact fun d hd => by cases hd; exact List.mem_of_getElem? (i := 10) rfl) HJ
                          · have p7 : done 7 = true := by cases ho; exact hdep ⟨7, .guard⟩ (by simp) rfl
                            exact passG (θ := _) ho (by cases ho; simp [Region.wanted, yielded, HA.tm, lookT, go_sem, p7]) (by cases ho; exact fun d hd => by cases hd; exact List.mem_of_getElem? (i := 11) rfl) HJ
                          · have p10 : done 10 = true := by cases ho; exact hdep ⟨10, .data⟩ (by simp) rfl
                            have p11 : done 11 = true := by cases ho; exact hdep ⟨11, .data⟩ (by simp) rfl
                            have p7 : done 7 = true := hcl 10 _ rfl p10 ⟨7, .guard⟩ (by simp) rfl
                            exact passG (θ := _) ho (by cases ho; simp [Region.wanted, yielded, HA.tm, lookT, go_sem, p7, p10, p11]) (by cases ho; exact fun d hd => by cases hd; exact List.mem_of_getElem? (i := 12) rfl) HJ
                          · have p12 : done 12 = true := by cases ho; exact hdep ⟨12, .data⟩ (by simp) rfl
                            have p10 : done 10 = true := hcl 12 _ rfl p12 ⟨10, .data⟩ (by simp) rfl
                            have p7 : done 7 = true := hcl 10 _ rfl p10 ⟨7, .guard⟩ (by simp) rfl
                            exact passG (θ := _) ho (by cases ho; simp [Region.wanted, yielded, HA.tm, lookT, go_sem, p7, p10, p12]) (by cases ho; exact fun d hd => by cases hd; exact List.mem_of_getElem? (i := 13) rfl) HJ
                          · have p7 : done 7 = true := by cases ho; exact hdep ⟨7, .guard⟩ (by simp) rfl
                            exact passG (θ := _) ho (by cases ho; simp [Region.wanted, yielded, HA.tm, lookT, go_sem, p7]) (by cases ho; exact fun d hd => by cases hd; exact List.mem_of_getElem? (i := 14) rfl) HJ
                          · have p13 : done 13 = true := by cases ho; exact hdep ⟨13, .data⟩ (by simp) rfl
                            have p14 : done 14 = true := by cases ho; exact hdep ⟨14, .data⟩ (by simp) rfl
                            have p12 : done 12 = true := hcl 13 _ rfl p13 ⟨12, .data⟩ (by simp) rfl
                            have p10 : done 10 = true := hcl 12 _ rfl p12 ⟨10, .data⟩ (by simp) rfl
                            have p7 : done 7 = true := hcl 10 _ rfl p10 ⟨7, .guard⟩ (by simp) rfl
                            exact passG (θ := _) ho (by cases ho; simp [Region.wanted, yielded, HA.tm, lookT, go_sem, p7, p10, p12, p13, p14]) (by cases ho; exact fun d hd => by cases hd; exact List.mem_of_getElem? (i := 15) rfl) HJ
                          · have p15 : done 15 = true := by cases ho; exact hdep ⟨15, .data⟩ (by simp) rfl
                            have p13 : done 13 = true := hcl 15 _ rfl p15 ⟨13, .data⟩ (by simp) rfl
                            have p12 : done 12 = true := hcl 13 _ rfl p13 ⟨12, .data⟩ (by simp) rfl
                            have p10 : done 10 = true := hcl 12 _ rfl p12 ⟨10, .data⟩ (by simp) rfl
                            have p7 : done 7 = true := hcl 10 _ rfl p10 ⟨7, .guard⟩ (by simp) rfl
                            exact passG (θ := _) ho (by cases ho; simp [Region.wanted, yielded, HA.tm, lookT, go_sem, p7, p10, p12, p13, p15]) (by cases ho; exact fun d hd => by cases hd; exact List.mem_of_getElem? (i := 16) rfl) HJ
                          · have p16 : done 16 = true := by cases ho; exact hdep ⟨16, .data⟩ (by simp) rfl
                            have p15 : done 15 = true := hcl 16 _ rfl p16 ⟨15, .data⟩ (by simp) rfl
                            have p13 : done 13 = true := hcl 15 _ rfl p15 ⟨13, .data⟩ (by simp) rfl
                            have p12 : done 12 = true := hcl 13 _ rfl p13 ⟨12, .data⟩ (by simp) rfl
                            have p10 : done 10 = true := hcl 12 _ rfl p12 ⟨10, .data⟩ (by simp) rfl
                            have p7 : done 7 = true := hcl 10 _ rfl p10 ⟨7, .guard⟩ (by simp) rfl
                            exact passG (θ := _) ho (by cases ho; simp [Region.wanted, yielded, HA.tm, lookT, go_sem, p7, p10, p12, p13, p15, p16]) (by cases ho; exact fun d hd => by cases hd; exact List.mem_of_getElem? (i := 17) rfl) HJ
                          · have p9 : done 9 = true := by cases ho; exact hdep ⟨9, .data⟩ (by simp) rfl
                            have p17 : done 17 = true := by cases ho; exact hdep ⟨17, .data⟩ (by simp) rfl
                            have p8 : done 8 = true := hcl 9 _ rfl p9 ⟨8, .data⟩ (by simp) rfl
                            have p7 : done 7 = true := hcl 8 _ rfl p8 ⟨7, .guard⟩ (by simp) rfl
                            exact passG (θ := _) ho (by cases ho; simp [Region.wanted, yielded, HA.tm, lookT, go_sem, p7, p8, p9, p17]) (by cases ho; exact fun d hd => by cases hd; exact List.mem_of_getElem? (i := 18) rfl) HJ
                          · have p18 : done 18 = true := by cases ho; exact hdep ⟨18, .data⟩ (by simp) rfl
                            have p9 : done 9 = true := hcl 18 _ rfl p18 ⟨9, .data⟩ (by simp) rfl
                            have p8 : done 8 = true := hcl 9 _ rfl p9 ⟨8, .data⟩ (by simp) rfl
                            have p7 : done 7 = true := hcl 8 _ rfl p8 ⟨7, .guard⟩ (by simp) rfl
                            exact passG (θ := _) ho (by cases ho; simp [Region.wanted, yielded, HA.tm, lookT, go_sem, p7, p8, p9, p18]) (by cases ho; exact fun d hd => by cases hd; exact List.mem_of_getElem? (i := 19) rfl) HJ
                          · have p19 : done 19 = true := by cases ho; exact hdep ⟨19, .guard⟩ (by simp) rfl
                            exact passG (θ := _) ho (by cases ho; simp [Region.wanted, yielded, HA.tm, lookT, go_sem, p19, undef]) (by cases ho; exact fun d hd => by cases hd; exact List.mem_of_getElem? (i := 20) rfl) HJ
                          · have p20 : done 20 = true := by cases ho; exact hdep ⟨20, .data⟩ (by simp) rfl
                            have p19 : done 19 = true := hcl 20 _ rfl p20 ⟨19, .guard⟩ (by simp) rfl
                            exact passG (θ := _) ho (by cases ho; simp [Region.wanted, yielded, HA.tm, lookT, go_sem, p19, p20, undef]) (by cases ho; exact fun d hd => by cases hd; exact List.mem_of_getElem? (i := 21) rfl) HJ
                          · have p19 : done 19 = true := by cases ho; exact hdep ⟨19, .guard⟩ (by simp) rfl
                            exact passG (θ := _) ho (by cases ho; simp [Region.wanted, yielded, HA.tm, lookT, go_sem, p19, undef]) (by cases ho; exact fun d hd => by cases hd; exact List.mem_of_getElem? (i := 22) rfl) HJ
                          · have p19 : done 19 = true := by cases ho; exact hdep ⟨19, .guard⟩ (by simp) rfl
                            exact passG (θ := _) ho (by cases ho; simp [Region.wanted, yielded, HA.tm, lookT, go_sem, p19, undef]) (by cases ho; exact fun d hd => by cases hd; exact List.mem_of_getElem? (i := 23) rfl) HJ
                          · have p22 : done 22 = true := by cases ho; exact hdep ⟨22, .data⟩ (by simp) rfl
                            have p23 : done 23 = true := by cases ho; exact hdep ⟨23, .data⟩ (by simp) rfl
                            have p19 : done 19 = true := hcl 22 _ rfl p22 ⟨19, .guard⟩ (by simp) rfl
                            exact passG (θ := _) ho (by cases ho; simp [Region.wanted, yielded, HA.tm, lookT, go_sem, p19, p22, p23, undef]) (by cases ho; exact fun d hd => by cases hd; exact List.mem_of_getElem? (i := 24) rfl) HJ
                          · have p24 : done 24 = true := by cases ho; exact hdep ⟨24, .data⟩ (by simp) rfl
                            have p22 : done 22 = true := hcl 24 _ rfl p24 ⟨22, .data⟩ (by simp) rfl
                            have p19 : done 19 = true := hcl 22 _ rfl p22 ⟨19, .guard⟩ (by simp) rfl
                            exact passG (θ := _) ho (by cases ho; simp [Region.wanted, yielded, HA.tm, lookT, go_sem, p19, p22, p24, undef]) (by cases ho; exact fun d hd => by cases hd; exact List.mem_of_getElem? (i := 25) rfl) HJ
                          · have p19 : done 19 = true := by cases ho; exact hdep ⟨19, .guard⟩ (by simp) rfl
                            exact passG (θ := _) ho (by cases ho; simp [Region.wanted, yielded, HA.tm, lookT, go_sem, p19, undef]) (by cases ho; exact fun d hd => by cases hd; exact List.mem_of_getElem? (i := 26) rfl) HJ
                          · have p25 : done 25 = true := by cases ho; exact hdep ⟨25, .data⟩ (by simp) rfl
                            have p26 : done 26 = true := by cases ho; exact hdep ⟨26, .data⟩ (by simp) rfl
                            have p24 : done 24 = true := hcl 25 _ rfl p25 ⟨24, .data⟩ (by simp) rfl
                            have p22 : done 22 = true := hcl 24 _ rfl p24 ⟨22, .data⟩ (by simp) rfl
                            have p19 : done 19 = true := hcl 22 _ rfl p22 ⟨19, .guard⟩ (by simp) rfl
                            exact passG (θ := _) ho (by cases ho; simp [Region.wanted, yielded, HA.tm, lookT, go_sem, p19, p22, p24, p25, p26, undef]) (by cases ho; exact fun d hd => by cases hd; exact List.mem_of_getElem? (i := 27) rfl) HJ
                          · have p27 : done 27 = true := by cases ho; exact hdep ⟨27, .data⟩ (by simp) rfl
                            have p25 : done 25 = true := hcl 27 _ rfl p27 ⟨25, .data⟩ (by simp) rfl
                            have p24 : done 24 = true := hcl 25 _ rfl p25 ⟨24, .data⟩ (by simp) rfl
                            have p22 : done 22 = true := hcl 24 _ rfl p24 ⟨22, .data⟩ (by simp) rfl
                            have p19 : done 19 = true := hcl 22 _ rfl p22 ⟨19, .guard⟩ (by simp) rfl
                            exact passG (θ := _) ho (by cases ho; simp [Region.wanted, yielded, HA.tm, lookT, go_sem, p19, p22, p24, p25, p27, undef]) (by cases ho; exact fun d hd => by cases hd; exact List.mem_of_getElem? (i := 28) rfl) HJ
                          · have p28 : done 28 = true := by cases ho; exact hdep ⟨28, .data⟩ (by simp) rfl
                            have p27 : done 27 = true := hcl 28 _ rfl p28 ⟨27, .data⟩ (by simp) rfl
                            have p25 : done 25 = true := hcl 27 _ rfl p27 ⟨25, .data⟩ (by simp) rfl
                            have p24 : done 24 = true := hcl 25 _ rfl p25 ⟨24, .data⟩ (by simp) rfl
                            have p22 : done 22 = true := hcl 24 _ rfl p24 ⟨22, .data⟩ (by simp) rfl
                            have p19 : done 19 = true := hcl 22 _ rfl p22 ⟨19, .guard⟩ (by simp) rfl
                            exact passG (θ := _) ho (by cases ho; simp [Region.wanted, yielded, HA.tm, lookT, go_sem, p19, p22, p24, p25, p27, p28, undef]) (by cases ho; exact fun d hd => by cases hd; exact List.mem_of_getElem? (i := 29) rfl) HJ
                          · have p21 : done 21 = true := by cases ho; exact hdep ⟨21, .data⟩ (by simp) rfl
                            have p29 : done 29 = true := by cases ho; exact hdep ⟨29, .data⟩ (by simp) rfl
                            have p20 : done 20 = true := hcl 21 _ rfl p21 ⟨20, .data⟩ (by simp) rfl
                            have p19 : done 19 = true := hcl 20 _ rfl p20 ⟨19, .guard⟩ (by simp) rfl
                            exact passG (θ := _) ho (by cases ho; simp [Region.wanted, yielded, HA.tm, lookT, go_sem, p19, p20, p21, p29, undef]) (by cases ho; exact fun d hd => by cases hd; exact List.mem_of_getElem? (i := 30) rfl) HJ
                          · have p30 : done 30 = true := by cases ho; exact hdep ⟨30, .data⟩ (by simp) rfl
                            have p21 : done 21 = true := hcl 30 _ rfl p30 ⟨21, .data⟩ (by simp) rfl
                            have p20 : done 20 = true := hcl 21 _ rfl p21 ⟨20, .data⟩ (by simp) rfl
                            have p19 : done 19 = true := hcl 20 _ rfl p20 ⟨19, .guard⟩ (by simp) rfl
                            exact passG (θ := _) ho (by cases ho; simp [Region.wanted, yielded, HA.tm, lookT, go_sem, p19, p20, p21, p30, undef]) (by cases ho; exact fun d hd => by cases hd; exact List.mem_of_getElem? (i := 31) rfl) HJ
                          · have p19 : done 19 = true := by cases ho; exact hdep ⟨19, .data⟩ (by simp) rfl
                            have p31 : done 31 = true := by cases ho; exact hdep ⟨31, .data⟩ (by simp) rfl
                            have p18 : done 18 = true := hcl 19 _ rfl p19 ⟨18, .data⟩ (by simp) rfl
                            have p9 : done 9 = true := hcl 18 _ rfl p18 ⟨9, .data⟩ (by simp) rfl
                            have p8 : done 8 = true := hcl 9 _ rfl p9 ⟨8, .data⟩ (by simp) rfl
                            have p7 : done 7 = true := hcl 8 _ rfl p8 ⟨7, .guard⟩ (by simp) rfl
                            exact passG (θ := _) ho (by cases ho; simp [Region.wanted, yielded, HA.tm, lookT, go_sem, p7, p8, p9, p18, p19, p31]) (by cases ho; exact fun d hd => by cases hd; exact List.mem_of_getElem? (i := 32) rfl) HJ
                          · have p7 : done 7 = true := by cases ho; exact hdep ⟨7, .data⟩ (by simp) rfl
                            have p32 : done 32 = true := by cases ho; exact hdep ⟨32, .data⟩ (by simp) rfl
                            exact valG (θ := _) (.bool false) ho (by cases ho; rfl) (by cases ho; simp [execOp, go_sem, HA.tm, lookT, p7, p32]) (by cases ho; exact fun d hd => by cases hd; exact List.mem_of_getElem? (i := 33) rfl) HJ
                        · intro _ done WW hall HJ
                          have HE : St w B [blkA xp [.int .i64 i, .int .u64 gk, .int .i64 u, .int .i64 rk, .int .u32 rf, .int .u32 re, .int .u64 rs, .slice zx ka.length zc, .slice zy va.length zd] 40, blkA s2 (stoC xs ts p) 119, dskA p D', ownA 40 9 (.slice aj (pl i).length cj) (pl i).length ((pl i).flatMap pinC), ow, blkA sb SFL 3, blkA pb PVL 28] S2 WW := St.cast (by simp []) HJ
                          clear HJ hall 
                          simp only [putAll, Act.put, List.setIfInBounds_toArray, List.set_cons_succ, List.set_cons_zero]
                          try go_wp2_with fail
                          go_meet
                          case rel => exact ⟨rfl, Lib.hid HE⟩
                    case rest =>
                      obtain ⟨rfl, HI11⟩ := hcut
                      clear H21
                      have H22 := HI11.out
                      go_wp2_with fail
                      go_roundg (nk - (j + 1))
                      case measure => omega
                      case rel => exact ⟨j + 1, by omega, rfl, by go_num, Lib.hid (St.tail H22)⟩
                  · have j1 : ¬ (j : Int) < (nk : Int) := by omega
                    go_wp2_with fail
                    go_roundg (5 - (i + 1))
                    case measure => omega
                    case rel =>
                      refine ⟨i + 1, by omega, rfl, by go_num, Lib.hid (St.shares ?_ HSO.out)⟩
                      have h1 := St.pick H19 [2, 3, 0, 1, 4, 5]
                      have h2 := sep_in (f := fun k => ownA 40 9 (PV k) (pl k).length ((pl k).flatMap pinC)) (f' := fun k => ownA 40 9 (PV k) (pl k).length ((pl k).flatMap pinC)) hil (fun _ _ => rfl) (St.cast (by rw [HOW.out, HPV.out]; rfl) h1)
                      refine St.cast ?_ (St.pick h2 [1, 2, 3, 4, 0])
                      rw [HSFL.out, HPVL.out]
                      rfl
            · have i1 : ¬ (i : Int) < 5 := by omega
              go_wp2_with fail
              exact bodyPost_ret (results_tmp rfl _ _ _) rfl (Back.mk (L' := []) ⟨rfl, rfl⟩ (St.pick H8 []))
end Go.Proofs.Ytjmocjcjiiopnaa
end
