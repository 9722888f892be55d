/- The law LogReads, walked. Conditions: the records' numbers fit. -/
import Derived.Test.YtjmocjcjiiopnaaLogReads33

section
set_option linter.unusedVariables false
set_option linter.unusedSimpArgs false
namespace Go.Proofs.Ytjmocjcjiiopnaa
open Go.RowKit Go.Ice Go.Oct Go.Dsk Go.Ring Go.Lg
set_option maxHeartbeats 32000000 in
set_option maxRecDepth 100000 in
theorem logReads (l : List RIn) (a0 : Option Addr) (c0 : Nat) (hlen : l.length ≤ maxLen) (hfits : ∀ z ∈ l, z.rc.fits) : Meets Try.prog 3 #[.slice a0 l.length c0] [] (slA 6 (.slice a0 l.length c0) l.length (l.flatMap rinC) :: rinS l) fun v L => v = .bool true ∧ L = [] := by
  intro w B H
  have hss : ∀ z ∈ l, bytA (.slice z.x z.ka.length z.c) z.ka ∈ slA 6 (.slice a0 l.length c0) l.length (l.flatMap rinC) :: rinS l ∧ bytA (.slice z.y z.va.length z.d) z.va ∈ slA 6 (.slice a0 l.length c0) l.length (l.flatMap rinC) :: rinS l := fun z hz => ⟨List.mem_cons_of_mem _ (rinS_mem hz).1, List.mem_cons_of_mem _ (rinS_mem hz).2⟩
  have hsl : slA 6 (.slice a0 l.length c0) l.length (l.flatMap rinC) ∈ slA 6 (.slice a0 l.length c0) l.length (l.flatMap rinC) :: rinS l := List.mem_cons_self
  generalize slA 6 (.slice a0 l.length c0) l.length (l.flatMap rinC) :: rinS l = S at *
  obtain ⟨n, hn⟩ : ∃ n, n = l.length := ⟨_, rfl⟩
  rw [← hn] at hsl hlen ⊢
  have HSS := Lib.hid hss
  have HSL := Lib.hid hsl
  have HN := Lib.hid hn
  have HFT := Lib.hid hfits
  clear hss hsl hn hfits
  have HW := wakes
  have HB := born 4 30 (by decide) (by decide)
  go_enter Try.func3, Try.ntmps3
  go_wp2_with fail
  refine (HW.call (L := []) (M := []) H (by simp)).mono ?_
  rintro e w1 ⟨_, L1, rfl, ⟨rfl, rfl⟩, H1⟩
  go_wp2_with fail
  refine (HB.call (L := []) (M := []) H1 (by simp)).mono ?_
  rintro e w2 ⟨_, L1, rfl, ⟨g, s, p, rfl, rfl⟩, H2⟩
  clear HB HW H1 H
  have H3 : St w B [ownA 40 9 (.slice none 0 0) 0 [], logA g s p (L0 4 30)] S w2 := St.newNil H2 _ _
  go_upto_block 0 with fail
  go_cut [5, 6, 7, 8, 9] from 30 to 60 (fun s5 s6 s7 s8 s9 wr => ∃ (L : Lg) (m : Nat) (C : Nat → List RecT) (pl : List (AdT × RIn)) (a : Option Addr) (c : Nat), s5 = .slice a pl.length c ∧ pl.length ≤ 60 ∧ Hid (Go.Lg.Told 4 30 120 L m C (pl.map pinR)) ∧ Hid (∀ q ∈ pl, q.2 ∈ l) ∧ Hid (St w B [ownA 40 9 (.slice a pl.length c) pl.length (pl.flatMap pinC), logA g s p L] S wr))
  case first =>
    go_wp2_with fail
    go_loopg [5, 32] n (fun gq b5 b32 wr => ∃ (i : Nat) (L : Lg) (m : Nat) (C : Nat → List RecT) (pl : List (AdT × RIn)) (a : Option Addr) (c : Nat), i ≤ n ∧ i ≤ 60 ∧ gq = n - i ∧ b32 = .int .i64 i ∧ b5 = .slice a pl.length c ∧ pl.length ≤ i ∧ Hid (Go.Lg.Told 4 30 (2 * i) L m C (pl.map pinR)) ∧ Hid (∀ q ∈ pl, q.2 ∈ l) ∧ Hid (St w B [ownA 40 9 (.slice a pl.length c) pl.length (pl.flatMap pinC), logA g s p L] S wr))
    case atStart => exact ⟨0, L0 4 30, 0, fun _ => [], [], none, 0, Nat.zero_le _, Nat.zero_le _, rfl, rfl, rfl, Nat.le_refl _, Lib.hid (Go.Lg.Told.born (by decide) (by decide)), Lib.hid (by simp), Lib.hid H3⟩
    case round =>
      obtain ⟨i, L, m, C, pl, a, c, hi, hi60, rfl, rfl, rfl, hpl, HT, HPM, HI⟩ := hrel
      clear H3 H2
      have HI := HI.out
      by_cases hlt : i < n
      · obtain ⟨z, hz⟩ : ∃ z, l[i]? = some z := ⟨_, List.getElem?_eq_getElem (by rw [← HN.out]; exact hlt)⟩
        have HZ := Lib.hid (List.mem_of_getElem? hz)
        obtain ⟨F, hF⟩ := HI.getS HSL.out
        have hK : IsSlK wr 6 n (.slice a0 n c0) (l.flatMap rinC) := hF.2.2
        obtain ⟨b0, o0, cap, hv, _⟩ := hK.at (by omega)
        cases hv
        have HRX := rin_range hK (by omega) hz
        clear hF hK hz
        have HFZ := Lib.hid (HFT.out z HZ.out)
        have HSZ := Lib.hid (HSS.out z HZ.out)
        obtain ⟨⟨rk, rf, re, rs⟩, ka, va, x, cx, y, cy⟩ := z
        unfold rinC at HRX
        dsimp only at HRX HFZ HSZ
        have i0 : (0 : Int) ≤ (i : Int) := by omega
        have i1 : (i : Int) < (n : Int) := by omega
        have H5 := HI.alloc [.int .i64 rk, .int .u32 rf, .int .u32 re, .int .u64 rs, .slice x ka.length cx, .slice y va.length cy] 33
        obtain ⟨xr, hxr⟩ : ∃ xr, xr = wr.heap.size := ⟨_, rfl⟩
        rw [← hxr] at H5
        go_upto_region 10 with (first | (refine wpl_load rfl _ _ rfl b0 (o0 + i * 6) (by rfl) [.int .i64 rk, .int .u32 rf, .int .u32 re, .int .u64 rs, .slice x ka.length cx, .slice y va.length cy] 6 rfl HRX bigRec ?_) | fail)
        rw [← hxr]
        clear hxr
        refine wp_world (fun W => St w B _ _ W) H5 ?_
        intro w5 H6
        clear HI H5 HRX
        obtain ⟨hc, hf⟩ := St.cells H6 0
        by_cases h60 : i = 60
        · have h60b : ((i : Int) == 60) = true := by simp; omega
          go_wp2_with fail
          go_meet
          case rel => exact ⟨L, m, C, pl, a, c, rfl, by omega, Lib.hid (HT.out.up (by omega)), HPM, Lib.hid (St.pick H6 [1, 2])⟩
        · have h60b : ((i : Int) == 60) = false := by simp; omega
          have H60 := Lib.hid h60
          clear h60
          obtain ⟨hfit, hput, hcase⟩ := HT.out.append (by omega) ⟨⟨rk, rf, re, rs⟩, ka, va⟩ HFZ.out
          have HAP := append g s p L ⟨rk, rf, re, rs⟩ HFZ.out x y ka va cx cy hfit hput
          clear hfit hput
          have hsh : ∀ A ∈ [bytA (.slice x ka.length cx) ka, bytA (.slice y va.length cy) va], A ∈ S := fun A hA => by
            rcases List.mem_cons.1 hA with rfl | hA
            · exact HSZ.out.1
            · cases List.mem_singleton.1 hA; exact HSZ.out.2
          have HSH := Lib.hid hsh
          clear hsh
          rcases hcase with ⟨e, he, hae⟩ | ⟨L', m', C', ⟨ai, ag, au⟩, hae, hT'⟩
          · rw [hae] at HAP
            have HAP : Meets Try.prog 7 #[.pointer (some ⟨g, 0, none⟩), .agg #[.int .i64 rk, .int .u32 rf, .int .u32 re, .int .u64 rs, .slice x ka.length cx, .slice y va.length cy]] [logA g s p L] [bytA (.slice x ka.length cx) ka, bytA (.slice y va.length cy) va] (fun v M => v = .tuple #[.agg #[.int .i64 0, .int .u64 0, .int .i64 0], .int .i64 e] ∧ M = [logA g s p L]) := HAP
            have HAP := Lib.hid HAP
            clear hae
            rcases he with rfl | rfl
            all_goals
              go_wp2_with fail
              refine (HAP.out.call (L := [_]) (M := [_, _]) (St.pick H6 [2, 0, 1]) (self_imp' HSH.out)).mono ?_
              rintro e w6 ⟨_, M', rfl, ⟨rfl, rfl⟩, H7⟩
              clear H6 hc hf
              have H8 := H7.alloc [.int .i64 0, .int .u64 0, .int .i64 0] 35
              go_wp2_with fail
              go_roundg (n - (i + 1))
              case measure => omega
              case rel => exact ⟨i + 1, L, m, C, pl, a, c, by omega, by have := H60.out; omega, rfl, by go_num, rfl, by omega, Lib.hid (HT.out.up (by omega)), HPM, Lib.hid (St.pick H8 [3, 1])⟩
          · rw [hae] at HAP
            have HAP : Meets Try.prog 7 #[.pointer (some ⟨g, 0, none⟩), .agg #[.int .i64 rk, .int .u32 rf, .int .u32 re, .int .u64 rs, .slice x ka.length cx, .slice y va.length cy]] [logA g s p L] [bytA (.slice x ka.length cx) ka, bytA (.slice y va.length cy) va] (fun v M => v = .tuple #[.agg #[.int .i64 ai, .int .u64 ag, .int .i64 au], .int .i64 0] ∧ M = [logA g s p L']) := HAP
            have HAP := Lib.hid HAP
            have HT' := Lib.hid hT'
            clear hae hT'
            go_wp2_with fail
            refine (HAP.out.call (L := [_]) (M := [_, _]) (St.pick H6 [2, 0, 1]) (self_imp' HSH.out)).mono ?_
            rintro e w6 ⟨_, M', rfl, ⟨rfl, rfl⟩, H7⟩
            clear H6 hc hf HAP
            have H8 := H7.alloc [.int .i64 ai, .int .u64 ag, .int .i64 au] 35
            obtain ⟨xa, hxa⟩ : ∃ xa, xa = w6.heap.size := ⟨_, rfl⟩
            rw [← hxa] at H8
            go_upto_region 13 with fail
            rw [← hxa]
            clear hxa
            refine wp_world (fun W => St w B _ _ W) H8 ?_
            intro w8 H9
            clear H7 H8
            obtain ⟨cel, hcel⟩ : ∃ cel, cel = pinC ((ai, ag, au), ⟨⟨rk, rf, re, rs⟩, ka, va, x, cx, y, cy⟩) := ⟨_, rfl⟩
            have hcl : cel = [.int .i64 ai, .int .u64 ag, .int .i64 au, .int .i64 rk, .int .u32 rf, .int .u32 re, .int .u64 rs, .slice x ka.length cx, .slice y va.length cy] := by rw [hcel]; rfl
            have hcl9 : cel.length = 9 := by rw [hcl]; rfl
            have hcl1 : ∀ u ∈ cel, u.oneCell' = true := by rw [hcl]; simp [Value.oneCell']
            have hlit := elemPlaced.lit1 cel hcl9 (by decide) w8
            have H10 := H9.alloc cel 40
            obtain ⟨v6, w9, hr6, H11⟩ := H10.app (ty := 28) elemPlaced 4 rfl (isSlK_of_blk H10 0 rfl 1 (by omega) (by rw [hcl9]) (by decide)) hcl1 (by omega) (by unfold maxLen; omega)
            obtain ⟨a6, c6, rfl, _⟩ := own_form (St.own H11 4)
            have HR6 := Lib.hid hr6
            have HCEL := Lib.hid hcel
            have HCL := Lib.hid hcl
            clear hr6 H10 hcel hcl
            obtain ⟨hc, hf⟩ := St.cells H9 0
            obtain ⟨hc2, hf2⟩ := St.cells H9 2
            go_upto_region 16 with (first | (refine wpl_lit (vals := #[(0, .agg cel.toArray)]) (by rw [HCL.out]; simp [Act.eval]) hlit ?_) | (at_builtin; refine wpList_append_eq rfl _ _ _ rfl rfl rfl HR6.out ?_))
            clear hlit hc hf hc2 hf2
            go_wp2_with fail
            go_roundg (n - (i + 1))
            case measure => omega
            case rel =>
              refine ⟨i + 1, L', m', C', pl ++ [((ai, ag, au), ⟨⟨rk, rf, re, rs⟩, ka, va, x, cx, y, cy⟩)], a6, c6, by omega, by have := H60.out; omega, rfl, by go_num, by rw [List.length_append]; rfl, by rw [List.length_append]; show pl.length + 1 ≤ i + 1; omega, Lib.hid ?_, Lib.hid ?_, Lib.hid ?_⟩
              · rw [List.map_append]; exact HT'.out
              · intro q hq
                rcases List.mem_append.1 hq with hq | hq
                · exact HPM.out q hq
                · cases List.mem_singleton.1 hq; exact HZ.out
              · rw [List.flatMap_append, List.length_append, List.length_singleton, List.flatMap_singleton, ← HCEL.out]
                exact St.pick H11 [4, 2]
      · have i1 : ¬ (i : Int) < (n : Int) := by omega
        go_wp2_with fail
        go_meet
        case rel => exact ⟨L, m, C, pl, a, c, rfl, by omega, Lib.hid (HT.out.up (by omega)), HPM, HI⟩
  case rest =>
    obtain ⟨L, m, C, pl, a, c, rfl, hpl, HT, HPM, HI⟩ := hcut
    clear H3 H2
    have H4 := HI.out
    have hbd := HT.out.good.bd
    go_wp2_with fail
    go_loopg [10, 60] 4 (fun gq b10 b60 wr => ∃ k : Nat, k ≤ 4 ∧ gq = 4 - k ∧ b60 = .int .i64 k ∧ b10 = .int .i64 (Go.Lg.ahead C k) ∧ Hid (St w B [ownA 40 9 (.slice a pl.length c) pl.length (pl.flatMap pinC), logA g s p L] S wr))
    case atStart => exact ⟨0, Nat.zero_le _, rfl, rfl, rfl, HI⟩
    case round =>
      obtain ⟨k, hk, rfl, rfl, rfl, HI2⟩ := hrel
      have H5 := HI2.out
      by_cases hlt : k < 4
      · obtain ⟨gk, uk, hsc, hgk⟩ := HT.out.scan (by omega) hlt
        have hk1 : (k : Int) < 4 := by omega
        have HSU := Lib.hid (lsuper g s p L)
        have HSC := lscan s p L.x L.t L.D k HT.out.good.may (by rw [HT.out.good.xseg]; omega)
        rw [hsc] at HSC
        have HSC : Meets Try.prog 8 #[.pointer (some ⟨s, 0, none⟩), .int .i64 k] [blkA s (stoC L.x L.t p) 119, dskA p L.D] [] (fun v M => ∃ vs, v = .tuple #[.agg #[.int .u64 gk, .int .i64 uk, vs], .int .i64 0] ∧ M = [blkA s (stoC L.x L.t p) 119, dskA p L.D, plsA k gk vs (placed 1 (C k))]) := HSC
        have HSC := Lib.hid HSC
        have HGK := Lib.hid hgk
        clear hsc hgk
        go_wp2_with fail
        refine (HSU.out.call (L := [_]) (M := [_]) (St.pick H5 [1, 0]) (by simp)).mono ?_
        rintro e w7 ⟨_, M', rfl, ⟨rfl, rfl⟩, H7⟩
        obtain ⟨av, cv, H8⟩ := logA.open H7
        clear H5 H7
        go_wp2_with fail
        refine (HSC.out.call (L := [_, _]) (M := [_, _, _]) (St.pick H8 [1, 2, 0, 3, 4]) (by simp)).mono ?_
        rintro e w8 ⟨_, M', rfl, ⟨vs, rfl, rfl⟩, H9⟩
        clear H8 HSU HSC
        have H10 := logA.close (L := L) (St.pick H9 [3, 0, 1, 4, 2, 5])
        obtain ⟨zs, H11⟩ := St.open_ (St.pick H10 [1, 0, 2])
        obtain ⟨hzs, H12⟩ := St.pur (St.flat H11)
        obtain ⟨S1, H13, hs1, hs2⟩ := St.shareAll (zs.flatMap plO) (St.flat (St.pick H12 [1, 0, 2, 3]))
        obtain ⟨nk, hnk⟩ : ∃ nk, nk = (placed 1 (C k)).length := ⟨_, rfl⟩
        rw [← hnk] at H13
        obtain ⟨a9, c9, rfl, hnm⟩ := own_form (St.own H13 0)
        have H14 := St.share H13
        clear H13 H12 H11 H10 H9
        have hown : ownA 40 9 (.slice a9 nk c9) nk (zs.flatMap (plC k gk)) ∈ ownA 40 9 (.slice a9 nk c9) nk (zs.flatMap (plC k gk)) :: S1 := List.mem_cons_self
        have hzo : ∀ A ∈ zs.flatMap plO, A ∈ ownA 40 9 (.slice a9 nk c9) nk (zs.flatMap (plC k gk)) :: S1 := fun A hA => List.mem_cons_of_mem _ (hs1 A hA)
        have hso : ∀ A ∈ S, A ∈ ownA 40 9 (.slice a9 nk c9) nk (zs.flatMap (plC k gk)) :: S1 := fun A hA => List.mem_cons_of_mem _ (hs2 A hA)
        generalize ownA 40 9 (.slice a9 nk c9) nk (zs.flatMap (plC k gk)) :: S1 = S2 at *
        have HZS := Lib.hid hzs
        have HNK := Lib.hid hnk
        have HOW := Lib.hid hown
        have HZO := Lib.hid hzo
        have HSO := Lib.hid hso
        clear hzs hnk hown hzo hso hs1 hs2
        have H15 := H14.alloc [.int .u64 gk, .int .i64 uk, .slice a9 nk c9] 42
        obtain ⟨xs, hxs⟩ : ∃ xs, xs = w8.heap.size := ⟨_, rfl⟩
        rw [← hxs] at H15
        go_upto_region 22 with fail
        rw [← hxs]
        clear hxs
        refine wp_world (fun W => St w B _ _ W) H15 ?_
        intro w9 H16
        clear H14 H15
        obtain ⟨hc, hf⟩ := St.cells H16 0
        go_wp2_with fail
        go_loopg [10, 75] nk (fun gq b10 b75 wi => ∃ j : Nat, j ≤ nk ∧ gq = nk - j ∧ b75 = .int .i64 j ∧ b10 = .int .i64 (Go.Lg.ahead C k + j : Nat) ∧ Hid (St w B [logA g s p L, ownA 40 9 (.slice a pl.length c) pl.length (pl.flatMap pinC)] S2 wi))
        case atStart => exact ⟨0, Nat.zero_le _, rfl, rfl, rfl, Lib.hid (St.pick H16 [1, 2])⟩
        case round =>
          obtain ⟨j, hj, rfl, rfl, rfl, HI3⟩ := hrel
          clear H16 hc hf
          have H16 := HI3.out
          by_cases hjl : j < nk
          · obtain ⟨z, hz⟩ : ∃ z, zs[j]? = some z := by
              have : zs.length = nk := by rw [HNK.out, ← HZS.out, List.length_map]
              exact ⟨_, List.getElem?_eq_getElem (by omega)⟩
            have hcore : (placed 1 (C k))[j]? = some z.core := by rw [← HZS.out, List.getElem?_map, hz]; rfl
            have hne : C k ≠ [] := fun e => by rw [e] at hcore; simp [placed] at hcore
            have hgk : gk = k + 1 := HGK.out hne
            have hat := HT.out.at hlt hcore
            have hrd := HT.out.read (by omega) hlt hcore
            rw [List.getElem?_map] at hat
            obtain ⟨⟨ad, rin⟩, hq, hpr⟩ := Option.map_eq_some_iff.1 hat
            obtain ⟨u, rc0, ka0, va0, zx, zc, zy, zd⟩ := z
            obtain ⟨rc, ka, va, px, pc, py, pd⟩ := rin
            unfold pinR Pl.core at hpr
            simp only [Prod.mk.injEq, RecT.mk.injEq] at hpr
            obtain ⟨rfl, rfl, rfl, rfl⟩ := hpr
            have hz2 := HPM.out _ (List.mem_of_getElem? hq)
            have hs4 := HSS.out _ hz2
            unfold Pl.core at hrd
            dsimp only at hrd hs4
            rw [← hgk] at hrd hq
            obtain ⟨q, hqq⟩ : ∃ q, q = Go.Lg.ahead C k + j := ⟨_, rfl⟩
            have hqlt : q < pl.length := by rw [hqq]; exact (List.getElem?_eq_some_iff.1 hq).1
            rw [← hqq] at hq ⊢
            obtain ⟨gp, hgp, _, _⟩ := own_pos (St.own H16 1) (by omega)
            subst hgp
            have hpr : ∀ W : World, W.ownsRow 0 40 9 (.slice (some ⟨gp, 0, none⟩) pl.length c) pl.length (pl.flatMap pinC) → W.rangeAt gp (q * 9) [.int .i64 k, .int .u64 gk, .int .i64 u] ∧ W.rangeAt gp (q * 9 + 3) [.int .i64 rc.k, .int .u32 rc.f, .int .u32 rc.e, .int .u64 rc.s, .slice px ka.length pc, .slice py va.length pd] := fun W h => rangeAt_append.1 (rangeAt_flat (f := pinC) (own_range h) (fun y _ => rfl) hq)
            obtain ⟨rk, rf, re, rs⟩ := rc
            dsimp only at hpr
            have HPR := Lib.hid hpr
            clear hpr
            obtain ⟨F, hF⟩ := H16.getS HOW.out
            obtain ⟨gz, hgz, _, _⟩ := own_pos hF.2 (by omega)
            subst hgz
            have HRZ : wr.rangeAt gz (j * 9) [.int .i64 k, .int .u64 gk, .int .i64 u, .int .i64 rk, .int .u32 rf, .int .u32 re, .int .u64 rs, .slice zx ka.length zc, .slice zy va.length zd] := rangeAt_flat (f := plC k gk) (own_range hF.2) (fun y _ => rfl) hz
            have j0 : (0 : Int) ≤ (j : Int) := by omega
            have j1 : (j : Int) < (nk : Int) := by omega
            have hq0 : (0 : Int) ≤ (q : Int) := by omega
            have hq1 : (q : Int) < (pl.length : Int) := by omega
            have hqn : q < pl.length := hqlt
            have hge : decide ((q : Int) ≥ (pl.length : Int)) = false := decide_eq_false (by omega)
            have HZM := Lib.hid (List.mem_of_getElem? hz)
            have HS4 := Lib.hid hs4
            have HRD := Lib.hid hrd
            have HGK2 := Lib.hid hgk
            have HQQ := Lib.hid hqq
            clear hF hz hcore hne hgk hat hrd hq hz2 hs4 hqq hqlt
            have H17 := H16.alloc [.int .i64 k, .int .u64 gk, .int .i64 u, .int .i64 rk, .int .u32 rf, .int .u32 re, .int .u64 rs, .slice zx ka.length zc, .slice zy va.length zd] 40
            obtain ⟨xb, hxb⟩ : ∃ xb, xb = wr.heap.size := ⟨_, rfl⟩
            rw [← hxb] at H17
            go_upto_region 27 with (first | (refine wpl_load rfl _ _ rfl gz (j * 9) (by rfl) [.int .i64 k, .int .u64 gk, .int .i64 u, .int .i64 rk, .int .u32 rf, .int .u32 re, .int .u64 rs, .slice zx ka.length zc, .slice zy va.length zd] 9 rfl HRZ bigPlaced ?_) | fail)
            rw [← hxb]
            clear hxb
            refine wp_world (fun W => St w B _ _ W) H17 ?_
            intro w10 H18
            clear H16 H17 HRZ
            have HSA := same ⟨rk, rf, re, rs⟩ ⟨rk, rf, re, rs⟩ zx zy px py ka va ka va zc zd pc pd
            rw [sameR_self] at HSA
            unfold recV at HSA
            have HSA := Lib.hid HSA
            have hi1 : ∃ A' ∈ S2, A'.imp (bytA (.slice zx ka.length zc) ka) := ⟨ownA 5 1 (.slice zx ka.length zc) ka.length (ka.map u8v), HZO.out _ (List.mem_flatMap.2 ⟨_, HZM.out, by simp [plO]⟩), own_imp_byt _ _⟩
            have hi2 : ∃ A' ∈ S2, A'.imp (bytA (.slice zy va.length zd) va) := ⟨ownA 5 1 (.slice zy va.length zd) va.length (va.map u8v), HZO.out _ (List.mem_flatMap.2 ⟨_, HZM.out, by simp [plO]⟩), own_imp_byt _ _⟩
            have him : ∀ A ∈ [bytA (.slice zx ka.length zc) ka, bytA (.slice zy va.length zd) va, bytA (.slice px ka.length pc) ka, bytA (.slice py va.length pd) va], ∃ A' ∈ S2, A'.imp A := by
              intro A hA
              simp only [List.mem_cons, List.mem_nil_iff, or_false] at hA
              rcases hA with rfl | rfl | rfl | rfl
              · exact hi1
              · exact hi2
              · exact ⟨_, HSO.out _ HS4.out.1, Asn.imp.refl _⟩
              · exact ⟨_, HSO.out _ HS4.out.2, Asn.imp.refl _⟩
            have HIM := Lib.hid him
            have HI1 := Lib.hid hi1
            have HI2' := Lib.hid hi2
            clear him hi1 hi2
            refine wp_region_gh (Θ := Unit) (fun _ => [(0, 79, (.int .i64 q)), (1, 80, (.slice (some ⟨gp, 0, none⟩) pl.length c)), (2, 81, (.int .i64 pl.length)), (3, 82, (.bool false)), (4, 83, (.bool false)), (5, 84, (.pointer (some ⟨xb, 0, none⟩))), (6, 85, (.agg #[.int .i64 k, .int .u64 gk, .int .i64 u])), (7, 86, (.slice (some ⟨gp, 0, none⟩) pl.length c)), (8, 87, (.int .i64 q)), (9, 88, (.pointer (some ⟨gp, q * 9, none⟩))), (10, 89, (.pointer (some ⟨gp, q * 9, none⟩))), (11, 90, (.agg #[.int .i64 k, .int .u64 gk, .int .i64 u])), (12, 91, (.bool false)), (13, 92, (.bool false)), (14, 93, (.bool false)), (15, 94, (.pointer (some ⟨xb, 3, none⟩))), (16, 95, (.agg #[.int .i64 rk, .int .u32 rf, .int .u32 re, .int .u64 rs, .slice zx ka.length zc, .slice zy va.length zd])), (17, 96, (.slice (some ⟨gp, 0, none⟩) pl.length c)), (18, 97, (.int .i64 q)), (19, 98, (.pointer (some ⟨gp, q * 9, none⟩))), (20, 99, (.pointer (some ⟨gp, q * 9 + 3, none⟩))), (21, 100, (.agg #[.int .i64 rk, .int .u32 rf, .int .u32 re, .int .u64 rs, .slice px ka.length pc, .slice py va.length pd])), (22, 101, (.bool true)), (23, 102, (.bool false)), (24, 103, (.bool false))]) (fun _ done WW => St w B ([blkA xb [.int .i64 k, .int .u64 gk, .int .i64 u, .int .i64 rk, .int .u32 rf, .int .u32 re, .int .u64 rs, .slice zx ka.length zc, .slice zy va.length zd] 40, logA g s p L, ownA 40 9 (.slice (some ⟨gp, 0, none⟩) pl.length c) pl.length (pl.flatMap pinC)]) S2 WW) (by kernel_rfl) (hord_of2 (by kernel_rfl)) (fun _ => by kernel_rfl) (fun _ => by kernel_rfl) (fun _ => by kernel_rfl) ⟨(), H18.drew⟩ ?_ ?_
            · intro _ done zb WW j oq ho hd hdep hcl HA HJ
              have hj : j < 25 := (Array.getElem?_eq_some_iff.1 ho).1
              obtain rfl | rfl | rfl | rfl | rfl | rfl | rfl | rfl | rfl | rfl | rfl | rfl | rfl | rfl | rfl | rfl | rfl | rfl | rfl | rfl | rfl | rfl | rfl | rfl | rfl : j = 0 ∨ j = 1 ∨ j = 2 ∨ j = 3 ∨ j = 4 ∨ j = 5 ∨ j = 6 ∨ j = 7 ∨ j = 8 ∨ j = 9 ∨ j = 10 ∨ j = 11 ∨ j = 12 ∨ j = 13 ∨ j = 14 ∨ j = 15 ∨ j = 16 ∨ j = 17 ∨ j = 18 ∨ j = 19 ∨ j = 20 ∨ j = 21 ∨ j = 22 ∨ j = 23 ∨ j = 24 := by omega
              · exact valG (θ := _) (.int .i64 q) ho (by cases ho; rfl) (by cases ho; simp [execOp, go_sem, HA.tm, lookT]) (by cases ho; exact fun d hd => by cases hd; simp) HJ
              · exact valG (θ := _) (.slice (some ⟨gp, 0, none⟩) pl.length c) ho (by cases ho; rfl) (by cases ho; simp [execOp, go_sem, HA.tm, lookT]) (by cases ho; exact fun d hd => by cases hd; simp) HJ
              · have p1 : done 1 = true := by cases ho; exact hdep ⟨1, .data⟩ (by simp) rfl
                exact valG (θ := _) (.int .i64 pl.length) ho (by cases ho; rfl) (by cases ho; simp [execOp, go_sem, HA.tm, lookT, p1]) (by cases ho; exact fun d hd => by cases hd; simp) HJ
              · have p0 : done 0 = true := by cases ho; exact hdep ⟨0, .data⟩ (by simp) rfl
                have p2 : done 2 = true := by cases ho; exact hdep ⟨2, .data⟩ (by simp) rfl
                exact valG (θ := _) (.bool false) ho (by cases ho; rfl) (by cases ho; simp [execOp, go_sem, HA.tm, lookT, p0, p2, hqn]) (by cases ho; exact fun d hd => by cases hd; simp) HJ
              · have p3 : done 3 = true := by cases ho; exact hdep ⟨3, .data⟩ (by simp) rfl
                exact valG (θ := _) (.bool false) ho (by cases ho; rfl) (by cases ho; simp [execOp, go_sem, HA.tm, lookT, p3]) (by cases ho; exact fun d hd => by cases hd; simp) HJ
              · have p4 : done 4 = true := by cases ho; exact hdep ⟨4, .guard⟩ (by simp) rfl
                exact valG (θ := _) (.pointer (some ⟨xb, 0, none⟩)) ho (by cases ho; simp [Region.wanted, yielded, HA.tm, lookT, go_sem, p4]) (by cases ho; simp [execOp, go_sem, HA.tm, lookT, p4]) (by cases ho; exact fun d hd => by cases hd; simp) HJ
              · have p5 : done 5 = true := by cases ho; exact hdep ⟨5, .data⟩ (by simp) rfl
                have p4 : done 4 = true := hcl 5 _ rfl p5 ⟨4, .guard⟩ (by simp) rfl
                have HRg : WW.rangeAt xb (0) ([.int .i64 k, .int .u64 gk, .int .i64 u]) := by
                  have HQ := HJ
                  (try simp only [hd, cond_true, cond_false] at HQ) <;> exact (rangeAt_append.1 (show _ from St.range HQ 0 : WW.rangeAt xb 0 ([.int .i64 k, .int .u64 gk, .int .i64 u] ++ [.int .i64 rk, .int .u32 rf, .int .u32 re, .int .u64 rs, .slice zx ka.length zc, .slice zy va.length zd]))).1
                exact loadG (θ := _) (v := (.agg #[.int .i64 k, .int .u64 gk, .int .i64 u])) _ ((.tmp 84)) ho (by cases ho; simp [Region.wanted, yielded, HA.tm, lookT, go_sem, p4, p5]) (by cases ho; rfl) (by simp [HA.ev, HA.tm, lookT, Act.eval, p4, p5]) (bigAddr.load (rfl) HRg) (by cases ho; exact fun d hd => by cases hd; simp) HJ
              · have p4 : done 4 = true := by cases ho; exact hdep ⟨4, .guard⟩ (by simp) rfl
                exact valG (θ := _) (.slice (some ⟨gp, 0, none⟩) pl.length c) ho (by cases ho; simp [Region.wanted, yielded, HA.tm, lookT, go_sem, p4]) (by cases ho; simp [execOp, go_sem, HA.tm, lookT, p4]) (by cases ho; exact fun d hd => by cases hd; simp) HJ
              · have p4 : done 4 = true := by cases ho; exact hdep ⟨4, .guard⟩ (by simp) rfl
                exact valG (θ := _) (.int .i64 q) ho (by cases ho; simp [Region.wanted, yielded, HA.tm, lookT, go_sem, p4]) (by cases ho; simp [execOp, go_sem, HA.tm, lookT, p4]) (by cases ho; exact fun d hd => by cases hd; simp) HJ
              · have p7 : done 7 = true := by cases ho; exact hdep ⟨7, .data⟩ (by simp) rfl
                have p8 : done 8 = true := by cases ho; exact hdep ⟨8, .data⟩ (by simp) rfl
                have p4 : done 4 = true := hcl 7 _ rfl p7 ⟨4, .guard⟩ (by simp) rfl
                exact valG (θ := _) (.pointer (some ⟨gp, q * 9, none⟩)) ho (by cases ho; simp [Region.wanted, yielded, HA.tm, lookT, go_sem, p4, p7, p8, hq0, hq1]) (by cases ho; simp [execOp, go_sem, HA.tm, lookT, p4, p7, p8, hq0, hq1]) (by cases ho; exact fun d hd => by cases hd; simp) HJ
              · have p9 : done 9 = true := by cases ho; exact hdep ⟨9, .data⟩ (by simp) rfl
                have p7 : done 7 = true := hcl 9 _ rfl p9 ⟨7, .data⟩ (by simp) rfl
                have p4 : done 4 = true := hcl 7 _ rfl p7 ⟨4, .guard⟩ (by simp) rfl
                exact valG (θ := _) (.pointer (some ⟨gp, q * 9, none⟩)) ho (by cases ho; simp [Region.wanted, yielded, HA.tm, lookT, go_sem, p4, p7, p9]) (by cases ho; simp [execOp, go_sem, HA.tm, lookT, p4, p7, p9]) (by cases ho; exact fun d hd => by cases hd; simp) HJ
              · have p10 : done 10 = true := by cases ho; exact hdep ⟨10, .data⟩ (by simp) rfl
                have p9 : done 9 = true := hcl 10 _ rfl p10 ⟨9, .data⟩ (by simp) rfl
                have p7 : done 7 = true := hcl 9 _ rfl p9 ⟨7, .data⟩ (by simp) rfl
                have p4 : done 4 = true := hcl 7 _ rfl p7 ⟨4, .guard⟩ (by simp) rfl
                have HRg : WW.rangeAt gp (q * 9) ([.int .i64 k, .int .u64 gk, .int .i64 u]) := by
                  have HQ := HJ
                  (try simp only [hd, cond_true, cond_false] at HQ) <;> exact (HPR WW (St.own HQ 2)).1
                exact loadG (θ := _) (v := (.agg #[.int .i64 k, .int .u64 gk, .int .i64 u])) _ ((.tmp 89)) ho (by cases ho; simp [Region.wanted, yielded, HA.tm, lookT, go_sem, p4, p7, p9, p10]) (by cases ho; rfl) (by simp [HA.ev, HA.tm, lookT, Act.eval, p4, p7, p9, p10]) (bigAddr.load (rfl) HRg) (by cases ho; exact fun d hd => by cases hd; simp) HJ
              · have p6 : done 6 = true := by cases ho; exact hdep ⟨6, .data⟩ (by simp) rfl
                have p11 : done 11 = true := by cases ho; exact hdep ⟨11, .data⟩ (by simp) rfl
                have p5 : done 5 = true := hcl 6 _ rfl p6 ⟨5, .data⟩ (by simp) rfl
                have p4 : done 4 = true := hcl 5 _ rfl p5 ⟨4, .guard⟩ (by simp) rfl
                exact valG (θ := _) (.bool false) ho (by cases ho; simp [Region.wanted, yielded, HA.tm, lookT, go_sem, p4, p5, p6, p11]) (by cases ho; simp [execOp, go_sem, HA.tm, lookT, p4, p5, p6, p11]) (by cases ho; exact fun d hd => by cases hd; simp) HJ
              · have p4 : done 4 = true := by cases ho; exact hdep ⟨4, .data⟩ (by simp) rfl
                have p12 : done 12 = true := by cases ho; exact hdep ⟨12, .data⟩ (by simp) rfl
                exact valG (θ := _) (.bool false) ho (by cases ho; rfl) (by cases ho; simp [execOp, go_sem, HA.tm, lookT, p4, p12]) (by cases ho; exact fun d hd => by cases hd; simp) HJ
              · have p13 : done 13 = true := by cases ho; exact hdep ⟨13, .data⟩ (by simp) rfl
                exact valG (θ := _) (.bool false) ho (by cases ho; rfl) (by cases ho; simp [execOp, go_sem, HA.tm, lookT, p13]) (by cases ho; exact fun d hd => by cases hd; simp) HJ
              · have p14 : done 14 = true := by cases ho; exact hdep ⟨14, .guard⟩ (by simp) rfl
                exact valG (θ := _) (.pointer (some ⟨xb, 3, none⟩)) ho (by cases ho; simp [Region.wanted, yielded, HA.tm, lookT, go_sem, p14]) (by cases ho; simp [execOp, go_sem, HA.tm, lookT, p14]) (by cases ho; exact fun d hd => by cases hd; simp) HJ
              · have p15 : done 15 = true := by cases ho; exact hdep ⟨15, .data⟩ (by simp) rfl
                have p14 : done 14 = true := hcl 15 _ rfl p15 ⟨14, .guard⟩ (by simp) rfl
                have HRg : WW.rangeAt xb (3) ([.int .i64 rk, .int .u32 rf, .int .u32 re, .int .u64 rs, .slice zx ka.length zc, .slice zy va.length zd]) := by
                  have HQ := HJ
                  (try simp only [hd, cond_true, cond_false] at HQ) <;> exact (rangeAt_append.1 (show _ from St.range HQ 0 : WW.rangeAt xb 0 ([.int .i64 k, .int .u64 gk, .int .i64 u] ++ [.int .i64 rk, .int .u32 rf, .int .u32 re, .int .u64 rs, .slice zx ka.length zc, .slice zy va.length zd]))).2
                exact loadG (θ := _) (v := (.agg #[.int .i64 rk, .int .u32 rf, .int .u32 re, .int .u64 rs, .slice zx ka.length zc, .slice zy va.length zd])) _ ((.tmp 94)) ho (by cases ho; simp [Region.wanted, yielded, HA.tm, lookT, go_sem, p14, p15]) (by cases ho; rfl) (by simp [HA.ev, HA.tm, lookT, Act.eval, p14, p15]) (bigRec.load (rfl) HRg) (by cases ho; exact fun d hd => by cases hd; simp) HJ
              · have p14 : done 14 = true := by cases ho; exact hdep ⟨14, .guard⟩ (by simp) rfl
                exact valG (θ := _) (.slice (some ⟨gp, 0, none⟩) pl.length c) ho (by cases ho; simp [Region.wanted, yielded, HA.tm, lookT, go_sem, p14]) (by cases ho; simp [execOp, go_sem, HA.tm, lookT, p14]) (by cases ho; exact fun d hd => by cases hd; simp) HJ
              · have p14 : done 14 = true := by cases ho; exact hdep ⟨14, .guard⟩ (by simp) rfl
                exact valG (θ := _) (.int .i64 q) ho (by cases ho; simp [Region.wanted, yielded, HA.tm, lookT, go_sem, p14]) (by cases ho; simp [execOp, go_sem, HA.tm, lookT, p14]) (by cases ho; exact fun d hd => by cases hd; simp) HJ
              · have p17 : done 17 = true := by cases ho; exact hdep ⟨17, .data⟩ (by simp) rfl
                have p18 : done 18 = true := by cases ho; exact hdep ⟨18, .data⟩ (by simp) rfl
                have p14 : done 14 = true := hcl 17 _ rfl p17 ⟨14, .guard⟩ (by simp) rfl
                exact valG (θ := _) (.pointer (some ⟨gp, q * 9, none⟩)) ho (by cases ho; simp [Region.wanted, yielded, HA.tm, lookT, go_sem, p14, p17, p18, hq0, hq1]) (by cases ho; simp [execOp, go_sem, HA.tm, lookT, p14, p17, p18, hq0, hq1]) (by cases ho; exact fun d hd => by cases hd; simp) HJ
              · have p19 : done 19 = true := by cases ho; exact hdep ⟨19, .data⟩ (by simp) rfl
                have p17 : done 17 = true := hcl 19 _ rfl p19 ⟨17, .data⟩ (by simp) rfl
                have p14 : done 14 = true := hcl 17 _ rfl p17 ⟨14, .guard⟩ (by simp) rfl
                exact valG (θ := _) (.pointer (some ⟨gp, q * 9 + 3, none⟩)) ho (by cases ho; simp [Region.wanted, yielded, HA.tm, lookT, go_sem, p14, p17, p19]) (by cases ho; simp [execOp, go_sem, HA.tm, lookT, p14, p17, p19]) (by cases ho; exact fun d hd => by cases hd; simp) HJ
              · have p20 : done 20 = true := by cases ho; exact hdep ⟨20, .data⟩ (by simp) rfl
                have p19 : done 19 = true := hcl 20 _ rfl p20 ⟨19, .data⟩ (by simp) rfl
                have p17 : done 17 = true := hcl 19 _ rfl p19 ⟨17, .data⟩ (by simp) rfl
                have p14 : done 14 = true := hcl 17 _ rfl p17 ⟨14, .guard⟩ (by simp) rfl
                have HRg : WW.rangeAt gp (q * 9 + 3) ([.int .i64 rk, .int .u32 rf, .int .u32 re, .int .u64 rs, .slice px ka.length pc, .slice py va.length pd]) := by
                  have HQ := HJ
                  (try simp only [hd, cond_true, cond_false] at HQ) <;> exact (HPR WW (St.own HQ 2)).2
                exact loadG (θ := _) (v := (.agg #[.int .i64 rk, .int .u32 rf, .int .u32 re, .int .u64 rs, .slice px ka.length pc, .slice py va.length pd])) _ ((.tmp 99)) ho (by cases ho; simp [Region.wanted, yielded, HA.tm, lookT, go_sem, p14, p17, p19, p20]) (by cases ho; rfl) (by simp [HA.ev, HA.tm, lookT, Act.eval, p14, p17, p19, p20]) (bigRec.load (rfl) HRg) (by cases ho; exact fun d hd => by cases hd; simp) HJ
              · have p16 : done 16 = true := by cases ho; exact hdep ⟨16, .data⟩ (by simp) rfl
                have p21 : done 21 = true := by cases ho; exact hdep ⟨21, .data⟩ (by simp) rfl
                have p15 : done 15 = true := hcl 16 _ rfl p16 ⟨15, .data⟩ (by simp) rfl
                have p14 : done 14 = true := hcl 15 _ rfl p15 ⟨14, .guard⟩ (by simp) rfl
                exact callG (θ := _) (f := 10) (args := #[.agg #[.int .i64 rk, .int .u32 rf, .int .u32 re, .int .u64 rs, .slice zx ka.length zc, .slice zy va.length zd], .agg #[.int .i64 rk, .int .u32 rf, .int .u32 re, .int .u64 rs, .slice px ka.length pc, .slice py va.length pd]]) ho (by cases ho; simp [Region.wanted, yielded, HA.tm, lookT, go_sem, p14, p15, p16, p21]) (by cases ho; simp [execOp, go_sem, HA.tm, lookT, p14, p15, p16, p21]) (HSA.out.call (L := []) (M := [_, _, _]) HJ (imp_app HIM.out)) (by
                  rintro e w' ⟨_, _, rfl, ⟨rfl, rfl⟩, HS'⟩
                  exact ⟨_, _, rfl, by cases ho; exact fun d hd => by cases hd; simp, .inl rfl, HS'⟩)
              · have p22 : done 22 = true := by cases ho; exact hdep ⟨22, .data⟩ (by simp) rfl
                have p16 : done 16 = true := hcl 22 _ rfl p22 ⟨16, .data⟩ (by simp) rfl
                have p15 : done 15 = true := hcl 16 _ rfl p16 ⟨15, .data⟩ (by simp) rfl
                have p14 : done 14 = true := hcl 15 _ rfl p15 ⟨14, .guard⟩ (by simp) rfl
                exact valG (θ := _) (.bool false) ho (by cases ho; simp [Region.wanted, yielded, HA.tm, lookT, go_sem, p14, p15, p16, p22]) (by cases ho; simp [execOp, go_sem, HA.tm, lookT, p14, p15, p16, p22]) (by cases ho; exact fun d hd => by cases hd; simp) HJ
              · have p14 : done 14 = true := by cases ho; exact hdep ⟨14, .data⟩ (by simp) rfl
                have p23 : done 23 = true := by cases ho; exact hdep ⟨23, .data⟩ (by simp) rfl
                exact valG (θ := _) (.bool false) ho (by cases ho; rfl) (by cases ho; simp [execOp, go_sem, HA.tm, lookT, p14, p23]) (by cases ho; exact fun d hd => by cases hd; simp) HJ
            · intro _ done WW hall HJ
              have HE : St w B [blkA xb [.int .i64 k, .int .u64 gk, .int .i64 u, .int .i64 rk, .int .u32 rf, .int .u32 re, .int .u64 rs, .slice zx ka.length zc, .slice zy va.length zd] 40, logA g s p L, ownA 40 9 (.slice (some ⟨gp, 0, none⟩) pl.length c) pl.length (pl.flatMap pinC)] S2 WW := St.cast (by simp []) HJ
              clear HJ hall 
              simp only [putAll, Act.put, List.setIfInBounds_toArray, List.set_cons_succ, List.set_cons_zero]
              have H19 := HE
              clear HE H18
              obtain ⟨hc, hf⟩ := St.cells H19 0
              have HLR := lread g s p L ((k : Int), gk, (u : Int)) HT.out.good.lread.1 HT.out.good.lread.2.1 HT.out.good.lread.2.2
              rw [HRD.out] at HLR
              have HLR : Meets Try.prog 11 #[.pointer (some ⟨g, 0, none⟩), .agg #[.int .i64 k, .int .u64 gk, .int .i64 u]] [logA g s p L] [] (fun v M => ∃ x y c d, v = .tuple #[.agg #[.int .i64 rk, .int .u32 rf, .int .u32 re, .int .u64 rs, .slice x ka.length c, .slice y va.length d], .int .i64 0] ∧ M = [logA g s p L, ownA 5 1 (.slice x ka.length c) ka.length (ka.map u8v), ownA 5 1 (.slice y va.length d) va.length (va.map u8v)]) := HLR
              have HLR := Lib.hid HLR
              go_wp2_with fail
              refine (HLR.out.call (L := [_]) (M := [_, _]) (St.pick H19 [1, 0, 2]) (by simp)).mono ?_
              rintro e w11 ⟨_, M', rfl, ⟨x1, y1, c1, d1, rfl, rfl⟩, H20⟩
              clear H19 hc hf HLR
              have H21 := H20.alloc [.int .i64 rk, .int .u32 rf, .int .u32 re, .int .u64 rs, .slice x1 ka.length c1, .slice y1 va.length d1] 33
              obtain ⟨xr, hxr⟩ : ∃ xr, xr = w11.heap.size := ⟨_, rfl⟩
              rw [← hxr] at H21
              go_upto_region 30 with fail
              rw [← hxr]
              clear hxr
              refine wp_world (fun W => St w B _ _ W) H21 ?_
              intro w12 H22
              clear H20 H21
              have HSB := same ⟨rk, rf, re, rs⟩ ⟨rk, rf, re, rs⟩ x1 y1 zx zy ka va ka va c1 d1 zc zd
              rw [sameR_self] at HSB
              unfold recV at HSB
              have HSB := Lib.hid HSB
              obtain ⟨hc, hf⟩ := St.cells H22 0
              obtain ⟨hc2, hf2⟩ := St.cells H22 4
              go_wp2_with fail
              refine (HSB.out.call (L := []) (M := [_, _, _, _, _, _]) H22 (fun A hA => by
                simp only [List.mem_cons, List.mem_nil_iff, or_false] at hA
                rcases hA with rfl | rfl | rfl | rfl
                · exact ⟨ownA 5 1 (.slice x1 ka.length c1) ka.length (ka.map u8v), List.mem_append_right _ (by simp), own_imp_byt _ _⟩
                · exact ⟨ownA 5 1 (.slice y1 va.length d1) va.length (va.map u8v), List.mem_append_right _ (by simp), own_imp_byt _ _⟩
                · obtain ⟨A', h1, h2⟩ := HI1.out; exact ⟨A', List.mem_append_left _ h1, h2⟩
                · obtain ⟨A', h1, h2⟩ := HI2'.out; exact ⟨A', List.mem_append_left _ h1, h2⟩)).mono ?_
              rintro e w13 ⟨_, M', rfl, ⟨rfl, rfl⟩, H23⟩
              clear H22 hc hf hc2 hf2
              have hx9 : nk ≤ maxLen := by omega
              unfold maxLen at hx9
              go_wp2_with fail
              go_roundg (nk - (j + 1))
              case measure => omega
              case rel => exact ⟨j + 1, by omega, rfl, by go_num, by rw [HQQ.out]; go_num, Lib.hid (St.pick H23 [1, 5])⟩
          · have j1 : ¬ (j : Int) < (nk : Int) := by omega
            have hjn : j = nk := by omega
            have HJN := Lib.hid hjn
            clear hjn
            go_wp2_with fail
            go_roundg (4 - (k + 1))
            case measure => omega
            case rel => exact ⟨k + 1, by omega, rfl, by go_num, by rw [Go.Lg.ahead_succ, HJN.out, HNK.out, placed_len, Int.natCast_add], Lib.hid (St.shares (St.pick H16 [1, 0]) HSO.out)⟩
      · have hk1 : ¬ (k : Int) < 4 := by omega
        obtain rfl : k = 4 := by omega
        have hln : Go.Lg.ahead C 4 = pl.length := by have := HT.out.len; rw [List.length_map] at this; exact this.symm
        rw [hln]
        obtain ⟨hfo, hfr⟩ := HT.out.free (by omega)
        have HFR := lfree g s p L 0 hfo
        clear hfo hln
        rcases hfr with ⟨e, he, hfe⟩ | ⟨L', hfe, hl3, hq⟩
        · rw [hfe] at HFR
          have HFR : Meets Try.prog 12 #[.pointer (some ⟨g, 0, none⟩), .int .i64 0] [logA g s p L] [] (fun v M => v = .int .i64 e ∧ M = [logA g s p L]) := HFR
          have HFR := Lib.hid HFR
          have hne : ((e : Int) != 0) = true := by simp; omega
          have HE0 := Lib.hid he
          clear hfe he
          go_wp2_with fail
          refine (HFR.out.call (L := [_]) (M := [_]) (St.pick H5 [1, 0]) (by simp)).mono ?_
          rintro e' w20 ⟨_, M', rfl, ⟨rfl, rfl⟩, H20⟩
          go_wp2_with fail
          exact bodyPost_ret (results_tmp rfl _ _ _) rfl (Back.mk (L' := []) ⟨rfl, rfl⟩ (St.pick H20 []))
        · rw [hfe] at HFR
          have HFR : Meets Try.prog 12 #[.pointer (some ⟨g, 0, none⟩), .int .i64 0] [logA g s p L] [] (fun v M => v = .int .i64 0 ∧ M = [logA g s p L']) := HFR
          have HFR := Lib.hid HFR
          have HL3 := Lib.hid hl3
          have HQ := Lib.hid hq
          clear hfe hl3 hq
          go_wp2_with fail
          refine (HFR.out.call (L := [_]) (M := [_]) (St.pick H5 [1, 0]) (by simp)).mono ?_
          rintro e' w20 ⟨_, M', rfl, ⟨rfl, rfl⟩, H20⟩
          go_wp2_with fail
          go_loopg [133] pl.length (fun gq b133 wr => ∃ j : Nat, j ≤ pl.length ∧ gq = pl.length - j ∧ b133 = .int .i64 j ∧ Hid (St w B [logA g s p L', ownA 40 9 (.slice a pl.length c) pl.length (pl.flatMap pinC)] S wr))
          case atStart => exact ⟨0, Nat.zero_le _, rfl, rfl, Lib.hid H20⟩
          case round =>
            obtain ⟨j, hj, rfl, rfl, HI3⟩ := hrel
            clear H20
            have H21 := HI3.out
            by_cases hjl : j < pl.length
            · obtain ⟨⟨⟨ai, ag, au⟩, rin⟩, hq⟩ : ∃ q, pl[j]? = some q := ⟨_, List.getElem?_eq_getElem hjl⟩
              have hqc := HQ.out _ (List.mem_map.2 ⟨_, List.mem_of_getElem? hq, rfl⟩)
              obtain ⟨⟨rk, rf, re, rs⟩, ka, va, px, pc, py, pd⟩ := rin
              unfold pinR at hqc
              dsimp only at hqc
              obtain ⟨gp, hgp, _, _⟩ := own_pos (St.own H21 1) (by omega)
              subst hgp
              have HRZ : wr.rangeAt gp (j * 9) [.int .i64 ai, .int .u64 ag, .int .i64 au, .int .i64 rk, .int .u32 rf, .int .u32 re, .int .u64 rs, .slice px ka.length pc, .slice py va.length pd] := rangeAt_flat (f := pinC) (own_range (St.own H21 1)) (fun y _ => rfl) hq
              have j0 : (0 : Int) ≤ (j : Int) := by omega
              have j1 : (j : Int) < (pl.length : Int) := by omega
              clear hq
              have H22 := H21.alloc [.int .i64 ai, .int .u64 ag, .int .i64 au, .int .i64 rk, .int .u32 rf, .int .u32 re, .int .u64 rs, .slice px ka.length pc, .slice py va.length pd] 40
              obtain ⟨xb, hxb⟩ : ∃ xb, xb = wr.heap.size := ⟨_, rfl⟩
              rw [← hxb] at H22
              have HLR := lread g s p L' ((ai : Int), ag, au) HL3.out.1 HL3.out.2.1 HL3.out.2.2
              rcases hqc with ⟨hz, hrd⟩ | ⟨hz, hrd⟩
              · subst hz
                rw [hrd] at HLR
                have HLR : Meets Try.prog 11 #[.pointer (some ⟨g, 0, none⟩), .agg #[.int .i64 (0 : Nat), .int .u64 ag, .int .i64 au]] [logA g s p L'] [] (fun v M => ∃ x y c d, v = .tuple #[.agg #[.int .i64 0, .int .u32 0, .int .u32 0, .int .u64 0, .slice x 0 c, .slice y 0 d], .int .i64 4] ∧ M = [logA g s p L', ownA 5 1 (.slice x 0 c) 0 [], ownA 5 1 (.slice y 0 d) 0 []]) := HLR
                have HLR := Lib.hid HLR
                clear hrd
                go_upto_region 42 with (first | (refine wpl_load rfl _ _ rfl gp (j * 9) (by rfl) [.int .i64 (0 : Nat), .int .u64 ag, .int .i64 au, .int .i64 rk, .int .u32 rf, .int .u32 re, .int .u64 rs, .slice px ka.length pc, .slice py va.length pd] 9 rfl HRZ bigPlaced ?_) | fail)
                rw [← hxb]
                clear hxb
                refine wp_world (fun W => St w B _ _ W) H22 ?_
                intro w21 H23
                clear H21 H22 HRZ
                obtain ⟨hc, hf⟩ := St.cells H23 0
                go_wp2_with fail
                refine (HLR.out.call (L := [_]) (M := [_, _]) (St.pick H23 [1, 0, 2]) (by simp)).mono ?_
                rintro e w22 ⟨_, M', rfl, ⟨x1, y1, c1, d1, rfl, rfl⟩, H24⟩
                clear H23 hc hf
                have H25 := H24.alloc [.int .i64 0, .int .u32 0, .int .u32 0, .int .u64 0, .slice x1 0 c1, .slice y1 0 d1] 33
                obtain ⟨xr, hxr⟩ : ∃ xr, xr = w22.heap.size := ⟨_, rfl⟩
                rw [← hxr] at H25
                go_upto_region 43 with fail
                rw [← hxr]
                clear hxr
                refine wp_world (fun W => St w B _ _ W) H25 ?_
                intro w23 H26
                clear H24 H25
                obtain ⟨hc, hf⟩ := St.cells H26 4
                go_wp2_with fail
                go_roundg (pl.length - (j + 1))
                case measure => omega
                case rel => exact ⟨j + 1, by omega, rfl, by go_num, Lib.hid (St.pick H26 [1, 5])⟩
              · rw [hrd] at HLR
                have HLR : Meets Try.prog 11 #[.pointer (some ⟨g, 0, none⟩), .agg #[.int .i64 ai, .int .u64 ag, .int .i64 au]] [logA g s p L'] [] (fun v M => ∃ x y c d, v = .tuple #[.agg #[.int .i64 rk, .int .u32 rf, .int .u32 re, .int .u64 rs, .slice x ka.length c, .slice y va.length d], .int .i64 0] ∧ M = [logA g s p L', ownA 5 1 (.slice x ka.length c) ka.length (ka.map u8v), ownA 5 1 (.slice y va.length d) va.length (va.map u8v)]) := HLR
                have HLR := Lib.hid HLR
                have hz0 : ((ai : Int) == 0) = false := by simp; omega
                have HZ := Lib.hid hz
                clear hrd hz
                go_upto_region 42 with (first | (refine wpl_load rfl _ _ rfl gp (j * 9) (by rfl) [.int .i64 ai, .int .u64 ag, .int .i64 au, .int .i64 rk, .int .u32 rf, .int .u32 re, .int .u64 rs, .slice px ka.length pc, .slice py va.length pd] 9 rfl HRZ bigPlaced ?_) | fail)
                rw [← hxb]
                clear hxb
                refine wp_world (fun W => St w B _ _ W) H22 ?_
                intro w21 H23
                clear H21 H22 HRZ
                obtain ⟨hc, hf⟩ := St.cells H23 0
                go_wp2_with fail
                refine (HLR.out.call (L := [_]) (M := [_, _]) (St.pick H23 [1, 0, 2]) (by simp)).mono ?_
                rintro e w22 ⟨_, M', rfl, ⟨x1, y1, c1, d1, rfl, rfl⟩, H24⟩
                clear H23 hc hf
                have H25 := H24.alloc [.int .i64 rk, .int .u32 rf, .int .u32 re, .int .u64 rs, .slice x1 ka.length c1, .slice y1 va.length d1] 33
                obtain ⟨xr, hxr⟩ : ∃ xr, xr = w22.heap.size := ⟨_, rfl⟩
                rw [← hxr] at H25
                go_upto_region 43 with fail
                rw [← hxr]
                clear hxr
                refine wp_world (fun W => St w B _ _ W) H25 ?_
                intro w23 H26
                clear H24 H25
                obtain ⟨hc, hf⟩ := St.cells H26 4
                go_wp2_with fail
                go_roundg (pl.length - (j + 1))
                case measure => omega
                case rel => exact ⟨j + 1, by omega, rfl, by go_num, Lib.hid (St.pick H26 [1, 5])⟩
            · have j1 : ¬ (j : Int) < (pl.length : Int) := by omega
              go_wp2_with fail
              exact bodyPost_ret (results_tmp rfl _ _ _) rfl (Back.mk (L' := []) ⟨rfl, rfl⟩ (St.pick H21 []))
end Go.Proofs.Ytjmocjcjiiopnaa
end
