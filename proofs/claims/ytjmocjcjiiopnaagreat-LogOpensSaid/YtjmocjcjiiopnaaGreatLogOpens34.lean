/- The law LogOpens, walked. Conditions: the ring's segments fit in memory. -/
import Derived.Test.YtjmocjcjiiopnaaGreatLogOpens30
import Derived.Test.YtjmocjcjiiopnaaGreatLogOpens33

section
set_option linter.unusedVariables false
set_option linter.unusedSimpArgs false
namespace Go.Proofs.YtjmocjcjiiopnaaGreat
open Go.RowKit Go.Ice Go.Oct Go.Dsk Go.Ring Go.Lg
/-- What the document says of opening: by its own words. -/
def wantV (n m : Int) (sec : Int) (l : List Seg) : Nat := if rightB sec l = false then 180 else if (l.length : Int) ≠ n ∨ sec ≠ m then 2 else if openedR l = none then 0 else 181
theorem want_eq (n m : Nat) (sec : Int) (l : List Seg) : wantV n m sec l = openV (x0 n m) sec l := by
  unfold wantV openV
  rw [← check_right]
  cases hc : checkB sec l with
  | false => rfl
  | true =>
    have e1 : ¬ (true = false) := by decide
    rw [if_neg e1, if_neg e1, ← opened_eq hc]
    show (if (l.length : Int) ≠ (n : Int) ∨ sec ≠ (m : Int) then 2 else _) = (if sec ≠ (m : Int) ∨ (l.length : Int) ≠ (n : Int) then 2 else _)
    by_cases h1 : sec = (m : Int) <;> by_cases h2 : (l.length : Int) = (n : Int) <;> simp [h1, h2]
theorem openV_zero {n m : Nat} {sec : Int} {l : List Seg} (h : openV (x0 n m) sec l = 0) : sec = m ∧ l.length ≤ 1000 := by
  unfold openV at h
  split at h
  · cases h
  · rename_i hc
    split at h
    · cases h
    · rename_i h1
      have hs : sec = (m : Int) := Classical.not_not.1 fun h => h1 (.inl h)
      have := Rg.check_size (l := l) (sec := sec) (by cases hx : checkB sec l; exact absurd hx hc; rfl)
      exact ⟨hs, by omega⟩
set_option maxHeartbeats 32000000 in
set_option maxRecDepth 100000 in
theorem logOpens (sec0 : Int) (u0 : Value) (l : List Seg) (a b : Int) (hl : l.length * 24 ≤ 140737488355328) : Meets Tryz.prog 5 #[.agg #[.int .i64 sec0, u0], .int .i64 a, .int .i64 b] [] [segsS u0 l] fun v L => v = .bool true ∧ L = [] := by
  intro w B H
  have hsg : segsS u0 l ∈ [segsS u0 l] := by simp
  generalize [segsS u0 l] = S at *
  obtain ⟨ua, uc, rfl, hlm⟩ := RowAt.form (segs_getS H hsg)
  have HSG := Lib.hid hsg
  have HL := Lib.hid hl
  unfold maxLen at hlm
  clear hsg hl
  have HW := wakes
  have HSZ := sized0 a b
  have H0 := H.alloc [.int .i64 sec0, .slice ua l.length uc] 54
  obtain ⟨xr, hxr⟩ : ∃ xr, xr = w.heap.size := ⟨_, rfl⟩
  rw [← hxr] at H0
  go_enter Tryz.func5, Tryz.ntmps5
  go_upto_region 1 with fail
  rw [← hxr]
  clear hxr
  refine wp_world (fun W => St w B _ _ W) H0 ?_
  intro w0 H1
  clear H H0
  go_wp2_with fail
  refine (HW.call (L := []) (M := [_]) H1 (by simp)).mono ?_
  rintro e w1 ⟨_, L1, rfl, ⟨rfl, rfl⟩, H2⟩
  go_wp2_with fail
  refine (HSZ.call (L := []) (M := [_]) H2 (by simp)).mono ?_
  rintro e w2 ⟨_, L1, rfl, ⟨⟨n, m, rfl, hn, hm⟩, rfl⟩, H3⟩
  clear HW HSZ H1 H2
  have HB := born n m hn hm
  go_wp2_with fail
  refine (HB.call (L := []) (M := [_]) H3 (by simp)).mono ?_
  rintro e w3 ⟨_, L1, rfl, ⟨g, s, p, rfl, rfl⟩, H4⟩
  clear HB H3
  go_upto_region 7 with fail
  have H5 : St w B [logA g s p (L0 n m), blkA xr [.int .i64 sec0, .slice ua l.length uc] 54] S w3 := H4
  clear H4
  obtain ⟨ev, hev⟩ : ∃ ev, ev = openV (x0 n m) sec0 l := ⟨_, rfl⟩
  have HSU := Lib.hid (lsuper g s p (L0 n m))
  have hok : ∀ u, Meets Tryz.prog 31 #[.pointer (some ⟨s, 0, none⟩), .agg #[.int .i64 sec0, u]] [blkA s (stoC (x0 n m) 0 p) 102, dskA p (D0 n m), segsA u l] [] fun v M => ∃ gl, v = .tuple #[gl, .int .i64 (ev : Int)] ∧ M = [opnA s p (x0 n m) 0 (D0 n m) l ev gl] := fun u => by
    rw [hev]
    exact lopenK s p (x0 n m) 0 (D0 n m) sec0 u l
  have HOK := Lib.hid hok
  have HEV := Lib.hid hev
  clear hok hev
  refine wp_region_gh (Θ := Value × Value) (fun (u, gl) => [(0, 38, (.pointer (some ⟨g, 0, none⟩))), (1, 39, (.pointer (some ⟨s, 0, none⟩))), (2, 40, (.agg #[.int .i64 sec0, .slice ua l.length uc])), (3, 41, (.agg #[.int .i64 sec0, u])), (4, 42, (.tuple #[gl, .int .i64 (ev : Int)])), (5, 37, (.tuple #[gl, .int .i64 (ev : Int)])), (6, 43, gl), (7, 44, (.int .i64 (ev : Int))), (8, 9, gl), (9, 10, (.int .i64 (ev : Int)))]) (fun (u, gl) done WW => St w B (bif done 4 then [opnA s p (x0 n m) 0 (D0 n m) l ev gl, blkA xr [.int .i64 sec0, .slice ua l.length uc] 54] else (bif done 3 then (segsA u l :: [logA g s p (L0 n m), blkA xr [.int .i64 sec0, .slice ua l.length uc] 54]) else ([logA g s p (L0 n m), blkA xr [.int .i64 sec0, .slice ua l.length uc] 54]))) S WW) (by kernel_rfl) (hord_of2 (by kernel_rfl)) (fun _ => by kernel_rfl) (fun _ => by kernel_rfl) (fun _ => by kernel_rfl) ⟨(.pointer none, .pointer none), H5.drew⟩ ?_ ?_
  · intro (u, gl) done zb WW j oq ho hd hdep hcl HA HJ
    have hj : j < 10 := (Array.getElem?_eq_some_iff.1 ho).1
    obtain rfl | rfl | rfl | rfl | rfl | rfl | rfl | rfl | rfl | rfl : j = 0 ∨ j = 1 ∨ j = 2 ∨ j = 3 ∨ j = 4 ∨ j = 5 ∨ j = 6 ∨ j = 7 ∨ j = 8 ∨ j = 9 := by omega
    · exact valG (θ := (u, gl)) (.pointer (some ⟨g, 0, none⟩)) ho (by cases ho; rfl) (by cases ho; simp [execOp, go_sem, HA.tm, lookT]) (by cases ho; exact fun d hd => by cases hd; exact List.mem_of_getElem? (i := 0) rfl) HJ
    · have p0 : done 0 = true := by cases ho; exact hdep ⟨0, .data⟩ (by simp) rfl
      have n3 : done 3 = false := by cases hx : done 3 with | false => rfl | true => have := hcl 3 _ rfl hx ⟨1, .chain⟩ (by simp) rfl; rw [hd] at this; cases this
      have n4 : done 4 = false := by cases hx : done 4 with | false => rfl | true => have := hcl 4 _ rfl hx ⟨1, .data⟩ (by simp) rfl; rw [hd] at this; cases this
      have n5 : done 5 = false := by cases hx : done 5 with | false => rfl | true => have := hcl 5 _ rfl hx ⟨4, .data⟩ (by simp) rfl; rw [n4] at this; cases this
      have n6 : done 6 = false := by cases hx : done 6 with | false => rfl | true => have := hcl 6 _ rfl hx ⟨5, .data⟩ (by simp) rfl; rw [n5] at this; cases this
      have n8 : done 8 = false := by cases hx : done 8 with | false => rfl | true => have := hcl 8 _ rfl hx ⟨6, .data⟩ (by simp) rfl; rw [n6] at this; cases this
      have HK : St w B [logA g s p (L0 n m), blkA xr [.int .i64 sec0, .slice ua l.length uc] 54] S WW := St.cast (by simp [n3, n4]) HJ
      exact callG (θ := (u, gl)) (f := 9) (args := #[.pointer (some ⟨g, 0, none⟩)]) ho (by cases ho; rfl) (by cases ho; simp [execOp, go_sem, HA.tm, lookT, p0]) (HSU.out.call (L := [_]) (M := [_]) HK (by simp)) (by
        rintro e w' ⟨_, _, rfl, ⟨rfl, rfl⟩, HS'⟩
        exact ⟨_, (u, gl), rfl, by cases ho; exact fun d hd => by cases hd; exact List.mem_of_getElem? (i := 1) rfl, .inl rfl, St.cast (by simp [n3, n4]) HS'⟩)
    · have n3 : done 3 = false := by cases hx : done 3 with | false => rfl | true => have := hcl 3 _ rfl hx ⟨2, .data⟩ (by simp) rfl; rw [hd] at this; cases this
      have n4 : done 4 = false := by cases hx : done 4 with | false => rfl | true => have := hcl 4 _ rfl hx ⟨3, .data⟩ (by simp) rfl; rw [n3] at this; cases this
      have HRg : WW.rangeAt xr (0) ([.int .i64 sec0, .slice ua l.length uc]) := by
        have HQ := HJ
        (try simp only [n3, n4, hd, cond_true, cond_false] at HQ) <;> exact (St.range HQ 1)
      exact loadG (θ := (u, gl)) (v := (.agg #[.int .i64 sec0, .slice ua l.length uc])) _ ((.tmp 3)) ho (by cases ho; rfl) (by cases ho; rfl) (by simp [HA.ev, HA.tm, lookT, Act.eval]) (bigRing0.load (rfl) HRg) (by cases ho; exact fun d hd => by cases hd; exact List.mem_of_getElem? (i := 2) rfl) HJ
    · have p2 : done 2 = true := by cases ho; exact hdep ⟨2, .data⟩ (by simp) rfl
      have n4 : done 4 = false := by cases hx : done 4 with | false => rfl | true => have := hcl 4 _ rfl hx ⟨3, .data⟩ (by simp) rfl; rw [hd] at this; cases this
      have n5 : done 5 = false := by cases hx : done 5 with | false => rfl | true => have := hcl 5 _ rfl hx ⟨4, .data⟩ (by simp) rfl; rw [n4] at this; cases this
      have n6 : done 6 = false := by cases hx : done 6 with | false => rfl | true => have := hcl 6 _ rfl hx ⟨5, .data⟩ (by simp) rfl; rw [n5] at this; cases this
      have n8 : done 8 = false := by cases hx : done 8 with | false => rfl | true => have := hcl 8 _ rfl hx ⟨6, .data⟩ (by simp) rfl; rw [n6] at this; cases this
      have p1 : done 1 = true := by cases ho; exact hdep ⟨1, .chain⟩ (by simp) rfl
      have HK : St w B [logA g s p (L0 n m), blkA xr [.int .i64 sec0, .slice ua l.length uc] 54] S WW := St.cast (by simp [hd, n4]) HJ
      have HCP : Calls Tryz.prog 32 #[.agg #[.int .i64 sec0, .slice ua l.length uc]] WW _ := Rg.copy WW sec0 (.slice ua l.length uc) l (segs_getS HK HSG.out) HL.out
      exact callG (θ := (u, gl)) (f := 32) (args := #[.agg #[.int .i64 sec0, .slice ua l.length uc]]) ho (by cases ho; rfl) (by cases ho; simp [execOp, go_sem, HA.tm, lookT, p1, p2]) HCP (by
        rintro e w' ⟨u', rfl, ho', hb'⟩
        exact ⟨_, (u', gl), rfl, by cases ho; exact fun d hd => by cases hd; exact List.mem_of_getElem? (i := 3) rfl, (.inr (.cons (.inl rfl) (.cons (.inl rfl) (.cons (.inl rfl) (.cons (.inr ⟨rfl, hd⟩) (.cons (.inr ⟨rfl, n4⟩) (.cons (.inr ⟨rfl, n5⟩) (.cons (.inr ⟨rfl, n6⟩) (.cons (.inl rfl) (.cons (.inr ⟨rfl, n8⟩) (.cons (.inl rfl) (.nil)))))))))))), St.cast (by simp [n4]) (St.newSegs HK hb' ho')⟩)
    · have p1 : done 1 = true := by cases ho; exact hdep ⟨1, .data⟩ (by simp) rfl
      have p3 : done 3 = true := by cases ho; exact hdep ⟨3, .data⟩ (by simp) rfl
      have n5 : done 5 = false := by cases hx : done 5 with | false => rfl | true => have := hcl 5 _ rfl hx ⟨4, .data⟩ (by simp) rfl; rw [hd] at this; cases this
      have n6 : done 6 = false := by cases hx : done 6 with | false => rfl | true => have := hcl 6 _ rfl hx ⟨5, .data⟩ (by simp) rfl; rw [n5] at this; cases this
      have n8 : done 8 = false := by cases hx : done 8 with | false => rfl | true => have := hcl 8 _ rfl hx ⟨6, .data⟩ (by simp) rfl; rw [n6] at this; cases this
      have HK : St w B (segsA u l :: [logA g s p (L0 n m), blkA xr [.int .i64 sec0, .slice ua l.length uc] 54]) S WW := St.cast (by simp [p3, hd]) HJ
      obtain ⟨av, cv, HK2⟩ := logA.open (St.pick HK [1, 0, 2])
      exact callG (θ := (u, gl)) (f := 31) (args := #[.pointer (some ⟨s, 0, none⟩), .agg #[.int .i64 sec0, u]]) ho (by cases ho; rfl) (by cases ho; simp [execOp, go_sem, HA.tm, lookT, p1, p3]) ((HOK.out u).call (L := [_, _, _]) (M := [_, _, _]) (St.pick HK2 [1, 2, 4, 0, 3, 5]) (by simp)) (by
        rintro e w' ⟨_, _, rfl, ⟨gl', rfl, rfl⟩, HS'⟩
        have HS2 : St w B [opnA s p (x0 n m) 0 (D0 n m) l ev gl', blkA xr [.int .i64 sec0, .slice ua l.length uc] 54] S w' := St.pick HS' [0, 3]
        exact ⟨_, (u, gl'), rfl, by cases ho; exact fun d hd => by cases hd; exact List.mem_of_getElem? (i := 4) rfl, (.inr (.cons (.inl rfl) (.cons (.inl rfl) (.cons (.inl rfl) (.cons (.inl rfl) (.cons (.inr ⟨rfl, hd⟩) (.cons (.inr ⟨rfl, n5⟩) (.cons (.inr ⟨rfl, n6⟩) (.cons (.inl rfl) (.cons (.inr ⟨rfl, n8⟩) (.cons (.inl rfl) (.nil)))))))))))), St.cast (by simp) HS2⟩)
    · have p4 : done 4 = true := by cases ho; exact hdep ⟨4, .data⟩ (by simp) rfl
      exact valG (θ := (u, gl)) (.tuple #[gl, .int .i64 (ev : Int)]) ho (by cases ho; rfl) (by cases ho; simp [execOp, go_sem, HA.tm, lookT, p4]) (by cases ho; exact fun d hd => by cases hd; exact List.mem_of_getElem? (i := 5) rfl) HJ
    · have p5 : done 5 = true := by cases ho; exact hdep ⟨5, .data⟩ (by simp) rfl
      exact valG (θ := (u, gl)) gl ho (by cases ho; rfl) (by cases ho; simp [execOp, go_sem, HA.tm, lookT, p5]) (by cases ho; exact fun d hd => by cases hd; exact List.mem_of_getElem? (i := 6) rfl) HJ
    · have p5 : done 5 = true := by cases ho; exact hdep ⟨5, .data⟩ (by simp) rfl
      exact valG (θ := (u, gl)) (.int .i64 (ev : Int)) ho (by cases ho; rfl) (by cases ho; simp [execOp, go_sem, HA.tm, lookT, p5]) (by cases ho; exact fun d hd => by cases hd; exact List.mem_of_getElem? (i := 7) rfl) HJ
    · have p6 : done 6 = true := by cases ho; exact hdep ⟨6, .data⟩ (by simp) rfl
      exact valG (θ := (u, gl)) gl ho (by cases ho; rfl) (by cases ho; simp [execOp, go_sem, HA.tm, lookT, p6]) (by cases ho; exact fun d hd => by cases hd; exact List.mem_of_getElem? (i := 8) rfl) HJ
    · have p7 : done 7 = true := by cases ho; exact hdep ⟨7, .data⟩ (by simp) rfl
      exact valG (θ := (u, gl)) (.int .i64 (ev : Int)) ho (by cases ho; rfl) (by cases ho; simp [execOp, go_sem, HA.tm, lookT, p7]) (by cases ho; exact fun d hd => by cases hd; exact List.mem_of_getElem? (i := 9) rfl) HJ
  · intro (u, gl) done WW hall HJ
    have z3 := hall 3 (by decide)
    have z4 := hall 4 (by decide)
    have HE : St w B [opnA s p (x0 n m) 0 (D0 n m) l ev gl, blkA xr [.int .i64 sec0, .slice ua l.length uc] 54] S WW := St.cast (by simp [z3, z4]) HJ
    clear HJ hall z3 z4
    simp only [putAll, Act.put, List.setIfInBounds_toArray, List.set_cons_succ, List.set_cons_zero]
    have H6 := HE
    clear HE H5
    go_upto_block 0 with fail
    go_cut [11] from 45 to 64 (fun s11 wr => s11 = .int .i64 (ev : Int) ∧ Hid (St w B [opnA s p (x0 n m) 0 (D0 n m) l ev gl, blkA xr [.int .i64 sec0, .slice ua l.length uc] 54] S wr))
    case first =>
      have hwv := want_eq n m sec0 l
      rw [← HEV.out] at hwv
      unfold wantV at hwv
      have HRT := Lib.hid (fun W h => Rg.rightRef W sec0 (.slice ua l.length uc) l h)
      have HOR := Lib.hid (fun W h => Rg.openedRef W sec0 (.slice ua l.length uc) l h)
      obtain ⟨hc, hf⟩ := St.cells H6 1
      go_wp2_with fail
      refine (HRT.out _ (segs_getS H6 HSG.out)).mono ?_
      rintro e w6 ⟨rfl, hb⟩
      have H7 := H6.below hb
      clear H6 hb hc hf
      obtain ⟨hc, hf⟩ := St.cells H7 1
      cases hr : rightB sec0 l with
      | false =>
        rw [if_pos hr] at hwv
        have HWV := Lib.hid hwv
        clear hwv hr
        go_wp2_with fail
        go_meet
        case rel => exact ⟨by rw [← HWV.out]; rfl, Lib.hid H7⟩
      | true =>
        rw [if_neg (by rw [hr]; decide)] at hwv
        obtain ⟨nl, hnl⟩ : ∃ nl, nl = l.length := ⟨_, rfl⟩
        have HNL := Lib.hid hnl
        by_cases h1 : (nl : Int) = (n : Int)
        · by_cases h2 : sec0 = (m : Int)
          · rw [if_neg (by rw [← hnl]; simp [h1, h2])] at hwv
            have hq1 : ((nl : Int) != (n : Int)) = false := by simpa using h1
            have hq2 : (sec0 != (m : Int)) = false := by simpa using h2
            have HWV := Lib.hid hwv
            rw [← hnl] at hc
            clear hwv h1 h2 hnl hr
            go_wp2_with fail
            rw [HNL.out]
            refine (HOR.out _ (segs_getS H7 HSG.out)).mono ?_
            rintro e w7 ⟨rfl, hb⟩
            have H8 := H7.below hb
            clear H7 hb hc hf
            cases ho : openedR l with
            | none =>
              have HW2 := HWV.out
              rw [if_pos ho] at HW2
              have HWV := Lib.hid HW2
              clear HW2 ho
              unfold Rg.refI
              go_wp2_with fail
              go_meet
              case rel => exact ⟨by rw [← HWV.out]; rfl, Lib.hid H8⟩
            | some i =>
              have HW2 := HWV.out
              rw [if_neg (by rw [ho]; simp)] at HW2
              have HWV := Lib.hid HW2
              clear HW2 ho
              unfold Rg.refI
              have hi0 : (i : Int) ≥ 0 := by omega
              go_wp2_with fail
              go_meet
              case rel => exact ⟨by rw [← HWV.out]; rfl, Lib.hid H8⟩
          · rw [if_pos (.inr h2)] at hwv
            have hq1 : ((nl : Int) != (n : Int)) = false := by simpa using h1
            have hq2 : (sec0 != (m : Int)) = true := by simpa using h2
            have HWV := Lib.hid hwv
            rw [← hnl] at hc
            clear hwv h1 h2 hnl hr
            go_wp2_with fail
            go_meet
            case rel => exact ⟨by rw [← HWV.out]; rfl, Lib.hid H7⟩
        · rw [if_pos (.inl (by rw [← hnl]; exact h1))] at hwv
          have hq1 : ((nl : Int) != (n : Int)) = true := by simpa using h1
          have HWV := Lib.hid hwv
          rw [← hnl] at hc
          clear hwv h1 hnl hr
          go_wp2_with fail
          go_meet
          case rel => exact ⟨by rw [← HWV.out]; rfl, Lib.hid H7⟩
    case rest =>
      obtain ⟨rfl, HI⟩ := hcut
      clear H6
      have H7 := HI.out
      clear HI
      go_upto_region 15 with fail
      go_cut [85] from 65 to 84 (fun s85 wr => s85 = .bool false ∧ Hid (St w B [blkA xr [.int .i64 sec0, .slice ua l.length uc] 54] S wr))
      case first =>
        rcases opnA.open H7 with ⟨he, g2, rfl, H8⟩ | ⟨he, rfl, H8⟩
        · have hz := openV_zero (n := n) (m := m) (sec := sec0) (l := l) (by rw [← HEV.out]; exact he)
          have hri := lring g2 s p ⟨x0 n m, 0, D0 n m, l, false⟩ hz.2
          have hri2 : Meets Tryz.prog 29 #[.pointer (some ⟨g2, 0, none⟩)] [logA g2 s p ⟨x0 n m, 0, D0 n m, l, false⟩] [] (fun v M => ∃ u, v = .agg #[.int .i64 sec0, u] ∧ M = [logA g2 s p ⟨x0 n m, 0, D0 n m, l, false⟩, segsA u l]) := by
            rw [hz.1]; exact hri
          have HRI := Lib.hid hri2
          clear hri hri2 hz H7
          subst he
          refine wp_region_gh (Θ := Value) (fun u => [(0, 65, (.int .i64 0)), (1, 66, (.int .i64 0)), (2, 67, (.bool false)), (3, 68, (.bool false)), (4, 69, (.pointer (some ⟨g2, 0, none⟩))), (5, 70, (.bool false)), (6, 71, (.int .i64 0)), (7, 72, (.bool false)), (8, 73, (.bool false)), (9, 74, (.bool false)), (10, 75, (.bool false)), (11, 76, (.pointer (some ⟨g2, 0, none⟩))), (12, 77, (.bool true)), (13, 78, (.bool true)), (14, 79, (.pointer (some ⟨g2, 0, none⟩))), (15, 80, (.agg #[.int .i64 sec0, u])), (16, 81, (.agg #[.int .i64 sec0, .slice ua l.length uc])), (17, 82, (.bool true)), (18, 83, (.bool false)), (19, 84, (.bool false)), (20, 85, (.bool false))]) (fun u done WW => St w B (bif done 15 then (segsA u l :: [logA g2 s p ⟨x0 n m, 0, D0 n m, l, false⟩, blkA xr [.int .i64 sec0, .slice ua l.length uc] 54]) else ([logA g2 s p ⟨x0 n m, 0, D0 n m, l, false⟩, blkA xr [.int .i64 sec0, .slice ua l.length uc] 54])) S WW) (by kernel_rfl) (hord_of2 (by kernel_rfl)) (fun _ => by kernel_rfl) (fun _ => by kernel_rfl) (fun _ => by kernel_rfl) ⟨(.pointer none), H8.drew⟩ ?_ ?_
          · intro u done zb WW j oq ho hd hdep hcl HA HJ
            have hj : j < 21 := (Array.getElem?_eq_some_iff.1 ho).1
            obtain rfl | rfl | rfl | rfl | rfl | rfl | rfl | rfl | rfl | rfl | rfl | rfl | rfl | rfl | rfl | rfl | rfl | rfl | rfl | rfl | rfl : j = 0 ∨ j = 1 ∨ j = 2 ∨ j = 3 ∨ j = 4 ∨ j = 5 ∨ j = 6 ∨ j = 7 ∨ j = 8 ∨ j = 9 ∨ j = 10 ∨ j = 11 ∨ j = 12 ∨ j = 13 ∨ j = 14 ∨ j = 15 ∨ j = 16 ∨ j = 17 ∨ j = 18 ∨ j = 19 ∨ j = 20 := by omega
            · exact valG (θ := u) (.int .i64 0) ho (by cases ho; rfl) (by cases ho; simp [execOp, go_sem, HA.tm, lookT]) (by cases ho; exact fun d hd => by cases hd; exact List.mem_of_getElem? (i := 0) rfl) HJ
            · exact valG (θ := u) (.int .i64 0) ho (by cases ho; rfl) (by cases ho; simp [execOp, go_sem, HA.tm, lookT]) (by cases ho; exact fun d hd => by cases hd; exact List.mem_of_getElem? (i := 1) rfl) HJ
            · have p0 : done 0 = true := by cases ho; exact hdep ⟨0, .data⟩ (by simp) rfl
              have p1 : done 1 = true := by cases ho; exact hdep ⟨1, .data⟩ (by simp) rfl
              exact valG (θ := u) (.bool false) ho (by cases ho; rfl) (by cases ho; simp [execOp, go_sem, HA.tm, lookT, p0, p1]) (by cases ho; exact fun d hd => by cases hd; exact List.mem_of_getElem? (i := 2) rfl) HJ
            · have p2 : done 2 = true := by cases ho; exact hdep ⟨2, .data⟩ (by simp) rfl
              exact valG (θ := u) (.bool false) ho (by cases ho; rfl) (by cases ho; simp [execOp, go_sem, HA.tm, lookT, p2]) (by cases ho; exact fun d hd => by cases hd; exact List.mem_of_getElem? (i := 3) rfl) HJ
            · have p3 : done 3 = true := by cases ho; exact hdep ⟨3, .guard⟩ (by simp) rfl
              exact valG (θ := u) (.pointer (some ⟨g2, 0, none⟩)) ho (by cases ho; simp [Region.wanted, yielded, HA.tm, lookT, go_sem, p3]) (by cases ho; simp [execOp, go_sem, HA.tm, lookT, p3]) (by cases ho; exact fun d hd => by cases hd; exact List.mem_of_getElem? (i := 4) rfl) HJ
            · have p4 : done 4 = true := by cases ho; exact hdep ⟨4, .data⟩ (by simp) rfl
              have p3 : done 3 = true := hcl 4 _ rfl p4 ⟨3, .guard⟩ (by simp) rfl
              exact valG (θ := u) (.bool false) ho (by cases ho; simp [Region.wanted, yielded, HA.tm, lookT, go_sem, p3, p4]) (by cases ho; simp [execOp, go_sem, HA.tm, lookT, p3, p4]) (by cases ho; exact fun d hd => by cases hd; exact List.mem_of_getElem? (i := 5) rfl) HJ
            · have p3 : done 3 = true := by cases ho; exact hdep ⟨3, .guard⟩ (by simp) rfl
              exact valG (θ := u) (.int .i64 0) ho (by cases ho; simp [Region.wanted, yielded, HA.tm, lookT, go_sem, p3]) (by cases ho; simp [execOp, go_sem, HA.tm, lookT, p3]) (by cases ho; exact fun d hd => by cases hd; exact List.mem_of_getElem? (i := 6) rfl) HJ
            · have p6 : done 6 = true := by cases ho; exact hdep ⟨6, .data⟩ (by simp) rfl
              have p3 : done 3 = true := hcl 6 _ rfl p6 ⟨3, .guard⟩ (by simp) rfl
              exact valG (θ := u) (.bool false) ho (by cases ho; simp [Region.wanted, yielded, HA.tm, lookT, go_sem, p3, p6]) (by cases ho; simp [execOp, go_sem, HA.tm, lookT, p3, p6]) (by cases ho; exact fun d hd => by cases hd; exact List.mem_of_getElem? (i := 7) rfl) HJ
            · have p5 : done 5 = true := by cases ho; exact hdep ⟨5, .data⟩ (by simp) rfl
              have p7 : done 7 = true := by cases ho; exact hdep ⟨7, .data⟩ (by simp) rfl
              have p4 : done 4 = true := hcl 5 _ rfl p5 ⟨4, .data⟩ (by simp) rfl
              have p3 : done 3 = true := hcl 4 _ rfl p4 ⟨3, .guard⟩ (by simp) rfl
              exact valG (θ := u) (.bool false) ho (by cases ho; simp [Region.wanted, yielded, HA.tm, lookT, go_sem, p3, p4, p5, p7]) (by cases ho; simp [execOp, go_sem, HA.tm, lookT, p3, p4, p5, p7]) (by cases ho; exact fun d hd => by cases hd; exact List.mem_of_getElem? (i := 8) rfl) HJ
            · have p3 : done 3 = true := by cases ho; exact hdep ⟨3, .data⟩ (by simp) rfl
              have p8 : done 8 = true := by cases ho; exact hdep ⟨8, .data⟩ (by simp) rfl
              exact valG (θ := u) (.bool false) ho (by cases ho; rfl) (by cases ho; simp [execOp, go_sem, HA.tm, lookT, p3, p8]) (by cases ho; exact fun d hd => by cases hd; exact List.mem_of_getElem? (i := 9) rfl) HJ
            · have p9 : done 9 = true := by cases ho; exact hdep ⟨9, .data⟩ (by simp) rfl
              exact valG (θ := u) (.bool false) ho (by cases ho; rfl) (by cases ho; simp [execOp, go_sem, HA.tm, lookT, p9]) (by cases ho; exact fun d hd => by cases hd; exact List.mem_of_getElem? (i := 10) rfl) HJ
            · have p10 : done 10 = true := by cases ho; exact hdep ⟨10, .guard⟩ (by simp) rfl
              exact valG (θ := u) (.pointer (some ⟨g2, 0, none⟩)) ho (by cases ho; simp [Region.wanted, yielded, HA.tm, lookT, go_sem, p10]) (by cases ho; simp [execOp, go_sem, HA.tm, lookT, p10]) (by cases ho; exact fun d hd => by cases hd; exact List.mem_of_getElem? (i := 11) rfl) HJ
            · have p11 : done 11 = true := by cases ho; exact hdep ⟨11, .data⟩ (by simp) rfl
              have p10 : done 10 = true := hcl 11 _ rfl p11 ⟨10, .guard⟩ (by simp) rfl
              exact valG (θ := u) (.bool true) ho (by cases ho; simp [Region.wanted, yielded, HA.tm, lookT, go_sem, p10, p11]) (by cases ho; simp [execOp, go_sem, HA.tm, lookT, p10, p11]) (by cases ho; exact fun d hd => by cases hd; exact List.mem_of_getElem? (i := 12) rfl) HJ
            · have p12 : done 12 = true := by cases ho; exact hdep ⟨12, .data⟩ (by simp) rfl
              have p11 : done 11 = true := hcl 12 _ rfl p12 ⟨11, .data⟩ (by simp) rfl
              have p10 : done 10 = true := hcl 11 _ rfl p11 ⟨10, .guard⟩ (by simp) rfl
              exact valG (θ := u) (.bool true) ho (by cases ho; simp [Region.wanted, yielded, HA.tm, lookT, go_sem, p10, p11, p12]) (by cases ho; simp [execOp, go_sem, HA.tm, lookT, p10, p11, p12]) (by cases ho; exact fun d hd => by cases hd; exact List.mem_of_getElem? (i := 13) rfl) HJ
            · have p13 : done 13 = true := by cases ho; exact hdep ⟨13, .guard⟩ (by simp) rfl
              exact valG (θ := u) (.pointer (some ⟨g2, 0, none⟩)) ho (by cases ho; simp [Region.wanted, yielded, HA.tm, lookT, go_sem, p13]) (by cases ho; simp [execOp, go_sem, HA.tm, lookT, p13]) (by cases ho; exact fun d hd => by cases hd; exact List.mem_of_getElem? (i := 14) rfl) HJ
            · have p14 : done 14 = true := by cases ho; exact hdep ⟨14, .data⟩ (by simp) rfl
              have p13 : done 13 = true := hcl 14 _ rfl p14 ⟨13, .guard⟩ (by simp) rfl
              have HK : St w B [logA g2 s p ⟨x0 n m, 0, D0 n m, l, false⟩, blkA xr [.int .i64 sec0, .slice ua l.length uc] 54] S WW := St.cast (by simp [hd]) HJ
              exact callG (θ := u) (f := 29) (args := #[.pointer (some ⟨g2, 0, none⟩)]) ho (by cases ho; simp [Region.wanted, yielded, HA.tm, lookT, go_sem, p13, p14]) (by cases ho; simp [execOp, go_sem, HA.tm, lookT, p13, p14]) (HRI.out.call (L := [_]) (M := [_]) HK (by simp)) (by
                rintro e w' ⟨_, _, rfl, ⟨u', rfl, rfl⟩, HS'⟩
                have HS2 : St w B (segsA u' l :: [logA g2 s p ⟨x0 n m, 0, D0 n m, l, false⟩, blkA xr [.int .i64 sec0, .slice ua l.length uc] 54]) S w' := St.pick HS' [1, 0, 2]
                exact ⟨_, u', rfl, by cases ho; exact fun d hd => by cases hd; exact List.mem_of_getElem? (i := 15) rfl, (.inr (.cons (.inl rfl) (.cons (.inl rfl) (.cons (.inl rfl) (.cons (.inl rfl) (.cons (.inl rfl) (.cons (.inl rfl) (.cons (.inl rfl) (.cons (.inl rfl) (.cons (.inl rfl) (.cons (.inl rfl) (.cons (.inl rfl) (.cons (.inl rfl) (.cons (.inl rfl) (.cons (.inl rfl) (.cons (.inl rfl) (.cons (.inr ⟨rfl, hd⟩) (.cons (.inl rfl) (.cons (.inl rfl) (.cons (.inl rfl) (.cons (.inl rfl) (.cons (.inl rfl) (.nil))))))))))))))))))))))), St.cast (by simp) HS2⟩)
            · have p13 : done 13 = true := by cases ho; exact hdep ⟨13, .guard⟩ (by simp) rfl
              have HRg : WW.rangeAt xr (0) ([.int .i64 sec0, .slice ua l.length uc]) := by
                have HQ := HJ
                cases g15 : done 15 <;> (try simp only [g15, hd, cond_true, cond_false] at HQ) <;> first | exact (St.range HQ 1) | exact (St.range HQ 2)
              exact loadG (θ := u) (v := (.agg #[.int .i64 sec0, .slice ua l.length uc])) _ ((.tmp 3)) ho (by cases ho; simp [Region.wanted, yielded, HA.tm, lookT, go_sem, p13]) (by cases ho; rfl) (by simp [HA.ev, HA.tm, lookT, Act.eval, p13]) (bigRing0.load (rfl) HRg) (by cases ho; exact fun d hd => by cases hd; exact List.mem_of_getElem? (i := 16) rfl) HJ
            · have p15 : done 15 = true := by cases ho; exact hdep ⟨15, .data⟩ (by simp) rfl
              have p16 : done 16 = true := by cases ho; exact hdep ⟨16, .data⟩ (by simp) rfl
              have p14 : done 14 = true := hcl 15 _ rfl p15 ⟨14, .data⟩ (by simp) rfl
              have p13 : done 13 = true := hcl 14 _ rfl p14 ⟨13, .guard⟩ (by simp) rfl
              have HK : St w B (segsA u l :: [logA g2 s p ⟨x0 n m, 0, D0 n m, l, false⟩, blkA xr [.int .i64 sec0, .slice ua l.length uc] 54]) S WW := St.cast (by simp [p15]) HJ
              have HSM : Calls Tryz.prog 28 #[.agg #[.int .i64 sec0, u], .agg #[.int .i64 sec0, .slice ua l.length uc]] WW (fun e w' => e = .returned (.bool true) ∧ Below WW.heap.size WW w') := by
                have := Rg.sameRg WW sec0 sec0 u (.slice ua l.length uc) l l (segs_of HK 0 rfl) (segs_getS HK HSG.out)
                rwa [show Rg.sameB sec0 sec0 l l = true from decide_eq_true ⟨rfl, rfl⟩] at this
              exact callG (θ := u) (f := 28) (args := #[.agg #[.int .i64 sec0, u], .agg #[.int .i64 sec0, .slice ua l.length uc]]) ho (by cases ho; simp [Region.wanted, yielded, HA.tm, lookT, go_sem, p13, p14, p15, p16]) (by cases ho; simp [execOp, go_sem, HA.tm, lookT, p13, p14, p15, p16]) HSM (by
                rintro e w' ⟨rfl, hb'⟩
                exact ⟨_, u, rfl, by cases ho; exact fun d hd => by cases hd; exact List.mem_of_getElem? (i := 17) rfl, .inl rfl, St.cast (by simp [p15]) (HK.below hb')⟩)
            · have p17 : done 17 = true := by cases ho; exact hdep ⟨17, .data⟩ (by simp) rfl
              have p15 : done 15 = true := hcl 17 _ rfl p17 ⟨15, .data⟩ (by simp) rfl
              have p14 : done 14 = true := hcl 15 _ rfl p15 ⟨14, .data⟩ (by simp) rfl
              have p13 : done 13 = true := hcl 14 _ rfl p14 ⟨13, .guard⟩ (by simp) rfl
              exact valG (θ := u) (.bool false) ho (by cases ho; simp [Region.wanted, yielded, HA.tm, lookT, go_sem, p13, p14, p15, p17]) (by cases ho; simp [execOp, go_sem, HA.tm, lookT, p13, p14, p15, p17]) (by cases ho; exact fun d hd => by cases hd; exact List.mem_of_getElem? (i := 18) rfl) HJ
            · have p13 : done 13 = true := by cases ho; exact hdep ⟨13, .data⟩ (by simp) rfl
              have p18 : done 18 = true := by cases ho; exact hdep ⟨18, .data⟩ (by simp) rfl
              have p12 : done 12 = true := hcl 13 _ rfl p13 ⟨12, .data⟩ (by simp) rfl
              have p11 : done 11 = true := hcl 12 _ rfl p12 ⟨11, .data⟩ (by simp) rfl
              have p10 : done 10 = true := hcl 11 _ rfl p11 ⟨10, .guard⟩ (by simp) rfl
              exact valG (θ := u) (.bool false) ho (by cases ho; simp [Region.wanted, yielded, HA.tm, lookT, go_sem, p10, p11, p12, p13, p18]) (by cases ho; simp [execOp, go_sem, HA.tm, lookT, p10, p11, p12, p13, p18]) (by cases ho; exact fun d hd => by cases hd; exact List.mem_of_getElem? (i := 19) rfl) HJ
            · have p10 : done 10 = true := by cases ho; exact hdep ⟨10, .data⟩ (by simp) rfl
              have p19 : done 19 = true := by cases ho; exact hdep ⟨19, .data⟩ (by simp) rfl
              exact valG (θ := u) (.bool false) ho (by cases ho; rfl) (by cases ho; simp [execOp, go_sem, HA.tm, lookT, p10, p19]) (by cases ho; exact fun d hd => by cases hd; exact List.mem_of_getElem? (i := 20) rfl) HJ
          · intro u done WW hall HJ
            have z15 := hall 15 (by decide)
            have HE : St w B (segsA u l :: [logA g2 s p ⟨x0 n m, 0, D0 n m, l, false⟩, blkA xr [.int .i64 sec0, .slice ua l.length uc] 54]) S WW := St.cast (by simp [z15]) HJ
            clear HJ hall z15
            simp only [putAll, Act.put, List.setIfInBounds_toArray, List.set_cons_succ, List.set_cons_zero]
            try go_wp2_with fail
            go_meet
            case rel => exact ⟨rfl, Lib.hid (St.pick HE [2])⟩
        · have hne : ((ev : Int) != 0) = true := by simp; omega
          have hee : ((ev : Int) != (ev : Int)) = false := by simp
          clear H7
          refine wp_region_gh (Θ := Unit) (fun _ => [(0, 65, (.int .i64 (ev : Int))), (1, 66, (.int .i64 (ev : Int))), (2, 67, (.bool false)), (3, 68, (.bool false)), (4, 69, (.pointer none)), (5, 70, (.bool true)), (6, 71, (.int .i64 (ev : Int))), (7, 72, (.bool true)), (8, 73, (.bool false)), (9, 74, (.bool false)), (10, 75, (.bool false)), (11, 76, (.pointer none)), (12, 77, (.bool false)), (13, 78, (.bool false)), (14, 79, undef), (15, 80, undef), (16, 81, undef), (17, 82, undef), (18, 83, undef), (19, 84, (.bool false)), (20, 85, (.bool false))]) (fun _ done WW => St w B ([blkA xr [.int .i64 sec0, .slice ua l.length uc] 54]) S WW) (by kernel_rfl) (hord_of2 (by kernel_rfl)) (fun _ => by kernel_rfl) (fun _ => by kernel_rfl) (fun _ => by kernel_rfl) ⟨(), H8.drew⟩ ?_ ?_
          · intro _ done zb WW j oq ho hd hdep hcl HA HJ
            have hj : j < 21 := (Array.getElem?_eq_some_iff.1 ho).1
            obtain rfl | rfl | rfl | rfl | rfl | rfl | rfl | rfl | rfl | rfl | rfl | rfl | rfl | rfl | rfl | rfl | rfl | rfl | rfl | rfl | rfl : j = 0 ∨ j = 1 ∨ j = 2 ∨ j = 3 ∨ j = 4 ∨ j = 5 ∨ j = 6 ∨ j = 7 ∨ j = 8 ∨ j = 9 ∨ j = 10 ∨ j = 11 ∨ j = 12 ∨ j = 13 ∨ j = 14 ∨ j = 15 ∨ j = 16 ∨ j = 17 ∨ j = 18 ∨ j = 19 ∨ j = 20 := by omega
            · exact valG (θ := _) (.int .i64 (ev : Int)) ho (by cases ho; rfl) (by cases ho; simp [execOp, go_sem, HA.tm, lookT]) (by cases ho; exact fun d hd => by cases hd; exact List.mem_of_getElem? (i := 0) rfl) HJ
            · exact valG (θ := _) (.int .i64 (ev : Int)) ho (by cases ho; rfl) (by cases ho; simp [execOp, go_sem, HA.tm, lookT]) (by cases ho; exact fun d hd => by cases hd; exact List.mem_of_getElem? (i := 1) rfl) HJ
            · have p0 : done 0 = true := by cases ho; exact hdep ⟨0, .data⟩ (by simp) rfl
              have p1 : done 1 = true := by cases ho; exact hdep ⟨1, .data⟩ (by simp) rfl
              exact valG (θ := _) (.bool false) ho (by cases ho; rfl) (by cases ho; simp [execOp, go_sem, HA.tm, lookT, p0, p1, hee]) (by cases ho; exact fun d hd => by cases hd; exact List.mem_of_getElem? (i := 2) rfl) HJ
            · have p2 : done 2 = true := by cases ho; exact hdep ⟨2, .data⟩ (by simp) rfl
              exact valG (θ := _) (.bool false) ho (by cases ho; rfl) (by cases ho; simp [execOp, go_sem, HA.tm, lookT, p2]) (by cases ho; exact fun d hd => by cases hd; exact List.mem_of_getElem? (i := 3) rfl) HJ
            · have p3 : done 3 = true := by cases ho; exact hdep ⟨3, .guard⟩ (by simp) rfl
              exact valG (θ := _) (.pointer none) ho (by cases ho; simp [Region.wanted, yielded, HA.tm, lookT, go_sem, p3]) (by cases ho; simp [execOp, go_sem, HA.tm, lookT, p3]) (by cases ho; exact fun d hd => by cases hd; exact List.mem_of_getElem? (i := 4) rfl) HJ
            · have p4 : done 4 = true := by cases ho; exact hdep ⟨4, .data⟩ (by simp) rfl
              have p3 : done 3 = true := hcl 4 _ rfl p4 ⟨3, .guard⟩ (by simp) rfl
              exact valG (θ := _) (.bool true) ho (by cases ho; simp [Region.wanted, yielded, HA.tm, lookT, go_sem, p3, p4]) (by cases ho; simp [execOp, go_sem, HA.tm, lookT, p3, p4]) (by cases ho; exact fun d hd => by cases hd; exact List.mem_of_getElem? (i := 5) rfl) HJ
            · have p3 : done 3 = true := by cases ho; exact hdep ⟨3, .guard⟩ (by simp) rfl
              exact valG (θ := _) (.int .i64 (ev : Int)) ho (by cases ho; simp [Region.wanted, yielded, HA.tm, lookT, go_sem, p3]) (by cases ho; simp [execOp, go_sem, HA.tm, lookT, p3]) (by cases ho; exact fun d hd => by cases hd; exact List.mem_of_getElem? (i := 6) rfl) HJ
            · have p6 : done 6 = true := by cases ho; exact hdep ⟨6, .data⟩ (by simp) rfl
              have p3 : done 3 = true := hcl 6 _ rfl p6 ⟨3, .guard⟩ (by simp) rfl
              exact valG (θ := _) (.bool true) ho (by cases ho; simp [Region.wanted, yielded, HA.tm, lookT, go_sem, p3, p6, hne]) (by cases ho; simp [execOp, go_sem, HA.tm, lookT, p3, p6, hne]) (by cases ho; exact fun d hd => by cases hd; exact List.mem_of_getElem? (i := 7) rfl) HJ
            · have p5 : done 5 = true := by cases ho; exact hdep ⟨5, .data⟩ (by simp) rfl
              have p7 : done 7 = true := by cases ho; exact hdep ⟨7, .data⟩ (by simp) rfl
              have p4 : done 4 = true := hcl 5 _ rfl p5 ⟨4, .data⟩ (by simp) rfl
              have p3 : done 3 = true := hcl 4 _ rfl p4 ⟨3, .guard⟩ (by simp) rfl
              exact valG (θ := _) (.bool false) ho (by cases ho; simp [Region.wanted, yielded, HA.tm, lookT, go_sem, p3, p4, p5, p7]) (by cases ho; simp [execOp, go_sem, HA.tm, lookT, p3, p4, p5, p7]) (by cases ho; exact fun d hd => by cases hd; exact List.mem_of_getElem? (i := 8) rfl) HJ
            · have p3 : done 3 = true := by cases ho; exact hdep ⟨3, .data⟩ (by simp) rfl
              have p8 : done 8 = true := by cases ho; exact hdep ⟨8, .data⟩ (by simp) rfl
              exact valG (θ := _) (.bool false) ho (by cases ho; rfl) (by cases ho; simp [execOp, go_sem, HA.tm, lookT, p3, p8]) (by cases ho; exact fun d hd => by cases hd; exact List.mem_of_getElem? (i := 9) rfl) HJ
            · have p9 : done 9 = true := by cases ho; exact hdep ⟨9, .data⟩ (by simp) rfl
              exact valG (θ := _) (.bool false) ho (by cases ho; rfl) (by cases ho; simp [execOp, go_sem, HA.tm, lookT, p9]) (by cases ho; exact fun d hd => by cases hd; exact List.mem_of_getElem? (i := 10) rfl) HJ
            · have p10 : done 10 = true := by cases ho; exact hdep ⟨10, .guard⟩ (by simp) rfl
              exact valG (θ := _) (.pointer none) ho (by cases ho; simp [Region.wanted, yielded, HA.tm, lookT, go_sem, p10]) (by cases ho; simp [execOp, go_sem, HA.tm, lookT, p10]) (by cases ho; exact fun d hd => by cases hd; exact List.mem_of_getElem? (i := 11) rfl) HJ
            · have p11 : done 11 = true := by cases ho; exact hdep ⟨11, .data⟩ (by simp) rfl
              have p10 : done 10 = true := hcl 11 _ rfl p11 ⟨10, .guard⟩ (by simp) rfl
              exact valG (θ := _) (.bool false) ho (by cases ho; simp [Region.wanted, yielded, HA.tm, lookT, go_sem, p10, p11]) (by cases ho; simp [execOp, go_sem, HA.tm, lookT, p10, p11]) (by cases ho; exact fun d hd => by cases hd; exact List.mem_of_getElem? (i := 12) rfl) HJ
            · have p12 : done 12 = true := by cases ho; exact hdep ⟨12, .data⟩ (by simp) rfl
              have p11 : done 11 = true := hcl 12 _ rfl p12 ⟨11, .data⟩ (by simp) rfl
              have p10 : done 10 = true := hcl 11 _ rfl p11 ⟨10, .guard⟩ (by simp) rfl
              exact valG (θ := _) (.bool false) ho (by cases ho; simp [Region.wanted, yielded, HA.tm, lookT, go_sem, p10, p11, p12]) (by cases ho; simp [execOp, go_sem, HA.tm, lookT, p10, p11, p12]) (by cases ho; exact fun d hd => by cases hd; exact List.mem_of_getElem? (i := 13) rfl) HJ
            · have p13 : done 13 = true := by cases ho; exact hdep ⟨13, .guard⟩ (by simp) rfl
              exact passG (θ := _) ho (by cases ho; simp [Region.wanted, yielded, HA.tm, lookT, go_sem, p13]) (by cases ho; exact fun d hd => by cases hd; exact List.mem_of_getElem? (i := 14) rfl) HJ
            · have p14 : done 14 = true := by cases ho; exact hdep ⟨14, .data⟩ (by simp) rfl
              have p13 : done 13 = true := hcl 14 _ rfl p14 ⟨13, .guard⟩ (by simp) rfl
              exact passG (θ := _) ho (by cases ho; simp [Region.wanted, yielded, HA.tm, lookT, go_sem, p13, p14, undef]) (by cases ho; exact fun d hd => by cases hd; exact List.mem_of_getElem? (i := 15) rfl) HJ
            · have p13 : done 13 = true := by cases ho; exact hdep ⟨13, .guard⟩ (by simp) rfl
              exact passG (θ := _) ho (by cases ho; simp [Region.wanted, yielded, HA.tm, lookT, go_sem, p13, undef]) (by cases ho; exact fun d hd => by cases hd; exact List.mem_of_getElem? (i := 16) rfl) HJ
            · have p15 : done 15 = true := by cases ho; exact hdep ⟨15, .data⟩ (by simp) rfl
              have p16 : done 16 = true := by cases ho; exact hdep ⟨16, .data⟩ (by simp) rfl
              have p14 : done 14 = true := hcl 15 _ rfl p15 ⟨14, .data⟩ (by simp) rfl
              have p13 : done 13 = true := hcl 14 _ rfl p14 ⟨13, .guard⟩ (by simp) rfl
              exact passG (θ := _) ho (by cases ho; simp [Region.wanted, yielded, HA.tm, lookT, go_sem, p13, p14, p15, p16, undef]) (by cases ho; exact fun d hd => by cases hd; exact List.mem_of_getElem? (i := 17) rfl) HJ
            · have p17 : done 17 = true := by cases ho; exact hdep ⟨17, .data⟩ (by simp) rfl
              have p15 : done 15 = true := hcl 17 _ rfl p17 ⟨15, .data⟩ (by simp) rfl
              have p14 : done 14 = true := hcl 15 _ rfl p15 ⟨14, .data⟩ (by simp) rfl
              have p13 : done 13 = true := hcl 14 _ rfl p14 ⟨13, .guard⟩ (by simp) rfl
              exact passG (θ := _) ho (by cases ho; simp [Region.wanted, yielded, HA.tm, lookT, go_sem, p13, p14, p15, p17, undef]) (by cases ho; exact fun d hd => by cases hd; exact List.mem_of_getElem? (i := 18) rfl) HJ
            · have p13 : done 13 = true := by cases ho; exact hdep ⟨13, .data⟩ (by simp) rfl
              have p18 : done 18 = true := by cases ho; exact hdep ⟨18, .data⟩ (by simp) rfl
              have p12 : done 12 = true := hcl 13 _ rfl p13 ⟨12, .data⟩ (by simp) rfl
              have p11 : done 11 = true := hcl 12 _ rfl p12 ⟨11, .data⟩ (by simp) rfl
              have p10 : done 10 = true := hcl 11 _ rfl p11 ⟨10, .guard⟩ (by simp) rfl
              exact valG (θ := _) (.bool false) ho (by cases ho; simp [Region.wanted, yielded, HA.tm, lookT, go_sem, p10, p11, p12, p13, p18]) (by cases ho; simp [execOp, go_sem, HA.tm, lookT, p10, p11, p12, p13, p18]) (by cases ho; exact fun d hd => by cases hd; exact List.mem_of_getElem? (i := 19) rfl) HJ
            · have p10 : done 10 = true := by cases ho; exact hdep ⟨10, .data⟩ (by simp) rfl
              have p19 : done 19 = true := by cases ho; exact hdep ⟨19, .data⟩ (by simp) rfl
              exact valG (θ := _) (.bool false) ho (by cases ho; rfl) (by cases ho; simp [execOp, go_sem, HA.tm, lookT, p10, p19]) (by cases ho; exact fun d hd => by cases hd; exact List.mem_of_getElem? (i := 20) rfl) HJ
          · intro _ done WW hall HJ
            have HE : St w B [blkA xr [.int .i64 sec0, .slice ua l.length uc] 54] S WW := St.cast (by simp []) HJ
            clear HJ hall 
            simp only [putAll, Act.put, List.setIfInBounds_toArray, List.set_cons_succ, List.set_cons_zero]
            try go_wp2_with fail
            go_meet
            case rel => exact ⟨rfl, Lib.hid HE⟩
      case rest =>
        obtain ⟨rfl, HI⟩ := hcut
        clear H7
        have H8 := HI.out
        clear HI
        have HON := lopen_nil sec0 (.slice ua l.length uc)
        have HAN := append_nil
        have HRN := read_nil
        have HSN := scan_nil
        have HYN := sync_nil
        have HFN := free_nil
        have HGN := ring_nil
        have HUN := super_nil
        have HKN := broken_nil
        unfold recZ addrZ at HAN HRN
        have hfi : ∀ W, (Instr.field 54 (.agg #[.int .i64 0, .slice none 0 0]) 1).run Tryz.prog W = .ok (.slice none 0 0) W := fun W => by kernel_rfl
        obtain ⟨hc, hf⟩ := St.cells H8 0
        go_wp2_with fail
        refine (HON.call (L := []) (M := [_]) H8 (by simp)).mono ?_
        rintro e w8 ⟨_, _, rfl, ⟨rfl, rfl⟩, H9⟩
        clear H8 hc hf HON
        go_wp2_with fail
        refine (HAN.call (L := []) (M := [_]) H9 (by simp)).mono ?_
        rintro e w9 ⟨_, _, rfl, ⟨rfl, rfl⟩, H10⟩
        have H11 := H10.alloc [.int .i64 0, .int .u64 0, .int .i64 0] 64
        clear H9 HAN
        go_upto_region 20 with fail
        refine wp_world (fun W => St w B _ _ W) H11 ?_
        intro w10 H12
        clear H10 H11
        go_wp2_with fail
        refine (HRN.call (L := []) (M := [_, _]) H12 (by simp)).mono ?_
        rintro e w11 ⟨_, _, rfl, ⟨rfl, rfl⟩, H13⟩
        have H14 := H13.alloc [.int .i64 0, .int .u32 0, .int .u32 0, .int .u64 0, .slice none 0 0, .slice none 0 0] 62
        clear H12 HRN
        go_upto_region 21 with fail
        refine wp_world (fun W => St w B _ _ W) H14 ?_
        intro w12 H15
        clear H13 H14
        go_wp2_with fail
        refine (HSN.call (L := []) (M := [_, _, _]) H15 (by simp)).mono ?_
        rintro e w13 ⟨_, _, rfl, ⟨rfl, rfl⟩, H16⟩
        have H17 := H16.alloc [.int .u64 0, .int .i64 0, .slice none 0 0] 43
        clear H15 HSN
        go_upto_region 22 with fail
        refine wp_world (fun W => St w B _ _ W) H17 ?_
        intro w14 H18
        clear H16 H17
        go_wp2_with fail
        refine (HYN.call (L := []) (M := [_, _, _, _]) H18 (by simp)).mono ?_
        rintro e w15 ⟨_, _, rfl, ⟨rfl, rfl⟩, H19⟩
        clear H18 HYN
        go_wp2_with fail
        refine (HFN.call (L := []) (M := [_, _, _, _]) H19 (by simp)).mono ?_
        rintro e w16 ⟨_, _, rfl, ⟨rfl, rfl⟩, H20⟩
        clear H19 HFN
        go_wp2_with fail
        refine (HGN.call (L := []) (M := [_, _, _, _]) H20 (by simp)).mono ?_
        rintro e w17 ⟨_, _, rfl, ⟨rfl, rfl⟩, H21⟩
        clear H20 HGN
        go_wp2_with fail
        refine (HUN.call (L := []) (M := [_, _, _, _]) H21 (by simp)).mono ?_
        rintro e w18 ⟨_, _, rfl, ⟨rfl, rfl⟩, H22⟩
        clear H21 HUN
        go_wp2_with fail
        refine (HKN.call (L := []) (M := [_, _, _, _]) H22 (by simp)).mono ?_
        rintro e w19 ⟨_, _, rfl, ⟨rfl, rfl⟩, H23⟩
        go_wp2_with fail
        exact bodyPost_ret (results_tmp rfl _ _ _) rfl (Back.mk (L' := []) ⟨rfl, rfl⟩ (St.pick H23 []))
end Go.Proofs.YtjmocjcjiiopnaaGreat
end
