/- The log: Free. Conditions: the ring is right, what is known fits. The laws' new log: born. Conditions: there may be so many segments and sectors. Plain: the log's state by what its segments hold: open, Append. Conditions: nothing fails. -/
import Derived.Test.YtjmocjcjiiopnaaGreatLogScans26
import Derived.Test.YtjmocjcjiiopnaaGreatLogScans15
import Derived.Test.YtjmocjcjiiopnaaGreatLogScans24

section
set_option linter.unusedVariables false
set_option linter.unusedSimpArgs false
namespace Go.Lg
open Go.Ring Go.Dsk Go.Oct Go.Proofs.YtjmocjcjiiopnaaGreat
def Lg.gone (L : Lg) (i : Nat) : Sp := { L.x with ret := (at' L.segs i).gen }
/-- The oldest segment is freed. -/
def Lg.free (L : Lg) (i : Int) : Lg × Nat :=
  if i < 0 ∨ (L.segs.length : Int) ≤ i then (L, 2) else if L.br = true then (L, 8) else if oldestP L.segs ≠ some i.toNat then (L, 181)
  else if (setF L.D (L.gone i.toNat) L.t).2 ≠ 0 then ({ L with D := (setF L.D (L.gone i.toNat) L.t).1, br := true }, (setF L.D (L.gone i.toNat) L.t).2)
  else ({ L with x := L.gone i.toNat, t := L.t + 1, D := (setF L.D (L.gone i.toNat) L.t).1, segs := L.segs.set i.toNat zero }, 0)
/-- What must be of a log for a segment to be freed. -/
structure FreeOk (L : Lg) : Prop where
  chk : checkB L.x.sec L.segs = true
  may : L.x.may = true
  fits : L.x.fits
  tok : L.t < 18446744073709551610
  pend : L.D.pend.length < 999000
  gens : ∀ i, oldestP L.segs = some i → L.x.ret ≤ (at' L.segs i).gen ∧ (at' L.segs i).gen ≤ L.x.gen
end Go.Lg
namespace Go.Proofs.YtjmocjcjiiopnaaGreat
open Go.RowKit Go.Ice Go.Oct Go.Dsk Go.Ring Go.Lg
set_option maxHeartbeats 16000000 in
set_option maxRecDepth 100000 in
theorem lfree (g s p : Nat) (L : Lg) (i : Int) (hok : FreeOk L) : Meets Tryz.prog 24 #[.pointer (some ⟨g, 0, none⟩), .int .i64 i] [logA g s p L] [] fun v M => opnQ g s p (L.free i) v M := by
  intro w B H
  obtain ⟨a, c, H1⟩ := logA.open H
  have hro : L.free i = if i < 0 ∨ (L.segs.length : Int) ≤ i then (L, 2) else if L.br = true then (L, 8) else if oldestP L.segs ≠ some i.toNat then (L, 181)
    else if (setF L.D (L.gone i.toNat) L.t).2 ≠ 0 then ({ L with D := (setF L.D (L.gone i.toNat) L.t).1, br := true }, (setF L.D (L.gone i.toNat) L.t).2)
    else ({ L with x := L.gone i.toNat, t := L.t + 1, D := (setF L.D (L.gone i.toNat) L.t).1, segs := L.segs.set i.toNat zero }, 0) := rfl
  have hgo : L.gone i.toNat = ⟨L.x.seg, L.x.sec, L.x.gen, (at' L.segs i.toNat).gen, L.x.resv, L.x.flush⟩ := rfl
  rw [hgo] at hro
  obtain ⟨r, hr⟩ : ∃ r, r = L.free i := ⟨_, rfl⟩
  rw [← hr] at hro ⊢
  clear hr hgo
  have hcs := Rg.check_size hok.chk
  have hpos : 0 < L.segs.length := by omega
  have H0 := H1
  unfold logL logC at H1
  by_cases hrange : i < 0 ∨ (L.segs.length : Int) ≤ i
  · rw [if_pos hrange] at hro
    have HQ := Lib.hid hro
    have hcase : (decide (i < 0) = true) ∨ (decide (i < 0) = false ∧ decide (i ≥ (L.segs.length : Int)) = true ∧ (L.segs.length : Int) ≤ i) := by
      by_cases h : i < 0
      · exact .inl (decide_eq_true h)
      · exact .inr ⟨decide_eq_false h, decide_eq_true (by omega), by omega⟩
    clear hro hrange hok hcs hpos
    rcases hcase with h1 | ⟨h1, h2, h3⟩
    all_goals
      obtain ⟨hc, hf⟩ := St.cells H1 0
      go_enter Tryz.func24, Tryz.ntmps24
      go_wp2_with fail
      exact bodyPost_ret (results_tmp rfl _ _ _) rfl (Back.mk (opnQ.mk HQ.out) (logA.close (L := L) H0))
  · rw [if_neg hrange] at hro
    obtain ⟨k, rfl⟩ : ∃ k : Nat, i = k := ⟨i.toNat, by omega⟩
    have hil : k < L.segs.length := by omega
    have e1 : decide ((k : Int) < 0) = false := decide_eq_false (by omega)
    have e2 : decide ((k : Int) ≥ (L.segs.length : Int)) = false := decide_eq_false (by omega)
    have e3 : ¬ (L.segs.length : Int) ≤ (k : Int) := by omega
    rw [Int.toNat_natCast] at hro
    clear hrange
    cases hbr : L.br
    · rw [hbr, if_neg (show ¬ (false = true) by decide)] at hro
      rw [hbr] at H1
      have HCHK := Lib.hid hok.chk
      have HBR := Lib.hid hbr
      obtain ⟨chk, may, fits, tok, pend, gens⟩ := hok
      have HMAY := Lib.hid may
      have HFITS := Lib.hid fits
      have HTOK := Lib.hid tok
      have HPEND := Lib.hid pend
      have HGENS := Lib.hid gens
      have HRO := Lib.hid hro
      have HCS := Lib.hid hcs
      clear hbr chk may fits tok pend gens hro hcs H
      have HO := Rg.oldst w L.x.sec _ L.segs (segs_of H1 3 rfl)
      unfold Rg.ringV Rg.seekV at HO
      rw [HCHK.out, if_pos rfl] at HO
      obtain ⟨hc, hf⟩ := St.cells H1 0
      go_enter Tryz.func24, Tryz.ntmps24
      go_wp2_with fail
      refine HO.mono ?_
      rintro e w2 ⟨rfl, hb⟩
      have H2 := H1.below hb
      have H02 := H0.below hb
      clear H1 H0 HO hb hc hf e1 e2 e3
      by_cases hold : oldestP L.segs = some k
      · rw [hold]
        have hro2 := HRO.out
        rw [if_neg (by rw [hold]; simp)] at hro2
        clear H02 HRO
        have hst := (Rg.oldest_lt hold).2
        obtain ⟨hg1, hg2⟩ := HGENS.out k hold
        have hfree : freeF L.x.sec L.segs (k : Int) = (0, some (L.segs.set k zero)) := by
          unfold freeF
          rw [if_neg (by rw [HCHK.out]; decide), if_neg (by omega)]
          rw [Int.toNat_natCast, if_neg (by omega)]
        obtain ⟨x, t, D, segs, br⟩ := L
        obtain ⟨sg, sec, gen, ret, resv, flush⟩ := x
        obtain ⟨gk, hgk⟩ : ∃ gk, gk = (at' segs k).gen := ⟨_, rfl⟩
        dsimp only at hro2 hg1 hg2 hfree hil hpos H2 hst
        rw [← hgk] at hro2 hg1 hg2
        have hbr0 := HBR.out
        dsimp only at hbr0
        subst hbr0
        have hfx : Sp.fits ⟨sg, sec, gen, gk, resv, flush⟩ := ⟨HFITS.out.1, by have := HFITS.out.1; show gk ≤ _; exact Nat.le_trans hg2 this, HFITS.out.2.2.1, HFITS.out.2.2.2⟩
        have hmm : Sp.may ⟨sg, sec, gen, gk, resv, flush⟩ = true := by
          have := of_decide_eq_true HMAY.out
          dsimp only at this
          unfold Sp.may
          rw [decide_eq_true_eq]
          dsimp only
          omega
        have HSET := sset s p D ⟨sg, sec, gen, ret, resv, flush⟩ ⟨sg, sec, gen, gk, resv, flush⟩ t (by have := HPEND.out; dsimp only at this; omega) hfx hmm (by have := HTOK.out; dsimp only at this; omega) rfl rfl (Nat.le_refl _) hg1 (Nat.le_refl _) (Nat.le_refl _)
        have HGET := sget s ⟨sg, sec, gen, ret, resv, flush⟩ t p
        generalize setF D ⟨sg, sec, gen, gk, resv, flush⟩ t = r1 at *
        obtain ⟨D1, en⟩ := r1
        dsimp only at hro2
        have HRO2 := Lib.hid hro2
        have HFREE := Lib.hid hfree
        have HGK := Lib.hid hgk
        have HSET := Lib.hid HSET
        have HGET := Lib.hid HGET
        have HHOLD := Lib.hid hold
        clear hro2 hfree hgk hfx hmm hst hg1 hg2 hold
        have hkk : ((k : Int) != (k : Int)) = false := by simp
        obtain ⟨gb, off, cap, hv, hv1, hv2, hv3, hv4⟩ := (segs_of H2 3 rfl).cell hpos
        cases hv
        clear hv4
        obtain ⟨hc, hf⟩ := St.cells H2 0
        go_wp2_with fail
        refine (HGET.out.call (L := [_]) (M := [_, _, _]) (St.pick H2 [1, 0, 2, 3]) (by simp)).mono ?_
        rintro e w3 ⟨_, L', rfl, ⟨rfl, rfl⟩, H3⟩
        clear H2 hc hf hkk
        unfold supV supC
        dsimp only
        have H4 := H3.alloc [.int .i64 sg, .int .i64 sec, .int .u64 gen, .int .u64 ret, .int .u64 resv, .int .u64 flush] 51
        obtain ⟨xb, hxb⟩ : ∃ xb, xb = w3.heap.size := ⟨_, rfl⟩
        rw [← hxb] at H4
        go_upto_region 11 with fail
        rw [← hxb]
        clear hxb
        refine wp_world (fun W => St w B _ _ W) H4 ?_
        intro w4 H5
        clear H3 H4
        obtain ⟨_, _, _, hv, _, _, _, hv4⟩ := (segs_of H5 4 rfl).cell hpos
        cases hv
        have q1 := (hv4 k hil).2.1
        rw [← HGK.out] at q1
        clear hv4
        unfold maxLen at hv2
        obtain ⟨hc, hf⟩ := St.cells H5 0
        obtain ⟨hc2, hf2⟩ := St.cells H5 2
        have H6 := H5.set0 3 (.int .u64 gk)
        have i0 : (0 : Int) ≤ (k : Int) := by omega
        have i1 : (k : Int) < (segs.length : Int) := by omega
        go_upto_region 12 with fail
        refine wp_world (fun W => St w B _ _ W) (St.pick H6 [1, 3, 0, 2, 4]) ?_
        clear H5 H6 hc hf hc2 hf2 q1
        intro w6 H7
        refine wp_region_gh (Θ := Unit) (fun _ => [(0, 62, (.pointer (some ⟨g, 0, none⟩))), (1, 63, (.pointer (some ⟨g, 0, none⟩))), (2, 64, (.pointer (some ⟨g, 0, none⟩))), (3, 65, (.pointer (some ⟨s, 0, none⟩))), (4, 66, (.agg #[.int .i64 sg, .int .i64 sec, .int .u64 gen, .int .u64 gk, .int .u64 resv, .int .u64 flush])), (5, 67, (.int .i64 (en : Int))), (6, 8, (.int .i64 (en : Int)))]) (fun _ done WW => St w B (bif done 5 then [blkA s (if en = 0 then (stoC ⟨sg, sec, gen, gk, resv, flush⟩ (t + 1) p) else (stoC ⟨sg, sec, gen, ret, resv, flush⟩ t p)) 102, dskA p D1, blkA xb [.int .i64 sg, .int .i64 sec, .int .u64 gen, .int .u64 gk, .int .u64 resv, .int .u64 flush] 51, blkA g [.pointer (some ⟨s, 0, none⟩), .int .i64 sec, (.slice (some ⟨gb, off, none⟩) segs.length c), .bool false] 100, segsA (.slice (some ⟨gb, off, none⟩) segs.length c) segs] else ([blkA s (stoC ⟨sg, sec, gen, ret, resv, flush⟩ t p) 102, dskA p D, blkA xb [.int .i64 sg, .int .i64 sec, .int .u64 gen, .int .u64 gk, .int .u64 resv, .int .u64 flush] 51, blkA g [.pointer (some ⟨s, 0, none⟩), .int .i64 sec, (.slice (some ⟨gb, off, none⟩) segs.length c), .bool false] 100, segsA (.slice (some ⟨gb, off, none⟩) segs.length c) segs])) [] WW) (by kernel_rfl) (hord_of2 (by kernel_rfl)) (fun _ => by kernel_rfl) (fun _ => by kernel_rfl) (fun _ => by kernel_rfl) ⟨(), H7.drew⟩ ?_ ?_
        · intro _ done zb WW j oq ho hd hdep hcl HA HJ
          have hj : j < 7 := (Array.getElem?_eq_some_iff.1 ho).1
          obtain rfl | rfl | rfl | rfl | rfl | rfl | rfl : j = 0 ∨ j = 1 ∨ j = 2 ∨ j = 3 ∨ j = 4 ∨ j = 5 ∨ j = 6 := by omega
          · exact valG (θ := _) (.pointer (some ⟨g, 0, none⟩)) ho (by cases ho; rfl) (by cases ho; simp [execOp, go_sem, HA.tm, lookT]) (by cases ho; exact fun d hd => by cases hd; simp) HJ
          · have p0 : done 0 = true := by cases ho; exact hdep ⟨0, .data⟩ (by simp) rfl
            exact valG (θ := _) (.pointer (some ⟨g, 0, none⟩)) ho (by cases ho; rfl) (by cases ho; simp [execOp, go_sem, HA.tm, lookT, p0]) (by cases ho; exact fun d hd => by cases hd; simp) HJ
          · have p1 : done 1 = true := by cases ho; exact hdep ⟨1, .data⟩ (by simp) rfl
            exact valG (θ := _) (.pointer (some ⟨g, 0, none⟩)) ho (by cases ho; rfl) (by cases ho; simp [execOp, go_sem, HA.tm, lookT, p1]) (by cases ho; exact fun d hd => by cases hd; simp) HJ
          · have p2 : done 2 = true := by cases ho; exact hdep ⟨2, .data⟩ (by simp) rfl
            have n5 : done 5 = false := by cases hx : done 5 with | false => rfl | true => have := hcl 5 _ rfl hx ⟨3, .data⟩ (by simp) rfl; rw [hd] at this; cases this
            have hcl_ : ∀ k, WW.cell? ⟨g, k, none⟩ = ([.pointer (some ⟨s, 0, none⟩), .int .i64 sec, (.slice (some ⟨gb, off, none⟩) segs.length c), .bool false])[k]? := by
              have HQ := HJ
              (try simp only [n5, hd, cond_true, cond_false] at HQ) <;> first | exact (St.cells HQ 0).1 | exact (St.cells HQ 1).1 | exact (St.cells HQ 2).1 | exact (St.cells HQ 3).1 | exact (St.cells HQ 4).1 | exact (St.cells HQ 5).1 | exact (St.cells HQ 6).1 | exact (St.cells HQ 7).1
            exact valG (θ := _) (.pointer (some ⟨s, 0, none⟩)) ho (by cases ho; rfl) (by cases ho; simp [execOp, go_sem, HA.tm, lookT, p2, hcl_]) (by cases ho; exact fun d hd => by cases hd; simp) HJ
          · have n5 : done 5 = false := by cases hx : done 5 with | false => rfl | true => have := hcl 5 _ rfl hx ⟨4, .data⟩ (by simp) rfl; rw [hd] at this; cases this
            have HRg : WW.rangeAt xb (0) ([.int .i64 sg, .int .i64 sec, .int .u64 gen, .int .u64 gk, .int .u64 resv, .int .u64 flush]) := by
              have HQ := HJ
              (try simp only [n5, hd, cond_true, cond_false] at HQ) <;> first | exact St.range HQ 2
            exact loadG (θ := _) (v := (.agg #[.int .i64 sg, .int .i64 sec, .int .u64 gen, .int .u64 gk, .int .u64 resv, .int .u64 flush])) _ ((.tmp 7)) ho (by cases ho; rfl) (by cases ho; rfl) (by simp [HA.ev, HA.tm, lookT, Act.eval]) (bigSup.load (rfl) HRg) (by cases ho; exact fun d hd => by cases hd; simp) HJ
          · have p3 : done 3 = true := by cases ho; exact hdep ⟨3, .data⟩ (by simp) rfl
            have p4 : done 4 = true := by cases ho; exact hdep ⟨4, .data⟩ (by simp) rfl
            have HS : St w B [blkA s (stoC ⟨sg, sec, gen, ret, resv, flush⟩ t p) 102, dskA p D, blkA xb [.int .i64 sg, .int .i64 sec, .int .u64 gen, .int .u64 gk, .int .u64 resv, .int .u64 flush] 51, blkA g [.pointer (some ⟨s, 0, none⟩), .int .i64 sec, (.slice (some ⟨gb, off, none⟩) segs.length c), .bool false] 100, segsA (.slice (some ⟨gb, off, none⟩) segs.length c) segs] [] WW := St.cast (by simp only [hd, cond_true, cond_false]) HJ
            exact callG (θ := _) (f := 69) (args := #[.pointer (some ⟨s, 0, none⟩), (.agg #[.int .i64 sg, .int .i64 sec, .int .u64 gen, .int .u64 gk, .int .u64 resv, .int .u64 flush])]) ho (by cases ho; rfl) (by cases ho; simp [execOp, go_sem, HA.tm, lookT, p3, p4]) (HSET.out.call (L := [_, _]) HS (by simp)) (by
              rintro e w' ⟨_, _, rfl, ⟨rfl, rfl⟩, HS'⟩
              exact ⟨_, (), rfl, by cases ho; exact fun d hd => by cases hd; simp, (.inl rfl), (St.cast (by simp [] <;> rfl) HS')⟩)
          · have p5 : done 5 = true := by cases ho; exact hdep ⟨5, .data⟩ (by simp) rfl
            exact valG (θ := _) (.int .i64 (en : Int)) ho (by cases ho; rfl) (by cases ho; simp [execOp, go_sem, HA.tm, lookT, p5]) (by cases ho; exact fun d hd => by cases hd; simp) HJ
        · intro _ done WW hall HJ
          have z5 := hall 5 (by decide)
          have HE : St w B [blkA s (if en = 0 then (stoC ⟨sg, sec, gen, gk, resv, flush⟩ (t + 1) p) else (stoC ⟨sg, sec, gen, ret, resv, flush⟩ t p)) 102, dskA p D1, blkA xb [.int .i64 sg, .int .i64 sec, .int .u64 gen, .int .u64 gk, .int .u64 resv, .int .u64 flush] 51, blkA g [.pointer (some ⟨s, 0, none⟩), .int .i64 sec, (.slice (some ⟨gb, off, none⟩) segs.length c), .bool false] 100, segsA (.slice (some ⟨gb, off, none⟩) segs.length c) segs] [] WW := St.cast (by simp [z5]) HJ
          clear HJ hall z5
          simp only [putAll, Act.put, List.setIfInBounds_toArray, List.set_cons_succ, List.set_cons_zero]
          have HA := HE
          clear HE H7
          by_cases h1 : en = 0
          · subst h1
            rw [if_pos rfl] at HA
            have hop2 := HRO2.out
            rw [if_neg (show ¬ ((0 : Nat) ≠ 0) by decide)] at hop2
            have HQ := Lib.hid hop2
            clear hop2 HRO2
            have HFR := Rg.freed WW sec _ segs (k : Int) (segs_of HA 4 rfl)
            unfold Rg.ringV at HFR
            rw [HFREE.out] at HFR
            obtain ⟨hc, hf⟩ := St.cells HA 3
            go_wp2_with fail
            refine HFR.mono ?_
            rintro e w7 ⟨u, rfl, hou, hb⟩
            have hou2 : Rg.OwnSegs w7 WW.heap.size u (segs.set k zero) := hou
            obtain ⟨au, cu, rfl, _⟩ := own_form hou2
            have H8 := St.newSegs HA hb hou2
            clear HA HFR hb hou hou2 hc hf
            have es : Rg.secOf sec (0, some (segs.set k zero)).2 = sec := rfl
            rw [es]
            clear es
            obtain ⟨ns, hns⟩ : ∃ ns, ns = segs.set k zero := ⟨_, rfl⟩
            rw [← hns] at H8 ⊢
            have HNS := Lib.hid hns
            clear hns
            have H9 := H8.alloc [.int .i64 sec, .slice au ns.length cu] 54
            obtain ⟨rr, hrr⟩ : ∃ rr, rr = w7.heap.size := ⟨_, rfl⟩
            rw [← hrr] at H9
            go_upto_region 16 with fail
            rw [← hrr]
            clear hrr
            refine wp_world (fun W => St w B _ _ W) H9 ?_
            intro w9 H10
            clear H8 H9
            obtain ⟨hc, hf⟩ := St.cells H10 0
            obtain ⟨hc2, hf2⟩ := St.cells H10 5
            have H11 := (H10.set_ 5 1 (.int .i64 sec)).set_ 5 2 (.slice au ns.length cu)
            go_wp2_with fail
            exact bodyPost_ret (results_tmp rfl _ _ _) rfl (Back.mk (opnQ.mk (by rw [HQ.out, ← HNS.out])) (logA.close (L := ⟨⟨sg, sec, gen, gk, resv, flush⟩, t + 1, D1, ns, false⟩) (St.pick H11 [5, 2, 3, 1])))
          · have hne : ((en : Int) != 0) = true := by simp; omega
            rw [if_neg h1] at HA
            have hop2 := HRO2.out
            rw [if_pos h1] at hop2
            have HQ := Lib.hid hop2
            have HF := failsE g (.pointer (some ⟨s, 0, none⟩)) (.int .i64 sec) (.slice (some ⟨gb, off, none⟩) segs.length c) false en h1
            clear h1 hop2 HRO2
            go_wp2_with fail
            refine (HF.call (L := [_]) (M := [_, _, _]) (St.pick HA [3, 0, 1, 4]) (by simp)).mono ?_
            rintro e w7 ⟨_, L', rfl, ⟨rfl, rfl⟩, H11⟩
            go_wp2_with fail
            exact bodyPost_ret (results_tmp rfl _ _ _) rfl (Back.mk (opnQ.mk HQ.out) (logA.close (L := ⟨⟨sg, sec, gen, ret, resv, flush⟩, t, D1, segs, true⟩) H11))
      · have hro2 := HRO.out
        rw [if_pos hold] at hro2
        have HQ := Lib.hid hro2
        clear hro2 HRO
        obtain ⟨hc, hf⟩ := St.cells H2 0
        cases ho : oldestP L.segs with
        | none =>
          go_wp2_with fail
          exact bodyPost_ret (results_tmp rfl _ _ _) rfl (Back.mk (opnQ.mk HQ.out) (logA.close (L := L) H02))
        | some j =>
          have hjk : ((j : Int) != (k : Int)) = true := by
            have : j ≠ k := fun e => hold (by rw [ho, e])
            simp; omega
          clear hold ho
          go_wp2_with fail
          exact bodyPost_ret (results_tmp rfl _ _ _) rfl (Back.mk (opnQ.mk HQ.out) (logA.close (L := L) H02))
    · rw [hbr, if_pos rfl] at hro
      have HQ := Lib.hid hro
      rw [hbr] at H1
      clear hro hok hcs
      obtain ⟨hc, hf⟩ := St.cells H1 0
      go_enter Tryz.func24, Tryz.ntmps24
      go_wp2_with fail
      exact bodyPost_ret (results_tmp rfl _ _ _) rfl (Back.mk (opnQ.mk HQ.out) (logA.close (L := L) H0))
end Go.Proofs.YtjmocjcjiiopnaaGreat
end

section
set_option linter.unusedVariables false
set_option linter.unusedSimpArgs false
namespace Go.Lg
open Go.Ring Go.Dsk Go.Oct Go.Proofs.YtjmocjcjiiopnaaGreat
def x0 (n : Nat) (sec : Nat) : Sp := ⟨n, sec, 0, 0, 0, 0⟩
/-- A new disk, divided. -/
def D0 (n sec : Nat) : Dk := (((Dk.new 1026).put 0 (supB (x0 n sec) 0)).put 1 zB).settle fun _ => true
def L0 (n sec : Nat) : Lg := ⟨x0 n sec, 0, D0 n sec, List.replicate n zero, false⟩
theorem fmt_new {n sec : Nat} (hn : 4 ≤ n ∧ n ≤ 16) (hs : 24 ≤ sec ∧ sec ≤ 64) : fmtF (Dk.new 1026) (x0 n sec) = (D0 n sec, 0) := by
  have h0 := Dk.new_calm 1026
  have hl : (Dk.new 1026).safe.length = 1026 := by show (List.replicate 1026 _).length = 1026; exact List.length_replicate
  have hm : (x0 n sec).may = true := by unfold Sp.may x0; simp; omega
  have hr : roomB (Dk.new 1026) (x0 n sec) = true := by
    unfold roomB x0
    rw [hl, decide_eq_true_eq]
    have : (n : Int) * sec ≤ 16 * 64 := Int.mul_le_mul (by omega) (by omega) (by omega) (by decide)
    show 2 + (n : Int) * (sec : Int) ≤ _
    omega
  have w0 := h0.write (i := 0) (by rw [hl]; decide) (supB (x0 n sec) 0)
  have w1 := (h0.put 0 (supB (x0 n sec) 0)).write (i := 1) (by rw [Dk.put_len, hl]; decide) zB
  have w2 := ((h0.put 0 (supB (x0 n sec) 0)).put 1 zB).sync (by rw [Dk.put_len, Dk.put_len, hl]; decide)
  have w0' : (Dk.new 1026).write 0 (supB (x0 n sec) 0) = ((Dk.new 1026).put 0 (supB (x0 n sec) 0), 0) := w0
  have w1' : ((Dk.new 1026).put 0 (supB (x0 n sec) 0)).write 1 zB = (((Dk.new 1026).put 0 (supB (x0 n sec) 0)).put 1 zB, 0) := w1
  unfold fmtF
  rw [if_neg (by rw [hm]; decide), if_neg (by rw [hr]; decide), w0', if_neg (by simp), w1', if_neg (by simp), w2]
  rfl
end Go.Lg
namespace Go.Proofs.YtjmocjcjiiopnaaGreat
open Go.RowKit Go.Ice Go.Oct Go.Dsk Go.Ring Go.Lg
theorem stoQ.ok {p : Nat} {x : Sp} {t : Nat} {D : Dk} {v : Value} {L : List Asn} (h : stoQ p x t (D, 0) v L) : ∃ s, v = .tuple #[.pointer (some ⟨s, 0, none⟩), .int .i64 0] ∧ L = [blkA s (stoC x t p) 102, dskA p D] := by
  unfold stoQ at h
  exact h
theorem check_new {n : Nat} {sec : Int} (h : (4 ≤ n ∧ n ≤ 16) ∧ (24 ≤ sec ∧ sec ≤ 64)) : checkB sec (List.replicate n zero) = true :=
  (Side.new (by unfold sizedB; simp; omega)).check
theorem opened_new {n : Nat} {sec : Int} (h : (4 ≤ n ∧ n ≤ 16) ∧ (24 ≤ sec ∧ sec ≤ 64)) : openedP (List.replicate n zero) = none := by
  rw [(Side.new (n := n) (sec := sec) (by unfold sizedB; simp; omega)).opened]; rfl
set_option maxHeartbeats 16000000 in
set_option maxRecDepth 100000 in
theorem born (n sec : Nat) (hn : 4 ≤ n ∧ n ≤ 16) (hs : 24 ≤ sec ∧ sec ≤ 64) : Meets Tryz.prog 8 #[.int .i64 n, .int .i64 sec] [] [] fun v L => ∃ g s p, v = .tuple #[.pointer (some ⟨g, 0, none⟩), .pointer (some ⟨p, 0, none⟩)] ∧ L = [logA g s p (L0 n sec)] := by
  intro w B H
  have HNW := new 1026 (by decide)
  have hfm := fmt_new hn hs
  have hch := check_new (n := n) (sec := (sec : Int)) ⟨hn, by omega⟩
  have hop := opened_new (n := n) (sec := (sec : Int)) ⟨hn, by omega⟩
  have HRN := fun w => Rg.new w (n : Int) (sec : Int)
  have hsz : Rg.sizedI (n : Int) (sec : Int) = true := by unfold Rg.sizedI; simp; omega
  unfold Rg.ringV at HRN
  simp only [hsz, if_true, Int.toNat_natCast] at HRN
  have HRN := Lib.hid HRN
  have HFM := Lib.hid hfm
  have HCH := Lib.hid hch
  have HOP := Lib.hid hop
  clear hfm hch hop hsz
  go_enter Tryz.func8, Tryz.ntmps8
  go_wp2_with fail
  refine (HNW.call (L := []) (M := []) H (by simp)).mono ?_
  rintro e w1 ⟨_, L', rfl, ⟨p, rfl, rfl⟩, H1⟩
  have HSF := sformat p (Dk.new 1026) n sec (by simp [Dk.new])
  rw [show fmtF (Dk.new 1026) ⟨(n : Int), (sec : Int), 0, 0, 0, 0⟩ = (D0 n sec, 0) from HFM.out] at HSF
  go_wp2_with fail
  refine (HSF.call (L := [_]) (M := []) H1 (by simp)).mono ?_
  rintro e w2 ⟨_, L', rfl, hq, H2⟩
  obtain ⟨s, rfl, rfl⟩ := stoQ.ok hq
  clear H1 HSF
  go_wp2_with fail
  refine (HRN.out w2).mono ?_
  rintro e w3 ⟨u, rfl, hou, hb⟩
  have hou2 : Rg.OwnSegs w3 w2.heap.size u (List.replicate n zero) := hou
  obtain ⟨au, cu, rfl, _⟩ := own_form hou2
  have H3 := St.newSegs H2 hb hou2
  clear hou hou2 hb H2
  have hlen : (List.replicate n zero).length = n := List.length_replicate
  have H4 := H3.alloc [.int .i64 sec, .slice au (List.replicate n zero).length cu] 54
  obtain ⟨rr, hrr⟩ : ∃ rr, rr = w3.heap.size := ⟨_, rfl⟩
  rw [← hrr] at H4
  have HLO := lopen s p (x0 n sec) 0 (D0 n sec) (.slice au (List.replicate n zero).length cu) (List.replicate n zero) HCH.out (by rw [hlen]; rfl) HOP.out
  obtain ⟨zz, hzz⟩ : ∃ zz, zz = List.replicate n zero := ⟨_, rfl⟩
  have hL0 : L0 n sec = ⟨x0 n sec, 0, D0 n sec, zz, false⟩ := by rw [hzz]; rfl
  rw [← hzz] at H4 HLO ⊢
  have HL0 := Lib.hid hL0
  have HLO : Meets Tryz.prog 31 #[.pointer (some ⟨s, 0, none⟩), .agg #[.int .i64 sec, .slice au zz.length cu]] _ _ _ := HLO
  clear hzz hlen H3 hL0
  go_upto_region 8 with fail
  rw [← hrr]
  clear hrr
  refine wp_world (fun W => St w B _ _ W) H4 ?_
  intro w5 H5
  clear H4
  obtain ⟨hc, hf⟩ := St.cells H5 0
  go_wp2_with fail
  refine (HLO.call (L := [_, _, _]) (M := [_]) (St.pick H5 [2, 3, 1, 0]) (by simp)).mono ?_
  rintro e w6 ⟨_, L', rfl, ⟨g, rfl, rfl⟩, H6⟩
  go_wp2_with fail
  exact bodyPost_ret (results_tmp2 rfl _ _ _) rfl (Back.mk ⟨g, s, p, rfl, by rw [HL0.out]; rfl⟩ (St.pick H6 [0]))
end Go.Proofs.YtjmocjcjiiopnaaGreat
end

section
set_option linter.unusedVariables false
set_option linter.unusedSimpArgs false
namespace Go.Lg
open Go.Ring Go.Dsk Go.Oct Go.Proofs.YtjmocjcjiiopnaaGreat
/-- How many sectors records fill. -/
def usedR (l : List RecT) : Nat := (l.map RecT.n).sum
theorem usedR_snoc (l : List RecT) (r : RecT) : usedR (l ++ [r]) = usedR l + r.n := by unfold usedR; simp
theorem usedR_cons (r : RecT) (l : List RecT) : usedR (r :: l) = r.n + usedR l := by unfold usedR; simp
theorem usedR_len : ∀ l : List RecT, l.length ≤ usedR l
  | [] => Nat.le_refl _
  | r :: l => by rw [usedR_cons]; have := r.n_pos; have := usedR_len l; simp; omega
/-- Records stand one behind the other. -/
def Holds (D : Dk) (b g : Nat) : Nat → List RecT → Prop
  | _, [] => True
  | u, r :: l => Stands D b g u r ∧ Holds D b g (u + r.n) l
/-- The records with their places. -/
def placed : Nat → List RecT → List PlT
  | _, [] => []
  | u, r :: l => (u, r.rc, r.ka, r.va) :: placed (u + r.n) l
theorem placed_len : ∀ (u : Nat) (l : List RecT), (placed u l).length = l.length
  | _, [] => rfl
  | u, r :: l => by rw [placed, List.length_cons, placed_len]; rfl
theorem placed_snoc (r : RecT) : ∀ (u : Nat) (l : List RecT), placed u (l ++ [r]) = placed u l ++ [(u + usedR l, r.rc, r.ka, r.va)]
  | u, [] => by simp [placed, usedR]
  | u, x :: l => by rw [List.cons_append, placed, placed, placed_snoc r, usedR_cons, List.cons_append, Nat.add_assoc]
theorem Holds.snoc {D : Dk} {b g : Nat} {r : RecT} : ∀ {l : List RecT} {u : Nat}, Holds D b g u l → Stands D b g (u + usedR l) r → Holds D b g u (l ++ [r])
  | [], u, _, h => ⟨by simpa [usedR] using h, trivial⟩
  | x :: l, u, hl, h => ⟨hl.1, Holds.snoc hl.2 (by rw [usedR_cons] at h; rw [Nat.add_assoc]; exact h)⟩
theorem Holds.frame {D D' : Dk} {b g : Nat} : ∀ {l : List RecT} {u : Nat}, (∀ j, u ≤ j → j < u + usedR l → D'.at (b + j) = D.at (b + j)) → Holds D b g u l → Holds D' b g u l
  | [], _, _, _ => trivial
  | r :: l, u, he, h => by
    rw [usedR_cons] at he
    exact ⟨fun k hk => by rw [he _ (by omega) (by omega)]; exact h.1 k hk, Holds.frame (fun j h1 h2 => he j (by have := r.n_pos; omega) (by omega)) h.2⟩
/-- What a scan of them tells. -/
theorem scanGo_holds {D : Dk} {b g : Nat} {most : Int} (h : Alive D b most) (hg : 1 ≤ g ∧ g ≤ 18446744073709551615) (hm : most ≤ 100000) : ∀ (l : List RecT) (u f : Nat) (acc : List PlT), (∀ r ∈ l, r.ok) → Holds D b g u l → ((u + usedR l : Nat) : Int) ≤ most → l.length < f → (((u + usedR l : Nat) : Int) < most → ∀ z, readB (D.at (b + (u + usedR l))) = some z → ¬ (z.1 = g ∧ z.2.1 = u + usedR l)) → scanGo (b : Int) most g f D u acc = (D, 0, acc ++ placed u l, u + usedR l)
  | [], u, 0, acc, _, _, _, hf, _ => by simp at hf
  | [], u, f + 1, acc, _, _, _, _, hn => by
    have e := recF_none (g := g) (u := u) h (by simpa [usedR] using hn)
    rw [scanGo_succ, e.2, e.1]
    simp [placed, usedR]
  | r :: l, u, 0, acc, _, _, _, hf, _ => by simp at hf
  | r :: l, u, f + 1, acc, ho, hh, hu, hf, hn => by
    rw [usedR_cons] at hu hn
    have e := recF_hit h hg (ho r (by simp)) (u := u) (by omega) hm hh.1
    have hp := r.n_pos
    rw [scanGo_succ, e.2, e.1]
    dsimp only
    rw [if_neg (by simp), if_neg (by omega), scanGo_holds h hg hm l (u + r.n) f _ (fun x hx => ho x (by simp [hx])) hh.2 (by omega) (by simp at hf; omega) (by rw [show u + r.n + usedR l = u + (r.n + usedR l) by omega]; exact hn), usedR_cons, placed, List.append_assoc, Nat.add_assoc]
    rfl
/-- A segment that holds records. -/
structure Segm (D : Dk) (b g i sec : Nat) (l : List RecT) : Prop where
  head : D.at b = headS g i
  oks : ∀ r ∈ l, r.ok
  holds : Holds D b g 1 l
  fit : 1 + usedR l ≤ sec
  beyond : ∀ j, 1 + usedR l ≤ j → j < sec → ∀ z, readB (D.at (b + j)) = some z → z.1 < g
theorem Segm.frame {D D' : Dk} {b g i sec : Nat} {l : List RecT} (h : Segm D b g i sec l) (he : ∀ j, j < sec → D'.at (b + j) = D.at (b + j)) : Segm D' b g i sec l :=
  ⟨by have := he 0 (by have := h.fit; omega); rw [Nat.add_zero] at this; rw [this]; exact h.head, h.oks, h.holds.frame fun j h1 h2 => he j (by have := h.fit; omega), h.fit, fun j h1 h2 z hz => h.beyond j h1 h2 z (by rw [← he j h2]; exact hz)⟩
theorem apart {sec a i j k : Nat} (h : a ≠ i) (hj : j < sec) (hk : k < sec) : 2 + a * sec + j ≠ 2 + i * sec + k := by
  rcases Nat.lt_or_gt_of_ne h with h | h
  · have := Nat.mul_le_mul_right sec (show a + 1 ≤ i from h)
    rw [Nat.add_mul] at this; omega
  · have := Nat.mul_le_mul_right sec (show i + 1 ≤ a from h)
    rw [Nat.add_mul] at this; omega
/-- The log by what its segments hold; k: what was said of generations at most. -/
structure Good (n sec k : Nat) (L : Lg) (s m : Nat) (o : Bool) (C : Nat → List RecT) : Prop where
  side : Side (sec : Int) L.segs s m o
  xseg : L.x.seg = n
  xsec : L.x.sec = sec
  len : L.segs.length = n
  may : L.x.may = true
  fits : L.x.fits
  br : L.br = false
  calm : L.D.calm
  ok : L.D.ok
  dlen : L.D.safe.length = 1026
  pend : (L.D.pend.length : Int) ≤ if o = true then (at' L.segs ((s + (m - 1)) % n)).used else 0
  tok : L.t ≤ k
  gen : L.x.gen ≤ k
  segm : ∀ i, i < n → (at' L.segs i).st ≠ 0 → 1 ≤ Ring.gen L.segs i ∧ Ring.gen L.segs i ≤ L.x.gen ∧ (at' L.segs i).used = 1 + usedR (C i) ∧ Segm L.D (2 + i * sec) (Ring.gen L.segs i) i sec (C i)
  fresh : ∀ i, i < n → ∀ j, 1 ≤ j → j < sec → ∀ z, readB (L.D.at (2 + i * sec + j)) = some z → z.1 ≤ L.x.gen
  ret : ∀ i, i < n → (at' L.segs i).st ≠ 0 → L.x.ret ≤ Ring.gen L.segs i
section
variable {n sec k : Nat} {L : Lg} {s m : Nat} {o : Bool} {C : Nat → List RecT}
theorem Good.bd (h : Good n sec k L s m o C) : (4 ≤ n ∧ n ≤ 16) ∧ (24 ≤ sec ∧ sec ≤ 64) ∧ n * sec ≤ 1024 := by
  have := h.side.size
  unfold sizedB at this
  rw [h.len] at this
  simp at this
  have h2 : n * sec ≤ 16 * 64 := Nat.mul_le_mul (by omega) (by omega)
  omega
theorem Good.inn (h : Good n sec k L s m o C) {i j : Nat} (hi : i < n) (hj : j < sec) : 2 + i * sec + j < 1026 := by
  have := Nat.mul_le_mul_right sec (show i + 1 ≤ n from hi)
  rw [Nat.add_mul] at this
  have := h.bd.2.2
  omega
theorem Good.hm (h : Good n sec k L s m o C) : m ≤ n := by rw [← h.len]; exact h.side.hm
theorem Good.last (h : Good n sec k L s m o C) : (s + (m - 1)) % n < n := Nat.mod_lt _ (by have := h.bd; omega)
theorem Good.sealed (h : Good n sec k L s m o C) : Side (sec : Int) (sealS L.segs) s m false ∧ ∀ i, i < n → (at' (sealS L.segs) i).gen = (at' L.segs i).gen ∧ (at' (sealS L.segs) i).used = (at' L.segs i).used ∧ ((at' (sealS L.segs) i).st = 0 ↔ (at' L.segs i).st = 0) := by
  have hop := h.side.opened
  rw [h.len] at hop
  unfold sealS
  cases o with
  | false => rw [hop, if_neg (by decide)]; exact ⟨h.side, fun i _ => ⟨rfl, rfl, Iff.rfl⟩⟩
  | true =>
    rw [hop, if_pos rfl]
    have hm := h.side.ho rfl
    have hu := h.side.used (m - 1) (by omega)
    rw [h.len] at hu
    have hc := h.side.change (x := { at' L.segs ((s + (m - 1)) % n) with st := 2 }) (o' := false) (by rw [h.len]; rfl) (by simp) ⟨hu.2.1, hu.2.2.1⟩
    rw [h.len] at hc
    refine ⟨hc, fun i hi => ?_⟩
    rw [at_set (by rw [h.len]; exact h.last)]
    by_cases e : i = (s + (m - 1)) % n
    · rw [if_pos e, e]
      refine ⟨rfl, rfl, ?_⟩
      have := hu.1
      simp only [show m - 1 + 1 = m by omega, and_self, if_true] at this
      rw [this]
      simp
    · rw [if_neg e]; exact ⟨rfl, rfl, Iff.rfl⟩
theorem Good.lastGen (h : Good n sec k L s m o C) : lastGen (sealS L.segs) ≤ L.x.gen := by
  have hs := h.sealed
  rw [hs.1.lastGen_eq, sealS_len, h.len]
  split
  · omega
  · rename_i hm
    have hl := h.last
    have e := hs.2 _ hl
    have hu := h.side.used (m - 1) (by omega)
    rw [h.len] at hu
    have := h.segm _ hl (by rw [hu.1]; split <;> decide)
    unfold Ring.gen at this ⊢
    rw [e.1]
    exact this.2.1
theorem Good.fit (h : Good n sec k L s m o C) (hk : k ≤ 1000000000) : L.fit where
  chk := by rw [h.xsec]; exact h.side.check
  chk2 := by rw [h.xsec]; exact h.sealed.1.check
  len := by rw [h.len, h.xseg]
  may := h.may
  fits := h.fits
  gen := by have := h.gen; omega
  nop := by have := h.sealed.1.opened; rw [this]; rfl
  lst := h.lastGen
  tok := by have := h.tok; omega
  pend := by
    have h1 := h.pend
    split at h1
    · rename_i ho
      have hu := h.side.used (m - 1) (by have := h.side.ho ho; omega)
      rw [h.len] at hu
      have := h.bd
      omega
    · omega
theorem setF_calm {D : Dk} (hc : D.calm) (hl : D.safe.length = 1026) (x : Sp) (t : Nat) : setF D x t = ((D.put ((t + 1) % 2) (supB x (t + 1))).settle fun _ => true, 0) := by
  have h1 := hc.write (i := (t + 1) % 2) (by omega) (supB x (t + 1))
  unfold setF
  rw [h1, if_neg (by simp), (hc.put _ _).sync (by rw [Dk.put_len]; omega)]
theorem settle_len (D : Dk) (f : Nat → Bool) : (D.settle f).safe.length = D.safe.length := stl_len _ _ _ _
theorem supB_calm {D : Dk} (hc : D.calm) (ho : D.ok) (hl : D.safe.length = 1026) (hp : D.pend.length < 1000000) (x : Sp) (t : Nat) : ∃ D1, setF D x t = (D1, 0) ∧ D1.calm ∧ D1.ok ∧ D1.safe.length = 1026 ∧ D1.pend = [] ∧ (∀ q, D1.at q = if q = (t + 1) % 2 then supB x (t + 1) else D.at q) := by
  have hok := Dk.put_ok ho (i := (t + 1) % 2) (by omega) (supB_len x (t + 1)) hp
  refine ⟨_, setF_calm hc hl x t, (hc.put _ _).settle _, Dk.settle_ok hok _, by rw [settle_len, Dk.put_len]; exact hl, rfl, fun q => ?_⟩
  rw [Dk.settle_at hok, Dk.put_at]
/-- The next segment is opened, if there is one. -/
theorem Good.open (h : Good n sec k L s m o C) (hk : k ≤ 1000000000) : (m = n ∧ L.open = (L, 6)) ∨ (m < n ∧ ∃ D1, L.open = (⟨L.up, L.t + 1, D1, (sealS L.segs).set (nextAt n s m) ⟨1, L.x.gen + 1, 1⟩, false⟩, 0) ∧ (∀ q, 2 ≤ q → q ≠ 2 + nextAt n s m * sec → D1.at q = L.D.at q) ∧ Good n sec (k + 1) ⟨L.up, L.t + 1, D1, (sealS L.segs).set (nextAt n s m) ⟨1, L.x.gen + 1, 1⟩, false⟩ (startAt s m) (m + 1) true (fun a => if a = nextAt n s m then [] else C a)) := by
  have hs := h.sealed
  have hnx := hs.1.next
  rw [sealS_len, h.len] at hnx
  have hb := h.bd
  by_cases hmn : m = n
  · rw [if_pos hmn] at hnx
    refine .inl ⟨hmn, ?_⟩
    unfold Lg.open
    rw [hnx]
  · rw [if_neg hmn] at hnx
    have hm' : m < n := by have := h.hm; omega
    refine .inr ⟨hm', ?_⟩
    have hni : nextAt n s m < n := by unfold nextAt; split; omega; exact Nat.mod_lt _ (by omega)
    obtain ⟨D1, e1, c1, o1, l1, p1, a1⟩ := supB_calm h.calm h.ok h.dlen (by have := (h.fit hk).pend; omega) L.up L.t
    have hin := h.inn hni (j := 0) (by omega)
    generalize hi : nextAt n s m = i at *
    have hw := c1.write (i := 2 + i * sec) (by omega) (headS (L.x.gen + 1) i)
    have hw' : D1.write (2 + (i : Int) * L.x.sec) (headS (L.x.gen + 1) i) = (D1.put (2 + i * sec) (headS (L.x.gen + 1) i), 0) := by
      rw [h.xsec, show (2 + (i : Int) * (sec : Int)) = ((2 + i * sec : Nat) : Int) by simp]
      exact hw
    have hok2 := Dk.put_ok o1 (i := 2 + i * sec) (by omega) (headS_len (L.x.gen + 1) i) (by rw [p1]; simp)
    have hy := (c1.put (2 + i * sec) (headS (L.x.gen + 1) i)).sync (by rw [Dk.put_len]; omega)
    have ha2 : ∀ q, (((D1.put (2 + i * sec) (headS (L.x.gen + 1) i)).settle fun _ => true)).at q = if q = 2 + i * sec then headS (L.x.gen + 1) i else if q = (L.t + 1) % 2 then supB L.up (L.t + 1) else L.D.at q := fun q => by
      rw [Dk.settle_at hok2, Dk.put_at, a1]
    have hfar : ∀ q, 2 ≤ q → q ≠ 2 + i * sec → (((D1.put (2 + i * sec) (headS (L.x.gen + 1) i)).settle fun _ => true)).at q = L.D.at q := fun q h1 h2 => by
      rw [ha2, if_neg h2, if_neg (by omega)]
    refine ⟨(D1.put (2 + i * sec) (headS (L.x.gen + 1) i)).settle fun _ => true, ?_, hfar, ?_⟩
    · unfold Lg.open
      rw [hnx]
      dsimp only
      rw [e1, if_neg (by simp), hw', if_neg (by simp), hy, if_neg (by simp), h.br]
    · have hsd := hs.1.open (g := L.x.gen + 1) (by rw [sealS_len, h.len]; exact hm') (by have := h.lastGen; omega)
      rw [sealS_len, h.len, hi] at hsd
      have hsl : (sealS L.segs).length = n := by rw [sealS_len, h.len]
      refine { side := hsd, xseg := h.xseg, xsec := h.xsec, len := by rw [List.length_set, hsl], may := ?_, fits := ?_, br := rfl, calm := (c1.put _ _).settle _, ok := Dk.settle_ok hok2 _, dlen := by rw [settle_len, Dk.put_len]; exact l1, pend := ?_, tok := by have := h.tok; show L.t + 1 ≤ k + 1; omega, gen := by have := h.gen; show L.x.gen + 1 ≤ k + 1; omega, segm := ?_, fresh := ?_, ret := ?_ }
      · have := of_decide_eq_true h.may
        unfold Sp.may Lg.up
        rw [decide_eq_true_eq]
        dsimp only
        omega
      · have := h.fits
        have := h.gen
        unfold Sp.fits Lg.up at *
        dsimp only
        omega
      · show ((0 : Nat) : Int) ≤ _
        have hu := hsd.used (m + 1 - 1) (by omega)
        rw [List.length_set, hsl] at hu
        rw [if_pos rfl]
        exact Int.le_trans (by decide) hu.2.1
      · intro a ha hst
        show 1 ≤ Ring.gen (List.set _ _ _) a ∧ Ring.gen (List.set _ _ _) a ≤ L.x.gen + 1 ∧ (at' (List.set _ _ _) a).used = _ ∧ _
        have hst' : (at' ((sealS L.segs).set i ⟨1, L.x.gen + 1, 1⟩) a).st ≠ 0 := hst
        rw [at_set (by omega)] at hst' ⊢
        rw [gen_set (by omega)]
        by_cases e : a = i
        · subst e
          simp only [if_true]
          refine ⟨by omega, Nat.le_refl _, rfl, ?_, by simp, trivial, by show 1 + 0 ≤ sec; omega, fun j h1 h2 z hz => ?_⟩
          · rw [ha2, if_pos rfl]
          · have h1' : 1 ≤ j := h1
            rw [hfar _ (by omega) (by omega)] at hz
            have := h.fresh a ha j h1' h2 z hz
            omega
        · simp only [if_neg e] at hst' ⊢
          have hsa := hs.2 a ha
          have hga := h.segm a ha (fun h0 => hst' (hsa.2.2.2 h0))
          have hge : Ring.gen (sealS L.segs) a = Ring.gen L.segs a := hsa.1
          rw [hge]
          refine ⟨hga.1, by have := hga.2.1; omega, by rw [hsa.2.1]; exact hga.2.2.1, hga.2.2.2.frame fun j hj => ?_⟩
          exact hfar _ (by omega) (by have := apart (sec := sec) e hj (k := 0) (by omega); omega)
      · intro a ha j h1 h2 z hz
        show z.1 ≤ L.x.gen + 1
        have hz' := hz
        rw [hfar _ (by omega) (by
          by_cases e : a = i
          · subst e; omega
          · have := apart (sec := sec) e h2 (k := 0) (by omega); omega)] at hz'
        have := h.fresh a ha j h1 h2 z hz'
        omega
      · intro a ha hst
        show L.x.ret ≤ Ring.gen (List.set _ _ _) a
        have hst' : (at' ((sealS L.segs).set i ⟨1, L.x.gen + 1, 1⟩) a).st ≠ 0 := hst
        rw [at_set (by omega)] at hst'
        rw [gen_set (by omega)]
        by_cases e : a = i
        · rw [if_pos e]
          have := of_decide_eq_true h.may
          show _ ≤ L.x.gen + 1
          omega
        · rw [if_neg e] at hst' ⊢
          have hsa := hs.2 a ha
          have hge : Ring.gen (sealS L.segs) a = Ring.gen L.segs a := hsa.1
          rw [hge]
          exact h.ret a ha (fun h0 => hst' (hsa.2.2.2 h0))
end
end Go.Lg
end
