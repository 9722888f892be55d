/- The log: open. Conditions: the ring is right, what is known fits. -/
import Derived.Test.YtjmocjcjiiopnaaGreatLogScans24

section
set_option linter.unusedVariables false
set_option linter.unusedSimpArgs false
namespace Go.Lg
open Go.Ring Go.Dsk Go.Oct Go.Proofs.YtjmocjcjiiopnaaGreat
/-- The ring with its open segment sealed. -/
def sealS (l : List Seg) : List Seg := match openedP l with
  | none => l
  | some i => l.set i { at' l i with st := 2 }
/-- What fits. -/
structure Lg.fit (L : Lg) : Prop where
  chk : checkB L.x.sec L.segs = true
  chk2 : checkB L.x.sec (sealS L.segs) = true
  len : (L.segs.length : Int) = L.x.seg
  may : L.x.may = true
  fits : L.x.fits
  gen : L.x.gen < 18446744073709551610
  nop : openedP (sealS L.segs) = none
  lst : lastGen (sealS L.segs) ≤ L.x.gen
  tok : L.t < 18446744073709551610
  pend : L.D.pend.length < 999900
def Lg.up (L : Lg) : Sp := { L.x with gen := L.x.gen + 1 }
/-- What opening the next segment leaves. -/
def Lg.open (L : Lg) : Lg × Nat := match nextP (sealS L.segs) with
  | none => (L, 6)
  | some i =>
    if (setF L.D L.up L.t).2 ≠ 0 then ({ L with D := (setF L.D L.up L.t).1, br := true }, (setF L.D L.up L.t).2)
    else if ((setF L.D L.up L.t).1.write (2 + i * L.x.sec) (headS (L.x.gen + 1) i)).2 ≠ 0 then ({ L with x := L.up, t := L.t + 1, D := ((setF L.D L.up L.t).1.write (2 + i * L.x.sec) (headS (L.x.gen + 1) i)).1, br := true }, ((setF L.D L.up L.t).1.write (2 + i * L.x.sec) (headS (L.x.gen + 1) i)).2)
    else if ((setF L.D L.up L.t).1.write (2 + i * L.x.sec) (headS (L.x.gen + 1) i)).1.sync.2 ≠ 0 then ({ L with x := L.up, t := L.t + 1, D := ((setF L.D L.up L.t).1.write (2 + i * L.x.sec) (headS (L.x.gen + 1) i)).1.sync.1, br := true }, ((setF L.D L.up L.t).1.write (2 + i * L.x.sec) (headS (L.x.gen + 1) i)).1.sync.2)
    else ({ L with x := L.up, t := L.t + 1, D := ((setF L.D L.up L.t).1.write (2 + i * L.x.sec) (headS (L.x.gen + 1) i)).1.sync.1, segs := (sealS L.segs).set i ⟨1, L.x.gen + 1, 1⟩ }, 0)
theorem op_pend (D : Dk) (i : Int) (f : Dk → Dk) (k : Nat) (hf : ∀ D, (f D).pend.length ≤ D.pend.length + k) : (D.op i f).1.pend.length ≤ D.pend.length + k := by
  rcases D.op_cases i f with ⟨_, e⟩ | ⟨_, _, e⟩ | ⟨D2, _, h, e⟩ <;> rw [e]
  · rw [(D.ready_same i).2.1]; omega
  · rw [Dk.out_pend, (D.ready_same i).2.1]; omega
  · have := hf D2
    rw [(Dk.go_same h).2.1, (D.ready_same i).2.1] at this
    exact this
theorem sync_pend (D : Dk) : D.sync.1.pend.length ≤ D.pend.length := op_pend D 0 _ 0 (fun D => by simp [Dk.settle])
theorem setF_pend (D : Dk) (x : Sp) (t : Nat) : (setF D x t).1.pend.length ≤ D.pend.length + 1 := by
  unfold setF
  have h1 := D.write_pend (((t + 1) % 2 : Nat) : Int) (supB x (t + 1))
  split
  · exact h1
  · exact Nat.le_trans (sync_pend _) h1
end Go.Lg
namespace Go.Proofs.YtjmocjcjiiopnaaGreat
open Go.RowKit Go.Ice Go.Oct Go.Dsk Go.Ring Go.Lg
/-- What opening tells and leaves. -/
def opnQ (g s p : Nat) (r : Lg × Nat) (v : Value) (M : List Asn) : Prop := v = .int .i64 r.2 ∧ M = [logA g s p r.1]
theorem opnQ.mk {g s p : Nat} {r : Lg × Nat} {L : Lg} {e : Nat} (h : r = (L, e)) : opnQ g s p r (.int .i64 e) [logA g s p L] := by subst h; exact ⟨rfl, rfl⟩
theorem headS_len (g i : Nat) : (headS g i).length = 64 := packB_len _ _ _ (by rw [beB_len]; decide)
theorem sealS_len (l : List Seg) : (sealS l).length = l.length := by unfold sealS; split <;> simp
theorem openF_good {sec : Int} {l : List Seg} {g i : Nat} (h1 : checkB sec l = true) (h2 : openedP l = none) (h3 : lastGen l < g) (h4 : nextP l = some i) : openF sec l g = (0, some (l.set i ⟨1, g, 1⟩, i)) := by
  unfold openF
  rw [if_neg (by rw [h1]; decide), if_neg (by rw [h2]; simp), if_neg (by omega), h4]
/-- What Seal answers: the sealed ring if one was open. -/
theorem seal_cases {sec : Int} {l : List Seg} (h : checkB sec l = true) : (sealF sec l = (181, none) ∧ sealS l = l) ∨ (sealF sec l = (0, some (sealS l))) := by
  unfold sealF sealS
  rw [if_neg (by rw [h]; decide)]
  cases openedP l with
  | none => exact .inl ⟨rfl, rfl⟩
  | some i => exact .inr rfl
set_option maxHeartbeats 32000000 in
set_option maxRecDepth 100000 in
theorem lopen' (g s p : Nat) (L : Lg) (hfit : L.fit) : Meets Tryz.prog 54 #[.pointer (some ⟨g, 0, none⟩)] [logA g s p L] [] fun v M => opnQ g s p L.open v M := by
  intro w B H
  obtain ⟨a, c, H0⟩ := logA.open H
  have hup : L.up = ⟨L.x.seg, L.x.sec, L.x.gen + 1, L.x.ret, L.x.resv, L.x.flush⟩ := rfl
  have hop : L.open = match nextP (sealS L.segs) with
    | none => (L, 6)
    | some i =>
      if (setF L.D L.up L.t).2 ≠ 0 then ({ L with D := (setF L.D L.up L.t).1, br := true }, (setF L.D L.up L.t).2)
      else if ((setF L.D L.up L.t).1.write (2 + i * L.x.sec) (headS (L.x.gen + 1) i)).2 ≠ 0 then ({ L with x := L.up, t := L.t + 1, D := ((setF L.D L.up L.t).1.write (2 + i * L.x.sec) (headS (L.x.gen + 1) i)).1, br := true }, ((setF L.D L.up L.t).1.write (2 + i * L.x.sec) (headS (L.x.gen + 1) i)).2)
      else if ((setF L.D L.up L.t).1.write (2 + i * L.x.sec) (headS (L.x.gen + 1) i)).1.sync.2 ≠ 0 then ({ L with x := L.up, t := L.t + 1, D := ((setF L.D L.up L.t).1.write (2 + i * L.x.sec) (headS (L.x.gen + 1) i)).1.sync.1, br := true }, ((setF L.D L.up L.t).1.write (2 + i * L.x.sec) (headS (L.x.gen + 1) i)).1.sync.2)
      else ({ L with x := L.up, t := L.t + 1, D := ((setF L.D L.up L.t).1.write (2 + i * L.x.sec) (headS (L.x.gen + 1) i)).1.sync.1, segs := (sealS L.segs).set i ⟨1, L.x.gen + 1, 1⟩ }, 0) := rfl
  obtain ⟨r, hr⟩ : ∃ r, r = L.open := ⟨_, rfl⟩
  rw [← hr] at hop ⊢
  rw [hup] at hop
  clear hr hup
  obtain ⟨x, t, D, segs, br⟩ := L
  obtain ⟨chk, chk2, len, may, fits, hgen, nop, lst, tok, pend⟩ := hfit
  dsimp only at chk chk2 len may fits hgen nop lst tok pend hop
  obtain ⟨sg, sec, gen, ret, resv, flush⟩ := x
  dsimp only at chk chk2 len hgen lst hop
  have hmx := of_decide_eq_true may
  dsimp only at hmx
  have hfx : Sp.fits ⟨sg, sec, gen + 1, ret, resv, flush⟩ := ⟨by show gen + 1 ≤ _; omega, fits.2.1, fits.2.2.1, fits.2.2.2⟩
  have hmm : Sp.may ⟨sg, sec, gen + 1, ret, resv, flush⟩ = true := by
    unfold Sp.may
    rw [decide_eq_true_eq]
    dsimp only
    omega
  have HSET := sset s p D ⟨sg, sec, gen, ret, resv, flush⟩ ⟨sg, sec, gen + 1, ret, resv, flush⟩ t (by omega) hfx hmm (by omega) rfl rfl (by show gen ≤ gen + 1; omega) (Nat.le_refl _) (Nat.le_refl _) (Nat.le_refl _)
  have hpe := setF_pend D ⟨sg, sec, gen + 1, ret, resv, flush⟩ t
  generalize setF D ⟨sg, sec, gen + 1, ret, resv, flush⟩ t = r1 at *
  obtain ⟨D1, e1⟩ := r1
  dsimp only at hpe hop
  have HGET := sget s ⟨sg, sec, gen, ret, resv, flush⟩ t p
  have HBAS := fun i : Int => sbase s ⟨sg, sec, gen + 1, ret, resv, flush⟩ (t + 1) p i hmm
  have HDSK := sdisk s ⟨sg, sec, gen + 1, ret, resv, flush⟩ (t + 1) p
  have hsl := seal_cases chk
  have hgw : IntKind.u64.wrap ((gen : Int) + 1) = ((gen + 1 : Nat) : Int) := by rw [IntKind.wrap_u64]; omega
  have hlen16 : segs.length ≤ 16 := by omega
  have hsll := sealS_len segs
  have hglast : lastGen (sealS segs) < gen + 1 := by omega
  have hof := fun i => openF_good (i := i) chk2 nop hglast
  have hnl := fun i (h : nextP (sealS segs) = some i) => (Rg.next_lt h).1
  generalize hsl0 : sealS segs = sl at *
  clear hsl0
  unfold logL logC at H0
  dsimp only at H0
  have H00 := H0
  unfold stoC at H0
  dsimp only at H0
  clear H00
  have hsg : (sg : Int) = segs.length := len.symm
  clear fits may hfx lst nop hglast
  have HOP := Lib.hid hop
  have HOF := Lib.hid hof
  have HNL := Lib.hid hnl
  have HSL := Lib.hid hsl
  have HCHK := Lib.hid chk
  have HCHK2 := Lib.hid chk2
  have HMX := Lib.hid hmx
  have HPE := Lib.hid hpe
  have HMM := Lib.hid hmm
  have HLN := Lib.hid len
  have HSLL := Lib.hid hsll
  have HL16 := Lib.hid hlen16
  have HGEN := Lib.hid hgen
  have HPEND := Lib.hid pend
  have HTOK := Lib.hid tok
  clear hop hof hnl hsl chk chk2 hmx hpe hmm len hsll hlen16 hgen pend tok hsg
  have HSET := Lib.hid HSET
  have HGET := Lib.hid HGET
  have HBAS := Lib.hid HBAS
  have HDSK := Lib.hid HDSK
  obtain ⟨hc, hf⟩ := St.cells H0 0
  have H1 := H0.alloc [.int .i64 sec, .slice a segs.length c] 54
  obtain ⟨r3, hr3⟩ : ∃ r3, r3 = w.heap.size := ⟨_, rfl⟩
  rw [← hr3] at H1
  go_enter Tryz.func54, Tryz.ntmps54
  go_upto_region 2 with fail
  rw [← hr3]
  have HR3 := Lib.hid hr3
  clear hr3
  refine wp_world (fun W => St w B _ _ W) H1 ?_
  intro w1 H2
  clear H0 H1 H hc hf
  have HSE := Rg.seald w1 sec _ segs (segs_of H2 4 rfl)
  unfold Rg.ringV at HSE
  obtain ⟨hc, hf⟩ := St.cells H2 0
  go_wp2_with fail
  refine HSE.mono ?_
  rintro e w3 ⟨u, rfl, hou, hb⟩
  obtain ⟨a4, c4, rfl, _⟩ := own_form hou
  have H3 := St.newSegs H2 hb hou
  clear H2 HSE hb hou hc hf
  rcases HSL.out with ⟨hs1, hs2⟩ | hs1
  case' inl =>
    have e1 : Rg.secOf sec (sealF sec segs).2 = 0 := by rw [hs1]; rfl
    have e2 : Rg.segsOf (sealF sec segs).2 = [] := by rw [hs1]; rfl
    have e3 : (sealF sec segs).1 = 181 := by rw [hs1]
    rw [e1, e3]
    rw [e2] at H3 ⊢
    clear e1 e2 e3 hs1
    have H4 := H3.alloc [.int .i64 0, .slice a4 ([] : List Seg).length c4] 54
    obtain ⟨r4, hr4⟩ : ∃ r4, r4 = w3.heap.size := ⟨_, rfl⟩
    rw [← hr4] at H4
    have HS2 := Lib.hid hs2
    clear hs2
    go_upto_region 5 with fail
    rw [← hr4]
    clear hr4
    refine wp_world (fun W => ∃ (vv : Value) (lu : List Seg) (c5 : Int), Hid ((vv = (.slice a4 lu.length c4) ∧ sl = lu) ∨ (vv = (.slice a segs.length c) ∧ sl = segs)) ∧ St w B [segsA (.slice a4 lu.length c4) lu, blkA r4 [.int .i64 c5, (.slice a4 lu.length c4)] 54, blkA r3 [.int .i64 sec, vv] 54, blkA g [.pointer (some ⟨s, 0, none⟩), .int .i64 sec, (.slice a segs.length c), .bool br] 100, blkA s [.int .i64 sg, .int .i64 sec, .int .u64 gen, .int .u64 ret, .int .u64 resv, .int .u64 flush, .int .u64 t, .pointer (some ⟨p, 0, none⟩)] 102, dskA p D, segsA (.slice a segs.length c) segs] [] W) ⟨_, [], _, Lib.hid (.inr ⟨rfl, HS2.out⟩), St.swap H4⟩ ?_
  case' inr =>
    have e1 : Rg.secOf sec (sealF sec segs).2 = sec := by rw [hs1]; rfl
    have e2 : Rg.segsOf (sealF sec segs).2 = sl := by rw [hs1]; rfl
    have e3 : (sealF sec segs).1 = 0 := by rw [hs1]
    rw [e1, e3]
    rw [e2] at H3 ⊢
    clear e1 e2 e3 hs1
    have H4 := H3.alloc [.int .i64 sec, .slice a4 sl.length c4] 54
    obtain ⟨r4, hr4⟩ : ∃ r4, r4 = w3.heap.size := ⟨_, rfl⟩
    rw [← hr4] at H4
    go_upto_region 3 with fail
    rw [← hr4]
    clear hr4
    refine wp_world (fun W => St w B _ _ W) H4 ?_
    intro w4 H5
    clear H3 H4
    obtain ⟨hc, hf⟩ := St.cells H5 0
    obtain ⟨hc2, hf2⟩ := St.cells H5 2
    have H6 := (H5.set_ 2 0 (.int .i64 sec)).set_ 2 1 (.slice a4 sl.length c4)
    go_upto_region 5 with fail
    refine wp_world (fun W => ∃ (vv : Value) (lu : List Seg) (c5 : Int), Hid ((vv = (.slice a4 lu.length c4) ∧ sl = lu) ∨ (vv = (.slice a segs.length c) ∧ sl = segs)) ∧ St w B [segsA (.slice a4 lu.length c4) lu, blkA r4 [.int .i64 c5, (.slice a4 lu.length c4)] 54, blkA r3 [.int .i64 sec, vv] 54, blkA g [.pointer (some ⟨s, 0, none⟩), .int .i64 sec, (.slice a segs.length c), .bool br] 100, blkA s [.int .i64 sg, .int .i64 sec, .int .u64 gen, .int .u64 ret, .int .u64 resv, .int .u64 flush, .int .u64 t, .pointer (some ⟨p, 0, none⟩)] 102, dskA p D, segsA (.slice a segs.length c) segs] [] W) ⟨_, sl, _, Lib.hid (.inl ⟨rfl, rfl⟩), St.swap H6⟩ ?_
    clear H5 H6 hc hf hc2 hf2
  all_goals
    rintro w5 ⟨vv, lu, c5, HSEL, H5⟩
    have HNX := Rg.next w5 sec vv sl (by rcases HSEL.out with ⟨q1, q2⟩ | ⟨q1, q2⟩ <;> rw [q1, q2] <;> first | exact segs_of H5 6 rfl | exact segs_of H5 0 rfl)
    unfold Rg.ringV Rg.nextV at HNX
    rw [HCHK2.out, if_pos rfl] at HNX
    obtain ⟨hc, hf⟩ := St.cells H5 2
    go_wp2_with fail
    refine HNX.mono ?_
    rintro e w6 ⟨rfl, hb⟩
    have H6 := H5.below hb
    clear H5 HNX hb hc hf
    have hop := HOP.out
    cases hnx : nextP sl
    · rw [hnx] at hop
      have HQ := Lib.hid hop
      clear hop hnx
      go_wp2_with fail
      exact bodyPost_ret (results_tmp rfl _ _ _) rfl (Back.mk (opnQ.mk HQ.out) (logA.close (L := ⟨⟨sg, sec, gen, ret, resv, flush⟩, t, D, segs, br⟩) (St.pick H6 [3, 4, 5, 6])))
    · rename_i i
      rw [hnx] at hop
      dsimp only at hop
      have HOPP := Lib.hid hop
      have HNXX := Lib.hid hnx
      have hil : i < 16 := by have := HNL.out i hnx; have := HSLL.out; have := HL16.out; omega
      clear hop hnx
      obtain ⟨hc, hf⟩ := St.cells H6 3
      go_wp2_with fail
      refine (HGET.out.call (L := [_]) (M := [_, _, _, _, _, _]) (St.pick H6 [4, 0, 1, 2, 3, 5, 6]) (by simp)).mono ?_
      rintro e w7 ⟨_, L, rfl, ⟨rfl, rfl⟩, H7⟩
      clear H6 hc hf
      unfold supV supC
      dsimp only
      have H8 := H7.alloc [.int .i64 sg, .int .i64 sec, .int .u64 gen, .int .u64 ret, .int .u64 resv, .int .u64 flush] 51
      obtain ⟨xb, hxb⟩ : ∃ xb, xb = w7.heap.size := ⟨_, rfl⟩
      rw [← hxb] at H8
      go_upto_region 9 with fail
      rw [← hxb]
      clear hxb
      refine wp_world (fun W => St w B _ _ W) H8 ?_
      intro w8 H9
      clear H7 H8
      obtain ⟨hc, hf⟩ := St.cells H9 0
      have H10 := H9.set0 2 (.int .u64 (gen + 1 : Nat))
      go_upto_region 10 with fail
      refine wp_world (fun W => St w B _ _ W) (St.pick H10 [1, 6, 0, 2, 3, 4, 5, 7]) ?_
      clear H9 H10 hc hf
      intro w9 H10
      refine wp_region_gh (Θ := Unit) (fun _ => [(0, 44, (.pointer (some ⟨g, 0, none⟩))), (1, 45, (.pointer (some ⟨g, 0, none⟩))), (2, 46, (.pointer (some ⟨g, 0, none⟩))), (3, 47, (.pointer (some ⟨s, 0, none⟩))), (4, 48, (.agg #[.int .i64 sg, .int .i64 sec, .int .u64 (gen + 1 : Nat), .int .u64 ret, .int .u64 resv, .int .u64 flush])), (5, 49, (.int .i64 (e1 : Int))), (6, 9, (.int .i64 (e1 : Int)))]) (fun _ done WW => St w B (bif done 5 then [blkA s (if e1 = 0 then (stoC ⟨sg, sec, gen + 1, ret, resv, flush⟩ (t + 1) p) else (stoC ⟨sg, sec, gen, ret, resv, flush⟩ t p)) 102, dskA p D1, blkA xb [.int .i64 sg, .int .i64 sec, .int .u64 (gen + 1 : Nat), .int .u64 ret, .int .u64 resv, .int .u64 flush] 51, segsA (.slice a4 lu.length c4) lu, blkA r4 [.int .i64 c5, (.slice a4 lu.length c4)] 54, blkA r3 [.int .i64 sec, vv] 54, blkA g [.pointer (some ⟨s, 0, none⟩), .int .i64 sec, (.slice a segs.length c), .bool br] 100, segsA (.slice a segs.length c) segs] else ([blkA s (stoC ⟨sg, sec, gen, ret, resv, flush⟩ t p) 102, dskA p D, blkA xb [.int .i64 sg, .int .i64 sec, .int .u64 (gen + 1 : Nat), .int .u64 ret, .int .u64 resv, .int .u64 flush] 51, segsA (.slice a4 lu.length c4) lu, blkA r4 [.int .i64 c5, (.slice a4 lu.length c4)] 54, blkA r3 [.int .i64 sec, vv] 54, blkA g [.pointer (some ⟨s, 0, none⟩), .int .i64 sec, (.slice a segs.length c), .bool br] 100, segsA (.slice a segs.length c) segs])) [] WW) (by kernel_rfl) (hord_of2 (by kernel_rfl)) (fun _ => by kernel_rfl) (fun _ => by kernel_rfl) (fun _ => by kernel_rfl) ⟨(), H10.drew⟩ ?_ ?_
      · intro _ done zb WW j oq ho hd hdep hcl HA HJ
        have hj : j < 7 := (Array.getElem?_eq_some_iff.1 ho).1
        obtain rfl | rfl | rfl | rfl | rfl | rfl | rfl : j = 0 ∨ j = 1 ∨ j = 2 ∨ j = 3 ∨ j = 4 ∨ j = 5 ∨ j = 6 := by omega
        · exact valG (θ := _) (.pointer (some ⟨g, 0, none⟩)) ho (by cases ho; rfl) (by cases ho; simp [execOp, go_sem, HA.tm, lookT]) (by cases ho; exact fun d hd => by cases hd; simp) HJ
        · have p0 : done 0 = true := by cases ho; exact hdep ⟨0, .data⟩ (by simp) rfl
          exact valG (θ := _) (.pointer (some ⟨g, 0, none⟩)) ho (by cases ho; rfl) (by cases ho; simp [execOp, go_sem, HA.tm, lookT, p0]) (by cases ho; exact fun d hd => by cases hd; simp) HJ
        · have p1 : done 1 = true := by cases ho; exact hdep ⟨1, .data⟩ (by simp) rfl
          exact valG (θ := _) (.pointer (some ⟨g, 0, none⟩)) ho (by cases ho; rfl) (by cases ho; simp [execOp, go_sem, HA.tm, lookT, p1]) (by cases ho; exact fun d hd => by cases hd; simp) HJ
        · have p2 : done 2 = true := by cases ho; exact hdep ⟨2, .data⟩ (by simp) rfl
          have n5 : done 5 = false := by cases hx : done 5 with | false => rfl | true => have := hcl 5 _ rfl hx ⟨3, .data⟩ (by simp) rfl; rw [hd] at this; cases this
          have hcl_ : ∀ k, WW.cell? ⟨g, k, none⟩ = ([.pointer (some ⟨s, 0, none⟩), .int .i64 sec, (.slice a segs.length c), .bool br])[k]? := by
            have HQ := HJ
            simp only [n5, hd, cond_true, cond_false] at HQ <;> first | exact (St.cells HQ 0).1 | exact (St.cells HQ 1).1 | exact (St.cells HQ 2).1 | exact (St.cells HQ 3).1 | exact (St.cells HQ 4).1 | exact (St.cells HQ 5).1 | exact (St.cells HQ 6).1 | exact (St.cells HQ 7).1
          exact valG (θ := _) (.pointer (some ⟨s, 0, none⟩)) ho (by cases ho; rfl) (by cases ho; simp [execOp, go_sem, HA.tm, lookT, p2, hcl_]) (by cases ho; exact fun d hd => by cases hd; simp) HJ
        · have n5 : done 5 = false := by cases hx : done 5 with | false => rfl | true => have := hcl 5 _ rfl hx ⟨4, .data⟩ (by simp) rfl; rw [hd] at this; cases this
          have HRg : WW.rangeAt xb (0) ([.int .i64 sg, .int .i64 sec, .int .u64 (gen + 1 : Nat), .int .u64 ret, .int .u64 resv, .int .u64 flush]) := by
            have HQ := HJ
            simp only [n5, hd, cond_true, cond_false] at HQ <;> first | exact St.range HQ 2
          exact loadG (θ := _) (v := (.agg #[.int .i64 sg, .int .i64 sec, .int .u64 (gen + 1 : Nat), .int .u64 ret, .int .u64 resv, .int .u64 flush])) _ ((.tmp 8)) ho (by cases ho; rfl) (by cases ho; rfl) (by simp [HA.ev, HA.tm, lookT, Act.eval]) (bigSup.load (rfl) HRg) (by cases ho; exact fun d hd => by cases hd; simp) HJ
        · have p3 : done 3 = true := by cases ho; exact hdep ⟨3, .data⟩ (by simp) rfl
          have p4 : done 4 = true := by cases ho; exact hdep ⟨4, .data⟩ (by simp) rfl
          have HS : St w B [blkA s (stoC ⟨sg, sec, gen, ret, resv, flush⟩ t p) 102, dskA p D, blkA xb [.int .i64 sg, .int .i64 sec, .int .u64 (gen + 1 : Nat), .int .u64 ret, .int .u64 resv, .int .u64 flush] 51, segsA (.slice a4 lu.length c4) lu, blkA r4 [.int .i64 c5, (.slice a4 lu.length c4)] 54, blkA r3 [.int .i64 sec, vv] 54, blkA g [.pointer (some ⟨s, 0, none⟩), .int .i64 sec, (.slice a segs.length c), .bool br] 100, segsA (.slice a segs.length c) segs] [] WW := St.cast (by simp only [hd, cond_true, cond_false]) HJ
          exact callG (θ := _) (f := 69) (args := #[.pointer (some ⟨s, 0, none⟩), (.agg #[.int .i64 sg, .int .i64 sec, .int .u64 (gen + 1 : Nat), .int .u64 ret, .int .u64 resv, .int .u64 flush])]) ho (by cases ho; rfl) (by cases ho; simp [execOp, go_sem, HA.tm, lookT, p3, p4]) (HSET.out.call (L := [_, _]) HS (by simp)) (by
            rintro e w' ⟨_, _, rfl, ⟨rfl, rfl⟩, HS'⟩
            exact ⟨_, (), rfl, by cases ho; exact fun d hd => by cases hd; simp, (.inl rfl), (St.cast (by simp [] <;> rfl) HS')⟩)
        · have p5 : done 5 = true := by cases ho; exact hdep ⟨5, .data⟩ (by simp) rfl
          exact valG (θ := _) (.int .i64 (e1 : Int)) ho (by cases ho; rfl) (by cases ho; simp [execOp, go_sem, HA.tm, lookT, p5]) (by cases ho; exact fun d hd => by cases hd; simp) HJ
      · intro _ done WW hall HJ
        have z5 := hall 5 (by decide)
        have HE : St w B [blkA s (if e1 = 0 then (stoC ⟨sg, sec, gen + 1, ret, resv, flush⟩ (t + 1) p) else (stoC ⟨sg, sec, gen, ret, resv, flush⟩ t p)) 102, dskA p D1, blkA xb [.int .i64 sg, .int .i64 sec, .int .u64 (gen + 1 : Nat), .int .u64 ret, .int .u64 resv, .int .u64 flush] 51, segsA (.slice a4 lu.length c4) lu, blkA r4 [.int .i64 c5, (.slice a4 lu.length c4)] 54, blkA r3 [.int .i64 sec, vv] 54, blkA g [.pointer (some ⟨s, 0, none⟩), .int .i64 sec, (.slice a segs.length c), .bool br] 100, segsA (.slice a segs.length c) segs] [] WW := St.cast (by simp [z5]) HJ
        clear HJ hall z5
        simp only [putAll, Act.put, List.setIfInBounds_toArray, List.set_cons_succ, List.set_cons_zero]
        have HA := HE
        clear HE H10
        by_cases h1 : e1 = 0
        · subst h1
          rw [if_pos rfl] at HA
          have hop2 := HOPP.out
          rw [if_neg (show ¬ ((0 : Nat) ≠ 0) by decide)] at hop2
          clear HOPP HOP
          have hiseg : (i : Int) < sg := by have := HNL.out i HNXX.out; have := HSLL.out; have := HLN.out; omega
          have hbv : baseV ⟨sg, sec, gen + 1, ret, resv, flush⟩ (i : Int) = .tuple #[.int .i64 (2 + (i : Int) * sec), .int .i64 0] := if_pos ⟨by omega, hiseg⟩
          obtain ⟨bs, hbs⟩ : ∃ bs, bs = 2 + (i : Int) * sec := ⟨_, rfl⟩
          rw [← hbs] at hbv hop2
          clear hbs hiseg
          have HB0 := HBAS.out (i : Int)
          rw [hbv] at HB0
          clear hbv
          have HHD := header (gen + 1) i ⟨by omega, by have := HGEN.out; omega⟩ (by omega)
          obtain ⟨hd, hhd⟩ : ∃ hd, hd = headS (gen + 1) i := ⟨_, rfl⟩
          have hdl : hd.length = 64 := by rw [hhd]; exact headS_len _ _
          rw [← hhd] at HHD hop2
          clear hhd
          have HW := write p D1 bs hd hdl (by have := HPE.out; have := HPEND.out; omega)
          generalize D1.write bs hd = r2 at *
          obtain ⟨D2, e2⟩ := r2
          have HSY := sync p D2
          generalize D2.sync = r3' at *
          obtain ⟨D3, e3⟩ := r3'
          dsimp only at hop2 HW HSY
          obtain ⟨fb, hfb⟩ : ∃ fb, fb = hd.map u8v := ⟨_, rfl⟩
          have hfbl : fb.length = 64 := by rw [hfb, List.length_map, hdl]
          have hfb1 : ∀ u ∈ fb, u.oneCell' = true := by rw [hfb]; exact u8v_one _
          unfold blkV at HHD HW
          rw [← hfb] at HHD HW
          clear hfb hdl
          have HOP2 := Lib.hid hop2
          have HB0 := Lib.hid HB0
          have HHD := Lib.hid HHD
          have HW := Lib.hid HW
          have HSY := Lib.hid HSY
          clear hop2
          obtain ⟨hc, hf⟩ := St.cells HA 2
          go_wp2_with fail
          refine (HHD.out.call (L := []) HA (by simp)).mono ?_
          rintro e w11 ⟨_, L, rfl, ⟨rfl, rfl⟩, H11⟩
          clear HA hc hf
          simp only [List.nil_append] at H11
          obtain ⟨bb, hbb⟩ : ∃ bb, bb = w11.heap.size := ⟨_, rfl⟩
          have H12 := H11.whole zs64 38 fb (by rw [hfbl]; rfl)
          go_wp2_with ((refine wpl_store rfl _ _ _ rfl w11.heap.size 0 (by rfl) fb (by rfl) 64 hfbl (there_whole _ _ _ _ (by decide)) bigBlock hfb1 ?_); (refine wpl_world _ H12 ?_); intro w12 H13; (obtain ⟨hc, hf⟩ := St.cells H13 7))
          clear H11 H12
          rw [← hbb] at H13 ⊢
          have HBB := Lib.hid hbb
          clear hbb
          refine (HB0.out.call (L := [_]) (M := [_, _, _, _, _, _, _, _]) (St.pick H13 [1, 7, 2, 0, 3, 4, 5, 6, 8]) (by simp)).mono ?_
          rintro e w13 ⟨_, L, rfl, ⟨rfl, rfl⟩, H14⟩
          clear H13 hc hf
          go_upto_region 17 with fail
          refine wp_region_gh (Θ := Unit) (fun _ => [(0, 76, (.pointer (some ⟨g, 0, none⟩))), (1, 77, (.pointer (some ⟨g, 0, none⟩))), (2, 78, (.pointer (some ⟨g, 0, none⟩))), (3, 79, (.pointer (some ⟨s, 0, none⟩))), (4, 80, (.pointer (some ⟨p, 0, none⟩))), (5, 81, (.int .i64 bs)), (6, 82, (.agg fb.toArray)), (7, 83, (.int .i64 (e2 : Int))), (8, 13, (.int .i64 (e2 : Int)))]) (fun _ done WW => St w B (bif done 7 then [dskA p D2, blkA s (stoC ⟨sg, sec, gen + 1, ret, resv, flush⟩ (t + 1) p) 102, blkA g [.pointer (some ⟨s, 0, none⟩), .int .i64 sec, (.slice a segs.length c), .bool br] 100, blkA bb fb 38, blkA xb [.int .i64 sg, .int .i64 sec, .int .u64 (gen + 1 : Nat), .int .u64 ret, .int .u64 resv, .int .u64 flush] 51, segsA (.slice a4 lu.length c4) lu, blkA r4 [.int .i64 c5, (.slice a4 lu.length c4)] 54, blkA r3 [.int .i64 sec, vv] 54, segsA (.slice a segs.length c) segs] else (bif done 4 then [blkA s (stoC ⟨sg, sec, gen + 1, ret, resv, flush⟩ (t + 1) p) 102, blkA g [.pointer (some ⟨s, 0, none⟩), .int .i64 sec, (.slice a segs.length c), .bool br] 100, dskA p D1, blkA bb fb 38, blkA xb [.int .i64 sg, .int .i64 sec, .int .u64 (gen + 1 : Nat), .int .u64 ret, .int .u64 resv, .int .u64 flush] 51, segsA (.slice a4 lu.length c4) lu, blkA r4 [.int .i64 c5, (.slice a4 lu.length c4)] 54, blkA r3 [.int .i64 sec, vv] 54, segsA (.slice a segs.length c) segs] else ([blkA s (stoC ⟨sg, sec, gen + 1, ret, resv, flush⟩ (t + 1) p) 102, blkA g [.pointer (some ⟨s, 0, none⟩), .int .i64 sec, (.slice a segs.length c), .bool br] 100, dskA p D1, blkA bb fb 38, blkA xb [.int .i64 sg, .int .i64 sec, .int .u64 (gen + 1 : Nat), .int .u64 ret, .int .u64 resv, .int .u64 flush] 51, segsA (.slice a4 lu.length c4) lu, blkA r4 [.int .i64 c5, (.slice a4 lu.length c4)] 54, blkA r3 [.int .i64 sec, vv] 54, segsA (.slice a segs.length c) segs]))) [] WW) (by kernel_rfl) (hord_of2 (by kernel_rfl)) (fun _ => by kernel_rfl) (fun _ => by kernel_rfl) (fun _ => by kernel_rfl) ⟨(), H14.drew⟩ ?_ ?_
          · intro _ done zb WW j oq ho hd hdep hcl HA HJ
            have hj : j < 9 := (Array.getElem?_eq_some_iff.1 ho).1
            obtain rfl | rfl | rfl | rfl | rfl | rfl | rfl | rfl | rfl : j = 0 ∨ j = 1 ∨ j = 2 ∨ j = 3 ∨ j = 4 ∨ j = 5 ∨ j = 6 ∨ j = 7 ∨ j = 8 := by omega
            · exact valG (θ := _) (.pointer (some ⟨g, 0, none⟩)) ho (by cases ho; rfl) (by cases ho; simp [execOp, go_sem, HA.tm, lookT]) (by cases ho; exact fun d hd => by cases hd; simp) HJ
            · have p0 : done 0 = true := by cases ho; exact hdep ⟨0, .data⟩ (by simp) rfl
              exact valG (θ := _) (.pointer (some ⟨g, 0, none⟩)) ho (by cases ho; rfl) (by cases ho; simp [execOp, go_sem, HA.tm, lookT, p0]) (by cases ho; exact fun d hd => by cases hd; simp) HJ
            · have p1 : done 1 = true := by cases ho; exact hdep ⟨1, .data⟩ (by simp) rfl
              exact valG (θ := _) (.pointer (some ⟨g, 0, none⟩)) ho (by cases ho; rfl) (by cases ho; simp [execOp, go_sem, HA.tm, lookT, p1]) (by cases ho; exact fun d hd => by cases hd; simp) HJ
            · have p2 : done 2 = true := by cases ho; exact hdep ⟨2, .data⟩ (by simp) rfl
              have n4 : done 4 = false := by cases hx : done 4 with | false => rfl | true => have := hcl 4 _ rfl hx ⟨3, .data⟩ (by simp) rfl; rw [hd] at this; cases this
              have n7 : done 7 = false := by cases hx : done 7 with | false => rfl | true => have := hcl 7 _ rfl hx ⟨4, .data⟩ (by simp) rfl; rw [n4] at this; cases this
              have hcl_ : ∀ k, WW.cell? ⟨g, k, none⟩ = ([.pointer (some ⟨s, 0, none⟩), .int .i64 sec, (.slice a segs.length c), .bool br])[k]? := by
                have HQ := HJ
                simp only [n4, n7, hd, cond_true, cond_false] at HQ <;> first | exact (St.cells HQ 0).1 | exact (St.cells HQ 1).1 | exact (St.cells HQ 2).1 | exact (St.cells HQ 3).1 | exact (St.cells HQ 4).1 | exact (St.cells HQ 5).1 | exact (St.cells HQ 6).1 | exact (St.cells HQ 7).1
              exact valG (θ := _) (.pointer (some ⟨s, 0, none⟩)) ho (by cases ho; rfl) (by cases ho; simp [execOp, go_sem, HA.tm, lookT, p2, hcl_]) (by cases ho; exact fun d hd => by cases hd; simp) HJ
            · have p3 : done 3 = true := by cases ho; exact hdep ⟨3, .data⟩ (by simp) rfl
              have n7 : done 7 = false := by cases hx : done 7 with | false => rfl | true => have := hcl 7 _ rfl hx ⟨4, .data⟩ (by simp) rfl; rw [hd] at this; cases this
              have HS : St w B [blkA s (stoC ⟨sg, sec, gen + 1, ret, resv, flush⟩ (t + 1) p) 102, blkA g [.pointer (some ⟨s, 0, none⟩), .int .i64 sec, (.slice a segs.length c), .bool br] 100, dskA p D1, blkA bb fb 38, blkA xb [.int .i64 sg, .int .i64 sec, .int .u64 (gen + 1 : Nat), .int .u64 ret, .int .u64 resv, .int .u64 flush] 51, segsA (.slice a4 lu.length c4) lu, blkA r4 [.int .i64 c5, (.slice a4 lu.length c4)] 54, blkA r3 [.int .i64 sec, vv] 54, segsA (.slice a segs.length c) segs] [] WW := St.cast (by simp only [n7, hd, cond_true, cond_false]) HJ
              exact callG (θ := _) (f := 41) (args := #[.pointer (some ⟨s, 0, none⟩)]) ho (by cases ho; rfl) (by cases ho; simp [execOp, go_sem, HA.tm, lookT, p3]) (HDSK.out.call (L := [_]) HS (by simp)) (by
                rintro e w' ⟨_, _, rfl, ⟨rfl, rfl⟩, HS'⟩
                exact ⟨_, (), rfl, by cases ho; exact fun d hd => by cases hd; simp, (.inl rfl), (St.cast (by simp [n7, n7] <;> rfl) HS')⟩)
            · exact valG (θ := _) (.int .i64 bs) ho (by cases ho; rfl) (by cases ho; simp [execOp, go_sem, HA.tm, lookT]) (by cases ho; exact fun d hd => by cases hd; simp) HJ
            · have n7 : done 7 = false := by cases hx : done 7 with | false => rfl | true => have := hcl 7 _ rfl hx ⟨6, .data⟩ (by simp) rfl; rw [hd] at this; cases this
              have HRg : WW.rangeAt bb (0) (fb) := by
                have HQ := HJ
                cases g4 : done 4 <;> simp only [n7, g4, hd, cond_true, cond_false] at HQ <;> first | exact St.range HQ 3
              exact loadG (θ := _) (v := (.agg fb.toArray)) _ ((.tmp 10)) ho (by cases ho; rfl) (by cases ho; rfl) (by simp [HA.ev, HA.tm, lookT, Act.eval]) (bigBlock.load (hfbl) HRg) (by cases ho; exact fun d hd => by cases hd; simp) HJ
            · have p4 : done 4 = true := by cases ho; exact hdep ⟨4, .data⟩ (by simp) rfl
              have p5 : done 5 = true := by cases ho; exact hdep ⟨5, .data⟩ (by simp) rfl
              have p6 : done 6 = true := by cases ho; exact hdep ⟨6, .data⟩ (by simp) rfl
              have HS : St w B [blkA s (stoC ⟨sg, sec, gen + 1, ret, resv, flush⟩ (t + 1) p) 102, blkA g [.pointer (some ⟨s, 0, none⟩), .int .i64 sec, (.slice a segs.length c), .bool br] 100, dskA p D1, blkA bb fb 38, blkA xb [.int .i64 sg, .int .i64 sec, .int .u64 (gen + 1 : Nat), .int .u64 ret, .int .u64 resv, .int .u64 flush] 51, segsA (.slice a4 lu.length c4) lu, blkA r4 [.int .i64 c5, (.slice a4 lu.length c4)] 54, blkA r3 [.int .i64 sec, vv] 54, segsA (.slice a segs.length c) segs] [] WW := St.cast (by simp only [p4, hd, cond_true, cond_false]) HJ
              exact callG (θ := _) (f := 11) (args := #[.pointer (some ⟨p, 0, none⟩), .int .i64 bs, .agg fb.toArray]) ho (by cases ho; rfl) (by cases ho; simp [execOp, go_sem, HA.tm, lookT, p4, p5, p6]) (HW.out.call (L := [_]) (M := [_, _, _, _, _, _, _, _]) (St.pick HS [2, 0, 1, 3, 4, 5, 6, 7, 8]) (by simp)) (by
                rintro e w' ⟨_, _, rfl, ⟨rfl, rfl⟩, HS'⟩
                exact ⟨_, (), rfl, by cases ho; exact fun d hd => by cases hd; simp, (.inl rfl), (St.cast (by simp [p4] <;> rfl) HS')⟩)
            · have p7 : done 7 = true := by cases ho; exact hdep ⟨7, .data⟩ (by simp) rfl
              exact valG (θ := _) (.int .i64 (e2 : Int)) ho (by cases ho; rfl) (by cases ho; simp [execOp, go_sem, HA.tm, lookT, p7]) (by cases ho; exact fun d hd => by cases hd; simp) HJ
          · intro _ done WW hall HJ
            have z4 := hall 4 (by decide)
            have z7 := hall 7 (by decide)
            have HE : St w B [dskA p D2, blkA s (stoC ⟨sg, sec, gen + 1, ret, resv, flush⟩ (t + 1) p) 102, blkA g [.pointer (some ⟨s, 0, none⟩), .int .i64 sec, (.slice a segs.length c), .bool br] 100, blkA bb fb 38, blkA xb [.int .i64 sg, .int .i64 sec, .int .u64 (gen + 1 : Nat), .int .u64 ret, .int .u64 resv, .int .u64 flush] 51, segsA (.slice a4 lu.length c4) lu, blkA r4 [.int .i64 c5, (.slice a4 lu.length c4)] 54, blkA r3 [.int .i64 sec, vv] 54, segsA (.slice a segs.length c) segs] [] WW := St.cast (by simp [z4, z7]) HJ
            clear HJ hall z4 z7
            simp only [putAll, Act.put, List.setIfInBounds_toArray, List.set_cons_succ, List.set_cons_zero]
            have H15 := HE
            clear HE H14
            by_cases h2 : e2 = 0
            · subst h2
              have hop3 := HOP2.out
              rw [if_neg (show ¬ ((0 : Nat) ≠ 0) by decide)] at hop3
              have HOP3 := Lib.hid hop3
              clear hop3 HOP2
              obtain ⟨hc, hf⟩ := St.cells H15 2
              go_wp2_with fail
              refine (HDSK.out.call (L := [_]) (M := [_, _, _, _, _, _, _, _]) (St.pick H15 [1, 0, 2, 3, 4, 5, 6, 7, 8]) (by simp)).mono ?_
              rintro e w15 ⟨_, L, rfl, ⟨rfl, rfl⟩, H16⟩
              go_wp2_with fail
              refine (HSY.out.call (L := [_]) (M := [_, _, _, _, _, _, _, _]) (St.pick H16 [1, 0, 2, 3, 4, 5, 6, 7, 8]) (by simp)).mono ?_
              rintro e w16 ⟨_, L, rfl, ⟨rfl, rfl⟩, H17⟩
              clear H15 H16 hc hf
              by_cases h3 : e3 = 0
              · subst h3
                have hop4 := HOP3.out
                rw [if_neg (show ¬ ((0 : Nat) ≠ 0) by decide)] at hop4
                have HQ := Lib.hid hop4
                clear hop4 HOP3
                have HOO := Rg.openg w16 sec vv sl (gen + 1) (by rcases HSEL.out with ⟨q1, q2⟩ | ⟨q1, q2⟩ <;> rw [q1, q2] <;> first | exact segs_of H17 5 rfl | exact segs_of H17 8 rfl)
                rw [HOF.out i HNXX.out] at HOO
                unfold Rg.ringV at HOO
                obtain ⟨hc, hf⟩ := St.cells H17 7
                obtain ⟨hc2, hf2⟩ := St.cells H17 4
                go_wp2_with fail
                refine HOO.mono ?_
                rintro e w17 ⟨u5, rfl, hou, hb⟩
                have hou2 : Rg.OwnSegs w17 w16.heap.size u5 (sl.set i ⟨1, gen + 1, 1⟩) := hou
                obtain ⟨a5, c5', rfl, _⟩ := own_form hou2
                have H18 := St.newSegs H17 hb hou2
                clear H17 HOO hb hou hou2 hc hf hc2 hf2
                have es : Rg.secOf sec (Option.map (fun x => x.1) (0, some (sl.set i (⟨1, gen + 1, 1⟩ : Seg), i)).2) = sec := rfl
                have ei : Rg.idxOf (0, some (sl.set i (⟨1, gen + 1, 1⟩ : Seg), i)).2 = (i : Int) := rfl
                rw [es, ei]
                clear es ei
                have hlen : (sl.set i (⟨1, gen + 1, 1⟩ : Seg)).length = sl.length := List.length_set
                generalize hnl : sl.set i (⟨1, gen + 1, 1⟩ : Seg) = nl at *
                have HNL2 := Lib.hid hnl
                clear hnl hlen
                obtain ⟨hc, hf⟩ := St.cells H18 8
                have H19 := (H18.set_ 8 0 (.int .i64 sec)).set_ 8 1 (.slice a5 nl.length c5')
                go_upto_region 24 with fail
                refine wp_world (fun W => St w B _ _ W) H19 ?_
                clear H18 H19 hc hf
                intro w18 H20
                obtain ⟨hc, hf⟩ := St.cells H20 8
                obtain ⟨hc2, hf2⟩ := St.cells H20 3
                have H21 := (H20.set_ 3 1 (.int .i64 sec)).set_ 3 2 (.slice a5 nl.length c5')
                go_wp2_with fail
                exact bodyPost_ret (results_tmp rfl _ _ _) rfl (Back.mk (opnQ.mk HQ.out) (logA.close (L := ⟨⟨sg, sec, gen + 1, ret, resv, flush⟩, t + 1, D3, nl, br⟩) (St.pick H21 [3, 2, 1, 0])))
              · have hne : ((e3 : Int) != 0) = true := by simp; omega
                have hop4 := HOP3.out
                rw [if_pos h3] at hop4
                have HQ := Lib.hid hop4
                have HF := failsE g (.pointer (some ⟨s, 0, none⟩)) (.int .i64 sec) (.slice a segs.length c) br e3 h3
                clear h3 hop4 HOP3
                go_wp2_with fail
                refine (HF.call (L := [_]) (M := [_, _, _]) (St.pick H17 [2, 1, 0, 8]) (by simp)).mono ?_
                rintro e w17 ⟨_, L, rfl, ⟨rfl, rfl⟩, H18⟩
                go_wp2_with fail
                exact bodyPost_ret (results_tmp rfl _ _ _) rfl (Back.mk (opnQ.mk HQ.out) (logA.close (L := ⟨⟨sg, sec, gen + 1, ret, resv, flush⟩, t + 1, D3, segs, true⟩) H18))
            · have hne : ((e2 : Int) != 0) = true := by simp; omega
              have hop3 := HOP2.out
              rw [if_pos h2] at hop3
              have HQ := Lib.hid hop3
              have HF := failsE g (.pointer (some ⟨s, 0, none⟩)) (.int .i64 sec) (.slice a segs.length c) br e2 h2
              clear h2 hop3 HOP2
              go_wp2_with fail
              refine (HF.call (L := [_]) (M := [_, _, _]) (St.pick H15 [2, 1, 0, 8]) (by simp)).mono ?_
              rintro e w15 ⟨_, L, rfl, ⟨rfl, rfl⟩, H16⟩
              go_wp2_with fail
              exact bodyPost_ret (results_tmp rfl _ _ _) rfl (Back.mk (opnQ.mk HQ.out) (logA.close (L := ⟨⟨sg, sec, gen + 1, ret, resv, flush⟩, t + 1, D2, segs, true⟩) H16))
        · have hne : ((e1 : Int) != 0) = true := by simp; omega
          rw [if_neg h1] at HA
          have hop2 := HOPP.out
          rw [if_pos h1] at hop2
          have HQ := Lib.hid hop2
          have HF := failsE g (.pointer (some ⟨s, 0, none⟩)) (.int .i64 sec) (.slice a segs.length c) br e1 h1
          clear h1 hop2 HOPP
          go_wp2_with fail
          refine (HF.call (L := [_]) (M := [_, _, _]) (St.pick HA [6, 0, 1, 7]) (by simp)).mono ?_
          rintro e w11 ⟨_, L, rfl, ⟨rfl, rfl⟩, H11⟩
          go_wp2_with fail
          exact bodyPost_ret (results_tmp rfl _ _ _) rfl (Back.mk (opnQ.mk HQ.out) (logA.close (L := ⟨⟨sg, sec, gen, ret, resv, flush⟩, t, D1, segs, true⟩) H11))
end Go.Proofs.YtjmocjcjiiopnaaGreat
end
