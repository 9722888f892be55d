/- The log: Append. Conditions: the ring is right, what is known fits; behind an opening there is room. -/
import Derived.Test.YtjmocjcjiiopnaaGreatLogScans25
import Derived.Test.YtjmocjcjiiopnaaGreatLogScans11

section
set_option linter.unusedVariables false
set_option linter.unusedSimpArgs false
namespace Go.Lg
open Go.Ring Go.Dsk Go.Oct Go.Proofs.YtjmocjcjiiopnaaGreat
/-- Sectors written one behind the other. -/
def writesF : Dk → Int → List (List UInt8) → Dk × Nat
  | D, _, [] => (D, 0)
  | D, k, b :: l => if (D.write k b).2 ≠ 0 then D.write k b else writesF (D.write k b).1 (k + 1) l
theorem writesF_ok {D D2 : Dk} {k : Int} {b : List UInt8} {l : List (List UInt8)} (h : D.write k b = (D2, 0)) : writesF D k (b :: l) = writesF D2 (k + 1) l := by rw [writesF, h]; simp
theorem writesF_bad {D D2 : Dk} {k : Int} {b : List UInt8} {l : List (List UInt8)} {e : Nat} (h : D.write k b = (D2, e)) (he : e ≠ 0) : writesF D k (b :: l) = (D2, e) := by rw [writesF, h]; simp [he]
/-- What must be of a log for something to be put behind. -/
structure PutOk (L : Lg) (n : Nat) : Prop where
  chk : checkB L.x.sec L.segs = true
  len : (L.segs.length : Int) = L.x.seg
  may : L.x.may = true
  op : ∃ i, openedP L.segs = some i ∧ i < L.segs.length ∧ 1 ≤ (at' L.segs i).gen ∧ (at' L.segs i).gen ≤ 18446744073709551615
  room : (n : Int) ≤ leftP L.x.sec L.segs
  pend : L.D.pend.length < 999000
/-- A segment that is open and has room. -/
def Lg.ready (L : Lg) (n : Nat) : Lg × Nat := match openedP L.segs with
  | none => L.open
  | some _ => if leftP L.x.sec L.segs < n then L.open else (L, 0)
/-- Bytes are put behind. -/
def Lg.put (L : Lg) (b : List UInt8) : Lg × Nat × (Nat × Nat × Int) := match openedP L.segs with
  | none => (L, 0, (0, 0, 0))
  | some i =>
    if (writesF L.D (2 + i * L.x.sec + (at' L.segs i).used) (splitB (at' L.segs i).gen (at' L.segs i).used.toNat b)).2 ≠ 0 then ({ L with D := (writesF L.D (2 + i * L.x.sec + (at' L.segs i).used) (splitB (at' L.segs i).gen (at' L.segs i).used.toNat b)).1, br := true }, (writesF L.D (2 + i * L.x.sec + (at' L.segs i).used) (splitB (at' L.segs i).gen (at' L.segs i).used.toNat b)).2, (0, 0, 0))
    else ({ L with D := (writesF L.D (2 + i * L.x.sec + (at' L.segs i).used) (splitB (at' L.segs i).gen (at' L.segs i).used.toNat b)).1, segs := L.segs.set i { at' L.segs i with used := (at' L.segs i).used + secs b.length } }, 0, (i, (at' L.segs i).gen, (at' L.segs i).used))
/-- A record is appended. -/
def Lg.append (L : Lg) (rc : Rc) (key val : List UInt8) : Lg × Nat × (Nat × Nat × Int) :=
  if rc.right key.length val.length = false then (L, 160, (0, 0, 0)) else if L.br = true then (L, 8, (0, 0, 0))
  else if (L.ready (secs (encB rc key val).length)).2 ≠ 0 then ((L.ready (secs (encB rc key val).length)).1, (L.ready (secs (encB rc key val).length)).2, (0, 0, 0))
  else (L.ready (secs (encB rc key val).length)).1.put (encB rc key val)
end Go.Lg
namespace Go.Proofs.YtjmocjcjiiopnaaGreat
open Go.RowKit Go.Ice Go.Oct Go.Dsk Go.Ring Go.Lg
theorem bigAddr : Big Tryz.prog 64 3 := ⟨⟨_, Tryz.underlying64, rfl⟩, by kernel_rfl⟩
def addrC (a : Nat × Nat × Int) : List Value := [.int .i64 a.1, .int .u64 a.2.1, .int .i64 a.2.2]
/-- What appending tells and leaves. -/
def appQ (g s p : Nat) (r : Lg × Nat × (Nat × Nat × Int)) (v : Value) (M : List Asn) : Prop := v = .tuple #[.agg (addrC r.2.2).toArray, .int .i64 r.2.1] ∧ M = [logA g s p r.1]
theorem appQ.mk {g s p : Nat} {r : Lg × Nat × (Nat × Nat × Int)} {L : Lg} {e : Nat} {a : Nat × Nat × Int} (h : r = (L, e, a)) : appQ g s p r (.tuple #[.agg (addrC a).toArray, .int .i64 e]) [logA g s p L] := by subst h; exact ⟨rfl, rfl⟩
theorem encB_len (rc : Rc) (key val : List UInt8) : (encB rc key val).length = 21 + key.length + val.length := by unfold encB; simp [beB_len]; omega
set_option maxHeartbeats 32000000 in
set_option maxRecDepth 100000 in
theorem append (g s p : Nat) (L : Lg) (rc : Rc) (hr : rc.fits) (x y : Option Addr) (key val : List UInt8) (c d : Nat) (hfit : L.fit) (hput : rc.right key.length val.length = true → (L.ready (secs (encB rc key val).length)).2 = 0 → PutOk (L.ready (secs (encB rc key val).length)).1 (secs (encB rc key val).length)) :
    Meets Tryz.prog 16 #[.pointer (some ⟨g, 0, none⟩), recV rc (.slice x key.length c) (.slice y val.length d)] [logA g s p L] [bytA (.slice x key.length c) key, bytA (.slice y val.length d) val] fun v M => appQ g s p (L.append rc key val) v M := by
  intro w B H
  have HEN := encode rc hr x y key val c d
  unfold encQ at HEN
  have hop : L.append rc key val = if rc.right key.length val.length = false then (L, 160, (0, 0, 0)) else if L.br = true then (L, 8, (0, 0, 0))
    else if (L.ready (secs (encB rc key val).length)).2 ≠ 0 then ((L.ready (secs (encB rc key val).length)).1, (L.ready (secs (encB rc key val).length)).2, (0, 0, 0))
    else (L.ready (secs (encB rc key val).length)).1.put (encB rc key val) := rfl
  obtain ⟨r, hr'⟩ : ∃ r, r = L.append rc key val := ⟨_, rfl⟩
  rw [← hr'] at hop ⊢
  clear hr'
  have H1 := (H.alloc [.int .i64 rc.k, .int .u32 rc.f, .int .u32 rc.e, .int .u64 rc.s, .slice x key.length c, .slice y val.length d] 62).alloc [.int .i64 0, .int .u64 0, .int .i64 0] 64
  simp only [World.size_alloc] at H1
  obtain ⟨ab, hab⟩ : ∃ ab, ab = w.heap.size + 1 := ⟨_, rfl⟩
  obtain ⟨rb, hrb⟩ : ∃ rb, rb = w.heap.size := ⟨_, rfl⟩
  rw [← hab, ← hrb] at H1
  unfold recV at HEN ⊢
  cases hq : rc.right key.length val.length
  · rw [hq, if_pos rfl] at hop
    rw [hq] at HEN
    simp only [Bool.false_eq_true, if_false] at HEN
    have HQ := Lib.hid hop
    clear hop hq
    go_enter Tryz.func16, Tryz.ntmps16
    go_upto_region 1 with fail
    rw [← hab, ← hrb]
    clear hab hrb
    refine wp_world (fun W => St w B _ _ W) H1 ?_
    intro w1 H2
    clear H1 H
    obtain ⟨hc, hf⟩ := St.cells H2 1
    go_wp2_with fail
    refine (HEN.call (L := []) (M := [_, _, _]) H2 (self_imp' (by simp))).mono ?_
    rintro e w3 ⟨_, L', rfl, ⟨rfl, rfl⟩, H4⟩
    clear hc hf H2
    obtain ⟨hc, hf⟩ := St.cells H4 0
    go_wp2_with fail
    have H5 := ((H4.set_ 0 0 (.int .i64 0)).set_ 0 1 (.int .u64 0)).set_ 0 2 (.int .i64 0)
    exact bodyPost_ret (results_ct rfl rfl bigAddr (St.range H5 0)) rfl (Back.mk (appQ.mk HQ.out) (St.pick H5 [2]))
  · rw [hq, if_neg (show ¬ (true = false) by decide)] at hop
    rw [hq] at HEN
    simp only [if_true] at HEN
    have hput := hput hq
    have hkv : key.length ≤ 250 ∧ val.length ≤ 512 := by
      unfold Rc.right at hq
      have := of_decide_eq_true hq
      omega
    clear hq
    have hbl := encB_len rc key val
    rw [← hbl] at HEN
    generalize encB rc key val = b at *
    have hb783 : b.length ≤ 783 := by omega
    have hsp := secs_pos b.length
    have hse := secs_eq b.length
    have hsec := fun w => sectors w b.length (by omega)
    obtain ⟨n, hn⟩ : ∃ n, n = secs b.length := ⟨_, rfl⟩
    rw [← hn] at hop hput hsp hse hsec
    obtain ⟨m, hm⟩ : ∃ m, m = b.length := ⟨_, rfl⟩
    rw [← hm] at hn HEN hsec hb783 hse
    clear hbl hkv
    have HSEC := Lib.hid hsec
    have HMM := Lib.hid hm
    have HN := Lib.hid hn
    clear hsec hm hn
    cases hbr : L.br
    · rw [hbr, if_neg (show ¬ (false = true) by decide)] at hop
      have hc3 : (openedP L.segs = none ∧ L.ready n = L.open) ∨ (∃ i0, openedP L.segs = some i0 ∧ leftP L.x.sec L.segs < n ∧ L.ready n = L.open) ∨ (∃ i0, openedP L.segs = some i0 ∧ (n : Int) ≤ leftP L.x.sec L.segs ∧ L.ready n = (L, 0)) := by
        unfold Lg.ready
        cases ho : openedP L.segs with
        | none => exact .inl ⟨rfl, rfl⟩
        | some i0 =>
          by_cases hlt : leftP L.x.sec L.segs < n
          · exact .inr (.inl ⟨i0, rfl, hlt, if_pos hlt⟩)
          · exact .inr (.inr ⟨i0, rfl, by omega, if_neg hlt⟩)
      have HOPN := lopen' g s p L hfit
      have hchk := hfit.chk
      clear hfit
      obtain ⟨a0, c0, H0⟩ := logA.open (St.pick H1 [2, 0, 1])
      have H2 := H0
      unfold logL logC at H2
      rw [hbr] at H2
      have HC3 := Lib.hid hc3
      have HCHK := Lib.hid hchk
      have HBR := Lib.hid hbr
      have HOP := Lib.hid hop
      have HPUT := Lib.hid hput
      have HOPN := Lib.hid HOPN
      clear H0 H1 H hc3 hchk hbr hop hput
      go_enter Tryz.func16, Tryz.ntmps16
      go_upto_region 1 with fail
      rw [← hab, ← hrb]
      clear hab hrb
      refine wp_world (fun W => St w B _ _ W) H2 ?_
      intro w1 H3
      clear H2
      obtain ⟨hc, hf⟩ := St.cells H3 5
      go_wp2_with fail
      refine (HEN.call (L := []) (M := [_, _, _, _, _, _]) H3 (self_imp' (by simp))).mono ?_
      rintro e w3 ⟨_, L', rfl, ⟨a3, c3, rfl, rfl⟩, H4⟩
      clear hc hf H3 HEN
      obtain ⟨hc, hf⟩ := St.cells H4 1
      go_wp2_with fail
      refine (HSEC.out _).mono ?_
      rintro e w4 ⟨rfl, rfl⟩
      have HO := Rg.opend w4 L.x.sec _ L.segs (segs_of H4 4 rfl)
      unfold Rg.ringV Rg.seekV at HO
      rw [HCHK.out, if_pos rfl] at HO
      go_wp2_with fail
      refine HO.mono ?_
      rintro e w5 ⟨rfl, hb⟩
      have H5 := H4.below hb
      clear H4 HO hb hc hf
      rcases HC3.out with ⟨ho, hrd⟩ | ⟨i0, ho, hlt, hrd⟩ | ⟨i0, ho, hlt, hrd⟩ <;> rw [ho] <;> clear ho
      case' inl =>
        have hput2 := HPUT.out
        have hop2 := HOP.out
        rw [hrd] at hput2 hop2
        clear hrd HPUT HOP
        have HOO := HOPN.out
        unfold opnQ at HOO
        generalize L.open = ro at *
        obtain ⟨L2, e2⟩ := ro
        dsimp only at hput2 hop2 HOO
        have HO2 := Lib.hid hop2
        have HP2 := Lib.hid hput2
        clear hop2 hput2 HOPN
        obtain ⟨hc, hf⟩ := St.cells H5 1
        go_wp2_with fail
        refine (HOO.call (L := [_]) (M := [_, _, _]) (logA.close (L := L) (by have := St.pick H5 [1, 2, 3, 4, 0, 5, 6]; unfold logL logC; rw [HBR.out]; exact this)) (by simp)).mono ?_
        rintro e w7 ⟨_, L', rfl, ⟨rfl, rfl⟩, H7⟩
        clear H5 hc hf
        by_cases he : e2 = 0
        case neg =>
          have hne : ((e2 : Int) != 0) = true := by simp; omega
          have hop3 := HO2.out
          rw [if_pos he] at hop3
          have HQ := Lib.hid hop3
          clear he hop3 HO2 HP2
          obtain ⟨hc, hf⟩ := St.cells H7 2
          go_wp2_with fail
          have H8 := ((H7.set_ 2 0 (.int .i64 0)).set_ 2 1 (.int .u64 0)).set_ 2 2 (.int .i64 0)
          exact bodyPost_ret (results_ct rfl rfl bigAddr (St.range H8 2)) rfl (Back.mk (appQ.mk HQ.out) (St.pick H8 [0]))
        subst he
        have hop3 := HO2.out
        rw [if_neg (show ¬ ((0 : Nat) ≠ 0) by decide)] at hop3
        have HQ3 := Lib.hid hop3
        clear hop3
        go_upto_region 14 with fail
        refine wp_world (fun W => ∃ L1 : Lg, Hid (PutOk L1 n ∧ r = L1.put b) ∧ St w B [logA g s p L1, ownA 5 1 (.slice a3 m c3) m (b.map u8v), blkA ab [.int .i64 0, .int .u64 0, .int .i64 0] 64, blkA rb [.int .i64 rc.k, .int .u32 rc.f, .int .u32 rc.e, .int .u64 rc.s, .slice x key.length c, .slice y val.length d] 62] [bytA (.slice x key.length c) key, bytA (.slice y val.length d) val] W) ⟨L2, Lib.hid ⟨HP2.out (by first | rfl | trivial), HQ3.out⟩, H7⟩ ?_
        clear H7 HO2 HP2 HQ3
      case' inr.inl =>
        have hput2 := HPUT.out
        have hop2 := HOP.out
        rw [hrd] at hput2 hop2
        clear hrd HPUT HOP
        have HOO := HOPN.out
        unfold opnQ at HOO
        generalize L.open = ro at *
        obtain ⟨L2, e2⟩ := ro
        dsimp only at hput2 hop2 HOO
        have HO2 := Lib.hid hop2
        have HP2 := Lib.hid hput2
        clear hop2 hput2 HOPN
        have HLF := Rg.left w5 L.x.sec _ L.segs (segs_of H5 4 rfl)
        unfold Rg.ringV Rg.leftV at HLF
        rw [HCHK.out, if_pos rfl] at HLF
        generalize leftP L.x.sec L.segs = lf at *
        have hlt2 : decide (lf < (n : Int)) = true := decide_eq_true hlt
        obtain ⟨hc, hf⟩ := St.cells H5 1
        go_wp2_with fail
        refine HLF.mono ?_
        rintro e w6 ⟨rfl, hb⟩
        have H6 := H5.below hb
        clear HLF hb
        go_wp2_with fail
        refine (HOO.call (L := [_]) (M := [_, _, _]) (logA.close (L := L) (by have := St.pick H6 [1, 2, 3, 4, 0, 5, 6]; unfold logL logC; rw [HBR.out]; exact this)) (by simp)).mono ?_
        rintro e w7 ⟨_, L', rfl, ⟨rfl, rfl⟩, H7⟩
        clear H5 H6 hc hf hlt hlt2
        by_cases he : e2 = 0
        case neg =>
          have hne : ((e2 : Int) != 0) = true := by simp; omega
          have hop3 := HO2.out
          rw [if_pos he] at hop3
          have HQ := Lib.hid hop3
          clear he hop3 HO2 HP2
          obtain ⟨hc, hf⟩ := St.cells H7 2
          go_wp2_with fail
          have H8 := ((H7.set_ 2 0 (.int .i64 0)).set_ 2 1 (.int .u64 0)).set_ 2 2 (.int .i64 0)
          exact bodyPost_ret (results_ct rfl rfl bigAddr (St.range H8 2)) rfl (Back.mk (appQ.mk HQ.out) (St.pick H8 [0]))
        subst he
        have hop3 := HO2.out
        rw [if_neg (show ¬ ((0 : Nat) ≠ 0) by decide)] at hop3
        have HQ3 := Lib.hid hop3
        clear hop3
        go_upto_region 14 with fail
        refine wp_world (fun W => ∃ L1 : Lg, Hid (PutOk L1 n ∧ r = L1.put b) ∧ St w B [logA g s p L1, ownA 5 1 (.slice a3 m c3) m (b.map u8v), blkA ab [.int .i64 0, .int .u64 0, .int .i64 0] 64, blkA rb [.int .i64 rc.k, .int .u32 rc.f, .int .u32 rc.e, .int .u64 rc.s, .slice x key.length c, .slice y val.length d] 62] [bytA (.slice x key.length c) key, bytA (.slice y val.length d) val] W) ⟨L2, Lib.hid ⟨HP2.out (by first | rfl | trivial), HQ3.out⟩, H7⟩ ?_
        clear H7 HO2 HP2 HQ3
      case' inr.inr =>
        have hput2 := HPUT.out
        have hop2 := HOP.out
        rw [hrd] at hput2 hop2
        rw [if_neg (show ¬ ((L, 0) : Lg × Nat).2 ≠ 0 by simp)] at hop2
        clear hrd HPUT HOP HOPN
        have HO2 := Lib.hid hop2
        have HP2 := Lib.hid hput2
        clear hop2 hput2
        have HLF := Rg.left w5 L.x.sec _ L.segs (segs_of H5 4 rfl)
        unfold Rg.ringV Rg.leftV at HLF
        rw [HCHK.out, if_pos rfl] at HLF
        generalize leftP L.x.sec L.segs = lf at *
        have hlt2 : decide (lf < (n : Int)) = false := decide_eq_false (by omega)
        have hlt3 : ¬ lf < (n : Int) := by omega
        obtain ⟨hc, hf⟩ := St.cells H5 1
        go_wp2_with fail
        refine HLF.mono ?_
        rintro e w6 ⟨rfl, hb⟩
        have H6 := H5.below hb
        clear H5 HLF hb hc hf
        go_upto_region 14 with fail
        refine wp_world (fun W => ∃ L1 : Lg, Hid (PutOk L1 n ∧ r = L1.put b) ∧ St w B [logA g s p L1, ownA 5 1 (.slice a3 m c3) m (b.map u8v), blkA ab [.int .i64 0, .int .u64 0, .int .i64 0] 64, blkA rb [.int .i64 rc.k, .int .u32 rc.f, .int .u32 rc.e, .int .u64 rc.s, .slice x key.length c, .slice y val.length d] 62] [bytA (.slice x key.length c) key, bytA (.slice y val.length d) val] W) ⟨L, Lib.hid ⟨HP2.out (by first | rfl | trivial), HO2.out⟩, logA.close (L := L) (by have := St.pick H6 [1, 2, 3, 4, 0, 5, 6]; unfold logL logC; rw [HBR.out]; exact this)⟩ ?_
        clear H6 HO2 HP2 hlt hlt2 hlt3
      all_goals
        clear HC3 HCHK HBR HSEC
        rintro w14 ⟨L1, HL1, H14⟩
        obtain ⟨hpo, hr1⟩ := HL1.out
        clear HL1
        obtain ⟨i, hopi, hil, hg1, hg2⟩ := hpo.op
        have hst := (Rg.opened_lt hopi).2
        have hub := Rg.used_bd hpo.chk hil (.inl hst)
        have hcs := Rg.check_size hpo.chk
        have hroom := hpo.room
        have hlp : leftP L1.x.sec L1.segs = L1.x.sec - (at' L1.segs i).used := by unfold leftP; rw [hopi]
        rw [hlp] at hroom
        have hchk := hpo.chk
        have hlen := hpo.len
        have hmay := hpo.may
        have hpend := hpo.pend
        have huse : useF L1.x.sec L1.segs n = (0, some (L1.segs.set i { at' L1.segs i with used := (at' L1.segs i).used + n })) := by
          unfold useF
          rw [if_neg (by rw [hchk]; decide), hopi]
          dsimp only
          rw [if_neg (by omega), hlp, if_neg (by omega)]
        have hr2 : r = if (writesF L1.D (2 + i * L1.x.sec + (at' L1.segs i).used) (splitB (at' L1.segs i).gen (at' L1.segs i).used.toNat b)).2 ≠ 0 then ({ L1 with D := (writesF L1.D (2 + i * L1.x.sec + (at' L1.segs i).used) (splitB (at' L1.segs i).gen (at' L1.segs i).used.toNat b)).1, br := true }, (writesF L1.D (2 + i * L1.x.sec + (at' L1.segs i).used) (splitB (at' L1.segs i).gen (at' L1.segs i).used.toNat b)).2, (0, 0, 0))
            else ({ L1 with D := (writesF L1.D (2 + i * L1.x.sec + (at' L1.segs i).used) (splitB (at' L1.segs i).gen (at' L1.segs i).used.toNat b)).1, segs := L1.segs.set i { at' L1.segs i with used := (at' L1.segs i).used + n } }, 0, (i, (at' L1.segs i).gen, (at' L1.segs i).used)) := by
          rw [hr1, HN.out, HMM.out]
          unfold Lg.put
          rw [hopi]
        clear hpo hr1 hlp
        obtain ⟨a0, c0, H15⟩ := logA.open H14
        clear H14
        obtain ⟨xx, t1, D1, segs, br⟩ := L1
        obtain ⟨sg, sec, gn, rt, rv, fl⟩ := xx
        dsimp only at hil hg1 hg2 hst hub hcs hroom hchk hlen hmay hpend huse hr2 hopi
        unfold logL logC at H15
        dsimp only at H15
        simp only [List.cons_append, List.nil_append] at H15
        obtain ⟨gg, hgg⟩ : ∃ gg, gg = (at' segs i).gen := ⟨_, rfl⟩
        obtain ⟨us, hus⟩ : ∃ us : Nat, (at' segs i).used = us := ⟨(at' segs i).used.toNat, by omega⟩
        rw [← hgg] at hg1 hg2 hr2 huse
        rw [hus] at hub hroom hr2 huse
        obtain ⟨ns, hns⟩ : ∃ ns, ns = segs.set i { st := (at' segs i).st, gen := gg, used := (us : Int) + (n : Int) } := ⟨_, rfl⟩
        rw [← hns] at hr2 huse
        clear hns
        rw [Int.toNat_natCast] at hr2
        obtain ⟨SB, hSB⟩ : ∃ SB, SB = splitB gg us b := ⟨_, rfl⟩
        rw [← hSB] at hr2
        have hSBl : SB.length = n := by rw [hSB, HN.out, HMM.out]; unfold splitB; rw [List.length_map, List.length_range]
        have hSB64 : ∀ z ∈ SB, z.length = 64 := by
          rw [hSB]; intro z hz
          unfold splitB at hz
          obtain ⟨k, _, rfl⟩ := List.mem_map.1 hz
          exact packB_len _ _ _ (by rw [List.length_take]; omega)
        have HSPL := split gg us (.slice a3 m c3) b (by rw [← HMM.out]; omega) ⟨hg1, hg2⟩ (by rw [← HMM.out, ← HN.out]; omega)
        rw [← HMM.out, ← HN.out, ← hSB] at HSPL
        have hseg0 : (i : Int) < sg := by omega
        have hbv : baseV ⟨sg, sec, gn, rt, rv, fl⟩ (i : Int) = .tuple #[.int .i64 (2 + (i : Int) * sec), .int .i64 0] := if_pos ⟨by omega, hseg0⟩
        have HBAS := sbase s ⟨sg, sec, gn, rt, rv, fl⟩ t1 p (i : Int) hmay
        rw [hbv] at HBAS
        have HDSK := sdisk s ⟨sg, sec, gn, rt, rv, fl⟩ t1 p
        have hpr : 0 ≤ (i : Int) * sec ∧ (i : Int) * sec ≤ 1024 := by
          have a1 := Int.mul_nonneg (show 0 ≤ (i : Int) by omega) (show 0 ≤ sec by omega)
          have a2 := Int.mul_le_mul (show (i : Int) ≤ 16 by omega) (show sec ≤ 64 by omega) (show 0 ≤ sec by omega) (by decide)
          omega
        obtain ⟨bs, hbs⟩ : ∃ bs, bs = 2 + (i : Int) * sec := ⟨_, rfl⟩
        have hbs1 : 0 ≤ bs ∧ bs ≤ 1026 := by omega
        rw [← hbs] at hr2 HBAS
        have hn64 : n ≤ 64 := by omega
        have hus64 : us ≤ 64 := by omega
        have hpos : 0 < segs.length := by omega
        clear hbv hpr hbs hseg0 hmay hub hroom
        have HR2 := Lib.hid hr2
        have HUSE := Lib.hid huse
        have HCHK := Lib.hid hchk
        have HGG := Lib.hid hgg
        have HUS := Lib.hid hus
        have HSBL := Lib.hid hSBl
        have HSB64 := Lib.hid hSB64
        have HST := Lib.hid hst
        have HSPL := Lib.hid HSPL
        have HBAS := Lib.hid HBAS
        have HDSK := Lib.hid HDSK
        have HPEND := Lib.hid hpend
        have HCS := Lib.hid hcs
        have HLEN := Lib.hid hlen
        clear hr2 huse hchk hgg hus hSBl hSB64 hst hSB hpend hcs hlen
        have HO := Rg.opend w14 sec _ segs (segs_of H15 3 rfl)
        unfold Rg.ringV Rg.seekV at HO
        rw [HCHK.out, if_pos rfl, hopi] at HO
        obtain ⟨hc, hf⟩ := St.cells H15 0
        go_wp2_with fail
        refine HO.mono ?_
        rintro e w15 ⟨rfl, hb⟩
        have H16 := H15.below hb
        clear H15 HO hb hc hf hopi
        obtain ⟨vs, hvs⟩ : ∃ vs, vs = Value.slice a0 segs.length c0 := ⟨_, rfl⟩
        have hsa := segs_of H16 3 rfl
        obtain ⟨gb, off, cap, hv, hv1, hv2, hv3, hv4⟩ := hsa.cell hpos
        obtain ⟨q0, q1, q2⟩ := hv4 i hil
        rw [HST.out] at q0
        rw [← HGG.out] at q1
        rw [HUS.out] at q2
        cases hv
        clear hvs hv4 hsa
        unfold maxLen at hv2
        obtain ⟨hc, hf⟩ := St.cells H16 0
        obtain ⟨sb, hsb⟩ : ∃ sb, sb = w15.heap.size := ⟨_, rfl⟩
        have H17 := H16.alloc [.int .i64 1, .int .u64 gg, .int .i64 us] 135
        rw [← hsb] at H17
        have hi0 : (0 : Int) ≤ (i : Int) := by omega
        have hi1 : (i : Int) < (segs.length : Int) := by omega
        go_upto_region 16 with fail
        rw [← hsb]
        clear hsb
        refine wp_world (fun W => St w B _ _ W) H17 ?_
        intro w17 H18
        clear H16 H17 hc hf q0 q1 q2
        obtain ⟨hc, hf⟩ := St.cells H18 1
        go_wp2_with fail
        refine (HBAS.out.call (L := [_]) (M := [_, _, _, _, _, _, _]) (St.pick H18 [2, 0, 1, 3, 4, 5, 6, 7]) (self_imp' (by simp))).mono ?_
        rintro e w18 ⟨_, L', rfl, ⟨rfl, rfl⟩, H19⟩
        clear H18 hc hf
        have hw32 : IntKind.u32.wrap (us : Int) = (us : Int) := by simp [IntKind.wrap, IntKind.bits, IntKind.signed]; omega
        obtain ⟨hc, hf⟩ := St.cells H19 1
        go_wp2_with fail
        refine (HSPL.out.call (L := []) (M := [_, _, _, _, _, _, _, _]) H19 (share1 (own_byt_imp HMM.out) (by simp))).mono ?_
        rintro e w19 ⟨_, L', rfl, ⟨a5, c5, rfl, rfl⟩, H20⟩
        obtain ⟨G, hG, _, _⟩ := own_pos (St.own H20 0) (by omega)
        subst hG
        clear H19 hc hf hw32
        have H21 := St.pick H20 [0, 1, 2, 3, 4, 5, 7]
        clear H20
        go_wp2_with fail
        go_loopg [112] n (fun gq b112 wr => ∃ (j : Nat) (Dj : Dk), j ≤ n ∧ gq = n - j ∧ b112 = .int .i64 j ∧ Hid (writesF D1 (bs + us) SB = writesF Dj (bs + us + (j : Nat)) (SB.drop j)) ∧ Hid (Dj.pend.length ≤ D1.pend.length + j) ∧ Hid (St w B [ownA 38 64 (.slice (some ⟨G, 0, none⟩) n c5) n (SB.flatMap fun x : List UInt8 => x.map u8v), blkA s (stoC ⟨sg, sec, gn, rt, rv, fl⟩ t1 p) 102, blkA sb [.int .i64 1, .int .u64 gg, .int .i64 us] 135, blkA g [.pointer (some ⟨s, 0, none⟩), .int .i64 sec, (.slice (some ⟨gb, off, none⟩) segs.length c0), .bool br] 100, dskA p Dj, segsA (.slice (some ⟨gb, off, none⟩) segs.length c0) segs, blkA ab [.int .i64 0, .int .u64 0, .int .i64 0] 64] [bytA (.slice x key.length c) key, bytA (.slice y val.length d) val] wr))
        case atStart => exact ⟨0, D1, Nat.zero_le _, rfl, rfl, Lib.hid (by simp), Lib.hid (by omega), Lib.hid H21⟩
        case round =>
        obtain ⟨j, Dj, hj, rfl, rfl, HWF, HPJ, HI⟩ := hrel
        clear H21
        have HI := HI.out
        by_cases hlt : j < n
        · obtain ⟨X, hX⟩ : ∃ X, SB[j]? = some X := ⟨_, List.getElem?_eq_getElem (by rw [HSBL.out]; exact hlt)⟩
          have hdrop : SB.drop j = X :: SB.drop (j + 1) := by
            have h1 : j < SB.length := by rw [HSBL.out]; exact hlt
            rw [List.drop_eq_getElem_cons h1]
            rw [List.getElem?_eq_getElem h1] at hX
            rw [Option.some.inj hX]
          have hX64 := HSB64.out X (List.mem_of_getElem? hX)
          obtain ⟨fx, hfx⟩ : ∃ fx, fx = X.map u8v := ⟨_, rfl⟩
          have hfl : fx.length = 64 := by rw [hfx, List.length_map, hX64]
          have hfx1 : ∀ u ∈ fx, u.oneCell' = true := by rw [hfx]; exact u8v_one _
          have HRX : wr.rangeAt G (j * 64) fx := by rw [hfx]; exact rangeAt_flat (f := fun x => x.map u8v) (own_range (St.own HI 0)) (fun y hy => by rw [List.length_map]; exact HSB64.out y hy) hX
          have hwr := write p Dj (bs + us + j) X hX64 (by have := HPJ.out; have := HPEND.out; omega)
          have hpe2 := Dj.write_pend (bs + us + j) X
          generalize hr2w : Dj.write (bs + us + j) X = r2 at *
          obtain ⟨D2, e2⟩ := r2
          dsimp only at hwr hpe2
          unfold blkV at hwr
          rw [← hfx] at hwr
          have HWR := Lib.hid hwr
          have HFX := Lib.hid hfx
          clear hwr hfx hX hX64
          have j0 : (0 : Int) ≤ (j : Int) := by omega
          have j1 : (j : Int) < (n : Int) := by omega
          obtain ⟨bx, hbx⟩ : ∃ bx, bx = wr.heap.size := ⟨_, rfl⟩
          have H23 := HI.whole zs64 38 fx (by rw [hfl]; rfl)
          have hw8 : IntKind.i64.wrap (bs + (us : Int)) = bs + (us : Int) := by rw [IntKind.wrap_i64]; omega
          have hw10 : IntKind.i64.wrap (bs + (us : Int) + (j : Int)) = bs + (us : Int) + (j : Int) := by rw [IntKind.wrap_i64]; omega
          go_upto_region 23 with (first | (refine wpl_load rfl _ _ rfl G (j * 64) (by rfl) fx 64 hfl HRX bigBlock ?_) | ((refine wpl_store rfl _ _ _ rfl wr.heap.size 0 (by rfl) fx (by rfl) 64 hfl (there_whole _ _ _ _ (by decide)) bigBlock hfx1 ?_); (refine wpl_world _ H23 ?_); intro w23 H23'))
          try dsimp only [Act.put]
          rw [← hbx]
          rw [← hbx] at H23'
          clear H23 HI HRX hbx
          have H24 := St.pick H23' [2, 4, 5, 3, 0, 1, 6, 7]
          clear H23'
          refine wp_region_gh (Θ := Unit) (fun _ => [(0, 117, (.pointer (some ⟨g, 0, none⟩))), (1, 118, (.pointer (some ⟨g, 0, none⟩))), (2, 119, (.pointer (some ⟨g, 0, none⟩))), (3, 120, (.pointer (some ⟨s, 0, none⟩))), (4, 121, (.pointer (some ⟨p, 0, none⟩))), (5, 122, (.int .i64 bs)), (6, 123, (.pointer (some ⟨sb, 2, none⟩))), (7, 124, (.int .i64 us)), (8, 125, (.int .i64 (bs + (us : Int)))), (9, 126, (.int .i64 j)), (10, 127, (.int .i64 (bs + (us : Int) + (j : Int)))), (11, 128, (.agg fx.toArray)), (12, 129, (.int .i64 (e2 : Int))), (13, 20, (.int .i64 (e2 : Int)))]) (fun _ done WW => St w B (bif done 12 then [dskA p D2, blkA s (stoC ⟨sg, sec, gn, rt, rv, fl⟩ t1 p) 102, blkA g [.pointer (some ⟨s, 0, none⟩), .int .i64 sec, (.slice (some ⟨gb, off, none⟩) segs.length c0), .bool br] 100, blkA sb [.int .i64 1, .int .u64 gg, .int .i64 us] 135, blkA bx fx 38, ownA 38 64 (.slice (some ⟨G, 0, none⟩) n c5) n (SB.flatMap fun x : List UInt8 => x.map u8v), segsA (.slice (some ⟨gb, off, none⟩) segs.length c0) segs, blkA ab [.int .i64 0, .int .u64 0, .int .i64 0] 64] else (bif done 4 then [blkA s (stoC ⟨sg, sec, gn, rt, rv, fl⟩ t1 p) 102, blkA g [.pointer (some ⟨s, 0, none⟩), .int .i64 sec, (.slice (some ⟨gb, off, none⟩) segs.length c0), .bool br] 100, dskA p Dj, blkA sb [.int .i64 1, .int .u64 gg, .int .i64 us] 135, blkA bx fx 38, ownA 38 64 (.slice (some ⟨G, 0, none⟩) n c5) n (SB.flatMap fun x : List UInt8 => x.map u8v), segsA (.slice (some ⟨gb, off, none⟩) segs.length c0) segs, blkA ab [.int .i64 0, .int .u64 0, .int .i64 0] 64] else ([blkA s (stoC ⟨sg, sec, gn, rt, rv, fl⟩ t1 p) 102, blkA g [.pointer (some ⟨s, 0, none⟩), .int .i64 sec, (.slice (some ⟨gb, off, none⟩) segs.length c0), .bool br] 100, dskA p Dj, blkA sb [.int .i64 1, .int .u64 gg, .int .i64 us] 135, blkA bx fx 38, ownA 38 64 (.slice (some ⟨G, 0, none⟩) n c5) n (SB.flatMap fun x : List UInt8 => x.map u8v), segsA (.slice (some ⟨gb, off, none⟩) segs.length c0) segs, blkA ab [.int .i64 0, .int .u64 0, .int .i64 0] 64]))) [bytA (.slice x key.length c) key, bytA (.slice y val.length d) val] WW) (by kernel_rfl) (hord_of2 (by kernel_rfl)) (fun _ => by kernel_rfl) (fun _ => by kernel_rfl) (fun _ => by kernel_rfl) ⟨(), H24.drew⟩ ?_ ?_
          · intro _ done zb WW j oq ho hd hdep hcl HA HJ
            have hj : j < 14 := (Array.getElem?_eq_some_iff.1 ho).1
            obtain rfl | rfl | rfl | rfl | rfl | rfl | rfl | rfl | rfl | rfl | rfl | rfl | rfl | rfl : j = 0 ∨ j = 1 ∨ j = 2 ∨ j = 3 ∨ j = 4 ∨ j = 5 ∨ j = 6 ∨ j = 7 ∨ j = 8 ∨ j = 9 ∨ j = 10 ∨ j = 11 ∨ j = 12 ∨ j = 13 := by omega
            · exact valG (θ := _) (.pointer (some ⟨g, 0, none⟩)) ho (by cases ho; rfl) (by cases ho; simp [execOp, go_sem, HA.tm, lookT]) (by cases ho; exact fun d hd => by cases hd; simp) HJ
            · have p0 : done 0 = true := by cases ho; exact hdep ⟨0, .data⟩ (by simp) rfl
              exact valG (θ := _) (.pointer (some ⟨g, 0, none⟩)) ho (by cases ho; rfl) (by cases ho; simp [execOp, go_sem, HA.tm, lookT, p0]) (by cases ho; exact fun d hd => by cases hd; simp) HJ
            · have p1 : done 1 = true := by cases ho; exact hdep ⟨1, .data⟩ (by simp) rfl
              exact valG (θ := _) (.pointer (some ⟨g, 0, none⟩)) ho (by cases ho; rfl) (by cases ho; simp [execOp, go_sem, HA.tm, lookT, p1]) (by cases ho; exact fun d hd => by cases hd; simp) HJ
            · have p2 : done 2 = true := by cases ho; exact hdep ⟨2, .data⟩ (by simp) rfl
              have n4 : done 4 = false := by cases hx : done 4 with | false => rfl | true => have := hcl 4 _ rfl hx ⟨3, .data⟩ (by simp) rfl; rw [hd] at this; cases this
              have n12 : done 12 = false := by cases hx : done 12 with | false => rfl | true => have := hcl 12 _ rfl hx ⟨4, .data⟩ (by simp) rfl; rw [n4] at this; cases this
              have hcl_ : ∀ k, WW.cell? ⟨g, k, none⟩ = ([.pointer (some ⟨s, 0, none⟩), .int .i64 sec, (.slice (some ⟨gb, off, none⟩) segs.length c0), .bool br])[k]? := by
                have HQ := HJ
                (try simp only [n4, n12, hd, cond_true, cond_false] at HQ) <;> first | exact (St.cells HQ 0).1 | exact (St.cells HQ 1).1 | exact (St.cells HQ 2).1 | exact (St.cells HQ 3).1 | exact (St.cells HQ 4).1 | exact (St.cells HQ 5).1 | exact (St.cells HQ 6).1 | exact (St.cells HQ 7).1
              exact valG (θ := _) (.pointer (some ⟨s, 0, none⟩)) ho (by cases ho; rfl) (by cases ho; simp [execOp, go_sem, HA.tm, lookT, p2, hcl_]) (by cases ho; exact fun d hd => by cases hd; simp) HJ
            · have p3 : done 3 = true := by cases ho; exact hdep ⟨3, .data⟩ (by simp) rfl
              have n12 : done 12 = false := by cases hx : done 12 with | false => rfl | true => have := hcl 12 _ rfl hx ⟨4, .data⟩ (by simp) rfl; rw [hd] at this; cases this
              have HS : St w B [blkA s (stoC ⟨sg, sec, gn, rt, rv, fl⟩ t1 p) 102, blkA g [.pointer (some ⟨s, 0, none⟩), .int .i64 sec, (.slice (some ⟨gb, off, none⟩) segs.length c0), .bool br] 100, dskA p Dj, blkA sb [.int .i64 1, .int .u64 gg, .int .i64 us] 135, blkA bx fx 38, ownA 38 64 (.slice (some ⟨G, 0, none⟩) n c5) n (SB.flatMap fun x : List UInt8 => x.map u8v), segsA (.slice (some ⟨gb, off, none⟩) segs.length c0) segs, blkA ab [.int .i64 0, .int .u64 0, .int .i64 0] 64] [bytA (.slice x key.length c) key, bytA (.slice y val.length d) val] WW := St.cast (by simp only [n12, hd, cond_true, cond_false]) HJ
              exact callG (θ := _) (f := 41) (args := #[.pointer (some ⟨s, 0, none⟩)]) ho (by cases ho; rfl) (by cases ho; simp [execOp, go_sem, HA.tm, lookT, p3]) (HDSK.out.call (L := [_]) HS (by simp)) (by
                rintro e w' ⟨_, _, rfl, ⟨rfl, rfl⟩, HS'⟩
                exact ⟨_, (), rfl, by cases ho; exact fun d hd => by cases hd; simp, (.inl rfl), (St.cast (by simp [n12, n12] <;> rfl) HS')⟩)
            · exact valG (θ := _) (.int .i64 bs) ho (by cases ho; rfl) (by cases ho; simp [execOp, go_sem, HA.tm, lookT]) (by cases ho; exact fun d hd => by cases hd; simp) HJ
            · exact valG (θ := _) (.pointer (some ⟨sb, 2, none⟩)) ho (by cases ho; rfl) (by cases ho; simp [execOp, go_sem, HA.tm, lookT]) (by cases ho; exact fun d hd => by cases hd; simp) HJ
            · have p6 : done 6 = true := by cases ho; exact hdep ⟨6, .data⟩ (by simp) rfl
              have n8 : done 8 = false := by cases hx : done 8 with | false => rfl | true => have := hcl 8 _ rfl hx ⟨7, .data⟩ (by simp) rfl; rw [hd] at this; cases this
              have n10 : done 10 = false := by cases hx : done 10 with | false => rfl | true => have := hcl 10 _ rfl hx ⟨8, .data⟩ (by simp) rfl; rw [n8] at this; cases this
              have n12 : done 12 = false := by cases hx : done 12 with | false => rfl | true => have := hcl 12 _ rfl hx ⟨10, .data⟩ (by simp) rfl; rw [n10] at this; cases this
              have hcl_ : ∀ k, WW.cell? ⟨sb, k, none⟩ = ([.int .i64 1, .int .u64 gg, .int .i64 us])[k]? := by
                have HQ := HJ
                cases g4 : done 4 <;> (try simp only [n12, g4, hd, cond_true, cond_false] at HQ) <;> first | exact (St.cells HQ 0).1 | exact (St.cells HQ 1).1 | exact (St.cells HQ 2).1 | exact (St.cells HQ 3).1 | exact (St.cells HQ 4).1 | exact (St.cells HQ 5).1 | exact (St.cells HQ 6).1 | exact (St.cells HQ 7).1
              exact valG (θ := _) (.int .i64 us) ho (by cases ho; rfl) (by cases ho; simp [execOp, go_sem, HA.tm, lookT, p6, hcl_]) (by cases ho; exact fun d hd => by cases hd; simp) HJ
            · have p5 : done 5 = true := by cases ho; exact hdep ⟨5, .data⟩ (by simp) rfl
              have p7 : done 7 = true := by cases ho; exact hdep ⟨7, .data⟩ (by simp) rfl
              exact valG (θ := _) (.int .i64 (bs + (us : Int))) ho (by cases ho; rfl) (by cases ho; simp [execOp, go_sem, HA.tm, lookT, p5, p7, hw8]) (by cases ho; exact fun d hd => by cases hd; simp) HJ
            · exact valG (θ := _) (.int .i64 j) ho (by cases ho; rfl) (by cases ho; simp [execOp, go_sem, HA.tm, lookT]) (by cases ho; exact fun d hd => by cases hd; simp) HJ
            · have p8 : done 8 = true := by cases ho; exact hdep ⟨8, .data⟩ (by simp) rfl
              have p9 : done 9 = true := by cases ho; exact hdep ⟨9, .data⟩ (by simp) rfl
              exact valG (θ := _) (.int .i64 (bs + (us : Int) + (j : Int))) ho (by cases ho; rfl) (by cases ho; simp [execOp, go_sem, HA.tm, lookT, p8, p9, hw10]) (by cases ho; exact fun d hd => by cases hd; simp) HJ
            · have n12 : done 12 = false := by cases hx : done 12 with | false => rfl | true => have := hcl 12 _ rfl hx ⟨11, .data⟩ (by simp) rfl; rw [hd] at this; cases this
              have HRg : WW.rangeAt bx (0) (fx) := by
                have HQ := HJ
                cases g4 : done 4 <;> (try simp only [n12, g4, hd, cond_true, cond_false] at HQ) <;> first | exact St.range HQ 4
              exact loadG (θ := _) (v := (.agg fx.toArray)) _ ((.tmp 19)) ho (by cases ho; rfl) (by cases ho; rfl) (by simp [HA.ev, HA.tm, lookT, Act.eval]) (bigBlock.load (hfl) HRg) (by cases ho; exact fun d hd => by cases hd; simp) HJ
            · have p4 : done 4 = true := by cases ho; exact hdep ⟨4, .data⟩ (by simp) rfl
              have p10 : done 10 = true := by cases ho; exact hdep ⟨10, .data⟩ (by simp) rfl
              have p11 : done 11 = true := by cases ho; exact hdep ⟨11, .data⟩ (by simp) rfl
              have HS : St w B [blkA s (stoC ⟨sg, sec, gn, rt, rv, fl⟩ t1 p) 102, blkA g [.pointer (some ⟨s, 0, none⟩), .int .i64 sec, (.slice (some ⟨gb, off, none⟩) segs.length c0), .bool br] 100, dskA p Dj, blkA sb [.int .i64 1, .int .u64 gg, .int .i64 us] 135, blkA bx fx 38, ownA 38 64 (.slice (some ⟨G, 0, none⟩) n c5) n (SB.flatMap fun x : List UInt8 => x.map u8v), segsA (.slice (some ⟨gb, off, none⟩) segs.length c0) segs, blkA ab [.int .i64 0, .int .u64 0, .int .i64 0] 64] [bytA (.slice x key.length c) key, bytA (.slice y val.length d) val] WW := St.cast (by simp only [p4, hd, cond_true, cond_false]) HJ
              exact callG (θ := _) (f := 11) (args := #[.pointer (some ⟨p, 0, none⟩), .int .i64 (bs + (us : Int) + (j : Int)), .agg fx.toArray]) ho (by cases ho; rfl) (by cases ho; simp [execOp, go_sem, HA.tm, lookT, p4, p10, p11]) (HWR.out.call (L := [_]) (M := [_, _, _, _, _, _, _]) (St.pick HS [2, 0, 1, 3, 4, 5, 6, 7]) (by simp)) (by
                rintro e w' ⟨_, _, rfl, ⟨rfl, rfl⟩, HS'⟩
                exact ⟨_, (), rfl, by cases ho; exact fun d hd => by cases hd; simp, (.inl rfl), (St.cast (by simp [p4] <;> rfl) HS')⟩)
            · have p12 : done 12 = true := by cases ho; exact hdep ⟨12, .data⟩ (by simp) rfl
              exact valG (θ := _) (.int .i64 (e2 : Int)) ho (by cases ho; rfl) (by cases ho; simp [execOp, go_sem, HA.tm, lookT, p12]) (by cases ho; exact fun d hd => by cases hd; simp) HJ
          · intro _ done WW hall HJ
            have z4 := hall 4 (by decide)
            have z12 := hall 12 (by decide)
            have HE : St w B [dskA p D2, blkA s (stoC ⟨sg, sec, gn, rt, rv, fl⟩ t1 p) 102, blkA g [.pointer (some ⟨s, 0, none⟩), .int .i64 sec, (.slice (some ⟨gb, off, none⟩) segs.length c0), .bool br] 100, blkA sb [.int .i64 1, .int .u64 gg, .int .i64 us] 135, blkA bx fx 38, ownA 38 64 (.slice (some ⟨G, 0, none⟩) n c5) n (SB.flatMap fun x : List UInt8 => x.map u8v), segsA (.slice (some ⟨gb, off, none⟩) segs.length c0) segs, blkA ab [.int .i64 0, .int .u64 0, .int .i64 0] 64] [bytA (.slice x key.length c) key, bytA (.slice y val.length d) val] WW := St.cast (by simp [z4, z12]) HJ
            clear HJ hall z4 z12
            simp only [putAll, Act.put, List.setIfInBounds_toArray, List.set_cons_succ, List.set_cons_zero]
            have H25 := HE
            clear HE H24
            by_cases h2 : e2 = 0
            · subst h2
              have hne2 : writesF D1 (bs + us) SB = writesF D2 (bs + us + (j + 1 : Nat)) (SB.drop (j + 1)) := by
                rw [HWF.out, hdrop]
                have e1 : bs + (us : Int) + ((j + 1 : Nat) : Int) = bs + us + j + 1 := by omega
                rw [e1, writesF_ok hr2w]
              have HNE := Lib.hid hne2
              have HPE := Lib.hid hpe2
              have HJN := Lib.hid hlt
              clear hne2 hpe2 hlt hr2w hdrop
              go_wp2_with fail
              go_roundg (n - (j + 1))
              case measure => have := HJN.out; omega
              case rel => exact ⟨j + 1, D2, by have := HJN.out; omega, rfl, by go_num, HNE, Lib.hid (by have := HPE.out; have := HPJ.out; omega), Lib.hid (St.pick H25 [5, 1, 3, 2, 0, 6, 7])⟩
            · have hne : ((e2 : Int) != 0) = true := by simp; omega
              have hwf2 : writesF D1 (bs + us) SB = (D2, e2) := by
                rw [HWF.out, hdrop, writesF_bad hr2w h2]
              have hrr := HR2.out
              rw [hwf2] at hrr
              dsimp only at hrr
              rw [if_pos h2] at hrr
              have HQ := Lib.hid hrr
              have HF := failsE g (.pointer (some ⟨s, 0, none⟩)) (.int .i64 sec) (.slice (some ⟨gb, off, none⟩) segs.length c0) br e2 h2
              clear h2 hwf2 hrr hr2w hdrop hlt
              obtain ⟨hc, hf⟩ := St.cells H25 7
              go_wp2_with fail
              refine (HF.call (L := [_]) (M := [_, _, _, _]) (St.pick H25 [2, 1, 0, 6, 7]) (by simp)).mono ?_
              rintro e w26 ⟨_, L', rfl, ⟨rfl, rfl⟩, H26⟩
              clear hc hf
              obtain ⟨hc, hf⟩ := St.cells H26 4
              go_wp2_with fail
              have H27 := ((H26.set_ 4 0 (.int .i64 0)).set_ 4 1 (.int .u64 0)).set_ 4 2 (.int .i64 0)
              exact bodyPost_ret (results_ct rfl rfl bigAddr (St.range H27 4)) rfl (Back.mk (appQ.mk HQ.out) (logA.close (L := ⟨⟨sg, sec, gn, rt, rv, fl⟩, t1, D2, segs, true⟩) (St.pick H27 [0, 1, 2, 3])))
        · obtain rfl : j = n := by omega
          have hdone : writesF D1 (bs + us) SB = (Dj, 0) := by
            rw [HWF.out, List.drop_of_length_le (by rw [HSBL.out]; exact Nat.le_refl _), writesF]
          have hrr := HR2.out
          rw [hdone] at hrr
          rw [if_neg (by simp)] at hrr
          have HQ := Lib.hid hrr
          clear hrr hdone hlt
          have HU := Rg.used wr sec _ segs j (segs_of HI 5 rfl)
          unfold Rg.ringV at HU
          rw [HUSE.out] at HU
          obtain ⟨hc, hf⟩ := St.cells HI 3
          go_wp2_with fail
          refine HU.mono ?_
          rintro e w27 ⟨u, rfl, hou, hb⟩
          have hou2 : Rg.OwnSegs w27 wr.heap.size u ns := hou
          obtain ⟨au, cu, rfl, _⟩ := own_form hou2
          have H28 := St.newSegs HI hb hou2
          clear HI HU hb hou hou2 hc hf
          have es : Rg.secOf sec (0, some ns).2 = sec := rfl
          rw [es]
          clear es
          have H29 := H28.alloc [.int .i64 sec, .slice au ns.length cu] 54
          obtain ⟨rr, hrr⟩ : ∃ rr, rr = w27.heap.size := ⟨_, rfl⟩
          rw [← hrr] at H29
          go_upto_region 28 with fail
          rw [← hrr]
          clear hrr
          refine wp_world (fun W => St w B _ _ W) H29 ?_
          intro w29 H30
          clear H28 H29
          obtain ⟨hc, hf⟩ := St.cells H30 0
          obtain ⟨hc2, hf2⟩ := St.cells H30 5
          have H31 := (H30.set_ 5 1 (.int .i64 sec)).set_ 5 2 (.slice au ns.length cu)
          go_upto_region 31 with fail
          refine wp_world (fun W => St w B _ _ W) H31 ?_
          intro w31 H32
          clear H30 H31 hc hf hc2 hf2
          obtain ⟨hc, hf⟩ := St.cells H32 4
          obtain ⟨hc2, hf2⟩ := St.cells H32 8
          go_wp2_with fail
          have H33 := ((H32.set_ 8 0 (.int .i64 i)).set_ 8 1 (.int .u64 gg)).set_ 8 2 (.int .i64 us)
          exact bodyPost_ret (results_ct rfl rfl bigAddr (St.range H33 8)) rfl (Back.mk (appQ.mk HQ.out) (logA.close (L := ⟨⟨sg, sec, gn, rt, rv, fl⟩, t1, Dj, ns, br⟩) (St.pick H33 [5, 3, 6, 1])))
    · rw [hbr, if_pos rfl] at hop
      have HQ := Lib.hid hop
      clear hop hput
      obtain ⟨a0, c0, H0⟩ := logA.open (St.pick H1 [2, 0, 1])
      have H1 := H0
      unfold logL logC at H1
      rw [hbr] at H1
      have HBR := Lib.hid hbr
      clear hbr H0
      go_enter Tryz.func16, Tryz.ntmps16
      go_upto_region 1 with fail
      rw [← hab, ← hrb]
      clear hab hrb
      refine wp_world (fun W => St w B _ _ W) H1 ?_
      intro w1 H2
      clear H1 H
      obtain ⟨hc, hf⟩ := St.cells H2 5
      go_wp2_with fail
      refine (HEN.call (L := []) (M := [_, _, _, _, _, _]) H2 (self_imp' (by simp))).mono ?_
      rintro e w3 ⟨_, L', rfl, ⟨a3, c3, rfl, rfl⟩, H4⟩
      clear hc hf H2
      obtain ⟨hc, hf⟩ := St.cells H4 1
      obtain ⟨hc2, hf2⟩ := St.cells H4 5
      go_wp2_with fail
      have H5 := ((H4.set_ 5 0 (.int .i64 0)).set_ 5 1 (.int .u64 0)).set_ 5 2 (.int .i64 0)
      exact bodyPost_ret (results_ct rfl rfl bigAddr (St.range H5 5)) rfl (Back.mk (appQ.mk HQ.out) (logA.close (L := L) (by have := St.pick H5 [1, 2, 3, 4]; unfold logL logC; rw [HBR.out]; exact this)))
end Go.Proofs.YtjmocjcjiiopnaaGreat
end
