/- The log: Read. Conditions: the ring is right, what is known fits. -/
import Derived.Test.YtjmocjcjiiopnaaGreatLogScans22
import Derived.Test.YtjmocjcjiiopnaaGreatLogScans26

section
set_option linter.unusedVariables false
set_option linter.unusedSimpArgs false
namespace Go.Lg
open Go.Ring Go.Dsk Go.Oct Go.Proofs.YtjmocjcjiiopnaaGreat
/-- What is wrong with an address. -/
def addrBad (segs : List Seg) (a : Int × Nat × Int) : Prop := a.1 < 0 ∨ (segs.length : Int) ≤ a.1 ∨ (at' segs a.1.toNat).st = 0 ∨ (at' segs a.1.toNat).gen ≠ a.2.1 ∨ a.2.2 < 1 ∨ (at' segs a.1.toNat).used ≤ a.2.2
instance (segs : List Seg) (a : Int × Nat × Int) : Decidable (addrBad segs a) := by unfold addrBad; infer_instance
/-- The record at an address. -/
def Lg.read (L : Lg) (a : Int × Nat × Int) : Dk × (Rc × List UInt8 × List UInt8) × Nat :=
  if addrBad L.segs a then (L.D, (⟨0, 0, 0, 0⟩, [], []), 4)
  else if (recT (recF L.D (2 + a.1 * L.x.sec) (at' L.segs a.1.toNat).used (at' L.segs a.1.toNat).gen a.2.2.toNat)).2.2.2.2 ≠ 0 then ((recF L.D (2 + a.1 * L.x.sec) (at' L.segs a.1.toNat).used (at' L.segs a.1.toNat).gen a.2.2.toNat).1, (⟨0, 0, 0, 0⟩, [], []), (recT (recF L.D (2 + a.1 * L.x.sec) (at' L.segs a.1.toNat).used (at' L.segs a.1.toNat).gen a.2.2.toNat)).2.2.2.2)
  else if (recT (recF L.D (2 + a.1 * L.x.sec) (at' L.segs a.1.toNat).used (at' L.segs a.1.toNat).gen a.2.2.toNat)).2.2.2.1 = 0 then ((recF L.D (2 + a.1 * L.x.sec) (at' L.segs a.1.toNat).used (at' L.segs a.1.toNat).gen a.2.2.toNat).1, (⟨0, 0, 0, 0⟩, [], []), 4)
  else ((recF L.D (2 + a.1 * L.x.sec) (at' L.segs a.1.toNat).used (at' L.segs a.1.toNat).gen a.2.2.toNat).1, ((recT (recF L.D (2 + a.1 * L.x.sec) (at' L.segs a.1.toNat).used (at' L.segs a.1.toNat).gen a.2.2.toNat)).1, (recT (recF L.D (2 + a.1 * L.x.sec) (at' L.segs a.1.toNat).used (at' L.segs a.1.toNat).gen a.2.2.toNat)).2.1, (recT (recF L.D (2 + a.1 * L.x.sec) (at' L.segs a.1.toNat).used (at' L.segs a.1.toNat).gen a.2.2.toNat)).2.2.1), 0)
end Go.Lg
namespace Go.Proofs.YtjmocjcjiiopnaaGreat
open Go.RowKit Go.Ice Go.Oct Go.Dsk Go.Ring Go.Lg
theorem bigSeg : Big Tryz.prog 135 3 := ⟨⟨_, Tryz.underlying135, rfl⟩, by kernel_rfl⟩
theorem seg_range {w : World} {gb off n c : Nat} {l : List Seg} (h : Rg.SegsAt w (.slice (some ⟨gb, off, none⟩) n c) l) {i : Nat} (hi : i < l.length) : w.rangeAt gb (off + i * 3) [.int .i64 (at' l i).st, .int .u64 (at' l i).gen, .int .i64 (at' l i).used] := fun j v hv => by
  obtain ⟨b, o, cap, e, _, _, _, h4⟩ := h.cell (by omega)
  cases e
  obtain ⟨q0, q1, q2⟩ := h4 i hi
  match j, hv with
  | 0, hv => rw [Nat.add_zero, q0]; exact hv
  | 1, hv => rw [q1]; exact hv
  | 2, hv => rw [q2]; exact hv
  | j + 3, hv => simp at hv
theorem allocS_run (W : World) : (Instr.alloc 135 true (.tuple #[])).run Tryz.prog W = .ok (.pointer (some ⟨W.heap.size, 0, none⟩)) (W.alloc (.cells [.int .i64 0, .int .u64 0, .int .i64 0].toArray 135)) := by kernel_rfl
theorem allocR_run (W : World) : (Instr.alloc 62 true (.tuple #[])).run Tryz.prog W = .ok (.pointer (some ⟨W.heap.size, 0, none⟩)) (W.alloc (.cells [.int .i64 0, .int .u32 0, .int .u32 0, .int .u64 0, .slice none 0 0, .slice none 0 0].toArray 62)) := by kernel_rfl
/-- What Read tells and leaves. -/
def reaQ (g s p : Nat) (L : Lg) (r : Dk × (Rc × List UInt8 × List UInt8) × Nat) (v : Value) (M : List Asn) : Prop := ∃ x y c d, v = .tuple #[recV r.2.1.1 (.slice x r.2.1.2.1.length c) (.slice y r.2.1.2.2.length d), .int .i64 r.2.2] ∧ M = [logA g s p { L with D := r.1 }, ownA 5 1 (.slice x r.2.1.2.1.length c) r.2.1.2.1.length (r.2.1.2.1.map u8v), ownA 5 1 (.slice y r.2.1.2.2.length d) r.2.1.2.2.length (r.2.1.2.2.map u8v)]
theorem reaQ.no {g s p : Nat} {L L' : Lg} {D : Dk} {r : Dk × (Rc × List UInt8 × List UInt8) × Nat} {e : Nat} (h : r = (D, (⟨0, 0, 0, 0⟩, [], []), e)) (hl : { L with D := D } = L') : reaQ g s p L r (.tuple #[recV ⟨0, 0, 0, 0⟩ (.slice none 0 0) (.slice none 0 0), .int .i64 e]) [logA g s p L', ownA 5 1 (.slice none 0 0) 0 [], ownA 5 1 (.slice none 0 0) 0 []] := by subst h hl; exact ⟨none, none, 0, 0, rfl, rfl⟩
theorem reaQ.yes {g s p : Nat} {L L' : Lg} {D : Dk} {r : Dk × (Rc × List UInt8 × List UInt8) × Nat} {rc : Rc} {ka va : List UInt8} (h : r = (D, (rc, ka, va), 0)) (hl : { L with D := D } = L') (x y : Option Addr) (c d : Nat) : reaQ g s p L r (.tuple #[recV rc (.slice x ka.length c) (.slice y va.length d), .int .i64 0]) [logA g s p L', ownA 5 1 (.slice x ka.length c) ka.length (ka.map u8v), ownA 5 1 (.slice y va.length d) va.length (va.map u8v)] := by subst h hl; exact ⟨x, y, c, d, rfl, rfl⟩
set_option maxHeartbeats 16000000 in
set_option maxRecDepth 100000 in
theorem lread (g s p : Nat) (L : Lg) (a : Int × Nat × Int) (hchk : checkB L.x.sec L.segs = true) (hlen : (L.segs.length : Int) = L.x.seg) (hmay : L.x.may = true) :
    Meets Tryz.prog 21 #[.pointer (some ⟨g, 0, none⟩), .agg #[.int .i64 a.1, .int .u64 a.2.1, .int .i64 a.2.2]] [logA g s p L] [] fun v M => reaQ g s p L (L.read a) v M := by
  intro w B H
  obtain ⟨sg, gn, se⟩ := a
  obtain ⟨a0, c0, H0⟩ := logA.open H
  have H1 := (H0.alloc [.int .i64 sg, .int .u64 gn, .int .i64 se] 64).alloc [.int .i64 0, .int .u32 0, .int .u32 0, .int .u64 0, .slice none 0 0, .slice none 0 0] 62
  simp only [World.size_alloc] at H1
  obtain ⟨rb, hrb⟩ : ∃ rb, rb = w.heap.size + 1 := ⟨_, rfl⟩
  obtain ⟨ab, hab⟩ : ∃ ab, ab = w.heap.size := ⟨_, rfl⟩
  rw [← hrb, ← hab] at H1
  have hcs := Rg.check_size hchk
  have hmx := of_decide_eq_true hmay
  obtain ⟨r, hr⟩ : ∃ r, r = L.read (sg, gn, se) := ⟨_, rfl⟩
  rw [← hr]
  have hro : r = if addrBad L.segs (sg, gn, se) then (L.D, (⟨0, 0, 0, 0⟩, [], []), 4) else r := by
    split
    · rename_i hb
      rw [hr]
      unfold Lg.read
      rw [if_pos hb]
    · rfl
  unfold logL logC at H1
  have hpos : 0 < L.segs.length := by omega
  by_cases hrange : sg < 0 ∨ (L.segs.length : Int) ≤ sg
  · have hbad : addrBad L.segs (sg, gn, se) := by rcases hrange with h | h; exact .inl h; exact .inr (.inl h)
    rw [if_pos hbad] at hro
    have HQ := Lib.hid hro
    clear hro hbad hr
    have hcase : (decide (sg < 0) = true) ∨ (decide (sg < 0) = false ∧ decide (sg ≥ (L.segs.length : Int)) = true ∧ (L.segs.length : Int) ≤ sg) := by
      by_cases h : sg < 0
      · exact .inl (decide_eq_true h)
      · exact .inr ⟨decide_eq_false h, decide_eq_true (by omega), by omega⟩
    clear hrange
    rcases hcase with h1 | ⟨h1, h2, h3⟩
    all_goals
      go_enter Tryz.func21, Tryz.ntmps21
      go_upto_region 1 with fail
      rw [← hrb, ← hab]
      clear hrb hab
      refine wp_world (fun W => St w B _ _ W) H1 ?_
      intro w1 H2
      clear H1 H0 H
      obtain ⟨hc, hf⟩ := St.cells H2 1
      obtain ⟨hc2, hf2⟩ := St.cells H2 2
      go_upto_region 3 with fail
      go_quiet (fail)
      have H3 := H2.drewN nq
      generalize w1.drewN nq = w3 at *
      clear H2 hc hf hc2 hf2
      obtain ⟨hc, hf⟩ := St.cells H3 0
      go_wp2_with fail
      have H4 := (((((H3.set_ 0 0 (.int .i64 0)).set_ 0 1 (.int .u32 0)).set_ 0 2 (.int .u32 0)).set_ 0 3 (.int .u64 0)).set_ 0 4 (.slice none 0 0)).set_ 0 5 (.slice none 0 0)
      have H5 := ((St.pick H4 [0, 2, 3, 4, 5]).newNil 5 1).newNil 5 1
      exact bodyPost_ret (results_ct rfl rfl bigRec (H5.range 2) rfl) rfl (Back.mk (reaQ.no (L' := L) HQ.out rfl) (St.swap (St.swap (logA.close (L := L) (St.pick H5 [3, 4, 5, 6, 0, 1])))))
  · obtain ⟨i, rfl⟩ : ∃ i : Nat, sg = i := ⟨sg.toNat, by omega⟩
    have hil : i < L.segs.length := by omega
    have hr0 := hr
    clear hro hrange
    obtain ⟨x0, t, D, segs, br⟩ := L
    obtain ⟨sg, sec, gen, rt, rv, fl⟩ := x0
    dsimp only at hchk hlen hil hpos hcs hmx H1
    have hi0 : (0 : Int) ≤ (i : Int) := by omega
    have hi1 : (i : Int) < (segs.length : Int) := by omega
    have e1 : decide ((i : Int) < 0) = false := decide_eq_false (by omega)
    have e2 : decide ((i : Int) ≥ (segs.length : Int)) = false := decide_eq_false (by omega)
    have e3 : ¬ (segs.length : Int) ≤ (i : Int) := by omega
    obtain ⟨st, hst⟩ : ∃ st, st = (at' segs i).st := ⟨_, rfl⟩
    obtain ⟨gg, hgg⟩ : ∃ gg, gg = (at' segs i).gen := ⟨_, rfl⟩
    obtain ⟨us, hus⟩ : ∃ us, us = (at' segs i).used := ⟨_, rfl⟩
    have HCHK := Lib.hid hchk
    have HLEN := Lib.hid hlen
    have HCS := Lib.hid hcs
    have HMX := Lib.hid hmx
    have HST := Lib.hid hst
    have HGG := Lib.hid hgg
    have HUS := Lib.hid hus
    have HR := Lib.hid hr
    clear hchk hlen hcs hmx hst hgg hus hr hr0
    go_enter Tryz.func21, Tryz.ntmps21
    go_upto_region 1 with fail
    rw [← hrb, ← hab]
    clear hrb hab
    refine wp_world (fun W => St w B _ _ W) H1 ?_
    intro w1 H2
    clear H1 H0 H
    obtain ⟨gb, off, cap, hv, hv1, hv2, hv3, hv4⟩ := (segs_of H2 5 rfl).cell hpos
    cases hv
    clear hv4
    obtain ⟨hc, hf⟩ := St.cells H2 1
    obtain ⟨hc2, hf2⟩ := St.cells H2 2
    go_upto_region 3 with fail
    go_quiet (fail)
    have H3 := H2.drewN nq
    generalize w1.drewN nq = w3 at *
    clear H2 hc hf hc2 hf2
    have srange : ∀ {W : World}, Rg.SegsAt W (.slice (some ⟨gb, off, none⟩) segs.length c0) segs → W.rangeAt gb (off + i * 3) [.int .i64 st, .int .u64 gg, .int .i64 us] := fun h => by
      rw [HST.out, HGG.out, HUS.out]
      exact seg_range h hil
    go_upto_region 5 with fail
    refine wp_region_gh (Θ := Nat) (fun sb => [(0, 32, (.pointer (some ⟨g, 0, none⟩))), (1, 33, (.pointer (some ⟨g, 0, none⟩))), (2, 34, (.pointer (some ⟨g, 1, none⟩))), (3, 35, (.pointer (some ⟨g, 2, none⟩))), (4, 36, (.slice (some ⟨gb, off, none⟩) segs.length c0)), (5, 37, (.pointer (some ⟨ab, 0, none⟩))), (6, 38, (.int .i64 i)), (7, 39, (.pointer (some ⟨gb, off + i * 3, none⟩))), (8, 40, (.agg #[.int .i64 st, .int .u64 gg, .int .i64 us])), (9, 6, (.pointer (some ⟨sb, 0, none⟩)))]) (fun sb done WW => St w B (bif done 10 then [blkA sb [.int .i64 st, .int .u64 gg, .int .i64 us] 135, blkA rb [.int .i64 0, .int .u32 0, .int .u32 0, .int .u64 0, .slice none 0 0, .slice none 0 0] 62, blkA ab [.int .i64 i, .int .u64 gn, .int .i64 se] 64, blkA g [.pointer (some ⟨s, 0, none⟩), .int .i64 sec, (.slice (some ⟨gb, off, none⟩) segs.length c0), .bool br] 100, blkA s (stoC ⟨sg, sec, gen, rt, rv, fl⟩ t p) 102, dskA p D, segsA (.slice (some ⟨gb, off, none⟩) segs.length c0) segs] else (bif done 9 then [blkA sb [.int .i64 0, .int .u64 0, .int .i64 0] 135, blkA rb [.int .i64 0, .int .u32 0, .int .u32 0, .int .u64 0, .slice none 0 0, .slice none 0 0] 62, blkA ab [.int .i64 i, .int .u64 gn, .int .i64 se] 64, blkA g [.pointer (some ⟨s, 0, none⟩), .int .i64 sec, (.slice (some ⟨gb, off, none⟩) segs.length c0), .bool br] 100, blkA s (stoC ⟨sg, sec, gen, rt, rv, fl⟩ t p) 102, dskA p D, segsA (.slice (some ⟨gb, off, none⟩) segs.length c0) segs] else ([blkA rb [.int .i64 0, .int .u32 0, .int .u32 0, .int .u64 0, .slice none 0 0, .slice none 0 0] 62, blkA ab [.int .i64 i, .int .u64 gn, .int .i64 se] 64, blkA g [.pointer (some ⟨s, 0, none⟩), .int .i64 sec, (.slice (some ⟨gb, off, none⟩) segs.length c0), .bool br] 100, blkA s (stoC ⟨sg, sec, gen, rt, rv, fl⟩ t p) 102, dskA p D, segsA (.slice (some ⟨gb, off, none⟩) segs.length c0) segs]))) [] WW) (by kernel_rfl) (hord_of2 (by kernel_rfl)) (fun _ => by kernel_rfl) (fun _ => by kernel_rfl) (fun _ => by kernel_rfl) ⟨0, H3.drew⟩ ?_ ?_
    · intro sb done zb WW j oq ho hd hdep hcl HA HJ
      have hj : j < 11 := (Array.getElem?_eq_some_iff.1 ho).1
      obtain rfl | rfl | rfl | rfl | rfl | rfl | rfl | rfl | rfl | rfl | rfl : j = 0 ∨ j = 1 ∨ j = 2 ∨ j = 3 ∨ j = 4 ∨ j = 5 ∨ j = 6 ∨ j = 7 ∨ j = 8 ∨ j = 9 ∨ j = 10 := by omega
      · exact valG (θ := sb) (.pointer (some ⟨g, 0, none⟩)) ho (by cases ho; rfl) (by cases ho; simp [execOp, go_sem, HA.tm, lookT]) (by cases ho; exact fun d hd => by cases hd; simp) HJ
      · have p0 : done 0 = true := by cases ho; exact hdep ⟨0, .data⟩ (by simp) rfl
        exact valG (θ := sb) (.pointer (some ⟨g, 0, none⟩)) ho (by cases ho; rfl) (by cases ho; simp [execOp, go_sem, HA.tm, lookT, p0]) (by cases ho; exact fun d hd => by cases hd; simp) HJ
      · have p1 : done 1 = true := by cases ho; exact hdep ⟨1, .data⟩ (by simp) rfl
        exact valG (θ := sb) (.pointer (some ⟨g, 1, none⟩)) ho (by cases ho; rfl) (by cases ho; simp [execOp, go_sem, HA.tm, lookT, p1]) (by cases ho; exact fun d hd => by cases hd; simp) HJ
      · have p2 : done 2 = true := by cases ho; exact hdep ⟨2, .data⟩ (by simp) rfl
        exact valG (θ := sb) (.pointer (some ⟨g, 2, none⟩)) ho (by cases ho; rfl) (by cases ho; simp [execOp, go_sem, HA.tm, lookT, p2]) (by cases ho; exact fun d hd => by cases hd; simp) HJ
      · have p3 : done 3 = true := by cases ho; exact hdep ⟨3, .data⟩ (by simp) rfl
        have n7 : done 7 = false := by cases hx : done 7 with | false => rfl | true => have := hcl 7 _ rfl hx ⟨4, .data⟩ (by simp) rfl; rw [hd] at this; cases this
        have n8 : done 8 = false := by cases hx : done 8 with | false => rfl | true => have := hcl 8 _ rfl hx ⟨7, .data⟩ (by simp) rfl; rw [n7] at this; cases this
        have n10 : done 10 = false := by cases hx : done 10 with | false => rfl | true => have := hcl 10 _ rfl hx ⟨8, .data⟩ (by simp) rfl; rw [n8] at this; cases this
        have hcl_ : ∀ k, WW.cell? ⟨g, k, none⟩ = ([.pointer (some ⟨s, 0, none⟩), .int .i64 sec, (.slice (some ⟨gb, off, none⟩) segs.length c0), .bool br])[k]? := by
          have HQ := HJ
          cases g9 : done 9 <;> (try simp only [n10, g9, hd, cond_true, cond_false] at HQ) <;> first | exact (St.cells HQ 0).1 | exact (St.cells HQ 1).1 | exact (St.cells HQ 2).1 | exact (St.cells HQ 3).1 | exact (St.cells HQ 4).1 | exact (St.cells HQ 5).1 | exact (St.cells HQ 6).1 | exact (St.cells HQ 7).1
        exact valG (θ := sb) (.slice (some ⟨gb, off, none⟩) segs.length c0) ho (by cases ho; rfl) (by cases ho; simp [execOp, go_sem, HA.tm, lookT, p3, hcl_]) (by cases ho; exact fun d hd => by cases hd; simp) HJ
      · exact valG (θ := sb) (.pointer (some ⟨ab, 0, none⟩)) ho (by cases ho; rfl) (by cases ho; simp [execOp, go_sem, HA.tm, lookT]) (by cases ho; exact fun d hd => by cases hd; simp) HJ
      · have p5 : done 5 = true := by cases ho; exact hdep ⟨5, .data⟩ (by simp) rfl
        have n7 : done 7 = false := by cases hx : done 7 with | false => rfl | true => have := hcl 7 _ rfl hx ⟨6, .data⟩ (by simp) rfl; rw [hd] at this; cases this
        have n8 : done 8 = false := by cases hx : done 8 with | false => rfl | true => have := hcl 8 _ rfl hx ⟨7, .data⟩ (by simp) rfl; rw [n7] at this; cases this
        have n10 : done 10 = false := by cases hx : done 10 with | false => rfl | true => have := hcl 10 _ rfl hx ⟨8, .data⟩ (by simp) rfl; rw [n8] at this; cases this
        have hcl_ : ∀ k, WW.cell? ⟨ab, k, none⟩ = ([.int .i64 i, .int .u64 gn, .int .i64 se])[k]? := by
          have HQ := HJ
          cases g9 : done 9 <;> (try simp only [n10, g9, hd, cond_true, cond_false] at HQ) <;> first | exact (St.cells HQ 0).1 | exact (St.cells HQ 1).1 | exact (St.cells HQ 2).1 | exact (St.cells HQ 3).1 | exact (St.cells HQ 4).1 | exact (St.cells HQ 5).1 | exact (St.cells HQ 6).1 | exact (St.cells HQ 7).1
        exact valG (θ := sb) (.int .i64 i) ho (by cases ho; rfl) (by cases ho; simp [execOp, go_sem, HA.tm, lookT, p5, hcl_]) (by cases ho; exact fun d hd => by cases hd; simp) HJ
      · have p4 : done 4 = true := by cases ho; exact hdep ⟨4, .data⟩ (by simp) rfl
        have p6 : done 6 = true := by cases ho; exact hdep ⟨6, .data⟩ (by simp) rfl
        exact valG (θ := sb) (.pointer (some ⟨gb, off + i * 3, none⟩)) ho (by cases ho; rfl) (by cases ho; simp [execOp, go_sem, HA.tm, lookT, p4, p6, hi0, hi1]) (by cases ho; exact fun d hd => by cases hd; simp) HJ
      · have p7 : done 7 = true := by cases ho; exact hdep ⟨7, .data⟩ (by simp) rfl
        have n10 : done 10 = false := by cases hx : done 10 with | false => rfl | true => have := hcl 10 _ rfl hx ⟨8, .data⟩ (by simp) rfl; rw [hd] at this; cases this
        have HRg : WW.rangeAt gb (off + i * 3) ([.int .i64 st, .int .u64 gg, .int .i64 us]) := by
          have HQ := HJ
          cases g9 : done 9 <;> (try simp only [n10, g9, hd, cond_true, cond_false] at HQ) <;> first | exact srange (segs_of HQ 5 rfl) | exact srange (segs_of HQ 6 rfl)
        exact loadG (θ := sb) (v := (.agg #[.int .i64 st, .int .u64 gg, .int .i64 us])) _ ((.tmp 39)) ho (by cases ho; rfl) (by cases ho; rfl) (by simp [HA.ev, HA.tm, lookT, Act.eval, p7]) (bigSeg.load (rfl) HRg) (by cases ho; exact fun d hd => by cases hd; simp) HJ
      · have n10 : done 10 = false := by cases hx : done 10 with | false => rfl | true => have := hcl 10 _ rfl hx ⟨9, .data⟩ (by simp) rfl; rw [hd] at this; cases this
        have HS : St w B [blkA rb [.int .i64 0, .int .u32 0, .int .u32 0, .int .u64 0, .slice none 0 0, .slice none 0 0] 62, blkA ab [.int .i64 i, .int .u64 gn, .int .i64 se] 64, blkA g [.pointer (some ⟨s, 0, none⟩), .int .i64 sec, (.slice (some ⟨gb, off, none⟩) segs.length c0), .bool br] 100, blkA s (stoC ⟨sg, sec, gen, rt, rv, fl⟩ t p) 102, dskA p D, segsA (.slice (some ⟨gb, off, none⟩) segs.length c0) segs] [] WW := St.cast (by simp only [n10, hd, cond_true, cond_false]) HJ
        exact allocG (θ := sb) WW.heap.size _ ho (by cases ho; rfl) (by cases ho; rfl) (allocS_run WW) (by cases ho; exact fun d hd => by cases hd; simp) (.inr (.cons (.inl rfl) (.cons (.inl rfl) (.cons (.inl rfl) (.cons (.inl rfl) (.cons (.inl rfl) (.cons (.inl rfl) (.cons (.inl rfl) (.cons (.inl rfl) (.cons (.inl rfl) (.cons (.inr ⟨rfl, hd⟩) (.nil)))))))))))) (St.cast (by simp [n10, n10] <;> rfl) (HS.alloc _ _))
      · have p9 : done 9 = true := by cases ho; exact hdep ⟨9, .data⟩ (by simp) rfl
        have p8 : done 8 = true := by cases ho; exact hdep ⟨8, .data⟩ (by simp) rfl
        have HS : St w B [blkA sb [.int .i64 0, .int .u64 0, .int .i64 0] 135, blkA rb [.int .i64 0, .int .u32 0, .int .u32 0, .int .u64 0, .slice none 0 0, .slice none 0 0] 62, blkA ab [.int .i64 i, .int .u64 gn, .int .i64 se] 64, blkA g [.pointer (some ⟨s, 0, none⟩), .int .i64 sec, (.slice (some ⟨gb, off, none⟩) segs.length c0), .bool br] 100, blkA s (stoC ⟨sg, sec, gen, rt, rv, fl⟩ t p) 102, dskA p D, segsA (.slice (some ⟨gb, off, none⟩) segs.length c0) segs] [] WW := St.cast (by simp only [p9, hd, cond_true, cond_false]) HJ
        exact storeG (θ := sb) _ ((.tmp 6)) ((.tmp 40)) ho (by cases ho; rfl) (by cases ho; rfl) (by cases ho; rfl) (by first | (simp [HA.ev, HA.tm, lookT, Act.eval, p8, p9]; done) | (simp [HA.ev, HA.tm, lookT, Act.eval, p8, p9]; rfl)) (by first | (simp [HA.ev, HA.tm, lookT, Act.eval, p8, p9]; done) | (simp [HA.ev, HA.tm, lookT, Act.eval, p8, p9]; rfl)) (bigSeg.store (show ([.int .i64 st, .int .u64 gg, .int .i64 us] : List Value).length = 3 from rfl) (St.there HS 0 3) ((by simp [Value.oneCell']))) (St.cast (by simp [p9] <;> rfl) (St.setAllAt HS 0 (vs := [.int .i64 st, .int .u64 gg, .int .i64 us]) rfl rfl))
    · intro sb done WW hall HJ
      have z9 := hall 9 (by decide)
      have z10 := hall 10 (by decide)
      have HE : St w B [blkA sb [.int .i64 st, .int .u64 gg, .int .i64 us] 135, blkA rb [.int .i64 0, .int .u32 0, .int .u32 0, .int .u64 0, .slice none 0 0, .slice none 0 0] 62, blkA ab [.int .i64 i, .int .u64 gn, .int .i64 se] 64, blkA g [.pointer (some ⟨s, 0, none⟩), .int .i64 sec, (.slice (some ⟨gb, off, none⟩) segs.length c0), .bool br] 100, blkA s (stoC ⟨sg, sec, gen, rt, rv, fl⟩ t p) 102, dskA p D, segsA (.slice (some ⟨gb, off, none⟩) segs.length c0) segs] [] WW := St.cast (by simp [z9, z10]) HJ
      clear HJ hall z9 z10
      simp only [putAll, Act.put, List.setIfInBounds_toArray, List.set_cons_succ, List.set_cons_zero]
      have H4 := HE
      clear HE H3 srange e1 e2 e3
      have hbadc : ((st == 0) = true ∨ ((st == 0) = false ∧ ((gg : Int) != (gn : Int)) = true) ∨ ((st == 0) = false ∧ ((gg : Int) != (gn : Int)) = false ∧ decide (se < 1) = true ∧ se < 1) ∨ ((st == 0) = false ∧ ((gg : Int) != (gn : Int)) = false ∧ decide (se < 1) = false ∧ us ≤ se)) ∧ addrBad segs ((i : Int), gn, se) ∨ (st ≠ 0 ∧ gg = gn ∧ 1 ≤ se ∧ se < us ∧ ¬ addrBad segs ((i : Int), gn, se)) := by
        unfold addrBad
        dsimp only
        rw [Int.toNat_natCast, ← HST.out, ← HGG.out, ← HUS.out]
        by_cases q1 : st = 0
        · exact .inl ⟨.inl (by simp [q1]), .inr (.inr (.inl q1))⟩
        · have b1 : (st == 0) = false := by simp [q1]
          by_cases q2 : gg = gn
          · have b2 : ((gg : Int) != (gn : Int)) = false := by simp; omega
            by_cases q3 : se < 1
            · exact .inl ⟨.inr (.inr (.inl ⟨b1, b2, decide_eq_true q3, q3⟩)), .inr (.inr (.inr (.inr (.inl q3))))⟩
            · by_cases q4 : us ≤ se
              · exact .inl ⟨.inr (.inr (.inr ⟨b1, b2, decide_eq_false q3, q4⟩)), .inr (.inr (.inr (.inr (.inr q4))))⟩
              · exact .inr ⟨q1, q2, by omega, by omega, by omega⟩
          · have b2 : ((gg : Int) != (gn : Int)) = true := by simp; omega
            exact .inl ⟨.inr (.inl ⟨b1, b2⟩), .inr (.inr (.inr (.inl q2)))⟩
      obtain ⟨hc, hf⟩ := St.cells H4 0
      obtain ⟨hc2, hf2⟩ := St.cells H4 2
      rcases hbadc with ⟨hb4, hab⟩ | ⟨g1, g2, g3, g4, hab⟩
      · have HQ : Hid (r = (D, (⟨0, 0, 0, 0⟩, [], []), 4)) := Lib.hid (by rw [HR.out]; unfold Lg.read; rw [if_pos hab])
        clear hab
        rcases hb4 with b1 | ⟨b1, b2⟩ | ⟨b1, b2, b3, b4⟩ | ⟨b1, b2, b3, b4⟩
        case' inr.inr.inr => have b5 : decide (se ≥ us) = true := decide_eq_true b4
        all_goals
          go_upto_region 7 with fail
          clear hc hf hc2 hf2
          obtain ⟨hc, hf⟩ := St.cells H4 1
          go_wp2_with fail
          have H5 := (((((H4.set_ 1 0 (.int .i64 0)).set_ 1 1 (.int .u32 0)).set_ 1 2 (.int .u32 0)).set_ 1 3 (.int .u64 0)).set_ 1 4 (.slice none 0 0)).set_ 1 5 (.slice none 0 0)
          have H6 := ((St.pick H5 [1, 3, 4, 5, 6]).newNil 5 1).newNil 5 1
          exact bodyPost_ret (results_ct rfl rfl bigRec (H6.range 2) rfl) rfl (Back.mk (reaQ.no (L' := ⟨⟨sg, sec, gen, rt, rv, fl⟩, t, D, segs, br⟩) HQ.out rfl) (St.swap (St.swap (logA.close (L := ⟨⟨sg, sec, gen, rt, rv, fl⟩, t, D, segs, br⟩) (St.pick H6 [3, 4, 5, 6, 0, 1])))))
      · subst g2
        obtain ⟨kq, rfl⟩ : ∃ kq : Nat, se = kq := ⟨se.toNat, by omega⟩
        have hst12 : st = 1 ∨ st = 2 := by
          have := Rg.check_seg HCHK.out hil
          unfold segOk at this
          rw [← HST.out, if_neg g1] at this
          simp at this
          exact this.1
        have hub := Rg.used_bd HCHK.out hil (by rw [← HST.out]; exact hst12)
        rw [← HUS.out] at hub
        have b1 : (st == 0) = false := by simp [g1]
        have b2 : ((gg : Int) != (gg : Int)) = false := by simp
        have b3 : decide ((kq : Int) < 1) = false := decide_eq_false (by omega)
        have b5 : decide ((kq : Int) ≥ us) = false := decide_eq_false (by omega)
        have b6 : ¬ us ≤ (kq : Int) := by omega
        have hbv : baseV ⟨sg, sec, gen, rt, rv, fl⟩ (i : Int) = .tuple #[.int .i64 (2 + (i : Int) * sec), .int .i64 0] := if_pos ⟨by omega, by have := HLEN.out; show (i : Int) < sg; omega⟩
        have HBAS := sbase s ⟨sg, sec, gen, rt, rv, fl⟩ t p (i : Int) hmay
        rw [hbv] at HBAS
        have HDSK := sdisk s ⟨sg, sec, gen, rt, rv, fl⟩ t p
        have hsecb : 24 ≤ sec ∧ sec ≤ 64 := by have := HCS.out; omega
        have hpr : 0 ≤ (i : Int) * sec ∧ (i : Int) * sec ≤ 1024 := by
          have a1 := Int.mul_nonneg (show 0 ≤ (i : Int) by omega) (show 0 ≤ sec by omega)
          have a2 := Int.mul_le_mul (show (i : Int) ≤ 16 by have := HCS.out; omega) (show sec ≤ 64 by omega) (show 0 ≤ sec by omega) (by decide)
          omega
        have hr5 : r = if (recT (recF D (2 + (i : Int) * sec) us gg kq)).2.2.2.2 ≠ 0 then ((recF D (2 + (i : Int) * sec) us gg kq).1, (⟨0, 0, 0, 0⟩, [], []), (recT (recF D (2 + (i : Int) * sec) us gg kq)).2.2.2.2) else if (recT (recF D (2 + (i : Int) * sec) us gg kq)).2.2.2.1 = 0 then ((recF D (2 + (i : Int) * sec) us gg kq).1, (⟨0, 0, 0, 0⟩, [], []), 4) else ((recF D (2 + (i : Int) * sec) us gg kq).1, ((recT (recF D (2 + (i : Int) * sec) us gg kq)).1, (recT (recF D (2 + (i : Int) * sec) us gg kq)).2.1, (recT (recF D (2 + (i : Int) * sec) us gg kq)).2.2.1), 0) := by
          rw [HR.out]; unfold Lg.read; rw [if_neg hab]
          dsimp only
          rw [Int.toNat_natCast, Int.toNat_natCast, ← HGG.out, ← HUS.out]
        obtain ⟨bs, hbs⟩ : ∃ bs, bs = 2 + (i : Int) * sec := ⟨_, rfl⟩
        have hbs1 : 0 ≤ bs ∧ bs ≤ 100000 := by omega
        rw [← hbs] at hr5 HBAS
        have HUR := urecord p D bs us gg kq hbs1 (by omega)
        generalize recF D bs us gg kq = rr at *
        generalize hTT : recT rr = TT at *
        obtain ⟨D1, oo, ee⟩ := rr
        obtain ⟨⟨rk, rf, re, rs⟩, ka, va, ns, er⟩ := TT
        dsimp only at hr5
        unfold recU recV rdgC at HUR
        dsimp only at HUR
        have HR5 := Lib.hid hr5
        have HUR := Lib.hid HUR
        have HBAS := Lib.hid HBAS
        have HDSK := Lib.hid HDSK
        clear hr5 hTT hbs hpr hbv hub hst12 hsecb hab g1 g3 g4
        go_upto_region 8 with fail
        clear hc hf hc2 hf2 b1 b2 b3 b5 b6
        have H5 := St.pick H4 [4, 0, 1, 2, 3, 5, 6]
        clear H4
        refine wp_region_gh (Θ := Unit) (fun _ => [(0, 65, (.pointer (some ⟨g, 0, none⟩))), (1, 66, (.pointer (some ⟨g, 0, none⟩))), (2, 67, (.pointer (some ⟨g, 0, none⟩))), (3, 68, (.pointer (some ⟨s, 0, none⟩))), (4, 69, (.pointer (some ⟨ab, 0, none⟩))), (5, 70, (.int .i64 i)), (6, 71, (.tuple #[.int .i64 bs, .int .i64 0])), (7, 64, (.tuple #[.int .i64 bs, .int .i64 0])), (8, 72, (.int .i64 bs)), (9, 73, (.int .i64 0)), (10, 7, (.int .i64 bs)), (11, 8, (.int .i64 0))]) (fun _ done WW => St w B ([blkA s (stoC ⟨sg, sec, gen, rt, rv, fl⟩ t p) 102, blkA sb [.int .i64 st, .int .u64 gg, .int .i64 us] 135, blkA rb [.int .i64 0, .int .u32 0, .int .u32 0, .int .u64 0, .slice none 0 0, .slice none 0 0] 62, blkA ab [.int .i64 i, .int .u64 gg, .int .i64 kq] 64, blkA g [.pointer (some ⟨s, 0, none⟩), .int .i64 sec, (.slice (some ⟨gb, off, none⟩) segs.length c0), .bool br] 100, dskA p D, segsA (.slice (some ⟨gb, off, none⟩) segs.length c0) segs]) [] WW) (by kernel_rfl) (hord_of2 (by kernel_rfl)) (fun _ => by kernel_rfl) (fun _ => by kernel_rfl) (fun _ => by kernel_rfl) ⟨(), H5.drew⟩ ?_ ?_
        · intro _ done zb WW j oq ho hd hdep hcl HA HJ
          have hj : j < 12 := (Array.getElem?_eq_some_iff.1 ho).1
          obtain rfl | rfl | rfl | rfl | rfl | rfl | rfl | rfl | rfl | rfl | rfl | rfl : j = 0 ∨ j = 1 ∨ j = 2 ∨ j = 3 ∨ j = 4 ∨ j = 5 ∨ j = 6 ∨ j = 7 ∨ j = 8 ∨ j = 9 ∨ j = 10 ∨ j = 11 := by omega
          · exact valG (θ := _) (.pointer (some ⟨g, 0, none⟩)) ho (by cases ho; rfl) (by cases ho; simp [execOp, go_sem, HA.tm, lookT]) (by cases ho; exact fun d hd => by cases hd; simp) HJ
          · have p0 : done 0 = true := by cases ho; exact hdep ⟨0, .data⟩ (by simp) rfl
            exact valG (θ := _) (.pointer (some ⟨g, 0, none⟩)) ho (by cases ho; rfl) (by cases ho; simp [execOp, go_sem, HA.tm, lookT, p0]) (by cases ho; exact fun d hd => by cases hd; simp) HJ
          · have p1 : done 1 = true := by cases ho; exact hdep ⟨1, .data⟩ (by simp) rfl
            exact valG (θ := _) (.pointer (some ⟨g, 0, none⟩)) ho (by cases ho; rfl) (by cases ho; simp [execOp, go_sem, HA.tm, lookT, p1]) (by cases ho; exact fun d hd => by cases hd; simp) HJ
          · have p2 : done 2 = true := by cases ho; exact hdep ⟨2, .data⟩ (by simp) rfl
            have hcl_ : ∀ k, WW.cell? ⟨g, k, none⟩ = ([.pointer (some ⟨s, 0, none⟩), .int .i64 sec, (.slice (some ⟨gb, off, none⟩) segs.length c0), .bool br])[k]? := by
              have HQ := HJ
              (try simp only [hd, cond_true, cond_false] at HQ) <;> first | exact (St.cells HQ 0).1 | exact (St.cells HQ 1).1 | exact (St.cells HQ 2).1 | exact (St.cells HQ 3).1 | exact (St.cells HQ 4).1 | exact (St.cells HQ 5).1 | exact (St.cells HQ 6).1 | exact (St.cells HQ 7).1
            exact valG (θ := _) (.pointer (some ⟨s, 0, none⟩)) ho (by cases ho; rfl) (by cases ho; simp [execOp, go_sem, HA.tm, lookT, p2, hcl_]) (by cases ho; exact fun d hd => by cases hd; simp) HJ
          · exact valG (θ := _) (.pointer (some ⟨ab, 0, none⟩)) ho (by cases ho; rfl) (by cases ho; simp [execOp, go_sem, HA.tm, lookT]) (by cases ho; exact fun d hd => by cases hd; simp) HJ
          · have p4 : done 4 = true := by cases ho; exact hdep ⟨4, .data⟩ (by simp) rfl
            have hcl_ : ∀ k, WW.cell? ⟨ab, k, none⟩ = ([.int .i64 i, .int .u64 gg, .int .i64 kq])[k]? := by
              have HQ := HJ
              (try simp only [hd, cond_true, cond_false] at HQ) <;> first | exact (St.cells HQ 0).1 | exact (St.cells HQ 1).1 | exact (St.cells HQ 2).1 | exact (St.cells HQ 3).1 | exact (St.cells HQ 4).1 | exact (St.cells HQ 5).1 | exact (St.cells HQ 6).1 | exact (St.cells HQ 7).1
            exact valG (θ := _) (.int .i64 i) ho (by cases ho; rfl) (by cases ho; simp [execOp, go_sem, HA.tm, lookT, p4, hcl_]) (by cases ho; exact fun d hd => by cases hd; simp) HJ
          · have p3 : done 3 = true := by cases ho; exact hdep ⟨3, .data⟩ (by simp) rfl
            have p5 : done 5 = true := by cases ho; exact hdep ⟨5, .data⟩ (by simp) rfl
            exact callG (θ := _) (f := 10) (args := #[.pointer (some ⟨s, 0, none⟩), .int .i64 i]) ho (by cases ho; rfl) (by cases ho; simp [execOp, go_sem, HA.tm, lookT, p3, p5]) (HBAS.out.call (L := [_]) HJ (by simp)) (by
              rintro e w' ⟨_, _, rfl, ⟨rfl, rfl⟩, HS'⟩
              exact ⟨_, _, rfl, by cases ho; exact fun d hd => by cases hd; simp, .inl rfl, HS'⟩)
          · have p6 : done 6 = true := by cases ho; exact hdep ⟨6, .data⟩ (by simp) rfl
            exact valG (θ := _) (.tuple #[.int .i64 bs, .int .i64 0]) ho (by cases ho; rfl) (by cases ho; simp [execOp, go_sem, HA.tm, lookT, p6]) (by cases ho; exact fun d hd => by cases hd; simp) HJ
          · have p7 : done 7 = true := by cases ho; exact hdep ⟨7, .data⟩ (by simp) rfl
            exact valG (θ := _) (.int .i64 bs) ho (by cases ho; rfl) (by cases ho; simp [execOp, go_sem, HA.tm, lookT, p7]) (by cases ho; exact fun d hd => by cases hd; simp) HJ
          · have p7 : done 7 = true := by cases ho; exact hdep ⟨7, .data⟩ (by simp) rfl
            exact valG (θ := _) (.int .i64 0) ho (by cases ho; rfl) (by cases ho; simp [execOp, go_sem, HA.tm, lookT, p7]) (by cases ho; exact fun d hd => by cases hd; simp) HJ
          · have p8 : done 8 = true := by cases ho; exact hdep ⟨8, .data⟩ (by simp) rfl
            exact valG (θ := _) (.int .i64 bs) ho (by cases ho; rfl) (by cases ho; simp [execOp, go_sem, HA.tm, lookT, p8]) (by cases ho; exact fun d hd => by cases hd; simp) HJ
          · have p9 : done 9 = true := by cases ho; exact hdep ⟨9, .data⟩ (by simp) rfl
            exact valG (θ := _) (.int .i64 0) ho (by cases ho; rfl) (by cases ho; simp [execOp, go_sem, HA.tm, lookT, p9]) (by cases ho; exact fun d hd => by cases hd; simp) HJ
        · intro _ done WW hall HJ
          have HE : St w B [blkA s (stoC ⟨sg, sec, gen, rt, rv, fl⟩ t p) 102, blkA sb [.int .i64 st, .int .u64 gg, .int .i64 us] 135, blkA rb [.int .i64 0, .int .u32 0, .int .u32 0, .int .u64 0, .slice none 0 0, .slice none 0 0] 62, blkA ab [.int .i64 i, .int .u64 gg, .int .i64 kq] 64, blkA g [.pointer (some ⟨s, 0, none⟩), .int .i64 sec, (.slice (some ⟨gb, off, none⟩) segs.length c0), .bool br] 100, dskA p D, segsA (.slice (some ⟨gb, off, none⟩) segs.length c0) segs] [] WW := St.cast (by simp []) HJ
          clear HJ hall 
          simp only [putAll, Act.put, List.setIfInBounds_toArray, List.set_cons_succ, List.set_cons_zero]
          have H6 := St.pick HE [5, 0, 1, 2, 3, 4, 6]
          clear HE H5
          go_upto_region 9 with fail
          refine wp_region_gh (Θ := Option Addr × Nat × Option Addr × Nat × Nat) (fun (x1, c1, y1, d1, xr) => [(0, 75, (.pointer (some ⟨g, 0, none⟩))), (1, 76, (.pointer (some ⟨g, 0, none⟩))), (2, 77, (.pointer (some ⟨g, 0, none⟩))), (3, 78, (.pointer (some ⟨s, 0, none⟩))), (4, 79, (.pointer (some ⟨p, 0, none⟩))), (5, 80, (.int .i64 bs)), (6, 81, (.pointer (some ⟨sb, 2, none⟩))), (7, 82, (.int .i64 us)), (8, 83, (.pointer (some ⟨sb, 1, none⟩))), (9, 84, (.int .u64 gg)), (10, 85, (.agg #[.pointer (some ⟨p, 0, none⟩), .int .i64 bs, .int .i64 us, .int .u64 gg])), (11, 86, (.pointer (some ⟨ab, 2, none⟩))), (12, 87, (.int .i64 kq)), (13, 88, (.tuple #[.agg #[.int .i64 rk, .int .u32 rf, .int .u32 re, .int .u64 rs, .slice x1 ka.length c1, .slice y1 va.length d1], .int .i64 ns, .int .i64 er])), (14, 74, (.tuple #[.agg #[.int .i64 rk, .int .u32 rf, .int .u32 re, .int .u64 rs, .slice x1 ka.length c1, .slice y1 va.length d1], .int .i64 ns, .int .i64 er])), (15, 89, (.agg #[.int .i64 rk, .int .u32 rf, .int .u32 re, .int .u64 rs, .slice x1 ka.length c1, .slice y1 va.length d1])), (16, 90, (.int .i64 ns)), (17, 91, (.int .i64 er)), (18, 9, (.pointer (some ⟨xr, 0, none⟩))), (20, 10, (.int .i64 ns)), (21, 11, (.int .i64 er))]) (fun (x1, c1, y1, d1, xr) done WW => St w B (bif done 19 then [blkA xr [.int .i64 rk, .int .u32 rf, .int .u32 re, .int .u64 rs, .slice x1 ka.length c1, .slice y1 va.length d1] 62, dskA p D1, ownA 5 1 (.slice x1 ka.length c1) ka.length (ka.map u8v), ownA 5 1 (.slice y1 va.length d1) va.length (va.map u8v), blkA s (stoC ⟨sg, sec, gen, rt, rv, fl⟩ t p) 102, blkA sb [.int .i64 st, .int .u64 gg, .int .i64 us] 135, blkA rb [.int .i64 0, .int .u32 0, .int .u32 0, .int .u64 0, .slice none 0 0, .slice none 0 0] 62, blkA ab [.int .i64 i, .int .u64 gg, .int .i64 kq] 64, blkA g [.pointer (some ⟨s, 0, none⟩), .int .i64 sec, (.slice (some ⟨gb, off, none⟩) segs.length c0), .bool br] 100, segsA (.slice (some ⟨gb, off, none⟩) segs.length c0) segs] else ((bif done 18 then [blkA xr [.int .i64 0, .int .u32 0, .int .u32 0, .int .u64 0, .slice none 0 0, .slice none 0 0] 62] else []) ++ (bif done 13 then [dskA p D1, ownA 5 1 (.slice x1 ka.length c1) ka.length (ka.map u8v), ownA 5 1 (.slice y1 va.length d1) va.length (va.map u8v), blkA s (stoC ⟨sg, sec, gen, rt, rv, fl⟩ t p) 102, blkA sb [.int .i64 st, .int .u64 gg, .int .i64 us] 135, blkA rb [.int .i64 0, .int .u32 0, .int .u32 0, .int .u64 0, .slice none 0 0, .slice none 0 0] 62, blkA ab [.int .i64 i, .int .u64 gg, .int .i64 kq] 64, blkA g [.pointer (some ⟨s, 0, none⟩), .int .i64 sec, (.slice (some ⟨gb, off, none⟩) segs.length c0), .bool br] 100, segsA (.slice (some ⟨gb, off, none⟩) segs.length c0) segs] else [dskA p D, blkA s (stoC ⟨sg, sec, gen, rt, rv, fl⟩ t p) 102, blkA sb [.int .i64 st, .int .u64 gg, .int .i64 us] 135, blkA rb [.int .i64 0, .int .u32 0, .int .u32 0, .int .u64 0, .slice none 0 0, .slice none 0 0] 62, blkA ab [.int .i64 i, .int .u64 gg, .int .i64 kq] 64, blkA g [.pointer (some ⟨s, 0, none⟩), .int .i64 sec, (.slice (some ⟨gb, off, none⟩) segs.length c0), .bool br] 100, segsA (.slice (some ⟨gb, off, none⟩) segs.length c0) segs]))) [] WW) (by kernel_rfl) (hord_of2 (by kernel_rfl)) (fun _ => by kernel_rfl) (fun _ => by kernel_rfl) (fun _ => by kernel_rfl) ⟨(none, 0, none, 0, 0), (show St w B ([] ++ [dskA p D, blkA s (stoC ⟨sg, sec, gen, rt, rv, fl⟩ t p) 102, blkA sb [.int .i64 st, .int .u64 gg, .int .i64 us] 135, blkA rb [.int .i64 0, .int .u32 0, .int .u32 0, .int .u64 0, .slice none 0 0, .slice none 0 0] 62, blkA ab [.int .i64 i, .int .u64 gg, .int .i64 kq] 64, blkA g [.pointer (some ⟨s, 0, none⟩), .int .i64 sec, (.slice (some ⟨gb, off, none⟩) segs.length c0), .bool br] 100, segsA (.slice (some ⟨gb, off, none⟩) segs.length c0) segs]) [] _ from H6.drew)⟩ ?_ ?_
          · intro (x1, c1, y1, d1, xr) done zb WW j oq ho hd hdep hcl HA HJ
            have hj : j < 22 := (Array.getElem?_eq_some_iff.1 ho).1
            obtain rfl | rfl | rfl | rfl | rfl | rfl | rfl | rfl | rfl | rfl | rfl | rfl | rfl | rfl | rfl | rfl | rfl | rfl | rfl | rfl | rfl | rfl : j = 0 ∨ j = 1 ∨ j = 2 ∨ j = 3 ∨ j = 4 ∨ j = 5 ∨ j = 6 ∨ j = 7 ∨ j = 8 ∨ j = 9 ∨ j = 10 ∨ j = 11 ∨ j = 12 ∨ j = 13 ∨ j = 14 ∨ j = 15 ∨ j = 16 ∨ j = 17 ∨ j = 18 ∨ j = 19 ∨ j = 20 ∨ j = 21 := by omega
            · exact valG (θ := (x1, c1, y1, d1, xr)) (.pointer (some ⟨g, 0, none⟩)) ho (by cases ho; rfl) (by cases ho; simp [execOp, go_sem, HA.tm, lookT]) (by cases ho; exact fun d hd => by cases hd; simp) HJ
            · have p0 : done 0 = true := by cases ho; exact hdep ⟨0, .data⟩ (by simp) rfl
              exact valG (θ := (x1, c1, y1, d1, xr)) (.pointer (some ⟨g, 0, none⟩)) ho (by cases ho; rfl) (by cases ho; simp [execOp, go_sem, HA.tm, lookT, p0]) (by cases ho; exact fun d hd => by cases hd; simp) HJ
            · have p1 : done 1 = true := by cases ho; exact hdep ⟨1, .data⟩ (by simp) rfl
              exact valG (θ := (x1, c1, y1, d1, xr)) (.pointer (some ⟨g, 0, none⟩)) ho (by cases ho; rfl) (by cases ho; simp [execOp, go_sem, HA.tm, lookT, p1]) (by cases ho; exact fun d hd => by cases hd; simp) HJ
            · have p2 : done 2 = true := by cases ho; exact hdep ⟨2, .data⟩ (by simp) rfl
              have n4 : done 4 = false := by cases hx : done 4 with | false => rfl | true => have := hcl 4 _ rfl hx ⟨3, .data⟩ (by simp) rfl; rw [hd] at this; cases this
              have n10 : done 10 = false := by cases hx : done 10 with | false => rfl | true => have := hcl 10 _ rfl hx ⟨4, .data⟩ (by simp) rfl; rw [n4] at this; cases this
              have n13 : done 13 = false := by cases hx : done 13 with | false => rfl | true => have := hcl 13 _ rfl hx ⟨10, .data⟩ (by simp) rfl; rw [n10] at this; cases this
              have n14 : done 14 = false := by cases hx : done 14 with | false => rfl | true => have := hcl 14 _ rfl hx ⟨13, .data⟩ (by simp) rfl; rw [n13] at this; cases this
              have n15 : done 15 = false := by cases hx : done 15 with | false => rfl | true => have := hcl 15 _ rfl hx ⟨14, .data⟩ (by simp) rfl; rw [n14] at this; cases this
              have n19 : done 19 = false := by cases hx : done 19 with | false => rfl | true => have := hcl 19 _ rfl hx ⟨15, .data⟩ (by simp) rfl; rw [n15] at this; cases this
              have hcl_ : ∀ k, WW.cell? ⟨g, k, none⟩ = ([.pointer (some ⟨s, 0, none⟩), .int .i64 sec, (.slice (some ⟨gb, off, none⟩) segs.length c0), .bool br])[k]? := by
                have HQ := HJ
                cases g18 : done 18 <;> (try simp only [n19, n13, g18, hd, cond_true, cond_false] at HQ) <;> first | exact (St.cells HQ 0).1 | exact (St.cells HQ 1).1 | exact (St.cells HQ 2).1 | exact (St.cells HQ 3).1 | exact (St.cells HQ 4).1 | exact (St.cells HQ 5).1 | exact (St.cells HQ 6).1 | exact (St.cells HQ 7).1
              exact valG (θ := (x1, c1, y1, d1, xr)) (.pointer (some ⟨s, 0, none⟩)) ho (by cases ho; rfl) (by cases ho; simp [execOp, go_sem, HA.tm, lookT, p2, hcl_]) (by cases ho; exact fun d hd => by cases hd; simp) HJ
            · have p3 : done 3 = true := by cases ho; exact hdep ⟨3, .data⟩ (by simp) rfl
              have n10 : done 10 = false := by cases hx : done 10 with | false => rfl | true => have := hcl 10 _ rfl hx ⟨4, .data⟩ (by simp) rfl; rw [hd] at this; cases this
              have n13 : done 13 = false := by cases hx : done 13 with | false => rfl | true => have := hcl 13 _ rfl hx ⟨10, .data⟩ (by simp) rfl; rw [n10] at this; cases this
              have n14 : done 14 = false := by cases hx : done 14 with | false => rfl | true => have := hcl 14 _ rfl hx ⟨13, .data⟩ (by simp) rfl; rw [n13] at this; cases this
              have n15 : done 15 = false := by cases hx : done 15 with | false => rfl | true => have := hcl 15 _ rfl hx ⟨14, .data⟩ (by simp) rfl; rw [n14] at this; cases this
              have n19 : done 19 = false := by cases hx : done 19 with | false => rfl | true => have := hcl 19 _ rfl hx ⟨15, .data⟩ (by simp) rfl; rw [n15] at this; cases this
              have HK := HJ
              simp only [n13, n19, cond_false] at HK
              exact callG (θ := (x1, c1, y1, d1, xr)) (f := 41) (args := #[.pointer (some ⟨s, 0, none⟩)]) ho (by cases ho; rfl) (by cases ho; simp [execOp, go_sem, HA.tm, lookT, p3]) (HDSK.out.call (L := [_]) (M := [dskA p D, blkA sb [.int .i64 st, .int .u64 gg, .int .i64 us] 135, blkA rb [.int .i64 0, .int .u32 0, .int .u32 0, .int .u64 0, .slice none 0 0, .slice none 0 0] 62, blkA ab [.int .i64 i, .int .u64 gg, .int .i64 kq] 64, blkA g [.pointer (some ⟨s, 0, none⟩), .int .i64 sec, (.slice (some ⟨gb, off, none⟩) segs.length c0), .bool br] 100, segsA (.slice (some ⟨gb, off, none⟩) segs.length c0) segs] ++ (bif done 18 then [blkA xr [.int .i64 0, .int .u32 0, .int .u32 0, .int .u64 0, .slice none 0 0, .slice none 0 0] 62] else [])) (St.swap (St.back (M := (bif done 18 then [blkA xr [.int .i64 0, .int .u32 0, .int .u32 0, .int .u64 0, .slice none 0 0, .slice none 0 0] 62] else [])) (L := [dskA p D, blkA s (stoC ⟨sg, sec, gen, rt, rv, fl⟩ t p) 102, blkA sb [.int .i64 st, .int .u64 gg, .int .i64 us] 135, blkA rb [.int .i64 0, .int .u32 0, .int .u32 0, .int .u64 0, .slice none 0 0, .slice none 0 0] 62, blkA ab [.int .i64 i, .int .u64 gg, .int .i64 kq] 64, blkA g [.pointer (some ⟨s, 0, none⟩), .int .i64 sec, (.slice (some ⟨gb, off, none⟩) segs.length c0), .bool br] 100, segsA (.slice (some ⟨gb, off, none⟩) segs.length c0) segs]) HK)) (by simp)) (by
                rintro e w' ⟨_, _, rfl, ⟨rfl, rfl⟩, HS'⟩
                exact ⟨_, (x1, c1, y1, d1, xr), rfl, by cases ho; exact fun d hd => by cases hd; simp, .inl rfl, St.cast (by simp [n13, n19]) (St.back (M := [dskA p D, blkA s (stoC ⟨sg, sec, gen, rt, rv, fl⟩ t p) 102, blkA sb [.int .i64 st, .int .u64 gg, .int .i64 us] 135, blkA rb [.int .i64 0, .int .u32 0, .int .u32 0, .int .u64 0, .slice none 0 0, .slice none 0 0] 62, blkA ab [.int .i64 i, .int .u64 gg, .int .i64 kq] 64, blkA g [.pointer (some ⟨s, 0, none⟩), .int .i64 sec, (.slice (some ⟨gb, off, none⟩) segs.length c0), .bool br] 100, segsA (.slice (some ⟨gb, off, none⟩) segs.length c0) segs]) (L := (bif done 18 then [blkA xr [.int .i64 0, .int .u32 0, .int .u32 0, .int .u64 0, .slice none 0 0, .slice none 0 0] 62] else [])) (St.swap HS'))⟩)
            · exact valG (θ := (x1, c1, y1, d1, xr)) (.int .i64 bs) ho (by cases ho; rfl) (by cases ho; simp [execOp, go_sem, HA.tm, lookT]) (by cases ho; exact fun d hd => by cases hd; simp) HJ
            · exact valG (θ := (x1, c1, y1, d1, xr)) (.pointer (some ⟨sb, 2, none⟩)) ho (by cases ho; rfl) (by cases ho; simp [execOp, go_sem, HA.tm, lookT]) (by cases ho; exact fun d hd => by cases hd; simp) HJ
            · have p6 : done 6 = true := by cases ho; exact hdep ⟨6, .data⟩ (by simp) rfl
              have n10 : done 10 = false := by cases hx : done 10 with | false => rfl | true => have := hcl 10 _ rfl hx ⟨7, .data⟩ (by simp) rfl; rw [hd] at this; cases this
              have n13 : done 13 = false := by cases hx : done 13 with | false => rfl | true => have := hcl 13 _ rfl hx ⟨10, .data⟩ (by simp) rfl; rw [n10] at this; cases this
              have n14 : done 14 = false := by cases hx : done 14 with | false => rfl | true => have := hcl 14 _ rfl hx ⟨13, .data⟩ (by simp) rfl; rw [n13] at this; cases this
              have n15 : done 15 = false := by cases hx : done 15 with | false => rfl | true => have := hcl 15 _ rfl hx ⟨14, .data⟩ (by simp) rfl; rw [n14] at this; cases this
              have n19 : done 19 = false := by cases hx : done 19 with | false => rfl | true => have := hcl 19 _ rfl hx ⟨15, .data⟩ (by simp) rfl; rw [n15] at this; cases this
              have hcl_ : ∀ k, WW.cell? ⟨sb, k, none⟩ = ([.int .i64 st, .int .u64 gg, .int .i64 us])[k]? := by
                have HQ := HJ
                cases g18 : done 18 <;> (try simp only [n19, n13, g18, hd, cond_true, cond_false] at HQ) <;> first | exact (St.cells HQ 0).1 | exact (St.cells HQ 1).1 | exact (St.cells HQ 2).1 | exact (St.cells HQ 3).1 | exact (St.cells HQ 4).1 | exact (St.cells HQ 5).1 | exact (St.cells HQ 6).1 | exact (St.cells HQ 7).1
              exact valG (θ := (x1, c1, y1, d1, xr)) (.int .i64 us) ho (by cases ho; rfl) (by cases ho; simp [execOp, go_sem, HA.tm, lookT, p6, hcl_]) (by cases ho; exact fun d hd => by cases hd; simp) HJ
            · exact valG (θ := (x1, c1, y1, d1, xr)) (.pointer (some ⟨sb, 1, none⟩)) ho (by cases ho; rfl) (by cases ho; simp [execOp, go_sem, HA.tm, lookT]) (by cases ho; exact fun d hd => by cases hd; simp) HJ
            · have p8 : done 8 = true := by cases ho; exact hdep ⟨8, .data⟩ (by simp) rfl
              have n10 : done 10 = false := by cases hx : done 10 with | false => rfl | true => have := hcl 10 _ rfl hx ⟨9, .data⟩ (by simp) rfl; rw [hd] at this; cases this
              have n13 : done 13 = false := by cases hx : done 13 with | false => rfl | true => have := hcl 13 _ rfl hx ⟨10, .data⟩ (by simp) rfl; rw [n10] at this; cases this
              have n14 : done 14 = false := by cases hx : done 14 with | false => rfl | true => have := hcl 14 _ rfl hx ⟨13, .data⟩ (by simp) rfl; rw [n13] at this; cases this
              have n15 : done 15 = false := by cases hx : done 15 with | false => rfl | true => have := hcl 15 _ rfl hx ⟨14, .data⟩ (by simp) rfl; rw [n14] at this; cases this
              have n19 : done 19 = false := by cases hx : done 19 with | false => rfl | true => have := hcl 19 _ rfl hx ⟨15, .data⟩ (by simp) rfl; rw [n15] at this; cases this
              have hcl_ : ∀ k, WW.cell? ⟨sb, k, none⟩ = ([.int .i64 st, .int .u64 gg, .int .i64 us])[k]? := by
                have HQ := HJ
                cases g18 : done 18 <;> (try simp only [n19, n13, g18, hd, cond_true, cond_false] at HQ) <;> first | exact (St.cells HQ 0).1 | exact (St.cells HQ 1).1 | exact (St.cells HQ 2).1 | exact (St.cells HQ 3).1 | exact (St.cells HQ 4).1 | exact (St.cells HQ 5).1 | exact (St.cells HQ 6).1 | exact (St.cells HQ 7).1
              exact valG (θ := (x1, c1, y1, d1, xr)) (.int .u64 gg) ho (by cases ho; rfl) (by cases ho; simp [execOp, go_sem, HA.tm, lookT, p8, hcl_]) (by cases ho; exact fun d hd => by cases hd; simp) HJ
            · have p4 : done 4 = true := by cases ho; exact hdep ⟨4, .data⟩ (by simp) rfl
              have p5 : done 5 = true := by cases ho; exact hdep ⟨5, .data⟩ (by simp) rfl
              have p7 : done 7 = true := by cases ho; exact hdep ⟨7, .data⟩ (by simp) rfl
              have p9 : done 9 = true := by cases ho; exact hdep ⟨9, .data⟩ (by simp) rfl
              exact valG (θ := (x1, c1, y1, d1, xr)) (.agg #[.pointer (some ⟨p, 0, none⟩), .int .i64 bs, .int .i64 us, .int .u64 gg]) ho (by cases ho; rfl) (by cases ho; simp [execOp, go_sem, HA.tm, lookT, p4, p5, p7, p9]) (by cases ho; exact fun d hd => by cases hd; simp) HJ
            · exact valG (θ := (x1, c1, y1, d1, xr)) (.pointer (some ⟨ab, 2, none⟩)) ho (by cases ho; rfl) (by cases ho; simp [execOp, go_sem, HA.tm, lookT]) (by cases ho; exact fun d hd => by cases hd; simp) HJ
            · have p11 : done 11 = true := by cases ho; exact hdep ⟨11, .data⟩ (by simp) rfl
              have n13 : done 13 = false := by cases hx : done 13 with | false => rfl | true => have := hcl 13 _ rfl hx ⟨12, .data⟩ (by simp) rfl; rw [hd] at this; cases this
              have n14 : done 14 = false := by cases hx : done 14 with | false => rfl | true => have := hcl 14 _ rfl hx ⟨13, .data⟩ (by simp) rfl; rw [n13] at this; cases this
              have n15 : done 15 = false := by cases hx : done 15 with | false => rfl | true => have := hcl 15 _ rfl hx ⟨14, .data⟩ (by simp) rfl; rw [n14] at this; cases this
              have n19 : done 19 = false := by cases hx : done 19 with | false => rfl | true => have := hcl 19 _ rfl hx ⟨15, .data⟩ (by simp) rfl; rw [n15] at this; cases this
              have hcl_ : ∀ k, WW.cell? ⟨ab, k, none⟩ = ([.int .i64 i, .int .u64 gg, .int .i64 kq])[k]? := by
                have HQ := HJ
                cases g18 : done 18 <;> (try simp only [n19, n13, g18, hd, cond_true, cond_false] at HQ) <;> first | exact (St.cells HQ 0).1 | exact (St.cells HQ 1).1 | exact (St.cells HQ 2).1 | exact (St.cells HQ 3).1 | exact (St.cells HQ 4).1 | exact (St.cells HQ 5).1 | exact (St.cells HQ 6).1 | exact (St.cells HQ 7).1
              exact valG (θ := (x1, c1, y1, d1, xr)) (.int .i64 kq) ho (by cases ho; rfl) (by cases ho; simp [execOp, go_sem, HA.tm, lookT, p11, hcl_]) (by cases ho; exact fun d hd => by cases hd; simp) HJ
            · have p10 : done 10 = true := by cases ho; exact hdep ⟨10, .data⟩ (by simp) rfl
              have p12 : done 12 = true := by cases ho; exact hdep ⟨12, .data⟩ (by simp) rfl
              have n14 : done 14 = false := by cases hx : done 14 with | false => rfl | true => have := hcl 14 _ rfl hx ⟨13, .data⟩ (by simp) rfl; rw [hd] at this; cases this
              have n15 : done 15 = false := by cases hx : done 15 with | false => rfl | true => have := hcl 15 _ rfl hx ⟨14, .data⟩ (by simp) rfl; rw [n14] at this; cases this
              have n19 : done 19 = false := by cases hx : done 19 with | false => rfl | true => have := hcl 19 _ rfl hx ⟨15, .data⟩ (by simp) rfl; rw [n15] at this; cases this
              have p4 : done 4 = true := hcl 10 _ rfl p10 ⟨4, .data⟩ (by simp) rfl
              have HK := HJ
              simp only [hd, n19, cond_false] at HK
              exact callG (θ := (x1, c1, y1, d1, xr)) (f := 45) (args := #[(.agg #[.pointer (some ⟨p, 0, none⟩), .int .i64 bs, .int .i64 us, .int .u64 gg]), .int .i64 kq]) ho (by cases ho; rfl) (by cases ho; simp [execOp, go_sem, HA.tm, lookT, p4, p10, p12]) (HUR.out.call (L := [_]) (M := [blkA s (stoC ⟨sg, sec, gen, rt, rv, fl⟩ t p) 102, blkA sb [.int .i64 st, .int .u64 gg, .int .i64 us] 135, blkA rb [.int .i64 0, .int .u32 0, .int .u32 0, .int .u64 0, .slice none 0 0, .slice none 0 0] 62, blkA ab [.int .i64 i, .int .u64 gg, .int .i64 kq] 64, blkA g [.pointer (some ⟨s, 0, none⟩), .int .i64 sec, (.slice (some ⟨gb, off, none⟩) segs.length c0), .bool br] 100, segsA (.slice (some ⟨gb, off, none⟩) segs.length c0) segs] ++ (bif done 18 then [blkA xr [.int .i64 0, .int .u32 0, .int .u32 0, .int .u64 0, .slice none 0 0, .slice none 0 0] 62] else [])) (St.back (M := (bif done 18 then [blkA xr [.int .i64 0, .int .u32 0, .int .u32 0, .int .u64 0, .slice none 0 0, .slice none 0 0] 62] else [])) (L := [dskA p D, blkA s (stoC ⟨sg, sec, gen, rt, rv, fl⟩ t p) 102, blkA sb [.int .i64 st, .int .u64 gg, .int .i64 us] 135, blkA rb [.int .i64 0, .int .u32 0, .int .u32 0, .int .u64 0, .slice none 0 0, .slice none 0 0] 62, blkA ab [.int .i64 i, .int .u64 gg, .int .i64 kq] 64, blkA g [.pointer (some ⟨s, 0, none⟩), .int .i64 sec, (.slice (some ⟨gb, off, none⟩) segs.length c0), .bool br] 100, segsA (.slice (some ⟨gb, off, none⟩) segs.length c0) segs]) HK) (by simp)) (by
                rintro e w' ⟨_, _, rfl, ⟨xa, ya, ca, da, rfl, rfl⟩, HS'⟩
                exact ⟨_, (xa, ca, ya, da, xr), rfl, by cases ho; exact fun d hd => by cases hd; simp, (.inr (.cons (.inl rfl) (.cons (.inl rfl) (.cons (.inl rfl) (.cons (.inl rfl) (.cons (.inl rfl) (.cons (.inl rfl) (.cons (.inl rfl) (.cons (.inl rfl) (.cons (.inl rfl) (.cons (.inl rfl) (.cons (.inl rfl) (.cons (.inl rfl) (.cons (.inl rfl) (.cons (.inr ⟨rfl, hd⟩) (.cons (.inr ⟨rfl, n14⟩) (.cons (.inr ⟨rfl, n15⟩) (.cons (.inl rfl) (.cons (.inl rfl) (.cons (.inl rfl) (.cons (.inl rfl) (.cons (.inl rfl) (.nil))))))))))))))))))))))), St.cast (by simp [n19]) (St.back (M := [dskA p D1, ownA 5 1 (.slice xa ka.length ca) ka.length (ka.map u8v), ownA 5 1 (.slice ya va.length da) va.length (va.map u8v), blkA s (stoC ⟨sg, sec, gen, rt, rv, fl⟩ t p) 102, blkA sb [.int .i64 st, .int .u64 gg, .int .i64 us] 135, blkA rb [.int .i64 0, .int .u32 0, .int .u32 0, .int .u64 0, .slice none 0 0, .slice none 0 0] 62, blkA ab [.int .i64 i, .int .u64 gg, .int .i64 kq] 64, blkA g [.pointer (some ⟨s, 0, none⟩), .int .i64 sec, (.slice (some ⟨gb, off, none⟩) segs.length c0), .bool br] 100, segsA (.slice (some ⟨gb, off, none⟩) segs.length c0) segs]) (L := (bif done 18 then [blkA xr [.int .i64 0, .int .u32 0, .int .u32 0, .int .u64 0, .slice none 0 0, .slice none 0 0] 62] else [])) HS')⟩)
            · have p13 : done 13 = true := by cases ho; exact hdep ⟨13, .data⟩ (by simp) rfl
              exact valG (θ := (x1, c1, y1, d1, xr)) (.tuple #[.agg #[.int .i64 rk, .int .u32 rf, .int .u32 re, .int .u64 rs, .slice x1 ka.length c1, .slice y1 va.length d1], .int .i64 ns, .int .i64 er]) ho (by cases ho; rfl) (by cases ho; simp [execOp, go_sem, HA.tm, lookT, p13]) (by cases ho; exact fun d hd => by cases hd; simp) HJ
            · have p14 : done 14 = true := by cases ho; exact hdep ⟨14, .data⟩ (by simp) rfl
              exact valG (θ := (x1, c1, y1, d1, xr)) (.agg #[.int .i64 rk, .int .u32 rf, .int .u32 re, .int .u64 rs, .slice x1 ka.length c1, .slice y1 va.length d1]) ho (by cases ho; rfl) (by cases ho; simp [execOp, go_sem, HA.tm, lookT, p14]) (by cases ho; exact fun d hd => by cases hd; simp) HJ
            · have p14 : done 14 = true := by cases ho; exact hdep ⟨14, .data⟩ (by simp) rfl
              exact valG (θ := (x1, c1, y1, d1, xr)) (.int .i64 ns) ho (by cases ho; rfl) (by cases ho; simp [execOp, go_sem, HA.tm, lookT, p14]) (by cases ho; exact fun d hd => by cases hd; simp) HJ
            · have p14 : done 14 = true := by cases ho; exact hdep ⟨14, .data⟩ (by simp) rfl
              exact valG (θ := (x1, c1, y1, d1, xr)) (.int .i64 er) ho (by cases ho; rfl) (by cases ho; simp [execOp, go_sem, HA.tm, lookT, p14]) (by cases ho; exact fun d hd => by cases hd; simp) HJ
            · have n19 : done 19 = false := by cases hx : done 19 with | false => rfl | true => have := hcl 19 _ rfl hx ⟨18, .data⟩ (by simp) rfl; rw [hd] at this; cases this
              have HK := HJ
              simp only [hd, n19, cond_false, List.nil_append] at HK
              exact allocG (θ := (x1, c1, y1, d1, xr)) (x1, c1, y1, d1, WW.heap.size) _ ho (by cases ho; rfl) (by cases ho; rfl) (allocR_run WW) (by cases ho; exact fun d hd => by cases hd; simp) (.inr (.cons (.inl rfl) (.cons (.inl rfl) (.cons (.inl rfl) (.cons (.inl rfl) (.cons (.inl rfl) (.cons (.inl rfl) (.cons (.inl rfl) (.cons (.inl rfl) (.cons (.inl rfl) (.cons (.inl rfl) (.cons (.inl rfl) (.cons (.inl rfl) (.cons (.inl rfl) (.cons (.inl rfl) (.cons (.inl rfl) (.cons (.inl rfl) (.cons (.inl rfl) (.cons (.inl rfl) (.cons (.inr ⟨rfl, hd⟩) (.cons (.inl rfl) (.cons (.inl rfl) (.nil))))))))))))))))))))))) (St.cast (by simp [n19]) (HK.alloc [.int .i64 0, .int .u32 0, .int .u32 0, .int .u64 0, .slice none 0 0, .slice none 0 0] 62))
            · have p18 : done 18 = true := by cases ho; exact hdep ⟨18, .data⟩ (by simp) rfl
              have p15 : done 15 = true := by cases ho; exact hdep ⟨15, .data⟩ (by simp) rfl
              have p14 : done 14 = true := hcl 15 _ rfl p15 ⟨14, .data⟩ (by simp) rfl
              have p13 : done 13 = true := hcl 14 _ rfl p14 ⟨13, .data⟩ (by simp) rfl
              have HK := HJ
              simp only [p13, p18, hd, cond_true, cond_false] at HK
              exact storeG (θ := (x1, c1, y1, d1, xr)) _ (.tmp 9) (.tmp 89) ho (by cases ho; rfl) (by cases ho; rfl) (by cases ho; rfl) (by simp [HA.ev, HA.tm, lookT, Act.eval, p13, p14, p15, p18]) (by first | (simp [HA.ev, HA.tm, lookT, Act.eval, p13, p14, p15, p18]; done) | (simp [HA.ev, HA.tm, lookT, Act.eval, p13, p14, p15, p18]; rfl)) (bigRec.store (show ([.int .i64 rk, .int .u32 rf, .int .u32 re, .int .u64 rs, .slice x1 ka.length c1, .slice y1 va.length d1] : List Value).length = 6 from rfl) (St.there HK 0 6) (by simp [Value.oneCell'])) (St.cast (by simp) (St.setAllAt HK 0 (vs := [.int .i64 rk, .int .u32 rf, .int .u32 re, .int .u64 rs, .slice x1 ka.length c1, .slice y1 va.length d1]) rfl rfl))
            · have p16 : done 16 = true := by cases ho; exact hdep ⟨16, .data⟩ (by simp) rfl
              exact valG (θ := (x1, c1, y1, d1, xr)) (.int .i64 ns) ho (by cases ho; rfl) (by cases ho; simp [execOp, go_sem, HA.tm, lookT, p16]) (by cases ho; exact fun d hd => by cases hd; simp) HJ
            · have p17 : done 17 = true := by cases ho; exact hdep ⟨17, .data⟩ (by simp) rfl
              exact valG (θ := (x1, c1, y1, d1, xr)) (.int .i64 er) ho (by cases ho; rfl) (by cases ho; simp [execOp, go_sem, HA.tm, lookT, p17]) (by cases ho; exact fun d hd => by cases hd; simp) HJ
          · intro (x1, c1, y1, d1, xr) done WW hall HJ
            have z19 := hall 19 (by decide)
            have z13 := hall 13 (by decide)
            have z18 := hall 18 (by decide)
            have HE : St w B [blkA xr [.int .i64 rk, .int .u32 rf, .int .u32 re, .int .u64 rs, .slice x1 ka.length c1, .slice y1 va.length d1] 62, dskA p D1, ownA 5 1 (.slice x1 ka.length c1) ka.length (ka.map u8v), ownA 5 1 (.slice y1 va.length d1) va.length (va.map u8v), blkA s (stoC ⟨sg, sec, gen, rt, rv, fl⟩ t p) 102, blkA sb [.int .i64 st, .int .u64 gg, .int .i64 us] 135, blkA rb [.int .i64 0, .int .u32 0, .int .u32 0, .int .u64 0, .slice none 0 0, .slice none 0 0] 62, blkA ab [.int .i64 i, .int .u64 gg, .int .i64 kq] 64, blkA g [.pointer (some ⟨s, 0, none⟩), .int .i64 sec, (.slice (some ⟨gb, off, none⟩) segs.length c0), .bool br] 100, segsA (.slice (some ⟨gb, off, none⟩) segs.length c0) segs] [] WW := St.cast (by simp [z19, z13, z18]) HJ
            clear HJ hall z19 z13 z18
            simp only [putAll, Act.put, List.setIfInBounds_toArray, List.set_cons_succ, List.set_cons_zero]
            have H7 := HE
            clear HE H6
            obtain ⟨hc, hf⟩ := St.cells H7 6
            obtain ⟨hc2, hf2⟩ := St.cells H7 0
            have hr6 := HR5.out
            clear HR5 HR
            by_cases h1 : er = 0
            · rw [if_neg (by rw [h1]; simp)] at hr6
              subst h1
              by_cases h2 : ns = 0
              · rw [if_pos h2] at hr6
                subst h2
                have HQ := Lib.hid hr6
                clear hr6
                go_wp2_with fail
                have H8 := (((((H7.set_ 6 0 (.int .i64 0)).set_ 6 1 (.int .u32 0)).set_ 6 2 (.int .u32 0)).set_ 6 3 (.int .u64 0)).set_ 6 4 (.slice none 0 0)).set_ 6 5 (.slice none 0 0)
                have H9 := ((St.pick H8 [6, 8, 4, 1, 9]).newNil 5 1).newNil 5 1
                exact bodyPost_ret (results_ct rfl rfl bigRec (H9.range 2) rfl) rfl (Back.mk (reaQ.no (L' := ⟨⟨sg, sec, gen, rt, rv, fl⟩, t, D1, segs, br⟩) HQ.out rfl) (St.swap (St.swap (logA.close (L := ⟨⟨sg, sec, gen, rt, rv, fl⟩, t, D1, segs, br⟩) (St.pick H9 [3, 4, 5, 6, 0, 1])))))
              · rw [if_neg h2] at hr6
                have hne : ((ns : Int) == 0) = false := by simp; omega
                have HQ := Lib.hid hr6
                clear hr6 h2
                go_wp2_with fail
                have H8 := (((((H7.set_ 6 0 (.int .i64 rk)).set_ 6 1 (.int .u32 rf)).set_ 6 2 (.int .u32 re)).set_ 6 3 (.int .u64 rs)).set_ 6 4 (.slice x1 ka.length c1)).set_ 6 5 (.slice y1 va.length d1)
                have H9 := St.pick H8 [8, 4, 1, 9, 2, 3]
                exact bodyPost_ret (results_ct rfl rfl bigRec (St.range H8 6) rfl) rfl (Back.mk (reaQ.yes (L' := ⟨⟨sg, sec, gen, rt, rv, fl⟩, t, D1, segs, br⟩) HQ.out rfl x1 y1 c1 d1) (logA.close (L := ⟨⟨sg, sec, gen, rt, rv, fl⟩, t, D1, segs, br⟩) H9))
            · rw [if_pos h1] at hr6
              have hne : ((er : Int) != 0) = true := by simp; omega
              have HQ := Lib.hid hr6
              clear hr6 h1
              go_wp2_with fail
              have H8 := (((((H7.set_ 6 0 (.int .i64 0)).set_ 6 1 (.int .u32 0)).set_ 6 2 (.int .u32 0)).set_ 6 3 (.int .u64 0)).set_ 6 4 (.slice none 0 0)).set_ 6 5 (.slice none 0 0)
              have H9 := ((St.pick H8 [6, 8, 4, 1, 9]).newNil 5 1).newNil 5 1
              exact bodyPost_ret (results_ct rfl rfl bigRec (H9.range 2) rfl) rfl (Back.mk (reaQ.no (L' := ⟨⟨sg, sec, gen, rt, rv, fl⟩, t, D1, segs, br⟩) HQ.out rfl) (St.swap (St.swap (logA.close (L := ⟨⟨sg, sec, gen, rt, rv, fl⟩, t, D1, segs, br⟩) (St.pick H9 [3, 4, 5, 6, 0, 1])))))
end Go.Proofs.YtjmocjcjiiopnaaGreat
end
