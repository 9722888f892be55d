/- index.Add in memory where it finds room. Conditions: the index is laid out in its blocks; the links of the finger's chain lead along a list; there is a free place. -/
import Derived.Test.YtccgdfamjohmgaaAdd
import Derived.Deep.Cut
set_option linter.unusedVariables false
namespace Go.Proofs.Ytccgdfamjohmgaa
open Go.RowKit Go.Ice

theorem frm_below {w w' : World} {T : Nat → Prop} (h : Below w.heap.size w w') : Frm T w w' := ⟨h.os, h.tape, h.output, h.size, fun k hk _ => h.block k hk⟩

set_option maxHeartbeats 4000000 in
theorem add_ok (w : World) (L : Lay) (N : Nat) (S : IdxS) (f : Nat) (a : Adr) (l : List Nat) (i : Nat) (hf : f ≤ 4294967295) (h : Rep w L N S) (hl : Links S.chain (S.heads (f % N)) l) (hlN : ∀ k ∈ l, k < N)
    (hq : (locate S f a (true, f % N) l).fits N) (hv : (locate S f a (true, f % N) l).val S = -1) (hfree : S.free = i) (hi : i < N) (hlast : S.last = -1 ∨ ∃ j : Nat, S.last = j ∧ j < N) (hn : S.n ≤ 1024) :
    Calls Try.prog 13 #[.pointer (some ⟨L.bx, 0, none⟩), .int .u32 f, adrV a] w fun e w' => e = .returned (.int .i64 0) ∧ Rep w' L N (addS S N f a i) ∧ Frm L.owns w w' := by
  have hb0 : Below w.heap.size w (w.alloc (.cells #[.int .i64 a.seg, .int .u64 a.gen, .int .i64 a.sec] 32)) := (Below.refl _ w).alloc (Nat.le_refl _) _
  have hfd := find _ L N S f a l hf (h.below hb0) hl hlN
  have HR := Lib.hid (h.below hb0)
  have HF := Lib.hid hfd
  have HB := Lib.hid hb0
  have HQ := Lib.hid hq
  generalize hp : locate S f a (true, f % N) l = p at *
  have HV := Lib.hid hv
  have HFR := Lib.hid hfree
  have HLA := Lib.hid hlast
  have hN := h.hN
  have HLT := Lib.hid h.lt
  have hne := Lay.ne h.nd
  clear h hb0 hfd hl hlN hp hq hv hfree hlast
  unfold adrV at *
  go_enter Try.func13, Try.ntmps13
  go_wp2_with fail
  refine HF.out.mono ?_
  rintro e w1 ⟨rfl, hb1⟩
  have hR1 := HR.out.below hb1
  have hc := hR1.locCell p HQ.out
  rw [HV.out] at hc
  have hx8 : w1.cell? ⟨L.bx, 8, none⟩ = some (.int .i64 S.free) := hR1.x.cell (k := 8) (by decide)
  rw [HFR.out] at hx8
  have HB1 : Hid (Below w.heap.size w w1) := HB.out.trans (hb1.mono HB.out.size)
  have HR1 := Lib.hid hR1
  have HX0 : Hid (w1.cell? ⟨w.heap.size, 0, none⟩ = some (.int .i64 a.seg)) := by
    show _ = _
    rw [hb1.cell (p := ⟨w.heap.size, 0, none⟩) (by simp)]; exact World.cell?_alloc_mark w _ 32 (0, 0) 0
  have HX1 : Hid (w1.cell? ⟨w.heap.size, 1, none⟩ = some (.int .u64 a.gen)) := by
    show _ = _
    rw [hb1.cell (p := ⟨w.heap.size, 1, none⟩) (by simp)]; exact World.cell?_alloc_mark w _ 32 (0, 0) 1
  have HX2 : Hid (w1.cell? ⟨w.heap.size, 2, none⟩ = some (.int .i64 a.sec)) := by
    show _ = _
    rw [hb1.cell (p := ⟨w.heap.size, 2, none⟩) (by simp)]; exact World.cell?_alloc_mark w _ 32 (0, 0) 2
  have hw1 : w.heap.size < w1.heap.size := by have := hb1.size; simp at this; omega
  clear hb1 hR1
  go_upto_region 8 with fail
  have f1 : w1.cell? ⟨L.bx, 2, none⟩ = some (.slice (some ⟨L.bc, 0, none⟩) N N) := HR1.out.x.cell (k := 2) (by decide)
  have f2 : w1.cell? ⟨L.bc, i, none⟩ = some (.int .i64 (S.chain i)) := HR1.out.c.cell hi
  have f3 := HR1.out.x.frozen 8
  go_upto_region 9 with fail
  clear f1 f2 f3 hx8 hc
  refine wp_world (fun w' => Rep w' L N { S with free := S.chain i } ∧ Frm L.owns w1 w') ⟨HR1.out.setFree _, (Frm.refl _ _).setCell (.inl (.inl rfl)) _⟩ ?_
  rintro w2 ⟨hR2, hF2⟩
  have hbx : ¬ L.owns w.heap.size := fun hk => by have := HLT.out _ hk; omega
  have g0 : w2.cell? ⟨w.heap.size, 0, none⟩ = some (.int .i64 a.seg) := by rw [hF2.cell hw1 hbx]; exact HX0.out
  have g1 : w2.cell? ⟨w.heap.size, 1, none⟩ = some (.int .u64 a.gen) := by rw [hF2.cell hw1 hbx]; exact HX1.out
  have g2 : w2.cell? ⟨w.heap.size, 2, none⟩ = some (.int .i64 a.sec) := by rw [hF2.cell hw1 hbx]; exact HX2.out
  have f0 : w2.cell? ⟨L.bx, 0, none⟩ = some (.slice (some ⟨L.bf, 0, none⟩) N N) := hR2.x.cell (k := 0) (by decide)
  have f1 : w2.cell? ⟨L.bx, 1, none⟩ = some (.slice (some ⟨L.ba, 0, none⟩) N N) := hR2.x.cell (k := 1) (by decide)
  have f2 : w2.cell? ⟨L.bf, i, none⟩ = some (.int .u32 (S.fng i)) := hR2.f.cell hi
  have f3 := hR2.f.frozen i
  have a0 := hR2.a.cell (k := i * 3) (by omega)
  have a1 := hR2.a.cell (k := i * 3 + 1) (by omega)
  have a2 := hR2.a.cell (k := i * 3 + 2) (by omega)
  generalize aRow S.adr (i * 3) = o0 at a0
  generalize aRow S.adr (i * 3 + 1) = o1 at a1
  generalize aRow S.adr (i * 3 + 2) = o2 at a2
  have z0 := hR2.a.frozen (i * 3)
  have z1 := hR2.a.frozen (i * 3 + 1)
  have z2 := hR2.a.frozen (i * 3 + 2)
  have HR2 := Lib.hid hR2
  have HF2 := Lib.hid hF2
  clear hR2 hF2
  obtain ⟨⟨n1, n2, n3, n4, n5, n6⟩, ⟨n7, n8, n9, n10, n11⟩, ⟨n12, n13, n14, n15⟩, ⟨n16, n17, n18⟩, ⟨n19, n20⟩, n21⟩ := hne
  have m1 : w.heap.size ≠ L.bf := fun e => hbx (e ▸ .inr (.inl rfl))
  have m2 : w.heap.size ≠ L.ba := fun e => hbx (e ▸ .inr (.inr (.inl rfl)))
  have n1' := Ne.symm n1
  have n2' := Ne.symm n2
  have n7' := Ne.symm n7
  go_region
  go_upto_region 10 with fail
  clear g0 g1 g2 f0 f1 f2 f3 a0 a1 a2 z0 z1 z2
  refine wp_world (fun w' => Rep w' L N { S with free := S.chain i, fng := upd S.fng i f, adr := upd S.adr i a } ∧ Frm L.owns w1 w')
    ⟨((HR2.out.setF i f).setA i a).drew, ((((HF2.out.setCell (.inl (.inr (.inl rfl))) _).setCell (.inl (.inr (.inr (.inl rfl)))) _).setCell (.inl (.inr (.inr (.inl rfl)))) _).setCell (.inl (.inr (.inr (.inl rfl)))) _).drew⟩ ?_
  clear HR2 HF2
  rintro w3 ⟨hR3, hF3⟩
  have HR3 := Lib.hid hR3
  have HF3 := Lib.hid hF3
  clear hR3 hF3
  go_wp2_with fail
  refine (head w3 L N _ f hf HR3.out).mono ?_
  rintro e w3' ⟨rfl, m, rfl⟩
  go_upto_region 11 with fail
  refine wp_world (fun w' => Rep w' L N { S with free := S.chain i, fng := upd S.fng i f, adr := upd S.adr i a } ∧ Frm L.owns w1 w')
    ⟨HR3.out.drewN m, HF3.out.trans ⟨rfl, rfl, rfl, Nat.le_refl _, fun _ _ _ => rfl⟩⟩ ?_
  clear HR3 HF3
  rintro w4 ⟨hR4, hF4⟩
  have hfN : f % N < N := Nat.mod_lt _ (by omega)
  have f1 : w4.cell? ⟨L.bx, 2, none⟩ = some (.slice (some ⟨L.bc, 0, none⟩) N N) := hR4.x.cell (k := 2) (by decide)
  have f2 : w4.cell? ⟨L.bc, i, none⟩ = some (.int .i64 (S.chain i)) := hR4.c.cell hi
  have f3 := hR4.c.frozen i
  have f4 : w4.cell? ⟨L.bd, f % N, none⟩ = some (.int .i64 (S.heads (f % N))) := hR4.d.cell hfN
  have f5 := hR4.d.frozen (f % N)
  have n18' := Ne.symm n18
  have HR4 := Lib.hid hR4
  have HF4 := Lib.hid hF4
  clear hR4 hF4
  go_region
  go_upto_region 12 with fail
  clear f1 f2 f3 f4 f5
  refine wp_world (fun w' => Rep w' L N { S with free := S.chain i, fng := upd S.fng i f, adr := upd S.adr i a, chain := upd S.chain i (S.heads (f % N)), heads := upd S.heads (f % N) i } ∧ Frm L.owns w1 w')
    ⟨((HR4.out.setC i (S.heads (f % N))).setD (f % N) i).drew, ((HF4.out.setCell (.inl (.inr (.inr (.inr (.inl rfl))))) _).setCell (.inl (.inr (.inr (.inr (.inr (.inr (.inr rfl))))))) _).drew⟩ ?_
  clear HR4 HF4
  rintro w5 ⟨hR5, hF5⟩
  have f1 : w5.cell? ⟨L.bx, 3, none⟩ = some (.slice (some ⟨L.bh, 0, none⟩) N N) := hR5.x.cell (k := 3) (by decide)
  have f2 : w5.cell? ⟨L.bx, 4, none⟩ = some (.slice (some ⟨L.bn, 0, none⟩) N N) := hR5.x.cell (k := 4) (by decide)
  have f3 : w5.cell? ⟨L.bx, 7, none⟩ = some (.int .i64 S.last) := hR5.x.cell (k := 7) (by decide)
  have f4 : w5.cell? ⟨L.bh, i, none⟩ = some (.int .i64 (S.ahead i)) := hR5.h.cell hi
  have f5 : w5.cell? ⟨L.bn, i, none⟩ = some (.int .i64 (S.next i)) := hR5.nx.cell hi
  have f6 := hR5.h.frozen i
  have f7 := hR5.nx.frozen i
  have n19' := Ne.symm n19
  have HR5 := Lib.hid hR5
  have HF5 := Lib.hid hF5
  clear hR5 hF5
  go_region
  go_upto_region 13 with fail
  clear f1 f2 f3 f4 f5 f6 f7
  refine wp_world (fun w' => Rep w' L N { S with free := S.chain i, fng := upd S.fng i f, adr := upd S.adr i a, chain := upd S.chain i (S.heads (f % N)), heads := upd S.heads (f % N) i, ahead := upd S.ahead i S.last, next := upd S.next i (-1) } ∧ Frm L.owns w1 w')
    ⟨((HR5.out.setH i S.last).setN i (-1)).drew, ((HF5.out.setCell (.inl (.inr (.inr (.inr (.inr (.inl rfl)))))) _).setCell (.inl (.inr (.inr (.inr (.inr (.inr (.inl rfl))))))) _).drew⟩ ?_
  clear HR5 HF5
  rintro w6 ⟨hR6, hF6⟩
  have f1 : w6.cell? ⟨L.bx, 7, none⟩ = some (.int .i64 S.last) := hR6.x.cell (k := 7) (by decide)
  have f2 := hR6.x.frozen 6
  have f3 : w6.cell? ⟨L.bx, 6, none⟩ = some (.int .i64 S.first) := hR6.x.cell (k := 6) (by decide)
  have f4 : w6.cell? ⟨L.bx, 4, none⟩ = some (.slice (some ⟨L.bn, 0, none⟩) N N) := hR6.x.cell (k := 4) (by decide)
  have HR6 := Lib.hid hR6
  have HF6 := Lib.hid hF6
  have hcount : ∀ (X : Nat → Int) (F : Int) (w7 : World), Rep w7 L N { S with free := S.chain i, fng := upd S.fng i f, adr := upd S.adr i a, chain := upd S.chain i (S.heads (f % N)), heads := upd S.heads (f % N) i, ahead := upd S.ahead i S.last, next := X, first := F } →
      w7.cell? ⟨L.bx, 7, none⟩ = some (.int .i64 S.last) ∧ w7.frozen? ⟨L.bx, 7, none⟩ = false ∧ w7.cell? ⟨L.bx, 9, none⟩ = some (.int .i64 S.n) ∧ w7.frozen? ⟨L.bx, 9, none⟩ = false :=
    fun X F w7 h => ⟨h.x.cell (k := 7) (by decide), h.x.frozen 7, h.x.cell (k := 9) (by decide), h.x.frozen 9⟩
  have HC := Lib.hid hcount
  clear hR6 hF6 hcount
  rcases HLA.out with hla | ⟨j, hla, hjN⟩
  · rw [hla] at f1
    have HLA1 := Lib.hid hla
    clear hla
    go_upto_region 16 with fail
    clear f1 f2 f3 f4
    refine wp_world (fun w' => Rep w' L N { S with free := S.chain i, fng := upd S.fng i f, adr := upd S.adr i a, chain := upd S.chain i (S.heads (f % N)), heads := upd S.heads (f % N) i, ahead := upd S.ahead i S.last, next := upd S.next i (-1), first := i } ∧ Frm L.owns w1 w')
      ⟨HR6.out.setFirst i, HF6.out.setCell (.inl (.inl rfl)) _⟩ ?_
    clear HR6 HF6
    rintro w7 ⟨hR7, hF7⟩
    obtain ⟨f1, f2, f3, f4⟩ := HC.out _ _ _ hR7
    have HR7 := Lib.hid hR7
    have HF7 := Lib.hid hF7
    clear hR7 hF7
    go_wp2_with fail
    go_ret
    refine ⟨rfl, ?_, ?_⟩
    · have h := (HR7.out.setLast i).setCount (S.n + 1)
      have e : addS S N f a i = { S with free := S.chain i, fng := upd S.fng i f, adr := upd S.adr i a, chain := upd S.chain i (S.heads (f % N)), heads := upd S.heads (f % N) i, ahead := upd S.ahead i S.last, next := upd S.next i (-1), first := i, last := i, n := S.n + 1 } := by
        unfold addS; rw [if_pos HLA1.out, if_pos HLA1.out]
      rw [e]
      exact h
    · exact (frm_below HB1.out).trans ((HF7.out.setCell (.inl (.inl rfl)) _).setCell (.inl (.inl rfl)) _)
  · rw [hla] at f1
    have HLA1 := Lib.hid hla
    clear hla
    have f5 : w6.cell? ⟨L.bn, j, none⟩ = some (.int .i64 (upd S.next i (-1) j)) := HR6.out.nx.cell hjN
    have f6 := HR6.out.nx.frozen j
    generalize upd S.next i (-1) j = y at f5
    go_upto_region 15 with fail
    go_region
    go_upto_region 16 with fail
    clear f1 f2 f3 f4 f5 f6
    refine wp_world (fun w' => Rep w' L N { S with free := S.chain i, fng := upd S.fng i f, adr := upd S.adr i a, chain := upd S.chain i (S.heads (f % N)), heads := upd S.heads (f % N) i, ahead := upd S.ahead i S.last, next := upd (upd S.next i (-1)) j i } ∧ Frm L.owns w1 w')
      ⟨(HR6.out.setN j i).drew, (HF6.out.setCell (.inl (.inr (.inr (.inr (.inr (.inr (.inl rfl))))))) _).drew⟩ ?_
    clear HR6 HF6
    rintro w7 ⟨hR7, hF7⟩
    obtain ⟨f1, f2, f3, f4⟩ := HC.out _ _ _ hR7
    have HR7 := Lib.hid hR7
    have HF7 := Lib.hid hF7
    clear hR7 hF7
    go_wp2_with fail
    go_ret
    refine ⟨rfl, ?_, ?_⟩
    · have h := (HR7.out.setLast i).setCount (S.n + 1)
      have e : addS S N f a i = { S with free := S.chain i, fng := upd S.fng i f, adr := upd S.adr i a, chain := upd S.chain i (S.heads (f % N)), heads := upd S.heads (f % N) i, ahead := upd S.ahead i S.last, next := upd (upd S.next i (-1)) j i, last := i, n := S.n + 1 } := by
        have e1 : S.last ≠ -1 := by rw [HLA1.out]; omega
        have e2 : S.last.toNat = j := by rw [HLA1.out]; rfl
        unfold addS; rw [if_neg e1, if_neg e1, e2]
      rw [e]
      exact h
    · exact (frm_below HB1.out).trans ((HF7.out.setCell (.inl (.inl rfl)) _).setCell (.inl (.inl rfl)) _)
end Go.Proofs.Ytccgdfamjohmgaa
