/- index.take in memory: an entry is taken out. Conditions: the place that leads to it holds its number; its neighbours in the row are other places. -/
import Derived.Test.YtccgdfamjohmgaaAdd2
set_option linter.unusedVariables false
set_option linter.unusedSimpArgs false
namespace Go.Proofs.Ytccgdfamjohmgaa
open Go.RowKit Go.Ice

def setLoc (S : IdxS) (p : Loc) (v : Int) : IdxS := { S with chain := (if p.1 then S.chain else upd S.chain p.2 v), heads := (if p.1 then upd S.heads p.2 v else S.heads) }

theorem Rep.setLoc {w : World} {L : Lay} {N : Nat} {S : IdxS} (h : Rep w L N S) (p : Loc) (v : Int) : Rep (w.setCell (p.addr L) (.int .i64 v)) L N (setLoc S p v) := by
  obtain ⟨b, k⟩ := p
  cases b
  · exact h.setC k v
  · exact h.setD k v
theorem Rep.locFrozen {w : World} {L : Lay} {N : Nat} {S : IdxS} (h : Rep w L N S) (p : Loc) : w.frozen? (p.addr L) = false := by
  obtain ⟨b, k⟩ := p
  cases b
  · exact h.c.frozen k
  · exact h.d.frozen k
theorem Loc.owns (L : Lay) (p : Loc) : L.owns (p.addr L).block := by
  obtain ⟨b, k⟩ := p
  cases b
  · exact .inr (.inr (.inr (.inl rfl)))
  · exact .inr (.inr (.inr (.inr (.inr (.inr rfl)))))

/-- What take leaves. -/
def takeS (S : IdxS) (p : Loc) (i : Nat) : IdxS :=
  { fng := S.fng, adr := S.adr, chain := upd (if p.1 then S.chain else upd S.chain p.2 (S.chain i)) i S.free, heads := (if p.1 then upd S.heads p.2 (S.chain i) else S.heads),
    first := (if S.ahead i = -1 then S.next i else S.first), next := (if S.ahead i = -1 then S.next else upd S.next (S.ahead i).toNat (S.next i)),
    last := (if S.next i = -1 then S.ahead i else S.last), ahead := (if S.next i = -1 then S.ahead else upd S.ahead (S.next i).toNat (S.ahead i)),
    free := i, n := S.n - 1 }

set_option maxHeartbeats 8000000 in
theorem take (w : World) (L : Lay) (N : Nat) (S : IdxS) (p : Loc) (i : Nat) (h : Rep w L N S) (hp : p.fits N) (hv : p.val S = i) (hi : i < N) (hpi : p ≠ (false, i))
    (ha : S.ahead i = -1 ∨ ∃ j : Nat, S.ahead i = j ∧ j < N ∧ j ≠ i) (hx : S.next i = -1 ∨ ∃ j : Nat, S.next i = j ∧ j < N ∧ j ≠ i) (hn : 1 ≤ S.n) (hn2 : S.n ≤ 1024) :
    Calls Try.prog 23 #[.pointer (some ⟨L.bx, 0, none⟩), .pointer (some (p.addr L))] w fun e w' => e = .returned (.tuple #[]) ∧ Rep w' L N (takeS S p i) ∧ Frm L.owns w w' := by
  have hN := h.hN
  have e1 := h.locCell p hp
  rw [hv] at e1
  have e2 := h.locFrozen p
  have e3 : w.cell? ⟨L.bx, 2, none⟩ = some (.slice (some ⟨L.bc, 0, none⟩) N N) := h.x.cell (k := 2) (by decide)
  have e4 : w.cell? ⟨L.bc, i, none⟩ = some (.int .i64 (S.chain i)) := h.c.cell hi
  obtain ⟨⟨n1, n2, n3, n4, n5, n6⟩, ⟨n7, n8, n9, n10, n11⟩, ⟨n12, n13, n14, n15⟩, ⟨n16, n17, n18⟩, ⟨n19, n20⟩, n21⟩ := Lay.ne h.nd
  have HR := Lib.hid h
  have HA := Lib.hid ha
  have HX := Lib.hid hx
  clear h ha hx hv
  have hch : (setLoc S p (S.chain i)).ahead = S.ahead ∧ (setLoc S p (S.chain i)).next = S.next ∧ (setLoc S p (S.chain i)).first = S.first ∧ (setLoc S p (S.chain i)).last = S.last ∧ (setLoc S p (S.chain i)).free = S.free ∧ (setLoc S p (S.chain i)).n = S.n := ⟨rfl, rfl, rfl, rfl, rfl, rfl⟩
  clear hch
  go_enter Try.func23, Try.ntmps23
  go_upto_region 2 with fail
  clear e1 e2 e3 e4
  refine wp_world (fun w' => Rep w' L N (setLoc S p (S.chain i)) ∧ Frm L.owns w w') ⟨HR.out.setLoc p _, (Frm.refl _ _).setCell (.inl (Loc.owns L p)) _⟩ ?_
  rintro w1 ⟨hR1, hF1⟩
  have e1 : w1.cell? ⟨L.bx, 3, none⟩ = some (.slice (some ⟨L.bh, 0, none⟩) N N) := hR1.x.cell (k := 3) (by decide)
  have e2 : w1.cell? ⟨L.bh, i, none⟩ = some (.int .i64 (S.ahead i)) := hR1.h.cell hi
  have e3 : w1.cell? ⟨L.bx, 4, none⟩ = some (.slice (some ⟨L.bn, 0, none⟩) N N) := hR1.x.cell (k := 4) (by decide)
  have e4 : w1.cell? ⟨L.bn, i, none⟩ = some (.int .i64 (S.next i)) := hR1.nx.cell hi
  have e5 : w1.cell? ⟨L.bx, 6, none⟩ = some (.int .i64 S.first) := hR1.x.cell (k := 6) (by decide)
  have e6 := hR1.x.frozen 6
  have HR1 := Lib.hid hR1
  have HF1 := Lib.hid hF1
  clear hR1 hF1
  rcases HA.out with ha | ⟨j, ha, hjN, hji⟩
  · rw [ha] at e2
    have HA1 := Lib.hid ha
    clear ha
    go_upto_region 5 with fail
    clear e1 e2 e3 e4 e5 e6
    refine wp_world (fun w' => Rep w' L N { setLoc S p (S.chain i) with first := S.next i } ∧ Frm L.owns w w') ⟨HR1.out.setFirst _, HF1.out.setCell (.inl (.inl rfl)) _⟩ ?_
    rintro w2 ⟨hR2, hF2⟩
    have e1 : w2.cell? ⟨L.bx, 3, none⟩ = some (.slice (some ⟨L.bh, 0, none⟩) N N) := hR2.x.cell (k := 3) (by decide)
    have e2 : w2.cell? ⟨L.bh, i, none⟩ = some (.int .i64 (S.ahead i)) := hR2.h.cell hi
    have e3 : w2.cell? ⟨L.bx, 4, none⟩ = some (.slice (some ⟨L.bn, 0, none⟩) N N) := hR2.x.cell (k := 4) (by decide)
    have e4 : w2.cell? ⟨L.bn, i, none⟩ = some (.int .i64 (S.next i)) := hR2.nx.cell hi
    have e5 : w2.cell? ⟨L.bx, 7, none⟩ = some (.int .i64 S.last) := hR2.x.cell (k := 7) (by decide)
    have e6 := hR2.x.frozen 7
    have HR2 := Lib.hid hR2
    have HF2 := Lib.hid hF2
    clear hR2 hF2
    rcases HX.out with hx | ⟨x, hx, hxN, hxi⟩
    · rw [hx] at e4
      have HX1 := Lib.hid hx
      clear hx
      go_upto_region 8 with fail
      clear e1 e2 e3 e4 e5 e6
      refine wp_world (fun w' => Rep w' L N { setLoc S p (S.chain i) with first := S.next i, last := S.ahead i } ∧ Frm L.owns w w') ⟨HR2.out.setLast _, HF2.out.setCell (.inl (.inl rfl)) _⟩ ?_
      rintro w3 ⟨hR3, hF3⟩
      have e1 : w3.cell? ⟨L.bx, 2, none⟩ = some (.slice (some ⟨L.bc, 0, none⟩) N N) := hR3.x.cell (k := 2) (by decide)
      have e2 : w3.cell? ⟨L.bx, 8, none⟩ = some (.int .i64 S.free) := hR3.x.cell (k := 8) (by decide)
      have e3 := hR3.x.frozen 8
      have e4 := hR3.c.cell hi
      generalize iRow _ i = y at e4
      have e5 := hR3.c.frozen i
      have e6 : w3.cell? ⟨L.bx, 9, none⟩ = some (.int .i64 S.n) := hR3.x.cell (k := 9) (by decide)
      have e7 := hR3.x.frozen 9
      have n3' := Ne.symm n3
      have HR3 := Lib.hid hR3
      have HF3 := Lib.hid hF3
      clear hR3 hF3
      go_region
      go_wp2_with fail
      go_end0
      refine ⟨rfl, ?_, ?_⟩
      · have hh := ((((HR3.out.setC i S.free).setFree i).drew).setCount (S.n - 1))
        rw [show ((S.n - 1 : Nat) : Int) = (S.n : Int) - 1 from by omega] at hh
        have e : takeS S p i = { setLoc S p (S.chain i) with chain := upd (setLoc S p (S.chain i)).chain i S.free, first := S.next i, next := S.next, last := S.ahead i, ahead := S.ahead, free := i, n := S.n - 1 } := by
          have cA : (S.ahead i = -1) = True := eq_true HA1.out
          have cX : (S.next i = -1) = True := eq_true HX1.out
          have tA : True := trivial
          have tX : True := trivial
          simp only [takeS, setLoc, cA, cX, tA, tX, if_true, if_false]
        rw [e]
        exact hh
      · exact ((HF3.out.setCell (.inl (.inr (.inr (.inr (.inl rfl))))) _).setCell (.inl (.inl rfl)) _).drew.setCell (.inl (.inl rfl)) _
    · rw [hx] at e4
      have HX1 := Lib.hid hx
      clear hx
      have e7 : w2.cell? ⟨L.bh, x, none⟩ = some (.int .i64 (S.ahead x)) := HR2.out.h.cell hxN
      have e8 := HR2.out.h.frozen x
      go_upto_region 7 with fail
      go_region
      go_upto_region 8 with fail
      clear e1 e2 e3 e4 e5 e6 e7 e8
      refine wp_world (fun w' => Rep w' L N { setLoc S p (S.chain i) with first := S.next i, ahead := upd S.ahead x (S.ahead i) } ∧ Frm L.owns w w') ⟨(HR2.out.setH x (S.ahead i)).drew, (HF2.out.setCell (.inl (.inr (.inr (.inr (.inr (.inl rfl)))))) _).drew⟩ ?_
      rintro w3 ⟨hR3, hF3⟩
      have e1 : w3.cell? ⟨L.bx, 2, none⟩ = some (.slice (some ⟨L.bc, 0, none⟩) N N) := hR3.x.cell (k := 2) (by decide)
      have e2 : w3.cell? ⟨L.bx, 8, none⟩ = some (.int .i64 S.free) := hR3.x.cell (k := 8) (by decide)
      have e3 := hR3.x.frozen 8
      have e4 := hR3.c.cell hi
      generalize iRow _ i = y at e4
      have e5 := hR3.c.frozen i
      have e6 : w3.cell? ⟨L.bx, 9, none⟩ = some (.int .i64 S.n) := hR3.x.cell (k := 9) (by decide)
      have e7 := hR3.x.frozen 9
      have n3' := Ne.symm n3
      have HR3 := Lib.hid hR3
      have HF3 := Lib.hid hF3
      clear hR3 hF3
      go_region
      go_wp2_with fail
      go_end0
      refine ⟨rfl, ?_, ?_⟩
      · have hh := ((((HR3.out.setC i S.free).setFree i).drew).setCount (S.n - 1))
        rw [show ((S.n - 1 : Nat) : Int) = (S.n : Int) - 1 from by omega] at hh
        have e : takeS S p i = { setLoc S p (S.chain i) with chain := upd (setLoc S p (S.chain i)).chain i S.free, first := S.next i, next := S.next, last := S.last, ahead := upd S.ahead x (S.ahead i), free := i, n := S.n - 1 } := by
          have cA : (S.ahead i = -1) = True := eq_true HA1.out
          have cX : (S.next i = -1) = False := eq_false (by rw [HX1.out]; omega)
          have tA : True := trivial
          have tX : (S.next i).toNat = x := by rw [HX1.out]; rfl
          simp only [takeS, setLoc, cA, cX, tA, tX, if_true, if_false]
        rw [e]
        exact hh
      · exact ((HF3.out.setCell (.inl (.inr (.inr (.inr (.inl rfl))))) _).setCell (.inl (.inl rfl)) _).drew.setCell (.inl (.inl rfl)) _
  · rw [ha] at e2
    have HA1 := Lib.hid ha
    clear ha
    have e7 : w1.cell? ⟨L.bn, j, none⟩ = some (.int .i64 (S.next j)) := HR1.out.nx.cell hjN
    have e8 := HR1.out.nx.frozen j
    go_upto_region 4 with fail
    go_region
    go_upto_region 5 with fail
    clear e1 e2 e3 e4 e5 e6 e7 e8
    refine wp_world (fun w' => Rep w' L N { setLoc S p (S.chain i) with next := upd S.next j (S.next i) } ∧ Frm L.owns w w') ⟨(HR1.out.setN j (S.next i)).drew, (HF1.out.setCell (.inl (.inr (.inr (.inr (.inr (.inr (.inl rfl))))))) _).drew⟩ ?_
    rintro w2 ⟨hR2, hF2⟩
    have e1 : w2.cell? ⟨L.bx, 3, none⟩ = some (.slice (some ⟨L.bh, 0, none⟩) N N) := hR2.x.cell (k := 3) (by decide)
    have e2 : w2.cell? ⟨L.bh, i, none⟩ = some (.int .i64 (S.ahead i)) := hR2.h.cell hi
    have e3 : w2.cell? ⟨L.bx, 4, none⟩ = some (.slice (some ⟨L.bn, 0, none⟩) N N) := hR2.x.cell (k := 4) (by decide)
    have e4 : w2.cell? ⟨L.bn, i, none⟩ = some (.int .i64 (S.next i)) := by rw [hR2.nx.cell hi]; simp [iRow, upd, Ne.symm hji]
    have e5 : w2.cell? ⟨L.bx, 7, none⟩ = some (.int .i64 S.last) := hR2.x.cell (k := 7) (by decide)
    have e6 := hR2.x.frozen 7
    have HR2 := Lib.hid hR2
    have HF2 := Lib.hid hF2
    clear hR2 hF2
    rcases HX.out with hx | ⟨x, hx, hxN, hxi⟩
    · rw [hx] at e4
      have HX1 := Lib.hid hx
      clear hx
      go_upto_region 8 with fail
      clear e1 e2 e3 e4 e5 e6
      refine wp_world (fun w' => Rep w' L N { setLoc S p (S.chain i) with next := upd S.next j (S.next i), last := S.ahead i } ∧ Frm L.owns w w') ⟨HR2.out.setLast _, HF2.out.setCell (.inl (.inl rfl)) _⟩ ?_
      rintro w3 ⟨hR3, hF3⟩
      have e1 : w3.cell? ⟨L.bx, 2, none⟩ = some (.slice (some ⟨L.bc, 0, none⟩) N N) := hR3.x.cell (k := 2) (by decide)
      have e2 : w3.cell? ⟨L.bx, 8, none⟩ = some (.int .i64 S.free) := hR3.x.cell (k := 8) (by decide)
      have e3 := hR3.x.frozen 8
      have e4 := hR3.c.cell hi
      generalize iRow _ i = y at e4
      have e5 := hR3.c.frozen i
      have e6 : w3.cell? ⟨L.bx, 9, none⟩ = some (.int .i64 S.n) := hR3.x.cell (k := 9) (by decide)
      have e7 := hR3.x.frozen 9
      have n3' := Ne.symm n3
      have HR3 := Lib.hid hR3
      have HF3 := Lib.hid hF3
      clear hR3 hF3
      go_region
      go_wp2_with fail
      go_end0
      refine ⟨rfl, ?_, ?_⟩
      · have hh := ((((HR3.out.setC i S.free).setFree i).drew).setCount (S.n - 1))
        rw [show ((S.n - 1 : Nat) : Int) = (S.n : Int) - 1 from by omega] at hh
        have e : takeS S p i = { setLoc S p (S.chain i) with chain := upd (setLoc S p (S.chain i)).chain i S.free, first := S.first, next := upd S.next j (S.next i), last := S.ahead i, ahead := S.ahead, free := i, n := S.n - 1 } := by
          have cA : (S.ahead i = -1) = False := eq_false (by rw [HA1.out]; omega)
          have cX : (S.next i = -1) = True := eq_true HX1.out
          have tA : (S.ahead i).toNat = j := by rw [HA1.out]; rfl
          have tX : True := trivial
          simp only [takeS, setLoc, cA, cX, tA, tX, if_true, if_false]
        rw [e]
        exact hh
      · exact ((HF3.out.setCell (.inl (.inr (.inr (.inr (.inl rfl))))) _).setCell (.inl (.inl rfl)) _).drew.setCell (.inl (.inl rfl)) _
    · rw [hx] at e4
      have HX1 := Lib.hid hx
      clear hx
      have e7 : w2.cell? ⟨L.bh, x, none⟩ = some (.int .i64 (S.ahead x)) := HR2.out.h.cell hxN
      have e8 := HR2.out.h.frozen x
      go_upto_region 7 with fail
      go_region
      go_upto_region 8 with fail
      clear e1 e2 e3 e4 e5 e6 e7 e8
      refine wp_world (fun w' => Rep w' L N { setLoc S p (S.chain i) with next := upd S.next j (S.next i), ahead := upd S.ahead x (S.ahead i) } ∧ Frm L.owns w w') ⟨(HR2.out.setH x (S.ahead i)).drew, (HF2.out.setCell (.inl (.inr (.inr (.inr (.inr (.inl rfl)))))) _).drew⟩ ?_
      rintro w3 ⟨hR3, hF3⟩
      have e1 : w3.cell? ⟨L.bx, 2, none⟩ = some (.slice (some ⟨L.bc, 0, none⟩) N N) := hR3.x.cell (k := 2) (by decide)
      have e2 : w3.cell? ⟨L.bx, 8, none⟩ = some (.int .i64 S.free) := hR3.x.cell (k := 8) (by decide)
      have e3 := hR3.x.frozen 8
      have e4 := hR3.c.cell hi
      generalize iRow _ i = y at e4
      have e5 := hR3.c.frozen i
      have e6 : w3.cell? ⟨L.bx, 9, none⟩ = some (.int .i64 S.n) := hR3.x.cell (k := 9) (by decide)
      have e7 := hR3.x.frozen 9
      have n3' := Ne.symm n3
      have HR3 := Lib.hid hR3
      have HF3 := Lib.hid hF3
      clear hR3 hF3
      go_region
      go_wp2_with fail
      go_end0
      refine ⟨rfl, ?_, ?_⟩
      · have hh := ((((HR3.out.setC i S.free).setFree i).drew).setCount (S.n - 1))
        rw [show ((S.n - 1 : Nat) : Int) = (S.n : Int) - 1 from by omega] at hh
        have e : takeS S p i = { setLoc S p (S.chain i) with chain := upd (setLoc S p (S.chain i)).chain i S.free, first := S.first, next := upd S.next j (S.next i), last := S.last, ahead := upd S.ahead x (S.ahead i), free := i, n := S.n - 1 } := by
          have cA : (S.ahead i = -1) = False := eq_false (by rw [HA1.out]; omega)
          have cX : (S.next i = -1) = False := eq_false (by rw [HX1.out]; omega)
          have tA : (S.ahead i).toNat = j := by rw [HA1.out]; rfl
          have tX : (S.next i).toNat = x := by rw [HX1.out]; rfl
          simp only [takeS, setLoc, cA, cX, tA, tX, if_true, if_false]
        rw [e]
        exact hh
      · exact ((HF3.out.setCell (.inl (.inr (.inr (.inr (.inl rfl))))) _).setCell (.inl (.inl rfl)) _).drew.setCell (.inl (.inl rfl)) _
end Go.Proofs.Ytccgdfamjohmgaa
