/- index.Remove, Len, Left and New in memory. Conditions: the index is laid out in its blocks; the links of the finger's chain lead along a list. -/
import Derived.Test.YtccgdfamjohmgaaFind
import Derived.Laws.MakeOwn
set_option linter.unusedVariables false
namespace Go.Proofs.Ytccgdfamjohmgaa
open Go.RowKit Go.Ice

theorem len (w : World) (L : Lay) (N : Nat) (S : IdxS) (h : Rep w L N S) :
    Calls Try.prog 17 #[.pointer (some ⟨L.bx, 0, none⟩)] w fun e w' => e = .returned (.int .i64 S.n) ∧ w = w' := by
  have hx9 : w.cell? ⟨L.bx, 9, none⟩ = some (.int .i64 S.n) := h.x.cell (k := 9) (by decide)
  clear h
  go_enter Try.func17, Try.ntmps17
  go_wp2_with fail
  go_ret
  exact ⟨rfl, rfl⟩

theorem left (w : World) (L : Lay) (N : Nat) (S : IdxS) (h : Rep w L N S) (hn : S.n ≤ N) :
    Calls Try.prog 18 #[.pointer (some ⟨L.bx, 0, none⟩)] w fun e w' => e = .returned (.int .i64 ((N - S.n : Nat) : Int)) ∧ ∃ m, w' = w.drewN m := by
  have hx9 : w.cell? ⟨L.bx, 9, none⟩ = some (.int .i64 S.n) := h.x.cell (k := 9) (by decide)
  have hx0 : w.cell? ⟨L.bx, 0, none⟩ = some (.slice (some ⟨L.bf, 0, none⟩) N N) := h.x.cell (k := 0) (by decide)
  have hN := h.hN
  have hs : IntKind.i64.wrap ((N : Int) - (S.n : Int)) = ((N - S.n : Nat) : Int) := by rw [IntWalk.i64_in _ (by omega)]; omega
  clear h
  go_enter Try.func18, Try.ntmps18
  go_wp2_with fail
  go_quiet (fail)
  go_wp2_with fail
  go_ret
  exact ⟨rfl, nq, rfl⟩

theorem remove_none (w : World) (L : Lay) (N : Nat) (S : IdxS) (f : Nat) (a : Adr) (l : List Nat) (hf : f ≤ 4294967295) (h : Rep w L N S) (hl : Links S.chain (S.heads (f % N)) l) (hlN : ∀ k ∈ l, k < N)
    (hq : (locate S f a (true, f % N) l).fits N) (hv : (locate S f a (true, f % N) l).val S = -1) :
    Calls Try.prog 14 #[.pointer (some ⟨L.bx, 0, none⟩), .int .u32 f, adrV a] w fun e w' => e = .returned (.int .i64 4) ∧ Below w.heap.size w w' := by
  have hb0 : Below w.heap.size w (w.alloc (.cells #[.int .i64 a.seg, .int .u64 a.gen, .int .i64 a.sec] 32)) := (Below.refl _ w).alloc (Nat.le_refl _) _
  have hfd := find _ L N S f a l hf (h.below hb0) hl hlN
  have HR := Lib.hid (h.below hb0)
  have HF := Lib.hid hfd
  have HB := Lib.hid hb0
  have HQ := Lib.hid hq
  generalize hp : locate S f a (true, f % N) l = p at *
  have HV := Lib.hid hv
  clear h hb0 hfd hl hlN hp hq hv
  unfold adrV at *
  go_enter Try.func14, Try.ntmps14
  go_wp2_with fail
  refine HF.out.mono ?_
  rintro e w1 ⟨rfl, hb1⟩
  have hc := (HR.out.below hb1).locCell p HQ.out
  rw [HV.out] at hc
  have HB1 : Hid (Below w.heap.size w w1) := HB.out.trans (hb1.mono HB.out.size)
  clear hb1
  go_wp2_with fail
  go_ret
  exact ⟨rfl, HB1.out⟩

theorem remove_ok (w : World) (L : Lay) (N : Nat) (S : IdxS) (f : Nat) (a : Adr) (l : List Nat) (p : Loc) (i : Nat) (hf : f ≤ 4294967295) (h : Rep w L N S) (hl : Links S.chain (S.heads (f % N)) l) (hlN : ∀ k ∈ l, k < N)
    (hpl : locate S f a (true, f % N) l = p) (hp : p.fits N) (hv : p.val S = i) (hi : i < N) (hpi : p ≠ (false, i))
    (ha : S.ahead i = -1 ∨ ∃ j : Nat, S.ahead i = j ∧ j < N ∧ j ≠ i) (hx : S.next i = -1 ∨ ∃ j : Nat, S.next i = j ∧ j < N ∧ j ≠ i) (hn : 1 ≤ S.n) (hn2 : S.n ≤ 1024) :
    Calls Try.prog 14 #[.pointer (some ⟨L.bx, 0, none⟩), .int .u32 f, adrV a] w fun e w' => e = .returned (.int .i64 0) ∧ Rep w' L N (takeS S p i) ∧ Frm L.owns w w' := by
  have hb0 : Below w.heap.size w (w.alloc (.cells #[.int .i64 a.seg, .int .u64 a.gen, .int .i64 a.sec] 32)) := (Below.refl _ w).alloc (Nat.le_refl _) _
  have hfd := find _ L N S f a l hf (h.below hb0) hl hlN
  rw [hpl] at hfd
  have HR := Lib.hid (h.below hb0)
  have HF := Lib.hid hfd
  have HB := Lib.hid hb0
  have HT := Lib.hid (fun w h => take w L N S p i h hp hv hi hpi ha hx hn hn2)
  have HQ := Lib.hid hp
  have HV := Lib.hid hv
  clear h hb0 hfd hl hlN hp hv hpl ha hx hpi
  unfold adrV at *
  go_enter Try.func14, Try.ntmps14
  go_wp2_with fail
  refine HF.out.mono ?_
  rintro e w1 ⟨rfl, hb1⟩
  have hR1 := HR.out.below hb1
  have hc := hR1.locCell p HQ.out
  rw [HV.out] at hc
  have HB1 : Hid (Below w.heap.size w w1) := HB.out.trans (hb1.mono HB.out.size)
  have HR1 := Lib.hid hR1
  clear hb1 hR1
  go_wp2_with fail
  refine (HT.out _ HR1.out).mono ?_
  rintro e w2 ⟨rfl, hr2, hf2⟩
  have HR2 := Lib.hid hr2
  have HF2 := Lib.hid hf2
  clear hr2 hf2
  go_wp2_with fail
  go_ret
  exact ⟨rfl, HR2.out, (frm_below HB1.out).trans HF2.out⟩
end Go.Proofs.Ytccgdfamjohmgaa
