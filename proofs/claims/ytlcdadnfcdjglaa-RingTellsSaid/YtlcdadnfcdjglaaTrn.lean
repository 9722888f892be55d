/- A segment is opened, used, sealed, freed, or why nothing. Conditions: the segments lie in memory; at most a thousand. -/
import Derived.Test.YtlcdadnfcdjglaaNxt
import Derived.Test.YtlcdadnfcdjglaaKp
set_option linter.unusedVariables false
set_option linter.unusedSimpArgs false
namespace Go.Proofs.Ytlcdadnfcdjglaa
open Go.RowKit Go.Ice Go.Ring

/-- What a turn answers, in memory: the ring, or an empty one. -/
def secOf (sec : Int) (o : Option (List Seg)) : Int := if o.isSome then sec else 0
def segsOf (o : Option (List Seg)) : List Seg := o.getD []
theorem ownNil (w : World) (base : Nat) : OwnSegs w base (.slice none 0 0) [] := World.ownsRow_nil _ _ _ _

/-- The end of a call that answers an empty ring, laid into block C. -/
theorem res_pair {W : World} {C : Nat} {c0 c1 : Value} (h : W.heap[C]? = some (.cells #[c0, c1] 25 (0, 0))) (v0 v1 : Value) :
    ((W.setCell ⟨C, 0, none⟩ v0).setCell ⟨C, 1, none⟩ v1).cell? ⟨C, 0, none⟩ = some v0 ∧ ((W.setCell ⟨C, 0, none⟩ v0).setCell ⟨C, 1, none⟩ v1).cell? ⟨C, 1, none⟩ = some v1 := res_cells (b' := 0) h

theorem below_two {w W : World} {B C : Nat} (h : Below B w W) (hC : B ≤ C) (v0 v1 : Value) : Below B w ((W.setCell ⟨C, 0, none⟩ v0).setCell ⟨C, 1, none⟩ v1) := (h.setCell hC _).setCell hC _

theorem own_sl {w : World} {base : Nat} {v : Value} {l : List Seg} (h : OwnSegs w base v l) : ∃ a n c, v = .slice a n c := by
  obtain ⟨a, c, h, _⟩ := own_form h
  exact ⟨a, _, c, h⟩

set_option maxHeartbeats 4000000 in
theorem seald (w : World) (sec : Int) (v : Value) (l : List Seg) (h : SegsAt w v l) :
    Calls Try.prog 36 #[ringV sec v] w fun e w' => ∃ u, e = .returned (.tuple #[ringV (secOf sec (sealF sec l).2) u, .int .i64 (sealF sec l).1]) ∧ OwnSegs w' w.heap.size u (segsOf (sealF sec l).2) ∧ Below w.heap.size w w' := by
  obtain ⟨B, C, W0, HB, HC, HW, HK, HZ⟩ := boxed2 w #[.int .i64 sec, v] 25 #[.int .i64 0, .slice none 0 0] 25
  have HR : Hid (SegsAt W0 v l) := RowAt.below h HK.out.below (Nat.le_refl _)
  have HCK := Lib.hid (opened W0 sec v l HR.out)
  have b0 : W0.cell? ⟨B, 0, none⟩ = some (.int .i64 sec) := blk_cell HK.out.b0 0
  have b1 : W0.cell? ⟨B, 1, none⟩ = some v := blk_cell HK.out.b0 1
  have HF : Hid (sealF sec l = if checkB sec l = false then ((180 : Int), none) else match openedP l with | none => (181, none) | some i => (0, some (l.set i { at' l i with st := 2 }))) := rfl
  generalize sealF sec l = F at *
  obtain ⟨cb, hcb⟩ : ∃ cb, cb = checkB sec l := ⟨_, rfl⟩
  obtain ⟨op, hop⟩ : ∃ op, op = openedP l := ⟨_, rfl⟩
  rw [← hcb, ← hop] at HCK HF
  have HCB := Lib.hid hcb
  have HOP := Lib.hid hop
  clear h hcb hop
  unfold ringV at HCK ⊢
  go_enter Try.func36, Try.ntmps36
  go_upto_region 1 with fail
  rw [HC.out, HB.out, HW.out]
  go_wp2_with fail
  refine HCK.out.mono ?_
  rintro e w1 ⟨rfl, hbl⟩
  have HK1 := Lib.hid (HK.out.step hbl)
  have HR1 : Hid (SegsAt w1 v l) := RowAt.below HR.out hbl (Nat.le_refl _)
  clear hbl b0 b1 HCK HK HR
  have e0 : w1.cell? ⟨C, 0, none⟩ = some (.int .i64 0) := blk_cell HK1.out.b1 0
  have e1 : w1.cell? ⟨C, 1, none⟩ = some (.slice none 0 0) := blk_cell HK1.out.b1 1
  have fe0 := fun r => blk_frozen HK1.out.b1 r
  unfold openedV
  cases cb with
  | false =>
    simp only [Bool.false_eq_true, if_false, if_true] at HF ⊢
    go_wp2_with fail
    obtain ⟨r0, r1⟩ := res_pair HK1.out.b1 (.int .i64 0) (.slice none 0 0)
    refine bodyPost_ret (v := .tuple #[.agg #[.int .i64 0, .slice none 0 0], .int .i64 180]) (by simp [results, Try.f36, go_sem, r0, r1]) rfl ⟨.slice none 0 0, by rw [HF.out]; rfl, by rw [HF.out]; exact ownNil _ _, below_two HK1.out.below (by have := HC.out; omega) _ _⟩
  | true =>
    cases op with
    | none =>
      simp only [Bool.true_eq_false, if_false, if_true] at HF ⊢
      go_wp2_with fail
      obtain ⟨r0, r1⟩ := res_pair HK1.out.b1 (.int .i64 0) (.slice none 0 0)
      refine bodyPost_ret (v := .tuple #[.agg #[.int .i64 0, .slice none 0 0], .int .i64 181]) (by simp [results, Try.f36, go_sem, r0, r1]) rfl ⟨.slice none 0 0, by rw [HF.out]; rfl, by rw [HF.out]; exact ownNil _ _, below_two HK1.out.below (by have := HC.out; omega) _ _⟩
    | some i =>
      simp only [Bool.true_eq_false, if_false, if_true] at HF ⊢
      have hil := opened_lt HOP.out.symm
      have HT := Lib.hid (turnd w1 sec v l i 56 #[] { at' l i with st := 2 } HR1.out (by have := check_size HCB.out.symm; omega) hil.1 cf56 (fun W g cur _ _ h1 h2 h3 => turn_seal W g (i * 3) cur h1 h2 (at' l i) h3))
      have b0 : w1.cell? ⟨B, 0, none⟩ = some (.int .i64 sec) := blk_cell HK1.out.b0 0
      have b1 : w1.cell? ⟨B, 1, none⟩ = some v := blk_cell HK1.out.b0 1
      unfold ringV at HT
      clear hil e0 e1 fe0
      go_wp2_with fail
      refine HT.out.mono ?_
      rintro e w2 ⟨u, rfl, ho, hbl⟩
      have HK2 := Lib.hid (HK1.out.step hbl)
      have HO := Lib.hid ho
      obtain ⟨au, nu, cu, rfl⟩ := own_sl ho
      have e0 : w2.cell? ⟨C, 0, none⟩ = some (.int .i64 0) := blk_cell HK2.out.b1 0
      have e1 : w2.cell? ⟨C, 1, none⟩ = some (.slice none 0 0) := blk_cell HK2.out.b1 1
      have fe0 := fun r => blk_frozen HK2.out.b1 r
      have hsz := blk_lt HK1.out.b1
      have HSZ := Lib.hid hsz
      clear hbl ho HT HR1 b0 b1 hsz
      go_wp2_with fail
      obtain ⟨r0, r1⟩ := res_pair HK2.out.b1 (.int .i64 sec) (.slice au nu cu)
      refine bodyPost_ret (v := .tuple #[.agg #[.int .i64 sec, .slice au nu cu], .int .i64 0]) (by simp [results, Try.f36, go_sem, r0, r1]) rfl ⟨_, by rw [HF.out]; rfl, by rw [HF.out]; exact own_base (own_set (own_set HO.out HSZ.out _) HSZ.out _) HK1.out.below.size, below_two HK2.out.below (by have := HC.out; omega) _ _⟩
end Go.Proofs.Ytlcdadnfcdjglaa
