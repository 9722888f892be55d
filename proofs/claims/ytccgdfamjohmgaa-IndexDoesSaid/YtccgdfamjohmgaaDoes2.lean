/- The laws' helper does: remove, drop. Condition: both hold the same entries. -/
import Derived.Test.YtccgdfamjohmgaaDoes
set_option linter.unusedVariables false
namespace Go.Proofs.Ytccgdfamjohmgaa
open Go.RowKit Go.Ice

theorem bcell {W W1 : World} (hb : Below W.heap.size W W1) : (∀ b o, b < W.heap.size → W1.cell? ⟨b, o, none⟩ = W.cell? ⟨b, o, none⟩) ∧ (∀ b o, b < W.heap.size → W1.frozen? ⟨b, o, none⟩ = W.frozen? ⟨b, o, none⟩) :=
  ⟨fun b o h => hb.cell (p := ⟨b, o, none⟩) h, fun b o h => hb.frozen (p := ⟨b, o, none⟩) h⟩

set_option maxRecDepth 100000 in
set_option maxHeartbeats 8000000 in
theorem does_rem (w0 w : World) (L : Lay) (N : Nat) (A : List (Nat × Adr)) (q : Nat) (o : OpV) (h : St w0 w L N A A q) (hff : o.f ≤ 4294967295) (hk : kindF o.kind = 1) :
    Calls Try.prog 19 #[.pointer (some ⟨L.bx, 0, none⟩), .pointer (some ⟨q, 0, none⟩), opV o] w fun e w' => e = .returned (.bool true) ∧ St w0 w' L N (remA A o.f o.a).2 (remA A o.f o.a).2 q ∧ Frm (fun k => L.owns k ∨ k = q) w w' := by
  have hN := h.own.here.le
  obtain ⟨W1, hW1⟩ : ∃ W1, W1 = w.alloc (.cells #[.int .i64 o.kind, .int .u32 o.f, .int .i64 o.a.seg, .int .u64 o.a.gen, .int .i64 o.a.sec] 34) := ⟨_, rfl⟩
  have hb1 : Below w.heap.size w W1 := by rw [hW1]; exact (Below.refl _ w).alloc (Nat.le_refl _) _
  have ho1 : OpAt W1 w.heap.size o := by rw [hW1]; exact OpAt.new w o 34
  have HS1 := Lib.hid (h.below hb1)
  have HF1 : Hid (Frm (fun k => L.owns k ∨ k = q) w W1) := frm_below hb1
  have HO1 := Lib.hid ho1
  have HW := Lib.hid hW1.symm
  have HNL : Hid (¬ L.owns w.heap.size) := fun hl => by have := h.own.here.lt _ hl; omega
  have HQN : Hid (q ≠ w.heap.size) := by have := h.qlt; show _ ≠ _; omega
  have HK := Lib.hid hk
  clear h hb1 ho1 hW1 hk
  unfold opV
  go_enter Try.func19, Try.ntmps19
  go_upto_region 1 with fail
  rw [HW.out]
  have h5 := HO1.out.2
  have c0 := h5 0 (by decide)
  have c1 := h5 1 (by decide)
  have c2 := h5 2 (by decide)
  have c3 := h5 3 (by decide)
  have c4 := h5 4 (by decide)
  simp only [OpV.cell] at c0 c1 c2 c3 c4
  clear h5
  go_wp2_with fail
  refine (kind_of o 1 HK.out _).mono ?_
  rintro e W2 ⟨rfl, hb⟩
  have HS2 := Lib.hid (HS1.out.below hb)
  have HF2 : Hid (Frm (fun k => L.owns k ∨ k = q) w W2) := HF1.out.trans (frm_below hb)
  have HO2 := Lib.hid (HO1.out.below hb)
  clear hb c0 c1 c2 c3 c4 HS1 HO1
  have h5 := HO2.out.2
  have c1 := h5 1 (by decide)
  have c2 := h5 2 (by decide)
  have c3 := h5 3 (by decide)
  have c4 := h5 4 (by decide)
  simp only [OpV.cell] at c1 c2 c3 c4
  clear h5
  go_wp2_with fail
  refine (remove_at W2 L N A o.f o.a hff HS2.out.own.here).mono ?_
  rintro e W3 ⟨rfl, hi, hf⟩
  have HS3 := Lib.hid (HS2.out.idx hf hi)
  have HF3 : Hid (Frm (fun k => L.owns k ∨ k = q) w W3) := HF2.out.trans (hf.mono (fun k _ h => .inl h))
  have HO3 := Lib.hid (HO2.out.frm hf HNL.out)
  clear hi hf c1 c2 c3 c4 HS2 HO2
  have h5 := HO3.out.2
  have c1 := h5 1 (by decide)
  have c2 := h5 2 (by decide)
  have c3 := h5 3 (by decide)
  have c4 := h5 4 (by decide)
  simp only [OpV.cell] at c1 c2 c3 c4
  clear h5
  obtain ⟨v, y1, y2, y3⟩ := HS3.out.y
  have d0 : W3.cell? ⟨q, 0, none⟩ = some (.int .i64 N) := blk_cell y1 0
  have d1 : W3.cell? ⟨q, 1, none⟩ = some v := blk_cell y1 1
  have HAR : Hid (∀ m, Calls Try.prog 27 #[.agg #[.int .i64 N, v], .int .u32 o.f, .agg #[.int .i64 o.a.seg, .int .u64 o.a.gen, .int .i64 o.a.sec]] (W3.drewN m) (RefPost (W3.drewN m) N v (remA A o.f o.a).2 (remA A o.f o.a).1)) :=
    fun m => by have := remove_ref (W3.drewN m) N v A o.f o.a (y2.below (drewN_below W3 m) (Nat.le_refl _)) (by omega); rw [show (if (o.f, o.a) ∈ A then (0 : Int) else 4) = (remA A o.f o.a).1 from by unfold remA; split <;> rfl] at this; exact this
  have HY1 := Lib.hid y1
  clear y1 y2 y3
  have HLEN : Hid ((remA A o.f o.a).2.length ≤ N) := by
    have := opA_len (o := o) hN.1
    unfold opA at this
    rw [if_neg (by rw [HK.out]; decide), if_pos HK.out] at this
    exact this
  have hee : ((remA A o.f o.a).1 == (remA A o.f o.a).1) = true := beq_iff_eq.2 rfl
  go_upto_region 20 with fail
  go_region_with (go_at_call 27
                  refine (HAR.out 1).mono ?_
                  rintro e W4 ⟨v4, rfl, he4, hw4, hb4⟩
                  obtain ⟨a4, cap4, rfl, _⟩ := RowAt.form he4
                  have hy4 := (hb4.block q HS3.out.qlt).trans HY1.out
                  have e0 : W4.cell? ⟨q, 0, none⟩ = some (.int .i64 N) := blk_cell hy4 0
                  have e1 : W4.cell? ⟨q, 1, none⟩ = some v := blk_cell hy4 1
                  have e2 : W4.frozen? ⟨q, 0, none⟩ = false := blk_frozen hy4 0
                  have e3 : W4.frozen? ⟨q, 1, none⟩ = false := blk_frozen hy4 1
                  have HFE : Hid (Frm (fun k => L.owns k ∨ k = q) w W4) := (HF3.out.trans (frm_below (drewN_below W3 1))).trans (frm_below hb4)
                  have HSE := Lib.hid ((HS3.out.drewN 1).ref hb4 HY1.out he4 hw4 HLEN.out)
                  clear he4 hw4 hb4 hy4)
  all_goals
    go_wp2_with fail
    go_ret
    exact ⟨by simp, HSE.out, (HFE.out.setCell (.inl (.inr rfl)) _).setCell (.inl (.inr rfl)) _⟩
end Go.Proofs.Ytccgdfamjohmgaa
