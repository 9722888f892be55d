/- The laws' helper does: the index and the document's index do an op alike. Condition: both hold the same entries. -/
import Derived.Test.YtccgdfamjohmgaaRefB
import Derived.Test.YtccgdfamjohmgaaApartP
import Derived.Test.YtccgdfamjohmgaaApartW
set_option linter.unusedVariables false
namespace Go.Proofs.Ytccgdfamjohmgaa
open Go.RowKit Go.Ice

/-- The index holds A, the document's index in block q holds B. -/
structure St (w0 w : World) (L : Lay) (N : Nat) (A B : List (Nat × Adr)) (q : Nat) : Prop where
  own : Own1 w0 w L N A
  y : ∃ v, w.heap[q]? = some (.cells #[.int .i64 N, v] 46 (0, 0)) ∧ EntAt w v B ∧ ∀ b, v.ownBlock = some b → ¬ L.owns b ∧ b ≠ q
  qL : ¬ L.owns q
  q0 : w0.heap.size ≤ q
  hB : B.length ≤ N

theorem RowAt.frm {w w' : World} {c n : Nat} {v : Value} {X : Nat → Nat → Value} {T : Nat → Prop} (h : RowAt w c v n X) (hf : Frm T w w') (hT : ∀ b, v.ownBlock = some b → ¬ T b) : RowAt w' c v n X := by
  rcases h with h | ⟨h0, b, off, cap, hv, h1, h2, h3, h4⟩
  · exact .inl h
  · refine .inr ⟨h0, b, off, cap, hv, h1, h2, by have := hf.size; omega, fun i hi j hj => ?_⟩
    rw [hf.cell (p := ⟨b, off + (i * c + j), none⟩) h3 (hT b (by rw [hv]; rfl))]
    exact h4 i hi j hj

section
variable {w0 w w' : World} {L : Lay} {N : Nat} {A B A' B' : List (Nat × Adr)} {q : Nat}
theorem St.below (h : St w0 w L N A B q) (hb : Below w.heap.size w w') : St w0 w' L N A B q := by
  obtain ⟨v, h1, h2, h3⟩ := h.y
  exact ⟨h.own.below hb, ⟨v, (hb.block q (Array.getElem?_eq_some_iff.1 h1).1).trans h1, h2.below hb (Nat.le_refl _), h3⟩, h.qL, h.q0, h.hB⟩
theorem St.drewN (h : St w0 w L N A B q) (n : Nat) : St w0 (w.drewN n) L N A B q := h.below (drewN_below w n)
theorem St.idx (h : St w0 w L N A B q) (hf : Frm L.owns w w') (h' : IdxAt w' L N A') : St w0 w' L N A' B q := by
  obtain ⟨v, h1, h2, h3⟩ := h.y
  exact ⟨h.own.step hf h', ⟨v, (hf.block q (Array.getElem?_eq_some_iff.1 h1).1 h.qL).trans h1, h2.frm hf (fun b hb => (h3 b hb).1), h3⟩, h.qL, h.q0, h.hB⟩
theorem St.qlt (h : St w0 w L N A B q) : q < w.heap.size := by
  obtain ⟨v, h1, _⟩ := h.y
  exact (Array.getElem?_eq_some_iff.1 h1).1
/-- The document's index is written anew. -/
theorem St.ref (h : St w0 w L N A B q) (hb : Below w.heap.size w w') {v v' : Value} (hv : w.heap[q]? = some (.cells #[.int .i64 N, v] 46 (0, 0))) (he : EntAt w' v' B') (hw : v' = v ∨ ∀ b, v'.ownBlock = some b → w.heap.size ≤ b) (hl : B'.length ≤ N) :
    St w0 ((w'.setCell ⟨q, 0, none⟩ (.int .i64 N)).setCell ⟨q, 1, none⟩ v') L N A B' q := by
  obtain ⟨v1, h1, h2, h3⟩ := h.y
  obtain rfl : v = v1 := by rw [hv] at h1; injection h1 with h1; injection h1 with h1; simp at h1; exact h1
  have hq := h.qlt
  have ho := h.own.below hb
  have hf : Frm (fun k => k = q) w' ((w'.setCell ⟨q, 0, none⟩ (.int .i64 N)).setCell ⟨q, 1, none⟩ v') := ((Frm.refl (fun k => k = q) w').setCell (p := ⟨q, 0, none⟩) (.inl rfl) _).setCell (p := ⟨q, 1, none⟩) (.inl rfl) _
  have hbq : ∀ b, v'.ownBlock = some b → ¬ L.owns b ∧ b ≠ q := fun b hb' => by
    rcases hw with rfl | hw
    · exact h3 b hb'
    · have := hw b hb'
      exact ⟨fun ho => by have := h.own.here.lt b ho; omega, by omega⟩
  refine ⟨⟨ho.here.frm hf (fun k hk e => h.qL (e ▸ hk)), ho.lo, (ho.bel.setCell (p := ⟨q, 0, none⟩) h.q0 _).setCell (p := ⟨q, 1, none⟩) h.q0 _⟩, ⟨v', ?_, he.frm hf (fun b hb' => (hbq b hb').2), hbq⟩, h.qL, h.q0, hl⟩
  have hb1 := (hb.block q hq).trans hv
  simp [World.setCell, Array.getElem?_modify, hb1]
end

def opA (N : Nat) (A : List (Nat × Adr)) (o : OpV) : List (Nat × Adr) :=
  if kindF o.kind = 0 then (addA A N o.f o.a).2 else if kindF o.kind = 1 then (remA A o.f o.a).2 else if kindF o.kind = 2 then A.filter (keepA o.a.gen) else A

theorem opA_len {N : Nat} {A : List (Nat × Adr)} {o : OpV} (h : A.length ≤ N) : (opA N A o).length ≤ N := by
  unfold opA addA remA
  have h1 := List.length_filter_le (keepA o.a.gen) A
  have h2 := List.length_filter_le (fun e => !decide (e = (o.f, o.a))) A
  split
  · split
    · exact h
    · split
      · exact h
      · simp; omega
  · split
    · split
      · simp only; omega
      · exact h
    · split
      · omega
      · exact h

set_option maxRecDepth 100000 in
set_option maxHeartbeats 8000000 in
theorem does_add (w0 w : World) (L : Lay) (N : Nat) (A : List (Nat × Adr)) (q : Nat) (o : OpV) (h : St w0 w L N A A q) (hff : o.f ≤ 4294967295) (hk : kindF o.kind = 0) :
    Calls Try.prog 19 #[.pointer (some ⟨L.bx, 0, none⟩), .pointer (some ⟨q, 0, none⟩), opV o] w fun e w' => e = .returned (.bool true) ∧ St w0 w' L N (addA A N o.f o.a).2 (addA A N o.f o.a).2 q ∧ Frm (fun k => L.owns k ∨ k = q) w w' := by
  have hN := h.own.here.le
  obtain ⟨W1, hW1⟩ : ∃ W1, W1 = w.alloc (.cells #[.int .i64 o.kind, .int .u32 o.f, .int .i64 o.a.seg, .int .u64 o.a.gen, .int .i64 o.a.sec] 34) := ⟨_, rfl⟩
  have hb1 : Below w.heap.size w W1 := by rw [hW1]; exact (Below.refl _ w).alloc (Nat.le_refl _) _
  have ho1 : OpAt W1 w.heap.size o := by rw [hW1]; exact OpAt.new w o 34
  have HS1 := Lib.hid (h.below hb1)
  have HF1 : Hid (Frm (fun k => L.owns k ∨ k = q) w W1) := frm_below hb1
  have HO1 := Lib.hid ho1
  have HW := Lib.hid hW1.symm
  have HNL : Hid (¬ L.owns w.heap.size) := fun hl => by have := h.own.here.lt _ hl; omega
  have HQN : Hid (q ≠ w.heap.size) := by have := h.qlt; show _ ≠ _; omega
  have HK := Lib.hid hk
  clear h hb1 ho1 hW1 hk
  unfold opV
  go_enter Try.func19, Try.ntmps19
  go_upto_region 1 with fail
  rw [HW.out]
  have h5 := HO1.out.2
  have c0 := h5 0 (by decide)
  have c1 := h5 1 (by decide)
  have c2 := h5 2 (by decide)
  have c3 := h5 3 (by decide)
  have c4 := h5 4 (by decide)
  simp only [OpV.cell] at c0 c1 c2 c3 c4
  clear h5
  go_wp2_with fail
  refine (kind_of o 0 HK.out _).mono ?_
  rintro e W2 ⟨rfl, hb⟩
  have HS2 := Lib.hid (HS1.out.below hb)
  have HF2 : Hid (Frm (fun k => L.owns k ∨ k = q) w W2) := HF1.out.trans (frm_below hb)
  have HO2 := Lib.hid (HO1.out.below hb)
  clear hb c0 c1 c2 c3 c4 HS1 HO1
  have h5 := HO2.out.2
  have c1 := h5 1 (by decide)
  have c2 := h5 2 (by decide)
  have c3 := h5 3 (by decide)
  have c4 := h5 4 (by decide)
  simp only [OpV.cell] at c1 c2 c3 c4
  clear h5
  go_wp2_with fail
  refine (add_at W2 L N A o.f o.a hff HS2.out.own.here).mono ?_
  rintro e W3 ⟨rfl, hi, hf⟩
  have HS3 := Lib.hid (HS2.out.idx hf hi)
  have HF3 : Hid (Frm (fun k => L.owns k ∨ k = q) w W3) := HF2.out.trans (hf.mono (fun k _ h => .inl h))
  have HO3 := Lib.hid (HO2.out.frm hf HNL.out)
  clear hi hf c1 c2 c3 c4 HS2 HO2
  have h5 := HO3.out.2
  have c1 := h5 1 (by decide)
  have c2 := h5 2 (by decide)
  have c3 := h5 3 (by decide)
  have c4 := h5 4 (by decide)
  simp only [OpV.cell] at c1 c2 c3 c4
  clear h5
  obtain ⟨v, y1, y2, y3⟩ := HS3.out.y
  have d0 : W3.cell? ⟨q, 0, none⟩ = some (.int .i64 N) := blk_cell y1 0
  have d1 : W3.cell? ⟨q, 1, none⟩ = some v := blk_cell y1 1
  have HAR : Hid (∀ m, Calls Try.prog 26 #[.agg #[.int .i64 N, v], .int .u32 o.f, .agg #[.int .i64 o.a.seg, .int .u64 o.a.gen, .int .i64 o.a.sec]] (W3.drewN m) (RefPost (W3.drewN m) N v (addA A N o.f o.a).2 (addA A N o.f o.a).1)) :=
    fun m => add_ref (W3.drewN m) N v A o.f o.a (y2.below (drewN_below W3 m) (Nat.le_refl _)) (by omega) (by omega)
  have HY1 := Lib.hid y1
  clear y1 y2 y3
  have HLEN : Hid ((addA A N o.f o.a).2.length ≤ N) := by
    have := opA_len (o := o) hN.1
    unfold opA at this
    rw [if_pos HK.out] at this
    exact this
  have hee : ((addA A N o.f o.a).1 == (addA A N o.f o.a).1) = true := beq_iff_eq.2 rfl
  go_upto_region 17 with fail
  go_region_with (go_at_call 26
                  refine (HAR.out 1).mono ?_
                  rintro e W4 ⟨v4, rfl, he4, hw4, hb4⟩
                  obtain ⟨a4, cap4, rfl, _⟩ := RowAt.form he4
                  have hy4 := (hb4.block q HS3.out.qlt).trans HY1.out
                  have e0 : W4.cell? ⟨q, 0, none⟩ = some (.int .i64 N) := blk_cell hy4 0
                  have e1 : W4.cell? ⟨q, 1, none⟩ = some v := blk_cell hy4 1
                  have e2 : W4.frozen? ⟨q, 0, none⟩ = false := blk_frozen hy4 0
                  have e3 : W4.frozen? ⟨q, 1, none⟩ = false := blk_frozen hy4 1
                  have HFE : Hid (Frm (fun k => L.owns k ∨ k = q) w W4) := (HF3.out.trans (frm_below (drewN_below W3 1))).trans (frm_below hb4)
                  have HSE := Lib.hid ((HS3.out.drewN 1).ref hb4 HY1.out he4 hw4 HLEN.out)
                  clear he4 hw4 hb4 hy4)
  all_goals
    go_wp2_with fail
    go_ret
    exact ⟨by simp, HSE.out, (HFE.out.setCell (.inl (.inr rfl)) _).setCell (.inl (.inr rfl)) _⟩
end Go.Proofs.Ytccgdfamjohmgaa
