/- The laws' helper does: drop. Condition: both hold the same entries. -/
import Derived.Test.YtccgdfamjohmgaaDoes
import Derived.Test.YtccgdfamjohmgaaOrd2
set_option linter.unusedVariables false
namespace Go.Proofs.Ytccgdfamjohmgaa
open Go.RowKit Go.Ice

/-- A call in a region whose order is open, by its contract. -/
theorem wpOp_call {P : Program} {ops : Array Oper} {Q : Exit → Act → World → Prop} {i : Nat} {o : Oper} {K : Act → World → Prop} {a : Act} {w : World} (ho : ops[i]? = some o) (hg : o.guard = none) {f : FuncId} {args : Array Value}
    (hrun : (execOp a.eval o).run P w = .ok (.enter f args) w) {R : Ending → World → Prop} (hc : Calls P f args w R) (hR : ∀ e w', R e w' → ∃ v, e = .returned v ∧ K (a.put o.dst v) w') : wpOp P ops Q i K a w := by
  unfold wpOp
  rw [ho]
  simp only [Region.wanted, hg, if_true]
  left
  unfold Oper.wp
  rw [hrun]
  refine hc.mono ?_
  intro e w' h
  obtain ⟨v, rfl, hk⟩ := hR e w' h
  exact hk

/-- What the region of does, at a drop, has done. -/
structure DropI (w0 : World) (N : Nat) (v : Value) (B : List (Nat × Adr)) (done : Nat → Bool) (g10 : Nat) (v4 : Value) (w : World) : Prop where
  bel : Below w0.heap.size w0 w
  s6 : done 6 = true → EntAt w v4 B ∧ (v4 = v ∨ ∀ b, v4.ownBlock = some b → w0.heap.size ≤ b) ∧ (done 10 = true → 0 < B.length → v4.ownBlock = some g10 → v4 = v)
  s10 : done 10 = true → w.heap[g10]? = some (.cells #[if done 11 then .int .i64 N else .int .i64 0, if done 11 then v4 else .slice none 0 0] 46 (0, 0)) ∧ w0.heap.size ≤ g10
section
variable {w0 w : World} {N : Nat} {v v4 v5 : Value} {B : List (Nat × Adr)} {done : Nat → Bool} {g10 : Nat}
theorem DropI.cells (h : DropI w0 N v B done g10 v4 w) (p : Addr) (hp : p.block < w0.heap.size) : w.cell? p = w0.cell? p := h.bel.cell hp
theorem DropI.quiet (h : DropI w0 N v B done g10 v4 w) (i : Nat) (hi : i ∉ [6, 10, 11]) : DropI w0 N v B (fun k => decide (k = i) || done k) g10 v4 w := by
  have q : ∀ k ∈ [6, 10, 11], (decide (k = i) || done k) = done k := fun k hk => by
    have : k ≠ i := fun e => hi (e ▸ hk)
    simp [this]
  obtain ⟨h1, h2, h3⟩ := h
  constructor
  all_goals (try simp only [q 6 (by decide), q 10 (by decide), q 11 (by decide)])
  all_goals assumption
theorem DropI.step6 (h : DropI w0 N v B done g10 v4 w) (q : done 11 = false) {w' : World} (he : EntAt w' v5 B) (hw : v5 = v ∨ ∀ b, v5.ownBlock = some b → w.heap.size ≤ b) (hb : Below w.heap.size w w') : DropI w0 N v B (fun k => decide (k = 6) || done k) g10 v5 w' := by
  obtain ⟨h1, h2, h3⟩ := h
  refine ⟨h1.trans (hb.mono h1.size), fun _ => ⟨he, ?_, fun p _ hv => ?_⟩, fun p => ?_⟩
  · rcases hw with hw | hw
    · exact .inl hw
    · exact .inr fun b hb' => by have := hw b hb'; have := h1.size; omega
  · have hg := (h3 (by simpa using p)).1
    have hlt := (Array.getElem?_eq_some_iff.1 hg).1
    rcases hw with hw | hw
    · exact hw
    · have := hw _ hv; omega
  · obtain ⟨k1, k2⟩ := h3 (by simpa using p)
    rw [q] at k1
    refine ⟨?_, k2⟩
    have hlt := (Array.getElem?_eq_some_iff.1 k1).1
    simp only [q]
    exact (hb.block g10 hlt).trans k1
theorem DropI.step10 (h : DropI w0 N v B done g10 v4 w) (q : done 11 = false) : DropI w0 N v B (fun k => decide (k = 10) || done k) w.heap.size v4 (w.alloc (.cells #[.int .i64 0, .slice none 0 0] 46)) := by
  obtain ⟨h1, h2, h3⟩ := h
  have hb : Below w.heap.size w (w.alloc (.cells #[.int .i64 0, .slice none 0 0] 46)) := (Below.refl _ w).alloc (Nat.le_refl _) _
  refine ⟨h1.alloc h1.size _, fun p => ?_, fun _ => ⟨?_, h1.size⟩⟩
  · obtain ⟨k1, k2, k3⟩ := h2 (by simpa using p)
    refine ⟨k1.below hb (Nat.le_refl _), k2, fun _ h0 hv => ?_⟩
    exfalso
    obtain ⟨b, off, cap, e1, _, _, e4, _⟩ := RowAt.at k1 h0
    rw [e1] at hv
    injection hv with hv
    simp only at hv
    omega
  · simp only [q]; exact heap_alloc_new w _
theorem DropI.step11 (h : DropI w0 N v B done g10 v4 w) (hd : done 11 = false) (p6 : done 6 = true) (p10 : done 10 = true) (hlt : 0 < B.length → ∀ b, v.ownBlock = some b → b < w0.heap.size) : DropI w0 N v B (fun k => decide (k = 11) || done k) g10 v4 ((w.setCell ⟨g10, 0, none⟩ (.int .i64 N)).setCell ⟨g10, 1, none⟩ v4) := by
  obtain ⟨h1, h2, h3⟩ := h
  obtain ⟨k1, k2, k3⟩ := h2 p6
  obtain ⟨k4, k5⟩ := h3 p10
  have hf : Frm (fun k => k = g10) w ((w.setCell ⟨g10, 0, none⟩ (.int .i64 N)).setCell ⟨g10, 1, none⟩ v4) := ((Frm.refl (fun k => k = g10) w).setCell (p := ⟨g10, 0, none⟩) (.inl rfl) _).setCell (p := ⟨g10, 1, none⟩) (.inl rfl) _
  refine ⟨(h1.setCell (p := ⟨g10, 0, none⟩) k5 _).setCell (p := ⟨g10, 1, none⟩) k5 _, fun _ => ⟨?_, k2, fun _ => k3 p10⟩, fun _ => ⟨?_, k5⟩⟩
  · rcases Nat.eq_zero_or_pos B.length with h0 | h0
    · rcases k1 with k1 | ⟨k1, _⟩
      · exact .inl k1
      · omega
    · refine RowAt.frm k1 hf (fun b hb e => ?_)
      subst e
      have := k3 p10 h0 hb
      rw [this] at hb
      have := hlt h0 _ hb
      omega
  · rw [hd] at k4
    simp [World.setCell, Array.getElem?_modify, k4]
end

set_option maxRecDepth 100000 in
set_option maxHeartbeats 1000000 in
theorem does_drop (w0 w : World) (L : Lay) (N : Nat) (A : List (Nat × Adr)) (q : Nat) (o : OpV) (h : St w0 w L N A A q) (hff : o.f ≤ 4294967295) (hk : kindF o.kind = 2) :
    Calls Try.prog 19 #[.pointer (some ⟨L.bx, 0, none⟩), .pointer (some ⟨q, 0, none⟩), opV o] w fun e w' => e = .returned (.bool true) ∧ St w0 w' L N (A.filter (keepA o.a.gen)) (A.filter (keepA o.a.gen)) q ∧ Frm (fun k => L.owns k ∨ k = q) w w' := by
  have hN := h.own.here.le
  obtain ⟨W1, hW1⟩ : ∃ W1, W1 = w.alloc (.cells #[.int .i64 o.kind, .int .u32 o.f, .int .i64 o.a.seg, .int .u64 o.a.gen, .int .i64 o.a.sec] 34) := ⟨_, rfl⟩
  have hb1 : Below w.heap.size w W1 := by rw [hW1]; exact (Below.refl _ w).alloc (Nat.le_refl _) _
  have ho1 : OpAt W1 w.heap.size o := by rw [hW1]; exact OpAt.new w o 34
  have HS1 := Lib.hid (h.below hb1)
  have HF1 : Hid (Frm (fun k => L.owns k ∨ k = q) w W1) := frm_below hb1
  have HO1 := Lib.hid ho1
  have HW := Lib.hid hW1.symm
  have HNL : Hid (¬ L.owns w.heap.size) := fun hl => by have := h.own.here.lt _ hl; omega
  have HQN : Hid (q ≠ w.heap.size) := by have := h.qlt; show _ ≠ _; omega
  have HK := Lib.hid hk
  clear h hb1 ho1 hW1 hk
  unfold opV
  go_enter Try.func19, Try.ntmps19
  go_upto_region 1 with fail
  rw [HW.out]
  have h5 := HO1.out.2
  have c0 := h5 0 (by decide)
  have c1 := h5 1 (by decide)
  have c2 := h5 2 (by decide)
  have c3 := h5 3 (by decide)
  have c4 := h5 4 (by decide)
  simp only [OpV.cell] at c0 c1 c2 c3 c4
  clear h5
  go_wp2_with fail
  refine (kind_of o 2 HK.out _).mono ?_
  rintro e W2 ⟨rfl, hb⟩
  have HS2 := Lib.hid (HS1.out.below hb)
  have HF2 : Hid (Frm (fun k => L.owns k ∨ k = q) w W2) := HF1.out.trans (frm_below hb)
  have HO2 := Lib.hid (HO1.out.below hb)
  clear hb c0 c1 c2 c3 c4 HS1 HO1
  have h5 := HO2.out.2
  have c1 := h5 1 (by decide)
  have c2 := h5 2 (by decide)
  have c3 := h5 3 (by decide)
  have c4 := h5 4 (by decide)
  simp only [OpV.cell] at c1 c2 c3 c4
  clear h5
  go_wp2_with fail
  refine (drop_at W2 L N A o.a.gen HS2.out.own.here).mono ?_
  rintro e W3 ⟨rfl, hi, hf⟩
  have HS3 := Lib.hid (HS2.out.idx hf hi)
  have HF3 : Hid (Frm (fun k => L.owns k ∨ k = q) w W3) := HF2.out.trans (hf.mono (fun k _ h => .inl h))
  have HO3 := Lib.hid (HO2.out.frm hf HNL.out)
  clear hi hf c1 c2 c3 c4 HS2 HO2
  have h5 := HO3.out.2
  have c1 := h5 1 (by decide)
  have c2 := h5 2 (by decide)
  have c3 := h5 3 (by decide)
  have c4 := h5 4 (by decide)
  simp only [OpV.cell] at c1 c2 c3 c4
  clear h5
  obtain ⟨v, y1, y2, y3⟩ := HS3.out.y
  have d0 : W3.cell? ⟨q, 0, none⟩ = some (.int .i64 N) := blk_cell y1 0
  have d1 : W3.cell? ⟨q, 1, none⟩ = some v := blk_cell y1 1
  have HAR : Hid (∀ W, Below W3.heap.size W3 W → Calls Try.prog 28 #[.agg #[.int .i64 N, v], .int .u64 o.a.gen] W (RefPost W N v (A.filter (keepA o.a.gen)) ((A.length - (A.filter (keepA o.a.gen)).length : Nat) : Int))) :=
    fun W hW => drop_ref W N v A o.a.gen (y2.below hW (Nat.le_refl _)) (by omega)
  have HY1 := Lib.hid y1
  have HVL : Hid (0 < A.length → ∀ b, v.ownBlock = some b → b < W3.heap.size) := fun h0 b hb => by
    obtain ⟨b', off, cap, e1, _, _, e4, _⟩ := RowAt.at y2 h0
    rw [e1] at hb; injection hb with hb; simp only at hb; omega
  clear y1 y2 y3
  have HLEN : Hid ((A.filter (keepA o.a.gen)).length ≤ N) := by
    have := opA_len (o := o) hN.1
    unfold opA at this
    rw [if_neg (by rw [HK.out]; decide), if_neg (by rw [HK.out]; decide), if_pos HK.out] at this
    exact this
  obtain ⟨kn, hkn⟩ : ∃ kn : Nat, kn = A.length - (A.filter (keepA o.a.gen)).length := ⟨_, rfl⟩
  rw [← hkn] at HAR ⊢
  have hee : ((kn : Int) != (kn : Int)) = false := by simp
  clear hkn
  have hq3 := HS3.out.qlt
  go_upto_region 23 with fail
  -- REGION
  refine wp_region_inv2 (by kernel_rfl) (hord_of2 (by kernel_rfl)) (fun done ac W => ∃ (g10 : Nat) (v4 : Value), ac = { tmps := #[.pointer (some ⟨L.bx, 0, none⟩), .pointer (some ⟨q, 0, none⟩), .agg #[.int .i64 o.kind, .int .u32 o.f, .int .i64 o.a.seg, .int .u64 o.a.gen, .int .i64 o.a.sec], undef, undef, .pointer (some ⟨w.heap.size, 0, none⟩), .bool false, .int .i64 0, .int .i64 0, .int .i64 kn, if done 10 then (.pointer (some ⟨g10, 0, none⟩)) else undef, if done 12 then (.int .i64 kn) else undef, undef, undef, undef, undef, .agg #[.int .i64 o.kind, .int .u32 o.f, .int .i64 o.a.seg, .int .u64 o.a.gen, .int .i64 o.a.sec], .int .i64 2, undef, undef, undef, undef, undef, undef, undef, undef, undef, undef, undef, undef, undef, undef, undef, undef, undef, undef, undef, undef, undef, undef, undef, undef, undef, undef, undef, undef, .bool false, .bool false, undef, undef, undef, undef, undef, undef, undef, undef, undef, undef, undef, undef, undef, undef, undef, undef, undef, undef, undef, .bool false, .bool false, undef, undef, undef, undef, undef, undef, undef, undef, undef, undef, undef, undef, undef, undef, undef, undef, undef, undef, undef, .bool true, .bool true, .pointer (some ⟨L.bx, 0, none⟩), .pointer (some ⟨w.heap.size, 2, none⟩), .pointer (some ⟨w.heap.size, 3, none⟩), .int .u64 o.a.gen, .int .i64 kn, if done 7 then (.tuple #[.agg #[.int .i64 N, v4], .int .i64 kn]) else undef, if done 0 then (.pointer (some ⟨q, 0, none⟩)) else undef, if done 1 then (.pointer (some ⟨q, 0, none⟩)) else undef, if done 2 then (.agg #[.int .i64 N, v]) else undef, if done 3 then (.pointer (some ⟨w.heap.size, 2, none⟩)) else undef, if done 4 then (.pointer (some ⟨w.heap.size, 3, none⟩)) else undef, if done 5 then (.int .u64 o.a.gen) else undef, if done 6 then (.tuple #[.agg #[.int .i64 N, v4], .int .i64 kn]) else undef, if done 8 then (.agg #[.int .i64 N, v4]) else undef, if done 9 then (.int .i64 kn) else undef, undef, undef, undef, undef, undef, undef, undef, undef, undef], defers := [] } ∧ DropI W3 N v (A.filter (keepA o.a.gen)) done g10 v4 W) ?_ ?_ ?_
  · exact ⟨0, undef, by simp, ⟨(Below.refl _ W3).drew, (fun h => by cases h), (fun h => by cases h)⟩⟩
  · intro done ac W j oq ho hd hdep hcl ⟨g10, v4, hlit, hI⟩
    have hj : j < 13 := (Array.getElem?_eq_some_iff.1 ho).1
    have e98 := (hI.cells ⟨q, 0, none⟩ hq3).trans d0
    have e99 := (hI.cells ⟨q, 1, none⟩ hq3).trans d1
    have e101 := (hI.cells ⟨w.heap.size, 3, none⟩ HO3.out.1).trans c3
    subst hlit
    obtain rfl | rfl | rfl | rfl | rfl | rfl | rfl | rfl | rfl | rfl | rfl | rfl | rfl : j = 0 ∨ j = 1 ∨ j = 2 ∨ j = 3 ∨ j = 4 ∨ j = 5 ∨ j = 6 ∨ j = 7 ∨ j = 8 ∨ j = 9 ∨ j = 10 ∨ j = 11 ∨ j = 12 := by omega
    · refine wpOp_val ho (by cases ho; rfl) (w' := W) (v := (.pointer (some ⟨q, 0, none⟩))) (by cases ho; simp [execOp, go_sem]) ?_
      cases ho
      exact ⟨g10, v4, by simp [Act.put], hI.quiet 0 (by decide)⟩
    · have p0 : done 0 = true := by cases ho; exact hdep ⟨0, .data⟩ (by simp) rfl
      refine wpOp_val ho (by cases ho; rfl) (w' := W) (v := (.pointer (some ⟨q, 0, none⟩))) (by cases ho; simp [execOp, go_sem, p0]) ?_
      cases ho
      exact ⟨g10, v4, by simp [Act.put], hI.quiet 1 (by decide)⟩
    · have p1 : done 1 = true := by cases ho; exact hdep ⟨1, .data⟩ (by simp) rfl
      refine wpOp_val ho (by cases ho; rfl) (w' := W) (v := (.agg #[.int .i64 N, v])) (by cases ho; simp [execOp, go_sem, p1, e98, e99]) ?_
      cases ho
      exact ⟨g10, v4, by simp [Act.put], hI.quiet 2 (by decide)⟩
    · refine wpOp_val ho (by cases ho; rfl) (w' := W) (v := (.pointer (some ⟨w.heap.size, 2, none⟩))) (by cases ho; simp [execOp, go_sem]) ?_
      cases ho
      exact ⟨g10, v4, by simp [Act.put], hI.quiet 3 (by decide)⟩
    · have p3 : done 3 = true := by cases ho; exact hdep ⟨3, .data⟩ (by simp) rfl
      refine wpOp_val ho (by cases ho; rfl) (w' := W) (v := (.pointer (some ⟨w.heap.size, 3, none⟩))) (by cases ho; simp [execOp, go_sem, p3]) ?_
      cases ho
      exact ⟨g10, v4, by simp [Act.put], hI.quiet 4 (by decide)⟩
    · have p4 : done 4 = true := by cases ho; exact hdep ⟨4, .data⟩ (by simp) rfl
      refine wpOp_val ho (by cases ho; rfl) (w' := W) (v := (.int .u64 o.a.gen)) (by cases ho; simp [execOp, go_sem, p4, e101]) ?_
      cases ho
      exact ⟨g10, v4, by simp [Act.put], hI.quiet 5 (by decide)⟩
    · have p2 : done 2 = true := by cases ho; exact hdep ⟨2, .data⟩ (by simp) rfl
      have p5 : done 5 = true := by cases ho; exact hdep ⟨5, .data⟩ (by simp) rfl
      have q11 : done 11 = false := by
        cases h : done 11 with
        | false => rfl
        | true =>
          have h0 := hcl 11 _ rfl h ⟨8, .data⟩ (by simp) rfl
          have h1 := hcl 8 _ rfl h0 ⟨7, .data⟩ (by simp) rfl
          have h2 := hcl 7 _ rfl h1 ⟨6, .data⟩ (by simp) rfl
          rw [hd] at h2; cases h2
      have q7 : done 7 = false := by
        cases h : done 7 with
        | false => rfl
        | true =>
          have h0 := hcl 7 _ rfl h ⟨6, .data⟩ (by simp) rfl
          rw [hd] at h0; cases h0
      have q8 : done 8 = false := by
        cases h : done 8 with
        | false => rfl
        | true =>
          have h0 := hcl 8 _ rfl h ⟨7, .data⟩ (by simp) rfl
          have h1 := hcl 7 _ rfl h0 ⟨6, .data⟩ (by simp) rfl
          rw [hd] at h1; cases h1
      refine wpOp_call ho (by cases ho; rfl) (f := 28) (args := #[.agg #[.int .i64 N, v], .int .u64 o.a.gen]) (by cases ho; simp [execOp, go_sem, p2, p5]) (HAR.out W hI.bel) ?_
      rintro e W4 ⟨v5, rfl, he5, hw5, hb5⟩
      refine ⟨_, rfl, ?_⟩
      cases ho
      exact ⟨g10, v5, by simp [Act.put, q7, q8], hI.step6 q11 he5 hw5 hb5⟩
    · have p6 : done 6 = true := by cases ho; exact hdep ⟨6, .data⟩ (by simp) rfl
      refine wpOp_val ho (by cases ho; rfl) (w' := W) (v := (.tuple #[.agg #[.int .i64 N, v4], .int .i64 kn])) (by cases ho; simp [execOp, go_sem, p6]) ?_
      cases ho
      exact ⟨g10, v4, by simp [Act.put], hI.quiet 7 (by decide)⟩
    · have p7 : done 7 = true := by cases ho; exact hdep ⟨7, .data⟩ (by simp) rfl
      refine wpOp_val ho (by cases ho; rfl) (w' := W) (v := (.agg #[.int .i64 N, v4])) (by cases ho; simp [execOp, go_sem, p7]) ?_
      cases ho
      exact ⟨g10, v4, by simp [Act.put], hI.quiet 8 (by decide)⟩
    · have p7 : done 7 = true := by cases ho; exact hdep ⟨7, .data⟩ (by simp) rfl
      refine wpOp_val ho (by cases ho; rfl) (w' := W) (v := (.int .i64 kn)) (by cases ho; simp [execOp, go_sem, p7]) ?_
      cases ho
      exact ⟨g10, v4, by simp [Act.put], hI.quiet 9 (by decide)⟩
    · have q11 : done 11 = false := by
        cases h : done 11 with
        | false => rfl
        | true =>
          have h0 := hcl 11 _ rfl h ⟨10, .data⟩ (by simp) rfl
          rw [hd] at h0; cases h0
      refine wpOp_val ho (by cases ho; rfl) (w' := W.alloc (.cells #[.int .i64 0, .slice none 0 0] 46)) (v := .pointer (some ⟨W.heap.size, 0, none⟩)) (by cases ho; simp [execOp, go_sem]) ?_
      cases ho
      exact ⟨W.heap.size, v4, by simp [Act.put], hI.step10 q11⟩
    · have p8 : done 8 = true := by cases ho; exact hdep ⟨8, .data⟩ (by simp) rfl
      have p10 : done 10 = true := by cases ho; exact hdep ⟨10, .data⟩ (by simp) rfl
      have p6 : done 6 = true := by
        have h1 := hcl 8 _ rfl p8 ⟨7, .data⟩ (by simp) rfl
        exact hcl 7 _ rfl h1 ⟨6, .data⟩ (by simp) rfl
      obtain ⟨k1, k2⟩ := hI.s10 p10
      rw [hd] at k1
      simp only [Bool.false_eq_true, if_false] at k1
      have e0 : W.cell? ⟨g10, 0, none⟩ = some (.int .i64 0) := blk_cell k1 0
      have e1 : W.cell? ⟨g10, 1, none⟩ = some (.slice none 0 0) := blk_cell k1 1
      have e2 := blk_frozen k1 0
      have e3 := blk_frozen k1 1
      obtain ⟨a4, cap4, hv4, _⟩ := RowAt.form (hI.s6 p6).1
      subst hv4
      refine wpOp_skip ho (by cases ho; rfl) (w' := (W.setCell ⟨g10, 0, none⟩ (.int .i64 N)).setCell ⟨g10, 1, none⟩ (.slice a4 (A.filter (keepA o.a.gen)).length cap4)) (by cases ho; simp [execOp, go_sem, p8, p10, stored, e0, e1, e2, e3]) ?_
      cases ho
      exact ⟨g10, .slice a4 (A.filter (keepA o.a.gen)).length cap4, by simp [Act.put], hI.step11 hd p6 p10 (fun h0 => HVL.out (by have := List.length_filter_le (keepA o.a.gen) A; omega))⟩
    · have p9 : done 9 = true := by cases ho; exact hdep ⟨9, .data⟩ (by simp) rfl
      refine wpOp_val ho (by cases ho; rfl) (w' := W) (v := (.int .i64 kn)) (by cases ho; simp [execOp, go_sem, p9]) ?_
      cases ho
      exact ⟨g10, v4, by simp [Act.put], hI.quiet 12 (by decide)⟩
  · rintro done ac W hall ⟨g10, v4, rfl, hI⟩
    have hl := hall
    clear hall
    have e0 := hl 0 (by decide)
    have e1 := hl 1 (by decide)
    have e2 := hl 2 (by decide)
    have e3 := hl 3 (by decide)
    have e4 := hl 4 (by decide)
    have e5 := hl 5 (by decide)
    have e6 := hl 6 (by decide)
    have e7 := hl 7 (by decide)
    have e8 := hl 8 (by decide)
    have e9 := hl 9 (by decide)
    have e10 := hl 10 (by decide)
    have e11 := hl 11 (by decide)
    have e12 := hl 12 (by decide)
    have hs6 := hI.s6 e6
    have hs10 := (hI.s10 e10).1
    have hbel := hI.bel
    rw [e11] at hs10
    simp only [if_true] at hs10
    simp only [e0, e1, e2, e3, e4, e5, e6, e7, e8, e9, e10, e12, if_true]
    clear e0 e1 e2 e3 e4 e5 e6 e7 e8 e9 e10 e11 e12 hl hI
    obtain ⟨he4, hw4, _⟩ := hs6
    obtain ⟨a4, cap4, rfl, _⟩ := RowAt.form he4
    have hqW := (hbel.block q hq3).trans HY1.out
    have f0 : W.cell? ⟨q, 0, none⟩ = some (.int .i64 N) := blk_cell hqW 0
    have f1 : W.cell? ⟨q, 1, none⟩ = some v := blk_cell hqW 1
    have f2 : W.frozen? ⟨q, 0, none⟩ = false := blk_frozen hqW 0
    have f3 : W.frozen? ⟨q, 1, none⟩ = false := blk_frozen hqW 1
    have g0 : W.cell? ⟨g10, 0, none⟩ = some (.int .i64 N) := blk_cell hs10 0
    have g1 : W.cell? ⟨g10, 1, none⟩ = some (.slice a4 (A.filter (keepA o.a.gen)).length cap4) := blk_cell hs10 1
    have HSE := Lib.hid (HS3.out.ref hbel HY1.out he4 hw4 HLEN.out)
    have HFE : Hid (Frm (fun k => L.owns k ∨ k = q) w W) := HF3.out.trans (frm_below hbel)
    clear hbel he4 hw4 hqW hs10 c1 c2 c3 c4 d0 d1
    go_wp2_with fail
    go_ret
    exact ⟨by simp, HSE.out, (HFE.out.setCell (.inl (.inr rfl)) _).setCell (.inl (.inr rfl)) _⟩
  -- END
end Go.Proofs.Ytccgdfamjohmgaa
