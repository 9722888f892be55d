/- index.Add in memory. Conditions: the index is laid out in its blocks; the links of the finger's chain lead along a list. -/
import Derived.Test.YtccgdfamjohmgaaIdx
set_option linter.unusedVariables false
namespace Go.Proofs.Ytccgdfamjohmgaa
open Go.RowKit Go.Ice

def upd {α : Type} (X : Nat → α) (i : Nat) (v : α) : Nat → α := fun k => if k = i then v else X k

/-- The world behind a name: what is said of it is kept. -/
theorem wp_world {P : Program} {c : Code} {Q : Exit → Act → World → Prop} {a : Act} {w : World} (R : World → Prop) (h : R w) (k : ∀ w', R w' → Code.wp P c Q a w') : Code.wp P c Q a w := k w h

section
variable {w : World} {L : Lay} {N : Nat} {S : IdxS}

theorem Lay.ne (h : [L.bx, L.bf, L.ba, L.bc, L.bh, L.bn, L.bd].Nodup) : (L.bx ≠ L.bf ∧ L.bx ≠ L.ba ∧ L.bx ≠ L.bc ∧ L.bx ≠ L.bh ∧ L.bx ≠ L.bn ∧ L.bx ≠ L.bd) ∧ (L.bf ≠ L.ba ∧ L.bf ≠ L.bc ∧ L.bf ≠ L.bh ∧ L.bf ≠ L.bn ∧ L.bf ≠ L.bd) ∧
    (L.ba ≠ L.bc ∧ L.ba ≠ L.bh ∧ L.ba ≠ L.bn ∧ L.ba ≠ L.bd) ∧ (L.bc ≠ L.bh ∧ L.bc ≠ L.bn ∧ L.bc ≠ L.bd) ∧ (L.bh ≠ L.bn ∧ L.bh ≠ L.bd) ∧ L.bn ≠ L.bd := by
  simp only [List.nodup_cons, List.mem_cons, List.mem_nil_iff, or_false, not_or, List.nodup_nil, and_true] at h
  obtain ⟨h1, h2, h3, h4, h5, h6, h7⟩ := h
  exact ⟨h1, h2, h3, h4, h5, h6⟩

theorem Rep.drew (h : Rep w L N S) : Rep w.drew L N S := ⟨h.hN, h.x, h.f, h.a, h.c, h.h, h.nx, h.d, h.nd⟩
theorem Rep.drewN (h : Rep w L N S) (n : Nat) : Rep (w.drewN n) L N S := ⟨h.hN, h.x, h.f, h.a, h.c, h.h, h.nx, h.d, h.nd⟩

theorem Rep.setF (h : Rep w L N S) (i v : Nat) : Rep (w.setCell ⟨L.bf, i, none⟩ (.int .u32 v)) L N { S with fng := upd S.fng i v } := by
  obtain ⟨⟨n1, n2, n3, n4, n5, n6⟩, ⟨n7, n8, n9, n10, n11⟩, ⟨n12, n13, n14, n15⟩, ⟨n16, n17, n18⟩, ⟨n19, n20⟩, n21⟩ := Lay.ne h.nd
  refine ⟨h.hN, h.x.far n1 _, (h.f.set i _).congr fun k hk => ?_, h.a.far (Ne.symm n7) _, h.c.far (Ne.symm n8) _, h.h.far (Ne.symm n9) _, h.nx.far (Ne.symm n10) _, h.d.far (Ne.symm n11) _, h.nd⟩
  by_cases hk' : k = i <;> simp [fRow, upd, hk']
theorem Rep.setC (h : Rep w L N S) (i : Nat) (v : Int) : Rep (w.setCell ⟨L.bc, i, none⟩ (.int .i64 v)) L N { S with chain := upd S.chain i v } := by
  obtain ⟨⟨n1, n2, n3, n4, n5, n6⟩, ⟨n7, n8, n9, n10, n11⟩, ⟨n12, n13, n14, n15⟩, ⟨n16, n17, n18⟩, ⟨n19, n20⟩, n21⟩ := Lay.ne h.nd
  refine ⟨h.hN, h.x.far n3 _, h.f.far n8 _, h.a.far n12 _, (h.c.set i _).congr fun k hk => ?_, h.h.far (Ne.symm n16) _, h.nx.far (Ne.symm n17) _, h.d.far (Ne.symm n18) _, h.nd⟩
  by_cases hk' : k = i <;> simp [iRow, upd, hk']
theorem Rep.setH (h : Rep w L N S) (i : Nat) (v : Int) : Rep (w.setCell ⟨L.bh, i, none⟩ (.int .i64 v)) L N { S with ahead := upd S.ahead i v } := by
  obtain ⟨⟨n1, n2, n3, n4, n5, n6⟩, ⟨n7, n8, n9, n10, n11⟩, ⟨n12, n13, n14, n15⟩, ⟨n16, n17, n18⟩, ⟨n19, n20⟩, n21⟩ := Lay.ne h.nd
  refine ⟨h.hN, h.x.far n4 _, h.f.far n9 _, h.a.far n13 _, h.c.far n16 _, (h.h.set i _).congr fun k hk => ?_, h.nx.far (Ne.symm n19) _, h.d.far (Ne.symm n20) _, h.nd⟩
  by_cases hk' : k = i <;> simp [iRow, upd, hk']
theorem Rep.setN (h : Rep w L N S) (i : Nat) (v : Int) : Rep (w.setCell ⟨L.bn, i, none⟩ (.int .i64 v)) L N { S with next := upd S.next i v } := by
  obtain ⟨⟨n1, n2, n3, n4, n5, n6⟩, ⟨n7, n8, n9, n10, n11⟩, ⟨n12, n13, n14, n15⟩, ⟨n16, n17, n18⟩, ⟨n19, n20⟩, n21⟩ := Lay.ne h.nd
  refine ⟨h.hN, h.x.far n5 _, h.f.far n10 _, h.a.far n14 _, h.c.far n17 _, h.h.far n19 _, (h.nx.set i _).congr fun k hk => ?_, h.d.far (Ne.symm n21) _, h.nd⟩
  by_cases hk' : k = i <;> simp [iRow, upd, hk']
theorem Rep.setD (h : Rep w L N S) (i : Nat) (v : Int) : Rep (w.setCell ⟨L.bd, i, none⟩ (.int .i64 v)) L N { S with heads := upd S.heads i v } := by
  obtain ⟨⟨n1, n2, n3, n4, n5, n6⟩, ⟨n7, n8, n9, n10, n11⟩, ⟨n12, n13, n14, n15⟩, ⟨n16, n17, n18⟩, ⟨n19, n20⟩, n21⟩ := Lay.ne h.nd
  refine ⟨h.hN, h.x.far n6 _, h.f.far n11 _, h.a.far n15 _, h.c.far n18 _, h.h.far n20 _, h.nx.far n21 _, (h.d.set i _).congr fun k hk => ?_, h.nd⟩
  by_cases hk' : k = i <;> simp [iRow, upd, hk']
theorem Rep.setX (h : Rep w L N S) (i : Nat) (v : Value) (S' : IdxS) (hs : S'.fng = S.fng ∧ S'.adr = S.adr ∧ S'.chain = S.chain ∧ S'.ahead = S.ahead ∧ S'.next = S.next ∧ S'.heads = S.heads)
    (hx : ∀ k, k < 10 → (if k = i then v else xcell L N S k) = xcell L N S' k) : Rep (w.setCell ⟨L.bx, i, none⟩ v) L N S' := by
  obtain ⟨⟨n1, n2, n3, n4, n5, n6⟩, _⟩ := Lay.ne h.nd
  obtain ⟨e1, e2, e3, e4, e5, e6⟩ := hs
  exact ⟨h.hN, (h.x.set i v).congr hx, by rw [e1]; exact h.f.far (Ne.symm n1) _, by rw [e2]; exact h.a.far (Ne.symm n2) _, by rw [e3]; exact h.c.far (Ne.symm n3) _, by rw [e4]; exact h.h.far (Ne.symm n4) _, by rw [e5]; exact h.nx.far (Ne.symm n5) _, by rw [e6]; exact h.d.far (Ne.symm n6) _, h.nd⟩
theorem Rep.setFirst (h : Rep w L N S) (v : Int) : Rep (w.setCell ⟨L.bx, 6, none⟩ (.int .i64 v)) L N { S with first := v } :=
  h.setX 6 _ _ ⟨rfl, rfl, rfl, rfl, rfl, rfl⟩ fun k hk => by
    match k, hk with
    | 0, _ | 1, _ | 2, _ | 3, _ | 4, _ | 5, _ | 6, _ | 7, _ | 8, _ | 9, _ => rfl
theorem Rep.setLast (h : Rep w L N S) (v : Int) : Rep (w.setCell ⟨L.bx, 7, none⟩ (.int .i64 v)) L N { S with last := v } :=
  h.setX 7 _ _ ⟨rfl, rfl, rfl, rfl, rfl, rfl⟩ fun k hk => by
    match k, hk with
    | 0, _ | 1, _ | 2, _ | 3, _ | 4, _ | 5, _ | 6, _ | 7, _ | 8, _ | 9, _ => rfl
theorem Rep.setFree (h : Rep w L N S) (v : Int) : Rep (w.setCell ⟨L.bx, 8, none⟩ (.int .i64 v)) L N { S with free := v } :=
  h.setX 8 _ _ ⟨rfl, rfl, rfl, rfl, rfl, rfl⟩ fun k hk => by
    match k, hk with
    | 0, _ | 1, _ | 2, _ | 3, _ | 4, _ | 5, _ | 6, _ | 7, _ | 8, _ | 9, _ => rfl
theorem Rep.setCount (h : Rep w L N S) (v : Nat) : Rep (w.setCell ⟨L.bx, 9, none⟩ (.int .i64 v)) L N { S with n := v } :=
  h.setX 9 _ _ ⟨rfl, rfl, rfl, rfl, rfl, rfl⟩ fun k hk => by
    match k, hk with
    | 0, _ | 1, _ | 2, _ | 3, _ | 4, _ | 5, _ | 6, _ | 7, _ | 8, _ | 9, _ => rfl
theorem Rep.setA (h : Rep w L N S) (i : Nat) (a : Adr) : Rep (((w.setCell ⟨L.ba, i * 3, none⟩ (.int .i64 a.seg)).setCell ⟨L.ba, i * 3 + 1, none⟩ (.int .u64 a.gen)).setCell ⟨L.ba, i * 3 + 2, none⟩ (.int .i64 a.sec)) L N { S with adr := upd S.adr i a } := by
  obtain ⟨⟨n1, n2, n3, n4, n5, n6⟩, ⟨n7, n8, n9, n10, n11⟩, ⟨n12, n13, n14, n15⟩, ⟨n16, n17, n18⟩, ⟨n19, n20⟩, n21⟩ := Lay.ne h.nd
  refine ⟨h.hN, ((h.x.far n2 _).far n2 _).far n2 _, ((h.f.far n7 _).far n7 _).far n7 _, (((h.a.set _ _).set _ _).set _ _).congr fun k hk => ?_, ((h.c.far (Ne.symm n12) _).far (Ne.symm n12) _).far (Ne.symm n12) _, ((h.h.far (Ne.symm n13) _).far (Ne.symm n13) _).far (Ne.symm n13) _,
    ((h.nx.far (Ne.symm n14) _).far (Ne.symm n14) _).far (Ne.symm n14) _, ((h.d.far (Ne.symm n15) _).far (Ne.symm n15) _).far (Ne.symm n15) _, h.nd⟩
  unfold aRow upd
  by_cases e2 : k = i * 3 + 2
  · subst e2; rw [if_pos rfl, show (i * 3 + 2) / 3 = i by omega, show (i * 3 + 2) % 3 = 2 by omega]; simp [Adr.cell]
  · rw [if_neg e2]
    by_cases e1 : k = i * 3 + 1
    · subst e1; rw [if_pos rfl, show (i * 3 + 1) / 3 = i by omega, show (i * 3 + 1) % 3 = 1 by omega]; simp [Adr.cell]
    · rw [if_neg e1]
      by_cases e0 : k = i * 3
      · subst e0; rw [if_pos rfl, show (i * 3) / 3 = i by omega, show (i * 3) % 3 = 0 by omega]; simp [Adr.cell]
      · rw [if_neg e0]; simp [show ¬ k / 3 = i by omega]
end

/-- What Add leaves where it finds room: i is the free place. -/
def addS (S : IdxS) (N f : Nat) (a : Adr) (i : Nat) : IdxS :=
  { fng := upd S.fng i f, adr := upd S.adr i a, chain := upd S.chain i (S.heads (f % N)), ahead := upd S.ahead i S.last,
    next := (if S.last = -1 then upd S.next i (-1) else upd (upd S.next i (-1)) S.last.toNat i), heads := upd S.heads (f % N) i,
    first := (if S.last = -1 then (i : Int) else S.first), last := i, free := S.chain i, n := S.n + 1 }

theorem add_there (w : World) (L : Lay) (N : Nat) (S : IdxS) (f : Nat) (a : Adr) (l : List Nat) (hf : f ≤ 4294967295) (h : Rep w L N S) (hl : Links S.chain (S.heads (f % N)) l) (hlN : ∀ k ∈ l, k < N)
    (hq : (locate S f a (true, f % N) l).fits N) (hv : (locate S f a (true, f % N) l).val S ≠ -1) :
    Calls Try.prog 13 #[.pointer (some ⟨L.bx, 0, none⟩), .int .u32 f, adrV a] w fun e w' => e = .returned (.int .i64 5) ∧ Below w.heap.size w w' := by
  have hb0 : Below w.heap.size w (w.alloc (.cells #[.int .i64 a.seg, .int .u64 a.gen, .int .i64 a.sec] 32)) := (Below.refl _ w).alloc (Nat.le_refl _) _
  have hfd := find _ L N S f a l hf (h.below hb0) hl hlN
  have HR := Lib.hid (h.below hb0)
  have HF := Lib.hid hfd
  have HB := Lib.hid hb0
  have HQ := Lib.hid hq
  generalize hp : locate S f a (true, f % N) l = p at *
  have hv' : ((p.val S) != -1) = true := by rw [bne_iff_ne]; exact hv
  clear h hb0 hfd hl hlN hp hq hv
  unfold adrV at *
  go_enter Try.func13, Try.ntmps13
  go_wp2_with fail
  refine HF.out.mono ?_
  rintro e w1 ⟨rfl, hb1⟩
  have hc := (HR.out.below hb1).locCell p HQ.out
  have HB1 : Hid (Below w.heap.size w w1) := HB.out.trans (hb1.mono HB.out.size)
  clear hb1
  go_wp2_with fail
  go_ret
  exact ⟨rfl, HB1.out⟩

theorem add_full (w : World) (L : Lay) (N : Nat) (S : IdxS) (f : Nat) (a : Adr) (l : List Nat) (hf : f ≤ 4294967295) (h : Rep w L N S) (hl : Links S.chain (S.heads (f % N)) l) (hlN : ∀ k ∈ l, k < N)
    (hq : (locate S f a (true, f % N) l).fits N) (hv : (locate S f a (true, f % N) l).val S = -1) (hfree : S.free = -1) :
    Calls Try.prog 13 #[.pointer (some ⟨L.bx, 0, none⟩), .int .u32 f, adrV a] w fun e w' => e = .returned (.int .i64 6) ∧ Below w.heap.size w w' := by
  have hb0 : Below w.heap.size w (w.alloc (.cells #[.int .i64 a.seg, .int .u64 a.gen, .int .i64 a.sec] 32)) := (Below.refl _ w).alloc (Nat.le_refl _) _
  have hfd := find _ L N S f a l hf (h.below hb0) hl hlN
  have HR := Lib.hid (h.below hb0)
  have HF := Lib.hid hfd
  have HB := Lib.hid hb0
  have HQ := Lib.hid hq
  generalize hp : locate S f a (true, f % N) l = p at *
  have HV := Lib.hid hv
  have HFR := Lib.hid hfree
  clear h hb0 hfd hl hlN hp hq hv hfree
  unfold adrV at *
  go_enter Try.func13, Try.ntmps13
  go_wp2_with fail
  refine HF.out.mono ?_
  rintro e w1 ⟨rfl, hb1⟩
  have hR1 := HR.out.below hb1
  have hc := hR1.locCell p HQ.out
  rw [HV.out] at hc
  have hx8 : w1.cell? ⟨L.bx, 8, none⟩ = some (.int .i64 S.free) := hR1.x.cell (k := 8) (by decide)
  rw [HFR.out] at hx8
  have HB1 : Hid (Below w.heap.size w w1) := HB.out.trans (hb1.mono HB.out.size)
  clear hb1 hR1
  go_wp2_with fail
  go_ret
  exact ⟨rfl, HB1.out⟩
end Go.Proofs.Ytccgdfamjohmgaa
