/- index.Find, Remove, Len and Left in memory. Conditions: the index is laid out in its blocks; the links of the finger's chain lead along a list. -/
import Derived.Test.YtccgdfamjohmgaaTake
set_option linter.unusedVariables false
namespace Go.Proofs.Ytccgdfamjohmgaa
open Go.RowKit Go.Ice

/-- A slice of elements of several cells each, that reads as the cells cs. -/
def IsSlK (w : World) (size n : Nat) (v : Value) (cs : List Value) : Prop :=
  cs.length = n * size ∧ ((n = 0 ∧ (v = .slice none 0 0 ∨ ∃ a cap, v = .slice (some a) 0 cap)) ∨
  (0 < n ∧ ∃ b off cap, v = .slice (some ⟨b, off, none⟩) n cap ∧ n ≤ cap ∧ cap ≤ maxLen ∧ b < w.heap.size ∧ ∀ j, j < cs.length → w.cell? ⟨b, off + j, none⟩ = cs[j]?))

theorem IsSlK.below {B size n : Nat} {w w' : World} {v : Value} {cs : List Value} (h : IsSlK w size n v cs) (hb : Below B w w') (hB : w.heap.size ≤ B) : IsSlK w' size n v cs := by
  obtain ⟨hl, h⟩ := h
  refine ⟨hl, ?_⟩
  rcases h with h | ⟨h0, b, off, cap, hv, h1, h2, h3, h4⟩
  · exact .inl h
  · refine .inr ⟨h0, b, off, cap, hv, h1, h2, by have := hb.size; omega, fun j hj => ?_⟩
    rw [hb.cell (p := ⟨b, off + j, none⟩) (by simp; omega)]
    exact h4 j hj
theorem IsSlK.form {w : World} {size n : Nat} {v : Value} {cs : List Value} (h : IsSlK w size n v cs) : ∃ a cap, v = .slice a n cap ∧ n ≤ maxLen := by
  rcases h.2 with ⟨rfl, rfl | ⟨a, cap, rfl⟩⟩ | ⟨h0, b, off, cap, hv, h1, h2, h3, h4⟩
  · exact ⟨_, _, rfl, by decide⟩
  · exact ⟨_, _, rfl, by decide⟩
  · exact ⟨_, _, hv, by omega⟩
theorem own_isSlK {w : World} {base size : Nat} {e : TypeId} {v : Value} {n : Nat} {xs : List Value} (h : w.ownsRow base e size v n xs) : IsSlK w size n v xs := by
  obtain ⟨hl, h⟩ := h
  refine ⟨hl, ?_⟩
  rcases h with ⟨h, h'⟩ | ⟨g', cap', cur, h1, h2, h3, h4, h5, h6, h7⟩
  · exact .inl ⟨h', .inl h⟩
  · have hlt : g' < w.heap.size := (Array.getElem?_eq_some_iff.1 h3).1
    rcases Nat.eq_zero_or_pos n with h0 | h0
    · subst h0; exact .inl ⟨rfl, .inr ⟨_, _, h1⟩⟩
    · refine .inr ⟨h0, g', 0, cap', h1, h4, h5, hlt, fun j hj => ?_⟩
      have e : xs[j]? = (cur.toList.take (n * size))[j]? := by rw [h7]
      rw [e, List.getElem?_take_of_lt (by omega)]
      simp [World.cell?, h3]

def adrCells (l : List Adr) : List Value := l.flatMap fun a => [.int .i64 a.seg, .int .u64 a.gen, .int .i64 a.sec]
theorem adrCells_length (l : List Adr) : (adrCells l).length = l.length * 3 := by
  induction l with
  | nil => rfl
  | cons a l ih => unfold adrCells at *; rw [List.flatMap_cons, List.length_append, ih]; simp; omega
theorem adrCells_snoc (l : List Adr) (a : Adr) : adrCells (l ++ [a]) = adrCells l ++ [.int .i64 a.seg, .int .u64 a.gen, .int .i64 a.sec] := by
  unfold adrCells; rw [List.flatMap_append]; rfl

theorem elemAdr : Elem Try.prog 39 32 3 24 (.agg #[.int .i64 0, .int .u64 0, .int .i64 0]) :=
  ⟨Try.underlying39, by
    obtain ⟨i0, hi, hz0, hz1, hz2⟩ := info_parts (show (Try.prog.info? 32).map (fun i => (i.zero, i.size, i.bytes)) = some (some (.agg #[.int .i64 0, .int .u64 0, .int .i64 0]), 3, 24) by kernel_rfl)
    exact ⟨i0, hi, hz0, hz1, hz2⟩, rfl, by decide⟩

/-- The addresses of a finger along a chain. -/
def findL (S : IdxS) (f : Nat) : List Nat → List Adr
  | [] => []
  | k :: l => if S.fng k = f then S.adr k :: findL S f l else findL S f l

theorem findL_len (S : IdxS) (f : Nat) (l : List Nat) : (findL S f l).length ≤ l.length := by
  induction l with
  | nil => exact Nat.le_refl _
  | cons k l ih => unfold findL; split <;> simp <;> omega

set_option maxHeartbeats 4000000 in
theorem findAll (w : World) (L : Lay) (N : Nat) (S : IdxS) (f : Nat) (l : List Nat) (hf : f ≤ 4294967295) (h : Rep w L N S) (hl : Links S.chain (S.heads (f % N)) l) (hlN : ∀ k ∈ l, k < N) (hl3 : l.length ≤ 1024) :
    Calls Try.prog 16 #[.pointer (some ⟨L.bx, 0, none⟩), .int .u32 f] w fun e w' => ∃ v, e = .returned v ∧ w'.ownsRow w.heap.size 32 3 v (findL S f l).length (adrCells (findL S f l)) ∧ Below w.heap.size w w' := by
  obtain ⟨i0, hi0, hz0, hz1, hz2⟩ := elemAdr.hi
  have hN := h.hN.1
  have hfN : f % N < N := Nat.mod_lt _ (by omega)
  have hd : w.cell? ⟨L.bd, f % N, none⟩ = some (.int .i64 (S.heads (f % N))) := h.d.cell hfN
  have HH := Lib.hid (head w L N S f hf h)
  have HR := Lib.hid h
  have HL := Lib.hid hl
  have HLN := Lib.hid hlN
  have HL3 := Lib.hid hl3
  clear h hl hlN hl3
  go_enter Try.func16, Try.ntmps16
  go_wp2_with fail
  refine HH.out.mono ?_
  rintro e w1 ⟨rfl, n0, rfl⟩
  go_wp2_with fail
  go_loopg [5, 6] l.length (fun g v iv wr => ∃ (l' : List Nat) (ds : List Adr), g = l'.length ∧ Hid (Links S.chain (S.heads (f % N)) l ∧ ∀ k ∈ l', k < N) ∧ (∃ s : Int, iv = .int .i64 s ∧ Hid (Links S.chain s l')) ∧ wr.ownsRow w.heap.size 32 3 v ds.length (adrCells ds) ∧ Hid (findL S f l = ds ++ findL S f l') ∧ Below w.heap.size w wr)
  case atStart => exact ⟨l, [], rfl, ⟨HL.out, HLN.out⟩, ⟨_, rfl, HL.out⟩, World.ownsRow_nil _ _ _ _, rfl, drewN_below w n0⟩
  case round =>
    obtain ⟨l', ds, rfl, h1, ⟨s, rfl, h2⟩, hown, hds, hB⟩ := hrel
    have hR := HR.out.below hB
    have hdl : ds.length ≤ 1024 := by
      have h3 := findL_len S f l
      have h4 := HL3.out
      rw [hds.out, List.length_append] at h3
      omega
    cases l' with
    | nil =>
      obtain rfl : s = -1 := h2.out
      have HB := Lib.hid hB
      have HO := Lib.hid hown
      clear hB hown hR
      go_wp2_with fail
      go_ret
      have e : findL S f l = ds := by rw [hds.out]; simp [findL]
      exact ⟨_, rfl, by rw [e]; exact HO.out, HB.out⟩
    | cons k l' =>
      obtain ⟨rfl, hlk⟩ := h2.out
      have hkN := h1.out.2 k (by simp)
      have h1' : Hid (Links S.chain (S.heads (f % N)) l ∧ ∀ k ∈ l', k < N) := ⟨HL.out, fun j hj => h1.out.2 j (by simp [hj])⟩
      have HLK := Lib.hid hlk
      have hx0 : wr.cell? ⟨L.bx, 0, none⟩ = some (.slice (some ⟨L.bf, 0, none⟩) N N) := hR.x.cell (k := 0) (by decide)
      have hcf : wr.cell? ⟨L.bf, k, none⟩ = some (.int .u32 (S.fng k)) := hR.f.cell hkN
      have hx1 : wr.cell? ⟨L.bx, 1, none⟩ = some (.slice (some ⟨L.ba, 0, none⟩) N N) := hR.x.cell (k := 1) (by decide)
      have ha0 : wr.cell? ⟨L.ba, k * 3, none⟩ = some (.int .i64 (S.adr k).seg) := by
        have := hR.a.cell (k := k * 3) (by omega)
        simpa [aRow, Adr.cell] using this
      have ha1 : wr.cell? ⟨L.ba, k * 3 + 1, none⟩ = some (.int .u64 (S.adr k).gen) := by
        have := hR.a.cell (k := k * 3 + 1) (by omega)
        simpa [aRow, show (k * 3 + 1) / 3 = k by omega, show (k * 3 + 1) % 3 = 1 by omega, Adr.cell] using this
      have ha2 : wr.cell? ⟨L.ba, k * 3 + 2, none⟩ = some (.int .i64 (S.adr k).sec) := by
        have := hR.a.cell (k := k * 3 + 2) (by omega)
        simpa [aRow, show (k * 3 + 2) / 3 = k by omega, show (k * 3 + 2) % 3 = 2 by omega, Adr.cell] using this
      have hx2 : wr.cell? ⟨L.bx, 2, none⟩ = some (.slice (some ⟨L.bc, 0, none⟩) N N) := hR.x.cell (k := 2) (by decide)
      have hcc : wr.cell? ⟨L.bc, k, none⟩ = some (.int .i64 (S.chain k)) := hR.c.cell hkN
      have HRr := Lib.hid hR
      have HB := Lib.hid hB
      have HO := Lib.hid hown
      have hsz := hB.size
      clear hlk h1 h2 hR
      by_cases hfk : S.fng k = f
      · have hfe : ((S.fng k : Int) == (f : Int)) = true := beq_iff_eq.2 (by omega)
        have HFK := Lib.hid hfk
        clear hfk
        obtain ⟨v', w2, hrun, hown2, hg2, _⟩ := run_append_own (P := Try.prog) (wr.alloc (.cells #[.int .i64 (S.adr k).seg, .int .u64 (S.adr k).gen, .int .i64 (S.adr k).sec] 32)) w.heap.size 39 39 32 i0 _ 3 24 Try.underlying39 hi0 hz0 hz1 hz2 rfl (by decide) _ ds.length (adrCells ds) (hown.alloc _)
          ⟨wr.heap.size, 0, none⟩ 1 1 [.int .i64 (S.adr k).seg, .int .u64 (S.adr k).gen, .int .i64 (S.adr k).sec] rfl (fun j u hu => by
            rw [show (⟨wr.heap.size, 0, none⟩ : Addr).add j = ⟨wr.heap.size, j, none⟩ from by rw [Addr.add_lit, Nat.zero_add], World.cell?_alloc_mark]; simpa using hu) (by
            intro u hu
            simp only [List.mem_cons, List.mem_nil_iff, or_false] at hu
            rcases hu with rfl | rfl | rfl <;> rfl) (by unfold maxLen; omega) (by omega) (by simp; omega)
        have hB2 : Below w.heap.size w w2 := (hB.alloc hsz _).grown hg2 (by simp; omega) (fun q hq => (hown.lt q hq).1)
        have hR2 := HR.out.below hB2
        have gx2 : w2.cell? ⟨L.bx, 2, none⟩ = some (.slice (some ⟨L.bc, 0, none⟩) N N) := hR2.x.cell (k := 2) (by decide)
        have gcc : w2.cell? ⟨L.bc, k, none⟩ = some (.int .i64 (S.chain k)) := hR2.c.cell hkN
        have HRUN := Lib.hid hrun
        have HO2 : Hid (w2.ownsRow w.heap.size 32 3 v' (ds ++ [S.adr k]).length (adrCells (ds ++ [S.adr k]))) := by
          show World.ownsRow _ _ _ _ _ _ _
          rw [adrCells_snoc, List.length_append]; exact hown2
        have HB2 := Lib.hid hB2
        have HD2 : Hid (findL S f l = (ds ++ [S.adr k]) ++ findL S f l') := by
          show _ = _
          rw [hds.out, List.append_assoc]
          congr 1
          rw [findL, if_pos HFK.out]; rfl
        clear hrun hown2 hg2 hB2 hR2 hB hown
        go_wp2_with (at_builtin; refine wpList_append_eq rfl _ _ 39 rfl rfl rfl HRUN.out ?_)
        go_roundg l'.length
        case measure => simp
        case rel => exact ⟨l', ds ++ [S.adr k], rfl, h1', ⟨_, rfl, HLK.out⟩, HO2.out, HD2, HB2.out⟩
      · have hfe : ((S.fng k : Int) == (f : Int)) = false := beq_eq_false_iff_ne.2 (by omega)
        have HFK := Lib.hid hfk
        have HD2 : Hid (findL S f l = ds ++ findL S f l') := by
          show _ = _
          rw [hds.out]
          congr 1
          rw [findL, if_neg HFK.out]
        clear hB hown hfk
        go_wp2_with fail
        go_roundg l'.length
        case measure => simp
        case rel => exact ⟨l', ds, rfl, h1', ⟨_, rfl, HLK.out⟩, HO.out, HD2, HB.out⟩
end Go.Proofs.Ytccgdfamjohmgaa
