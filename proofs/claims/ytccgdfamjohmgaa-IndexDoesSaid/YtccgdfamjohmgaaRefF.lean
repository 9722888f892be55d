/- The document's index: Find. Condition: at most 1024 entries; fingers fit 32 bits. -/
import Derived.Test.YtccgdfamjohmgaaRefP
set_option linter.unusedVariables false
namespace Go.Proofs.Ytccgdfamjohmgaa
open Go.RowKit Go.Ice

theorem findA_drop (A : List (Nat × Adr)) (f j : Nat) (h : j < A.length) : findA (A.drop j) f = findA (A.drop (j + 1)) f ++ (if (A.getD j default).1 = f then [(A.getD j default).2] else []) := by
  rw [List.drop_eq_getElem_cons h]
  unfold findA
  rw [List.reverse_cons, List.filter_append, List.map_append]
  congr 1
  rw [List.getD_eq_getElem?_getD, List.getElem?_eq_getElem h]
  simp only [Option.getD_some]
  by_cases hf : A[j].1 = f
  · rw [if_pos hf, List.filter_cons_of_pos (by simpa using hf)]; rfl
  · rw [if_neg hf, List.filter_cons_of_neg (by simpa using hf)]; rfl

set_option maxRecDepth 100000 in
set_option maxHeartbeats 4000000 in
theorem find_ref (w : World) (s : Int) (v : Value) (A : List (Nat × Adr)) (f : Nat) (h : EntAt w v A) (hA : A.length ≤ 1024) :
    Calls Try.prog 21 #[.agg #[.int .i64 s, v], .int .u32 f] w fun r w' => ∃ v', r = .returned v' ∧ w'.ownsRow w.heap.size 32 3 v' (findA A f).length (adrCells (findA A f)) ∧ Below w.heap.size w w' := by
  obtain ⟨i0, hi0, hz0, hz1, hz2⟩ := elemAdr.hi
  have hB0 : Below w.heap.size w (w.alloc (.cells #[.int .i64 s, v] 46)) := (Below.refl _ w).alloc (Nat.le_refl _) _
  obtain ⟨a, cap, rfl, hm⟩ := RowAt.form h
  have hbx : (w.alloc (.cells #[.int .i64 s, .slice a A.length cap] 46)).cell? ⟨w.heap.size, 1, none⟩ = some (.slice a A.length cap) := World.cell?_alloc_mark w _ 46 (0, 0) 1
  have hlen : ∀ j, (findA (A.drop j) f).length ≤ A.length := fun j => by
    unfold findA
    rw [List.length_map]
    exact Nat.le_trans (List.length_filter_le _ _) (by simp)
  have HH := Lib.hid h
  have HB := Lib.hid hB0
  have HLEN := Lib.hid hlen
  obtain ⟨W0, hW0⟩ : ∃ W0, W0 = w.alloc (.cells #[.int .i64 s, .slice a A.length cap] 46) := ⟨_, rfl⟩
  have hsz : W0.heap.size = w.heap.size + 1 := by rw [hW0]; simp
  rw [← hW0] at HB hbx
  have HW := Lib.hid hW0.symm
  have HSZ := Lib.hid hsz
  have HBX := Lib.hid hbx
  clear hW0 hsz hbx h hB0 hlen
  obtain ⟨n, hn⟩ : ∃ n, n = A.length := ⟨_, rfl⟩
  rw [← hn] at hm HW HBX hA HLEN
  have HN := Lib.hid hn
  clear hn
  have hm2 : n ≤ 9223372036854775807 := by omega
  go_enter Try.func21, Try.ntmps21
  go_wp2_with fail
  rw [← HN.out, HW.out]
  go_loopg [5, 6] n (fun g ov iv wr => ∃ j : Nat, g = j ∧ j ≤ n ∧ iv = .int .i64 ((j : Int) - 1) ∧ Hid (Below W0.heap.size W0 wr) ∧ wr.ownsRow (w.heap.size + 1) 32 3 ov (findA (A.drop j) f).length (adrCells (findA (A.drop j) f)))
  case atStart =>
    refine ⟨n, rfl, by omega, by congr 1; unfold wrap64; omega, Below.refl _ _, ?_⟩
    rw [HN.out, List.drop_length]
    exact World.ownsRow_nil _ _ _ _
  case round =>
    obtain ⟨j, hgj, hj, rfl, HBr, hown⟩ := hrel
    subst hgj
    have hsz' : w.heap.size + 1 ≤ wr.heap.size := by have := HBr.out.size; rw [HSZ.out] at this; exact this
    have HBW : Hid (Below w.heap.size w wr) := HB.out.trans (HBr.out.mono HB.out.size)
    have q : wr.cell? ⟨w.heap.size, 1, none⟩ = some (.slice a n cap) := by rw [HBr.out.cell (p := ⟨w.heap.size, 1, none⟩) (by rw [HSZ.out]; simp)]; exact HBX.out
    cases gk with
    | zero =>
      have HO := Lib.hid hown
      clear hown
      go_wp2_with fail
      go_ret
      exact ⟨_, rfl, own_base HO.out (by omega), HBW.out⟩
    | succ j =>
      rw [show (((j + 1 : Nat) : Int) - 1) = (j : Int) from by omega]
      have hjA : j < A.length := by rw [← HN.out]; omega
      obtain ⟨b, off, cap', hsl, g1, g2, g3, hc⟩ := HH.out.at (by omega)
      obtain ⟨rfl, rfl⟩ : a = some ⟨b, off, none⟩ ∧ cap = cap' := by cases hsl; exact ⟨rfl, rfl⟩
      obtain ⟨c0, c1, c2, c3⟩ := hc j hjA wr HBW.out
      have hfd := findA_drop A f j hjA
      have hln := HLEN.out (j + 1)
      have hjn : j < n := by omega
      clear hc hsl
      obtain ⟨x, hx⟩ : ∃ x, x = A.getD j default := ⟨_, rfl⟩
      rw [← hx] at c0 c1 c2 c3 hfd
      clear hx
      by_cases hfk : x.1 = f
      · have hfe : ((x.1 : Int) == (f : Int)) = true := beq_iff_eq.2 (by omega)
        rw [if_pos hfk] at hfd
        have HFD := Lib.hid hfd
        clear hfk hfd
        obtain ⟨v', w2, hrun, hown2, hg2, _⟩ := run_append_own (P := Try.prog) (wr.alloc (.cells #[.int .i64 x.2.seg, .int .u64 x.2.gen, .int .i64 x.2.sec] 32)) (w.heap.size + 1) 39 39 32 i0 _ 3 24 Try.underlying39 hi0 hz0 hz1 hz2 rfl (by decide) _ (findA (A.drop (j + 1)) f).length (adrCells (findA (A.drop (j + 1)) f)) (hown.alloc _)
          ⟨wr.heap.size, 0, none⟩ 1 1 [.int .i64 x.2.seg, .int .u64 x.2.gen, .int .i64 x.2.sec] rfl (fun j u hu => by
            rw [show (⟨wr.heap.size, 0, none⟩ : Addr).add j = ⟨wr.heap.size, j, none⟩ from by rw [Addr.add_lit, Nat.zero_add], World.cell?_alloc_mark]; simpa using hu) (by
            intro u hu
            simp only [List.mem_cons, List.mem_nil_iff, or_false] at hu
            rcases hu with rfl | rfl | rfl <;> rfl) (by unfold maxLen; omega) (by omega) (by simp; omega)
        have hB2 : Below W0.heap.size W0 w2 := (HBr.out.alloc HBr.out.size _).grown hg2 (by have := HBr.out.size; simp; omega) (fun q hq => by have := (hown.lt q hq).1; rw [HSZ.out]; exact this)
        have HRUN := Lib.hid hrun
        have HO2 : Hid (w2.ownsRow (w.heap.size + 1) 32 3 v' (findA (A.drop j) f).length (adrCells (findA (A.drop j) f))) := by
          show World.ownsRow _ _ _ _ _ _ _
          rw [HFD.out, adrCells_snoc, List.length_append]; exact hown2
        have HB2 := Lib.hid hB2
        clear hrun hown2 hg2 hB2 hown
        go_wp2_with (at_builtin; refine wpList_append_eq rfl _ _ 39 rfl rfl rfl HRUN.out ?_)
        go_roundg j
        case measure => omega
        case rel => exact ⟨j, rfl, by omega, rfl, HB2.out, HO2.out⟩
      · have hfe : ((x.1 : Int) == (f : Int)) = false := beq_eq_false_iff_ne.2 (by omega)
        rw [if_neg hfk, List.append_nil] at hfd
        have HFD := Lib.hid hfd
        have HO := Lib.hid hown
        clear hfk hfd hown
        go_wp2_with fail
        go_roundg j
        case measure => omega
        case rel => exact ⟨j, rfl, by omega, rfl, HBr.out, by rw [HFD.out]; exact HO.out⟩
end Go.Proofs.Ytccgdfamjohmgaa
