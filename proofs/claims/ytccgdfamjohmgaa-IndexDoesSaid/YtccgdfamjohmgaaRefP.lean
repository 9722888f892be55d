/- The document's index: its entries in memory; has, Find. Condition: fewer than 2^20 entries. -/
import Derived.Test.YtccgdfamjohmgaaOps
set_option linter.unusedVariables false
namespace Go.Proofs.Ytccgdfamjohmgaa
open Go.RowKit Go.Ice

def entCell (e : Nat × Adr) : Nat → Value
  | 0 => .int .u32 e.1
  | 1 => .int .i64 e.2.seg
  | 2 => .int .u64 e.2.gen
  | _ => .int .i64 e.2.sec
def entV (e : Nat × Adr) : Value := .agg #[.int .u32 e.1, .int .i64 e.2.seg, .int .u64 e.2.gen, .int .i64 e.2.sec]
def entCells (A : List (Nat × Adr)) : List Value := A.flatMap fun e => [.int .u32 e.1, .int .i64 e.2.seg, .int .u64 e.2.gen, .int .i64 e.2.sec]
def EntAt (w : World) (v : Value) (A : List (Nat × Adr)) : Prop := RowAt w 4 v A.length fun i j => entCell (A.getD i default) j

theorem entCells_snoc (A : List (Nat × Adr)) (e : Nat × Adr) : entCells (A ++ [e]) = entCells A ++ [.int .u32 e.1, .int .i64 e.2.seg, .int .u64 e.2.gen, .int .i64 e.2.sec] := by
  unfold entCells; rw [List.flatMap_append]; rfl
theorem entCells_length (A : List (Nat × Adr)) : (entCells A).length = A.length * 4 := by
  induction A with
  | nil => rfl
  | cons a l ih => unfold entCells at *; rw [List.flatMap_cons, List.length_append, ih]; simp; omega
theorem entCells_get (l : List (Nat × Adr)) (i : Nat) (hi : i < l.length) (j : Nat) (hj : j < 4) : (entCells l)[i * 4 + j]? = some (entCell (l.getD i default) j) := by
  induction l generalizing i with
  | nil => simp at hi
  | cons a l ih =>
    have e : entCells (a :: l) = [.int .u32 a.1, .int .i64 a.2.seg, .int .u64 a.2.gen, .int .i64 a.2.sec] ++ entCells l := rfl
    rw [e]
    cases i with
    | zero =>
      match j, hj with
      | 0, _ => rfl
      | 1, _ => rfl
      | 2, _ => rfl
      | 3, _ => rfl
    | succ i =>
      rw [List.getElem?_append_right (by simp; omega)]
      simp only [List.length_cons, List.length_nil]
      rw [show (i + 1) * 4 + j - (0 + 1 + 1 + 1 + 1) = i * 4 + j from by omega, ih i (by simpa using hi)]
      simp
theorem entAt_of_own {w : World} {base : Nat} {e : TypeId} {v : Value} {A : List (Nat × Adr)} (h : w.ownsRow base e 4 v A.length (entCells A)) : EntAt w v A :=
  (own_isSlK h).rowAt fun i hi j hj => entCells_get A i hi j hj

/-- The cells of an entry, in a world that kept what was below. -/
theorem EntAt.at {w : World} {v : Value} {A : List (Nat × Adr)} (h : EntAt w v A) (hn : 0 < A.length) : ∃ b off cap, v = .slice (some ⟨b, off, none⟩) A.length cap ∧ A.length ≤ cap ∧ cap ≤ maxLen ∧ b < w.heap.size ∧
    ∀ i, i < A.length → ∀ W, Below w.heap.size w W → W.cell? ⟨b, off + i * 4, none⟩ = some (.int .u32 (A.getD i default).1) ∧ W.cell? ⟨b, off + i * 4 + 1, none⟩ = some (.int .i64 (A.getD i default).2.seg) ∧
      W.cell? ⟨b, off + i * 4 + 2, none⟩ = some (.int .u64 (A.getD i default).2.gen) ∧ W.cell? ⟨b, off + i * 4 + 3, none⟩ = some (.int .i64 (A.getD i default).2.sec) := by
  obtain ⟨b, off, cap, h1, h2, h3, h4, h5⟩ := RowAt.at h hn
  refine ⟨b, off, cap, h1, h2, h3, h4, fun i hi W hW => ?_⟩
  have q := h5 i hi
  have q0 := q 0 (by decide)
  have q1 := q 1 (by decide)
  have q2 := q 2 (by decide)
  have q3 := q 3 (by decide)
  simp only [entCell, Nat.add_zero, ← Nat.add_assoc] at q0 q1 q2 q3
  rw [hW.cell (p := ⟨b, off + i * 4, none⟩) h4, hW.cell (p := ⟨b, off + i * 4 + 1, none⟩) h4, hW.cell (p := ⟨b, off + i * 4 + 2, none⟩) h4, hW.cell (p := ⟨b, off + i * 4 + 3, none⟩) h4]
  exact ⟨q0, q1, q2, q3⟩

/-- How two entries agree, field by field, in the walk's own form. -/
def EntTest (x y : Nat × Adr) (r : Bool) : Prop :=
  (r = true ∧ ((x.1 : Int) == (y.1 : Int)) = true ∧ AdrTest x.2 y.2 true) ∨
  (r = false ∧ (((x.1 : Int) == (y.1 : Int)) = false ∨ (((x.1 : Int) == (y.1 : Int)) = true ∧ AdrTest x.2 y.2 false)))
theorem entTest (x y : Nat × Adr) : EntTest x y (decide (x = y)) := by
  obtain ⟨a, b⟩ := x
  obtain ⟨d, e⟩ := y
  unfold EntTest
  have h := adrTest b e
  by_cases h1 : a = d
  · by_cases h2 : b = e
    · rw [decide_eq_true h2] at h
      left; simp [h1, h2]; rw [h2] at h; exact h
    · rw [decide_eq_false h2] at h
      right; simp [h1, h2]; exact h
  · right; simp [h1]; exact .inl (by omega)

def testHas : List (Nat × Adr) → Nat × Adr → Bool := fun A e => decide (e ∈ A)

set_option maxRecDepth 100000 in
set_option maxHeartbeats 4000000 in
theorem has_ref (w : World) (s : Int) (v : Value) (A : List (Nat × Adr)) (e : Nat × Adr) (h : EntAt w v A) :
    Calls Try.prog 30 #[.agg #[.int .i64 s, v], entV e] w fun r w' => r = .returned (.bool (decide (e ∈ A))) ∧ Below w.heap.size w w' := by
  have hB0 : Below w.heap.size w ((w.alloc (.cells #[.int .i64 s, v] 46)).alloc (.cells #[.int .u32 e.1, .int .i64 e.2.seg, .int .u64 e.2.gen, .int .i64 e.2.sec] 52)) := ((Below.refl _ w).alloc (Nat.le_refl _) _).alloc (by simp) _
  obtain ⟨a, cap, rfl, hm⟩ := RowAt.form h
  unfold maxLen at hm
  have HH := Lib.hid h
  have HB := Lib.hid hB0
  obtain ⟨W0, hW0⟩ : ∃ W0, W0 = (w.alloc (.cells #[.int .i64 s, .slice a A.length cap] 46)).alloc (.cells #[.int .u32 e.1, .int .i64 e.2.seg, .int .u64 e.2.gen, .int .i64 e.2.sec] 52) := ⟨_, rfl⟩
  have hsz : W0.heap.size = w.heap.size + 2 := by rw [hW0]; simp
  have hq : ∀ r, W0.cell? ⟨w.heap.size + 1, r, none⟩ = #[Value.int .u32 e.1, .int .i64 e.2.seg, .int .u64 e.2.gen, .int .i64 e.2.sec][r]? := fun r => by
    rw [hW0]
    have := World.cell?_alloc_mark (w.alloc (.cells #[.int .i64 s, .slice a A.length cap] 46)) #[.int .u32 e.1, .int .i64 e.2.seg, .int .u64 e.2.gen, .int .i64 e.2.sec] 52 (0, 0) r
    rw [World.size_alloc] at this
    exact this
  rw [← hW0] at HB
  have HW := Lib.hid hW0.symm
  have HSZ := Lib.hid hsz
  have HQ := Lib.hid hq
  clear hW0 hsz hq
  obtain ⟨n, hn⟩ : ∃ n, n = A.length := ⟨_, rfl⟩
  rw [← hn] at hm HW ⊢
  have HN := Lib.hid hn
  clear h hB0 hn
  unfold entV
  go_enter Try.func30, Try.ntmps30
  go_wp2_with fail
  rw [HW.out]
  go_loopg [6, 10] n (fun g qv iv wr => ∃ i : Nat, g = n - i ∧ i ≤ n ∧ iv = .int .i64 i ∧ Hid (Below W0.heap.size W0 wr) ∧ Hid (∀ k, k < i → A.getD k default ≠ e))
  case atStart => exact ⟨0, rfl, by omega, rfl, Below.refl _ _, fun k hk => by omega⟩
  case round =>
    obtain ⟨i, rfl, hi, rfl, HBr, HNO⟩ := hrel
    by_cases hlt : i < n
    · have hgt : 0 < A.length := by rw [← HN.out]; omega
      obtain ⟨b, off, cap', hsl, g1, g2, g3, hc⟩ := HH.out.at hgt
      obtain ⟨rfl, rfl⟩ : a = some ⟨b, off, none⟩ ∧ cap = cap' := by cases hsl; exact ⟨rfl, rfl⟩
      obtain ⟨c0, c1, c2, c3⟩ := hc i (by rw [← HN.out]; exact hlt) wr (HB.out.trans (HBr.out.mono HB.out.size))
      have q0 : wr.cell? ⟨w.heap.size + 1, 0, none⟩ = some (.int .u32 e.1) := by rw [HBr.out.cell (p := ⟨w.heap.size + 1, 0, none⟩) (by rw [HSZ.out]; simp)]; exact HQ.out 0
      have q1 : wr.cell? ⟨w.heap.size + 1, 1, none⟩ = some (.int .i64 e.2.seg) := by rw [HBr.out.cell (p := ⟨w.heap.size + 1, 1, none⟩) (by rw [HSZ.out]; simp)]; exact HQ.out 1
      have q2 : wr.cell? ⟨w.heap.size + 1, 2, none⟩ = some (.int .u64 e.2.gen) := by rw [HBr.out.cell (p := ⟨w.heap.size + 1, 2, none⟩) (by rw [HSZ.out]; simp)]; exact HQ.out 2
      have q3 : wr.cell? ⟨w.heap.size + 1, 3, none⟩ = some (.int .i64 e.2.sec) := by rw [HBr.out.cell (p := ⟨w.heap.size + 1, 3, none⟩) (by rw [HSZ.out]; simp)]; exact HQ.out 3
      have hsz' : w.heap.size + 2 ≤ wr.heap.size := by have := HBr.out.size; rw [HSZ.out] at this; exact this
      have hne : w.heap.size + 1 ≠ wr.heap.size := by omega
      have ht := entTest (A.getD i default) e
      have HX : Hid (∀ (B : Bool), decide (A.getD i default = e) = B → Below w.heap.size w (wr.alloc (.cells #[.int .u32 (A.getD i default).1, .int .i64 (A.getD i default).2.seg, .int .u64 (A.getD i default).2.gen, .int .i64 (A.getD i default).2.sec] 52)) ∧
          Below W0.heap.size W0 (wr.alloc (.cells #[.int .u32 (A.getD i default).1, .int .i64 (A.getD i default).2.seg, .int .u64 (A.getD i default).2.gen, .int .i64 (A.getD i default).2.sec] 52))) :=
        fun _ _ => ⟨(HB.out.trans (HBr.out.mono HB.out.size)).alloc (HB.out.trans (HBr.out.mono HB.out.size)).size _, HBr.out.alloc HBr.out.size _⟩
      have HMEM : Hid (A.getD i default ∈ A) := by
        have : i < A.length := by rw [← HN.out]; exact hlt
        rw [List.getD_eq_getElem?_getD, List.getElem?_eq_getElem this]; exact List.getElem_mem this
      clear hc hsl
      obtain ⟨x, hx⟩ : ∃ x, x = A.getD i default := ⟨_, rfl⟩
      rw [← hx] at c0 c1 c2 c3 ht HX HMEM
      have HXE := Lib.hid hx
      clear hx
      have hqa : ∀ r, (wr.alloc (.cells #[.int .u32 x.1, .int .i64 x.2.seg, .int .u64 x.2.gen, .int .i64 x.2.sec] 52)).cell? ⟨w.heap.size + 1, r, none⟩ = wr.cell? ⟨w.heap.size + 1, r, none⟩ := fun r => ((Below.refl wr.heap.size wr).alloc (Nat.le_refl _) _).cell (p := ⟨w.heap.size + 1, r, none⟩) (by simp; omega)
      rw [← hqa 0] at q0
      rw [← hqa 1] at q1
      rw [← hqa 2] at q2
      rw [← hqa 3] at q3
      clear hqa
      rcases ht with ⟨he, t1, h⟩ | ⟨he, h⟩
      · have HE := Lib.hid (of_decide_eq_true he)
        rcases h with ⟨_, t2, t3, t4⟩ | ⟨h, _⟩
        · clear he
          go_wp2_with fail
          go_ret
          exact ⟨ret_bool (by rw [decide_eq_true (HE.out ▸ HMEM.out)]), (HX.out _ rfl).1⟩
        · cases h
      · have HE := Lib.hid (of_decide_eq_false he)
        clear he
        rcases h with t1 | ⟨t1, ⟨h, _⟩ | ⟨_, t2 | ⟨t2, t3 | ⟨t3, t4⟩⟩⟩⟩
        rotate_left
        · cases h
        all_goals
          go_wp2_with fail
          go_roundg (n - (i + 1))
          case measure => omega
          case rel =>
            refine ⟨i + 1, rfl, by omega, by go_num, (HX.out _ rfl).2, fun k hk => ?_⟩
            rcases Nat.lt_succ_iff_lt_or_eq.1 hk with h | h
            · exact HNO.out k h
            · rw [h, ← HXE.out]; exact HE.out
    · obtain rfl : i = n := by omega
      go_wp2_with fail
      go_ret
      refine ⟨ret_bool ?_, HB.out.trans (HBr.out.mono HB.out.size)⟩
      symm
      rw [decide_eq_false_iff_not]
      intro hm
      obtain ⟨k, hk, he⟩ := List.getElem_of_mem hm
      exact HNO.out k (by rw [HN.out]; exact hk) (by rw [List.getD_eq_getElem?_getD, List.getElem?_eq_getElem hk]; exact he)
end Go.Proofs.Ytccgdfamjohmgaa
