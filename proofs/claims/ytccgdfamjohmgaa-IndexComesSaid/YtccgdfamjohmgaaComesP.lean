/- What the law IndexComes does to a list of entries. No condition. -/
import Derived.Test.YtccgdfamjohmgaaHelp
set_option linter.unusedVariables false
namespace Go.Proofs.Ytccgdfamjohmgaa
open Go.RowKit Go.Ice

/-- The finger of entry i. -/
def fngC (f i : Nat) : Nat := (f + i % 3) % 4294967296
theorem fngC_le (f i : Nat) : fngC f i ≤ 4294967295 := by unfold fngC; omega
def adrC (k i : Nat) : Adr := ⟨i, k + 1, i⟩
def entsC (f k i : Nat) : List (Nat × Adr) := (List.range i).map fun j => (fngC f j, adrC k j)
theorem entsC_len (f k i : Nat) : (entsC f k i).length = i := by simp [entsC]
theorem entsC_succ (f k i : Nat) : entsC f k (i + 1) = entsC f k i ++ [(fngC f i, adrC k i)] := by simp [entsC, List.range_succ]
theorem entsC_sec {f k i : Nat} {x : Nat × Adr} (h : x ∈ entsC f k i) : 0 ≤ x.2.sec ∧ x.2.sec < i ∧ x.2.gen = k + 1 := by
  unfold entsC at h
  obtain ⟨j, hj, rfl⟩ := List.mem_map.1 h
  simp at hj
  simp [adrC]; omega
theorem entsC_not (f k i : Nat) (g : Nat) : (g, adrC k i) ∉ entsC f k i := fun h => by
  have := entsC_sec h
  simp [adrC] at this
theorem addC (f k i N : Nat) (h : i < N) : addA (entsC f k i) N (fngC f i) (adrC k i) = (0, entsC f k (i + 1)) := by
  unfold addA
  rw [if_neg (entsC_not f k i _), if_neg (by rw [entsC_len]; omega), entsC_succ]
theorem fullC (f k N g : Nat) : addA (entsC f k N) N g ⟨0, 0, -1⟩ = (6, entsC f k N) := by
  unfold addA
  rw [if_neg (fun h => by have := entsC_sec h; simp at this), if_pos (entsC_len _ _ _)]
theorem dropC (f k N : Nat) : (entsC f k N).filter (keepA ((k : Int) + 1)) = [] := by
  rw [List.filter_eq_nil_iff]
  intro x hx
  have := entsC_sec hx
  simp [keepA, this.2.2]
theorem filter_all {α : Type} (l : List α) (p : α → Bool) (h : ∀ x ∈ l, p x = true) : l.filter p = l := List.filter_eq_self.2 h
theorem removeC (f k i : Nat) : remA (entsC f k (i + 1)) (fngC f i) (adrC k i) = (0, entsC f k i) := by
  unfold remA
  rw [if_pos (by rw [entsC_succ]; simp), entsC_succ, List.filter_append, filter_all _ _ (fun x hx => by
    have := entsC_sec hx
    simp only [Bool.not_eq_true', decide_eq_false_iff_not]
    rintro rfl
    simp [adrC] at this)]
  simp
theorem remove2C (f k i : Nat) : remA (entsC f k i) (fngC f i) (adrC k i) = (4, entsC f k i) := by
  unfold remA
  rw [if_neg (entsC_not f k i _)]

section
variable {w0 w : World} {L : Lay} {N f k i : Nat}
theorem fngC_int (f i : Nat) : ((f : Int) + (i : Int) % 3) % 4294967296 = ((fngC f i : Nat) : Int) := by unfold fngC; omega
theorem addC_at (h : Own1 w0 w L N (entsC f k i)) (hi : i < N) :
    Calls Try.prog 13 #[.pointer (some ⟨L.bx, 0, none⟩), .int .u32 (((f : Int) + (i : Int) % 3) % 4294967296), .agg #[.int .i64 i, .int .u64 (k + 1), .int .i64 i]] w fun e w' => e = .returned (.int .i64 0) ∧ Own1 w0 w' L N (entsC f k (i + 1)) := by
  have := h.add (fngC f i) (adrC k i) (fngC_le f i)
  rw [addC f k i N hi] at this
  rw [fngC_int]
  exact this
theorem leftC_at (h : Own1 w0 w L N (entsC f k N)) : Calls Try.prog 18 #[.pointer (some ⟨L.bx, 0, none⟩)] w fun e w' => e = .returned (.int .i64 0) ∧ ∃ m, w' = w.drewN m := by
  have := h.left
  rw [entsC_len, Nat.sub_self] at this
  exact this
theorem fullC_at (h : Own1 w0 w L N (entsC f k N)) (hf : f ≤ 4294967295) : Calls Try.prog 13 #[.pointer (some ⟨L.bx, 0, none⟩), .int .u32 f, .agg #[.int .i64 0, .int .u64 0, .int .i64 (-1)]] w fun e w' => e = .returned (.int .i64 6) ∧ Own1 w0 w' L N (entsC f k N) := by
  have := h.add f ⟨0, 0, -1⟩ hf
  rw [fullC] at this
  exact this
theorem dropC_at (h : Own1 w0 w L N (entsC f k N)) : Calls Try.prog 12 #[.pointer (some ⟨L.bx, 0, none⟩), .int .u64 (k + 1)] w fun e w' => e = .returned (.int .i64 N) ∧ Own1 w0 w' L N [] := by
  have := h.drop (k + 1)
  rw [dropC, entsC_len] at this
  exact this
theorem removeC_at (h : Own1 w0 w L N (entsC f k (i + 1))) : Calls Try.prog 14 #[.pointer (some ⟨L.bx, 0, none⟩), .int .u32 (((f : Int) + (i : Int) % 3) % 4294967296), .agg #[.int .i64 i, .int .u64 (k + 1), .int .i64 i]] w fun e w' => e = .returned (.int .i64 0) ∧ Own1 w0 w' L N (entsC f k i) := by
  have := h.remove (fngC f i) (adrC k i) (fngC_le f i)
  rw [removeC] at this
  rw [fngC_int]
  exact this
theorem removeCF_at (h : Own1 w0 w L N (entsC f k (i + 1))) : Calls Try.prog 14 #[.pointer (some ⟨L.bx, 0, none⟩), .int .u32 (((f : Int) + (i : Int) % 3) % 4294967296), .agg #[.int .i64 i, .int .u64 (k + 1), .int .i64 i]] w fun e w' => e = .returned (.int .i64 0) ∧ Own1 w0 w' L N (entsC f k i) ∧ Frm L.owns w w' := by
  have := remove_at w L N _ (fngC f i) (adrC k i) (fngC_le f i) h.here
  rw [removeC] at this
  rw [fngC_int]
  exact this.mono fun e w' ⟨h1, h2, h3⟩ => ⟨h1, h.step h3 h2, h3⟩
/-- A block made behind the index stays as it is. -/
theorem far_cell {A : List (Nat × Adr)} (h : Own1 w0 w L N A) {o : Obj} {w' : World} (hf : Frm L.owns (w.alloc o) w') (r : Nat) : w'.cell? ⟨w.heap.size, r, none⟩ = (w.alloc o).cell? ⟨w.heap.size, r, none⟩ :=
  hf.cell (p := ⟨w.heap.size, r, none⟩) (by simp) (fun ho => by have := h.here.lt _ ho; simp at this)
theorem remove2C_at (h : Own1 w0 w L N (entsC f k i)) : Calls Try.prog 14 #[.pointer (some ⟨L.bx, 0, none⟩), .int .u32 (((f : Int) + (i : Int) % 3) % 4294967296), .agg #[.int .i64 i, .int .u64 (k + 1), .int .i64 i]] w fun e w' => e = .returned (.int .i64 4) ∧ Own1 w0 w' L N (entsC f k i) := by
  have := h.remove (fngC f i) (adrC k i) (fngC_le f i)
  rw [remove2C] at this
  rw [fngC_int]
  exact this
end
end Go.Proofs.Ytccgdfamjohmgaa
