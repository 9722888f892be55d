/- What the law IndexFills does to a list of entries. No condition. -/
import Derived.Test.YtccgdfamjohmgaaDoes
set_option linter.unusedVariables false
namespace Go.Proofs.Ytccgdfamjohmgaa
open Go.RowKit Go.Ice

def entF (i : Nat) : Nat × Adr := (i % 11, ⟨(i : Int) % 5, (i : Int) % 7 + 1, i⟩)
def entsF (i : Nat) : List (Nat × Adr) := (List.range i).map entF
theorem entsF_len (i : Nat) : (entsF i).length = i := by simp [entsF]
theorem entsF_succ (i : Nat) : entsF (i + 1) = entsF i ++ [entF i] := by simp [entsF, List.range_succ]
theorem entsF_sec {i : Nat} {x : Nat × Adr} (h : x ∈ entsF i) : 0 ≤ x.2.sec ∧ x.2.sec < i ∧ 1 ≤ x.2.gen := by
  unfold entsF at h
  obtain ⟨j, hj, rfl⟩ := List.mem_map.1 h
  simp at hj
  simp [entF]; omega
theorem addF (i N : Nat) (h : i < N) : addA (entsF i) N (entF i).1 (entF i).2 = (0, entsF (i + 1)) := by
  unfold addA
  rw [if_neg (fun h => by have := entsF_sec h; simp [entF] at this), if_neg (by rw [entsF_len]; omega), entsF_succ]
theorem fullF (N : Nat) : addA (entsF N) N 2147483648 ⟨0, 0, 0⟩ = (6, entsF N) := by
  unfold addA
  rw [if_neg (fun h => by have := entsF_sec h; simp at this), if_pos (entsF_len _)]

section
variable {w0 w : World} {L : Lay} {N i : Nat}
theorem addF_at (h : Own1 w0 w L N (entsF i)) (hi : i < N) :
    Calls Try.prog 13 #[.pointer (some ⟨L.bx, 0, none⟩), .int .u32 ((i : Int) % 11), .agg #[.int .i64 ((i : Int) % 5), .int .u64 ((i : Int) % 7 + 1), .int .i64 i]] w fun e w' => e = .returned (.int .i64 0) ∧ Own1 w0 w' L N (entsF (i + 1)) ∧ Frm L.owns w w' := by
  have := add_at w L N (entsF i) (entF i).1 (entF i).2 (by show i % 11 ≤ _; omega) h.here
  rw [addF i N hi] at this
  rw [show ((i : Int) % 11) = ((i % 11 : Nat) : Int) from by omega]
  exact this.mono fun e w' ⟨h1, h2, h3⟩ => ⟨h1, h.step h3 h2, h3⟩
theorem fullF_at (h : Own1 w0 w L N (entsF N)) : Calls Try.prog 13 #[.pointer (some ⟨L.bx, 0, none⟩), .int .u32 2147483648, .agg #[.int .i64 0, .int .u64 0, .int .i64 0]] w fun e w' => e = .returned (.int .i64 6) ∧ Own1 w0 w' L N (entsF N) ∧ Frm L.owns w w' := by
  have := add_at w L N (entsF N) 2147483648 ⟨0, 0, 0⟩ (by decide) h.here
  rw [fullF] at this
  exact this.mono fun e w' ⟨h1, h2, h3⟩ => ⟨h1, h.step h3 h2, h3⟩
end
theorem own_frm {w w' : World} {base e size n : Nat} {v : Value} {xs : List Value} {T : Nat → Prop} (h : w.ownsRow base e size v n xs) (hf : Frm T w w') (hT : ∀ k, base ≤ k → ¬ T k) : w'.ownsRow base e size v n xs := by
  obtain ⟨h1, h2⟩ := h
  refine ⟨h1, ?_⟩
  rcases h2 with h2 | ⟨g, cap, cur, hv, hb, hg, r⟩
  · exact .inl h2
  · exact .inr ⟨g, cap, cur, hv, hb, (hf.block g (Array.getElem?_eq_some_iff.1 hg).1 (hT g hb)).trans hg, r⟩
end Go.Proofs.Ytccgdfamjohmgaa
