/- Versions in memory: what a slice of them reads as, where it lies. No condition. -/
import Derived.Test.YtngpffmgkponfaaCmp
import Derived.Sort.Row
set_option linter.unusedVariables false
set_option linter.unusedSimpArgs false
namespace Go.Proofs.Ytngpffmgkponfaa
open Go.RowKit Go.Ice Go.Idl

def Tv.ok (t : Tv) : Prop := t.val.length ≤ 1000 ∧ 0 ≤ t.fl ∧ t.fl ≤ 4294967295 ∧ 0 ≤ t.ex ∧ t.ex ≤ 4294967295 ∧ 0 ≤ t.cas ∧ t.cas ≤ 18446744073709551615

/-- Bytes in memory, in blocks of C. -/
def BytesIn (w : World) (C : Nat → Prop) (v : Value) (l : List UInt8) : Prop := BytesAt w v l ∧ (l ≠ [] → ∀ b, v.ownBlock = some b → C b)

theorem IsSl.frm {S : Nat → Prop} {w w' : World} {v : Value} {cs : List Value} (h : IsSl w v cs) (hf : Frm S w w') (hS : cs ≠ [] → ∀ b, v.ownBlock = some b → ¬ S b) : IsSl w' v cs := by
  rcases h with h | ⟨h0, b, off, cap, hv, h1, h2, h3, h4⟩
  · exact .inl h
  · refine .inr ⟨h0, b, off, cap, hv, h1, h2, by have := hf.size; omega, fun j hj => ?_⟩
    rw [hf.cell (p := ⟨b, off + j, none⟩) h3 (hS (by intro e; simp [e] at h0) b (by rw [hv]; rfl))]
    exact h4 j hj
theorem BytesIn.frm {S C : Nat → Prop} {w w' : World} {v : Value} {l : List UInt8} (h : BytesIn w C v l) (hf : Frm S w w') (hS : ∀ b, C b → ¬ S b) : BytesIn w' C v l :=
  ⟨IsSl.frm h.1 hf (fun hl b hb => hS b (h.2 (by intro e; simp [e] at hl) b hb)), h.2⟩
theorem BytesIn.mono {C D : Nat → Prop} {w : World} {v : Value} {l : List UInt8} (h : BytesIn w C v l) (hS : ∀ b, b < w.heap.size → C b → D b) : BytesIn w D v l :=
  ⟨h.1, fun hl b hb => hS b (by
    rcases h.1 with ⟨h, _⟩ | ⟨h0, b', off, cap, hv, h1, h2, h3, h4⟩
    · simp at h; exact absurd h hl
    · rw [hv] at hb; cases hb; exact h3) (h.2 hl b hb)⟩
theorem BytesIn.nil (w : World) (C : Nat → Prop) : BytesIn w C (.slice none 0 0) [] := ⟨.inl ⟨rfl, .inl rfl⟩, fun h => absurd rfl h⟩

def encR (p : Value × Tv) : List Value := [p.1, .int .u32 p.2.fl, .int .u32 p.2.ex, .int .u64 p.2.cas]
def cellsR (rl : List (Value × Tv)) : List Value := rl.flatMap encR
theorem cellsR_len (rl : List (Value × Tv)) : (cellsR rl).length = rl.length * 4 := by
  induction rl with
  | nil => rfl
  | cons p r ih =>
    rw [show cellsR (p :: r) = encR p ++ cellsR r from rfl, List.length_append, ih, List.length_cons, Nat.succ_mul]
    simp [encR]; omega
theorem cellsR_at {rl : List (Value × Tv)} {i : Nat} {p : Value × Tv} (h : rl[i]? = some p) {j : Nat} (hj : j < 4) : (cellsR rl)[i * 4 + j]? = (encR p)[j]? := by
  induction rl generalizing i with
  | nil => simp at h
  | cons q r ih =>
    rw [show cellsR (q :: r) = encR q ++ cellsR r from rfl]
    cases i with
    | zero =>
      obtain rfl : q = p := by simpa using h
      rw [Nat.zero_mul, Nat.zero_add, List.getElem?_append_left (by simpa [encR] using hj)]
    | succ i =>
      rw [List.getElem?_append_right (by simp [encR]; omega), show (i + 1) * 4 + j - (encR q).length = i * 4 + j by simp [encR]; omega]
      exact ih (by simpa using h)
theorem cellsR_append (a b : List (Value × Tv)) : cellsR (a ++ b) = cellsR a ++ cellsR b := by simp [cellsR]

/-- A row of versions from a place on. -/
def RowR (w : World) (b off : Nat) (rl : List (Value × Tv)) : Prop := ∀ i p, rl[i]? = some p → w.cell? ⟨b, off + i * 4, none⟩ = some p.1 ∧ w.cell? ⟨b, off + i * 4 + 1, none⟩ = some (.int .u32 p.2.fl) ∧ w.cell? ⟨b, off + i * 4 + 2, none⟩ = some (.int .u32 p.2.ex) ∧ w.cell? ⟨b, off + i * 4 + 3, none⟩ = some (.int .u64 p.2.cas)
theorem RowR.of {w : World} {b off : Nat} {rl : List (Value × Tv)} (h : ∀ j, j < (cellsR rl).length → w.cell? ⟨b, off + j, none⟩ = (cellsR rl)[j]?) : RowR w b off rl := by
  intro i p hp
  have hi : i < rl.length := (List.getElem?_eq_some_iff.1 hp).1
  have hl := cellsR_len rl
  have q : ∀ j, j < 4 → w.cell? ⟨b, off + i * 4 + j, none⟩ = (encR p)[j]? := fun j hj => by
    rw [Nat.add_assoc, h (i * 4 + j) (by omega), cellsR_at hp hj]
  exact ⟨q 0 (by omega), q 1 (by omega), q 2 (by omega), q 3 (by omega)⟩
theorem RowR.frm {S : Nat → Prop} {w w' : World} {b off : Nat} {rl : List (Value × Tv)} (h : RowR w b off rl) (hf : Frm S w w') (hb : b < w.heap.size) (hS : ¬ S b) : RowR w' b off rl := by
  intro i p hp
  have := h i p hp
  rw [hf.cell (p := ⟨b, off + i * 4, none⟩) hb hS, hf.cell (p := ⟨b, off + i * 4 + 1, none⟩) hb hS, hf.cell (p := ⟨b, off + i * 4 + 2, none⟩) hb hS, hf.cell (p := ⟨b, off + i * 4 + 3, none⟩) hb hS]
  exact this
theorem RowR.take {w : World} {b off : Nat} {rl : List (Value × Tv)} (h : RowR w b off rl) (k : Nat) : RowR w b off (rl.take k) := by
  intro i p hp
  refine h i p ?_
  have : i < k := by
    have := (List.getElem?_eq_some_iff.1 hp).1
    rw [List.length_take] at this; omega
  rw [List.getElem?_take_of_lt this] at hp
  exact hp

/-- A slice of versions: its block, its elements' blocks in C. -/
structure VersR (w : World) (C : Nat → Prop) (v : Value) (rl : List (Value × Tv)) : Prop where
  sl : (rl = [] ∧ (v = .slice none 0 0 ∨ ∃ a cap, v = .slice (some a) 0 cap)) ∨ (0 < rl.length ∧ ∃ b off cap, v = .slice (some ⟨b, off, none⟩) rl.length cap ∧ rl.length ≤ cap ∧ cap ≤ maxLen ∧ b < w.heap.size ∧ C b ∧ RowR w b off rl)
  el : ∀ p ∈ rl, BytesIn w C p.1 p.2.val
  ok : ∀ p ∈ rl, Tv.ok p.2
def VersAt (w : World) (C : Nat → Prop) (v : Value) (l : List Tv) : Prop := ∃ rl, rl.map Prod.snd = l ∧ VersR w C v rl
theorem VersR.frm {S C : Nat → Prop} {w w' : World} {v : Value} {rl : List (Value × Tv)} (h : VersR w C v rl) (hf : Frm S w w') (hS : ∀ b, C b → ¬ S b) : VersR w' C v rl := by
  refine ⟨?_, fun p hp => (h.el p hp).frm hf hS, h.ok⟩
  rcases h.sl with h | ⟨h0, b, off, cap, hv, h1, h2, h3, h4, h5⟩
  · exact .inl h
  · exact .inr ⟨h0, b, off, cap, hv, h1, h2, by have := hf.size; omega, h4, h5.frm hf h3 (hS b h4)⟩
theorem VersAt.frm {S C : Nat → Prop} {w w' : World} {v : Value} {l : List Tv} (h : VersAt w C v l) (hf : Frm S w w') (hS : ∀ b, C b → ¬ S b) : VersAt w' C v l := by
  obtain ⟨rl, h1, h2⟩ := h
  exact ⟨rl, h1, h2.frm hf hS⟩
theorem VersR.below {C : Nat → Prop} {w w' : World} {v : Value} {rl : List (Value × Tv)} (h : VersR w C v rl) (hb : Below w.heap.size w w') : VersR w' C v rl :=
  h.frm (frm_below (T := fun _ => False) hb) (fun _ _ h => h)
theorem VersAt.below {C : Nat → Prop} {w w' : World} {v : Value} {l : List Tv} (h : VersAt w C v l) (hb : Below w.heap.size w w') : VersAt w' C v l :=
  h.frm (frm_below (T := fun _ => False) hb) (fun _ _ h => h)
theorem VersR.mono {C D : Nat → Prop} {w : World} {v : Value} {rl : List (Value × Tv)} (h : VersR w C v rl) (hS : ∀ b, b < w.heap.size → C b → D b) : VersR w D v rl := by
  refine ⟨?_, fun p hp => (h.el p hp).mono hS, h.ok⟩
  rcases h.sl with h | ⟨h0, b, off, cap, hv, h1, h2, h3, h4, h5⟩
  · exact .inl h
  · exact .inr ⟨h0, b, off, cap, hv, h1, h2, h3, hS b h3 h4, h5⟩
theorem VersAt.mono {C D : Nat → Prop} {w : World} {v : Value} {l : List Tv} (h : VersAt w C v l) (hS : ∀ b, b < w.heap.size → C b → D b) : VersAt w D v l := by
  obtain ⟨rl, h1, h2⟩ := h
  exact ⟨rl, h1, h2.mono hS⟩
theorem VersAt.nil (w : World) (C : Nat → Prop) : VersAt w C (.slice none 0 0) [] := ⟨[], rfl, .inl ⟨rfl, .inl rfl⟩, (by simp), (by simp)⟩
theorem VersR.form {C : Nat → Prop} {w : World} {v : Value} {rl : List (Value × Tv)} (h : VersR w C v rl) : ∃ a cap, v = .slice a rl.length cap ∧ rl.length ≤ maxLen := by
  rcases h.sl with ⟨rfl, rfl | ⟨a, cap, rfl⟩⟩ | ⟨h0, b, off, cap, hv, h1, h2, h3, h4⟩
  · exact ⟨_, _, rfl, by decide⟩
  · exact ⟨_, _, rfl, by decide⟩
  · exact ⟨_, _, hv, by omega⟩
theorem VersAt.form {C : Nat → Prop} {w : World} {v : Value} {l : List Tv} (h : VersAt w C v l) : ∃ a cap, v = .slice a l.length cap ∧ l.length ≤ maxLen := by
  obtain ⟨rl, rfl, h2⟩ := h
  rw [List.length_map]
  exact h2.form
theorem VersR.at {C : Nat → Prop} {w : World} {v : Value} {rl : List (Value × Tv)} (h : VersR w C v rl) (h0 : 0 < rl.length) : ∃ b off cap, v = .slice (some ⟨b, off, none⟩) rl.length cap ∧ rl.length ≤ cap ∧ cap ≤ maxLen ∧ b < w.heap.size ∧ C b ∧ RowR w b off rl := by
  rcases h.sl with ⟨rfl, _⟩ | ⟨_, h⟩
  · simp at h0
  · exact h
theorem VersR.own {w : World} {base : Nat} {v : Value} {rl : List (Value × Tv)} (h : w.ownsRow base 49 4 v rl.length (cellsR rl)) {C : Nat → Prop} (hC : ∀ b, base ≤ b → C b) (hel : ∀ p ∈ rl, BytesIn w C p.1 p.2.val) (hok : ∀ p ∈ rl, Tv.ok p.2) : VersR w C v rl := by
  refine ⟨?_, hel, hok⟩
  have hk := own_isSlK h
  have hl := h.lt
  rcases hk.2 with ⟨h0, hv⟩ | ⟨h0, b, off, cap, hv, h1, h2, h3, h4⟩
  · exact .inl ⟨List.length_eq_zero_iff.1 h0, hv⟩
  · exact .inr ⟨h0, b, off, cap, hv, h1, h2, h3, hC b (hl b (by rw [hv]; rfl)).1, RowR.of h4⟩
theorem VersAt.nil_of {w : World} {C : Nat → Prop} {v : Value} {l : List Tv} (h : VersAt w C v l) (h0 : l.length = 0) : l = [] := List.length_eq_zero_iff.1 h0
end Go.Proofs.Ytngpffmgkponfaa
