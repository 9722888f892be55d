/- reader.number. Conditions: the reader's parts lie in memory, beside it; the three variables are as laid. -/
import Derived.Test.YtelaijogjgcloaaDoorLad
set_option linter.unusedVariables false
set_option linter.unusedSimpArgs false
namespace Go.Proofs.YtelaijogjgcloaaDoor
open Go.RowKit Go.Ice Go.Scr

theorem next62 (w : World) (R : Nat) (l : List Txt) (bad : Bool) (h : RdAt w R l bad) :
    Calls Tryd.prog 62 #[.pointer (some ⟨R, 0, none⟩)] w fun e w' => e = .returned (strV (l.headD [])) ∧ RdAt w' R l.tail (bad || l.isEmpty) ∧ Frm (fun k => k = R) w w' := by
  cases l with
  | nil => refine (next_nil w R bad h).mono ?_; rintro e w' ⟨h1, h2, h3⟩; exact ⟨h1, by simpa using h2, h3⟩
  | cons x l => refine (next_cons w R x l bad h).mono ?_; rintro e w' ⟨h1, h2, h3⟩; exact ⟨h1, by simpa using h2, h3⟩
theorem RdAt.lt {w : World} {R : Nat} {l : List Txt} {bad : Bool} (h : RdAt w R l bad) : R < w.heap.size := by
  obtain ⟨v, h1, _⟩ := h; exact blk_lt h1
theorem RdAt.below {w w' : World} {R : Nat} {l : List Txt} {bad : Bool} (h : RdAt w R l bad) (hb : Below w.heap.size w w') : RdAt w' R l bad := by
  obtain ⟨v, h1, h2, h3⟩ := h
  exact ⟨v, (hb.block R (blk_lt h1)).trans h1, h2.below hb (Nat.le_refl _), h3⟩
/-- What lies behind the reader does not touch it. -/
theorem RdAt.behind {w w' : World} {R : Nat} {l : List Txt} {bad : Bool} (h : RdAt w R l bad) (hb : Below (R + 1) w w') : RdAt w' R l bad := by
  obtain ⟨v, h1, h2, h3⟩ := h
  have hR := blk_lt h1
  refine ⟨v, (hb.block R (by omega)).trans h1, ?_, h3⟩
  rcases h2 with h2 | ⟨h0, b, off, cap, rfl, g1, g2, g3, g4⟩
  · exact .inl h2
  · have hbR : b < R := h3 _ _ _ rfl
    exact .inr ⟨h0, b, off, cap, rfl, g1, g2, Nat.lt_of_lt_of_le g3 hb.size, fun j hj => by rw [hb.cell (p := ⟨b, _, none⟩) (by show b < R + 1; omega)]; exact g4 j hj⟩
/-- It goes wrong. -/
theorem RdAt.wrong {w : World} {R : Nat} {l : List Txt} {bad : Bool} (h : RdAt w R l bad) : RdAt (w.setCell ⟨R, 1, none⟩ (.bool true)) R l true ∧ Frm (fun k => k = R) w (w.setCell ⟨R, 1, none⟩ (.bool true)) := by
  obtain ⟨v, h1, h2, h3⟩ := h
  have hf : Frm (fun k => k = R) w (w.setCell ⟨R, 1, none⟩ (.bool true)) := (Frm.refl (fun k => k = R) w).setCell (p := ⟨R, _, none⟩) (.inl rfl) _
  refine ⟨⟨v, set_at h1 _, ?_, h3⟩, hf⟩
  rcases h2 with h2 | ⟨h0, b, off, cap, rfl, g1, g2, g3, g4⟩
  · exact .inl h2
  · have hbR : b ≠ R := Nat.ne_of_lt (h3 _ _ _ rfl)
    exact .inr ⟨h0, b, off, cap, rfl, g1, g2, Nat.lt_of_lt_of_le g3 hf.size, fun j hj => by rw [hf.cell (p := ⟨b, _, none⟩) g3 hbR]; exact g4 j hj⟩
end Go.Proofs.YtelaijogjgcloaaDoor
