/- reader.next. Condition: the reader's parts lie in memory, beside it. -/
import Derived.Test.YtelaijogjgcloaaDoorNbr
set_option linter.unusedVariables false
set_option linter.unusedSimpArgs false
namespace Go.Proofs.YtelaijogjgcloaaDoor
open Go.RowKit Go.Ice Go.Scr

/-- A line's reader: its block, its parts, whether it went wrong. -/
def RdAt (w : World) (R : Nat) (l : List Txt) (bad : Bool) : Prop :=
  ∃ v, w.heap[R]? = some (.cells #[v, .bool bad] 80 (0, 0)) ∧ IsSl w v (l.map strV) ∧ ∀ a n c, v = .slice (some a) n c → a.block < R
set_option maxHeartbeats 4000000 in
set_option maxRecDepth 100000 in
theorem next_nil (w : World) (R : Nat) (bad : Bool) (h : RdAt w R [] bad) :
    Calls Tryd.prog 62 #[.pointer (some ⟨R, 0, none⟩)] w fun e w' => e = .returned (strV []) ∧ RdAt w' R [] true ∧ Frm (fun k => k = R) w w' := by
  obtain ⟨v, h1, h2, h3⟩ := h
  obtain ⟨a, c, rfl, hm⟩ := h2.form
  have c0 : w.cell? ⟨R, 0, none⟩ = some (.slice a 0 c) := blk_cell h1 0
  have c1 : w.cell? ⟨R, 1, none⟩ = some (.bool bad) := blk_cell h1 1
  have f1 := blk_frozen h1 1
  have H1 := Lib.hid h1
  have H2 := Lib.hid h2
  have H3 := Lib.hid h3
  clear h1 h2 h3 hm
  go_enter Tryd.func62, Tryd.ntmps62
  go_wp2_with fail
  go_ret
  have hf : Frm (fun k => k = R) w (w.setCell ⟨R, 1, none⟩ (.bool true)) := (Frm.refl (fun k => k = R) w).setCell (p := ⟨R, _, none⟩) (.inl rfl) _
  refine ⟨rfl, ⟨_, set_at H1.out _, .inl ⟨rfl, ?_⟩, H3.out⟩, hf⟩
  rcases H2.out with ⟨_, h⟩ | ⟨h, _⟩
  · exact h
  · simp at h

set_option maxHeartbeats 4000000 in
set_option maxRecDepth 100000 in
theorem next_cons (w : World) (R : Nat) (x : Txt) (l : List Txt) (bad : Bool) (h : RdAt w R (x :: l) bad) :
    Calls Tryd.prog 62 #[.pointer (some ⟨R, 0, none⟩)] w fun e w' => e = .returned (strV x) ∧ RdAt w' R l bad ∧ Frm (fun k => k = R) w w' := by
  obtain ⟨v, h1, h2, h3⟩ := h
  have H2 := Lib.hid h2
  rcases h2 with ⟨h, _⟩ | ⟨hp, b, off, cap, rfl, g1, g2, g3, g4⟩
  · simp at h
  rw [List.length_map, List.length_cons] at h1 h3 g1 g4
  have q0 := g4 0 (by omega)
  rw [Nat.add_zero] at q0
  replace q0 : w.cell? ⟨b, off, none⟩ = some (strV x) := q0
  have hbl : b < R := h3 _ _ _ rfl
  have hbR : b ≠ R := Nat.ne_of_lt hbl
  have HBR := Lib.hid hbR
  have HBL := Lib.hid hbl
  clear hbl
  have c0 : w.cell? ⟨R, 0, none⟩ = some (.slice (some ⟨b, off, none⟩) (l.length + 1) cap) := blk_cell h1 0
  have f1 := blk_frozen h1 0
  have H1 := Lib.hid h1
  have HG := Lib.hid g4
  have HG2 := Lib.hid g2
  have HG3 := Lib.hid g3
  unfold maxLen at g2
  obtain ⟨n, hn⟩ : ∃ n, n = l.length := ⟨_, rfl⟩
  rw [← hn] at H1 HG c0 g1
  have HN := Lib.hid hn
  clear h1 h3 g4 hn hp H2 g3
  unfold strV at q0
  go_enter Tryd.func62, Tryd.ntmps62
  go_wp2_with fail
  · go_ret
    have hf : Frm (fun k => k = R) w (w.setCell ⟨R, 0, none⟩ (.slice (some ⟨b, off, none⟩) n 0)) := (Frm.refl (fun k => k = R) w).setCell (p := ⟨R, _, none⟩) (.inl rfl) _
    have hl : l = [] := List.length_eq_zero_iff.1 (by rw [← HN.out]; omega)
    have hn0 : n = 0 := by omega
    refine ⟨rfl, ⟨_, set_at H1.out _, .inl ⟨by rw [hl]; rfl, .inr ⟨_, _, by rw [hn0]⟩⟩, fun a' n' c' e => ?_⟩, hf⟩
    injection e with e
    injection e with e
    rw [← e]; exact HBL.out
  · go_ret
    have hf : Frm (fun k => k = R) w (w.setCell ⟨R, 0, none⟩ (.slice (some ⟨b, off + 1, none⟩) n (cap - 1))) := (Frm.refl (fun k => k = R) w).setCell (p := ⟨R, _, none⟩) (.inl rfl) _
    refine ⟨rfl, ⟨_, set_at H1.out _, ?_, fun a' n' c' e => ?_⟩, hf⟩
    · cases hl : l with
      | nil => exact .inl ⟨rfl, .inr ⟨_, _, by rw [show n = 0 by rw [HN.out, hl]; rfl]⟩⟩
      | cons y l' =>
        rw [← hl]
        refine .inr ⟨by rw [hl]; simp, b, off + 1, cap - 1, by rw [List.length_map, ← HN.out], by rw [List.length_map, ← HN.out]; omega, by have := HG2.out; omega, Nat.lt_of_lt_of_le HG3.out hf.size, fun j hj => ?_⟩
        rw [hf.cell (p := ⟨b, _, none⟩) HG3.out HBR.out]
        have := HG.out (j + 1) (by rw [List.length_map, ← HN.out] at hj; omega)
        rw [show off + (j + 1) = off + 1 + j by omega] at this
        rw [this]; rfl
    · injection e with e
      injection e with e
      rw [← e]; exact HBL.out
end Go.Proofs.YtelaijogjgcloaaDoor
