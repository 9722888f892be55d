/- reader.keep. Conditions: the reader's parts lie in memory, beside it; the part is not too long. -/
import Derived.Test.YtelaijogjgcloaaDoorRkp
set_option linter.unusedVariables false
set_option linter.unusedSimpArgs false
namespace Go.Proofs.YtelaijogjgcloaaDoor
open Go.RowKit Go.Ice Go.Scr

theorem isSl_frm {w w' : World} {R : Nat} {pv : Value} {cs : List Value} (h2 : IsSl w pv cs) (h3 : ∀ a n c, pv = .slice (some a) n c → a.block < R) (hf : Frm (fun k => k = R) w w') : IsSl w' pv cs := by
  rcases h2 with h2 | ⟨h0, b, off, cap, rfl, g1, g2, g3, g4⟩
  · exact .inl h2
  · have hbR : b ≠ R := Nat.ne_of_lt (h3 _ _ _ rfl)
    exact .inr ⟨h0, b, off, cap, rfl, g1, g2, Nat.lt_of_lt_of_le g3 hf.size, fun j hj => by rw [hf.cell (p := ⟨b, _, none⟩) g3 hbR]; exact g4 j hj⟩
/-- While a keep is read: the reader, all else, the row. -/
structure RkpI (w1 : World) (R G : Nat) (pv : Value) (b0 : Bool) (s : Txt) (k : Nat) (wr : World) : Prop where
  rd : wr.heap[R]? = some (.cells #[pv, .bool (b0 || (s.take k).any badC)] 80 (0, 0))
  frm : Frm (fun k => k = R) w1 wr
  own : wr.ownsRow G 4 1 (.slice (some ⟨G, 0, none⟩) s.length s.length) s.length (rkpX s k)
theorem RkpI.step {w1 : World} {R G : Nat} {pv : Value} {b0 : Bool} {s : Txt} {k : Nat} {wr : World} {c : UInt8} (h : RkpI w1 R G pv b0 s k wr) (hc : s[k]? = some c) (hG : G = w1.heap.size) (hR : R < w1.heap.size) :
    RkpI w1 R G pv b0 s (k + 1) ((wr.setCell ⟨G, k, none⟩ (.bool (isOne c))).setCell ⟨R, 1, none⟩ (.bool ((b0 || (s.take k).any badC) || badC c))) := by
  have e : (s.take (k + 1)).any badC = ((s.take k).any badC || badC c) := by rw [List.take_add_one, hc]; simp
  refine ⟨?_, (h.frm.setCell (p := ⟨G, k, none⟩) (.inr (by show w1.heap.size ≤ G; omega)) _).setCell (p := ⟨R, 1, none⟩) (.inl rfl) _, ?_⟩
  · rw [e, ← Bool.or_assoc]
    exact set_at (blk_set h.rd (p := ⟨G, k, none⟩) (by show R ≠ G; omega) _) _
  · have h1 := (h.own.stored k (.bool (isOne c))).1
    rw [rkpX_set hc] at h1
    exact own_set h1 (p := ⟨R, 1, none⟩) (by show R < G; omega) _
end Go.Proofs.YtelaijogjgcloaaDoor
