/- What is laid: the table of powers, the two errors of strconv. -/
import Derived.Test.YtelaijogjgcloaaDoorNxt
import Derived.Test.YtelaijogjgcloaaDoorAto
import Derived.Lib.AtoiErrMem
set_option linter.unusedVariables false
namespace Go.Proofs.YtelaijogjgcloaaDoor
open Go.RowKit Go.Ice Go.Scr

theorem var_below {name : String} {cs : Array Value} {w w' : World} (h : w.var? Tryd.prog name = some cs) (hb : Below w.heap.size w w') : w'.var? Tryd.prog name = some cs := by
  unfold World.var? at h ⊢
  cases hg : Tryd.prog.globalNamed name with
  | none => rw [hg] at h; cases h
  | some g =>
    rw [hg] at h
    simp only [Option.bind_some] at h ⊢
    have hlt : g < w.heap.size := by
      rcases Nat.lt_or_ge g w.heap.size with h1 | h1
      · exact h1
      · rw [Array.getElem?_eq_none h1] at h; cases h
    rw [hb.block g hlt]
    exact h
/-- The variables that the numbers' walks read. -/
structure Laid (w : World) : Prop where
  pow : Pow10 w
  syn : ∃ tp p, w.var? Tryd.prog "strconv.ErrSyntax" = some #[.iface tp p]
  rng : ∃ tp p, w.var? Tryd.prog "strconv.ErrRange" = some #[.iface tp p]
  mem : ∃ m, w.cell? ⟨0, 0, none⟩ = some (.int .i64 m)
theorem Laid.below {w w' : World} (h : Laid w) (hb : Below w.heap.size w w') : Laid w' := by
  obtain ⟨h1, ⟨a, b, h2⟩, ⟨c, d, h3⟩, ⟨m, h4⟩⟩ := h
  exact ⟨var_below h1 hb, ⟨a, b, var_below h2 hb⟩, ⟨c, d, var_below h3 hb⟩, ⟨m, (hb.cell (p := ⟨0, 0, none⟩) (World.block_lt_of_cell? w _ h4)).trans h4⟩⟩
/-- strconv.Atoi, whatever it says: the number, or an error. -/
theorem atoi78 (w : World) (s : Txt) (hl : Laid w) (hs : s.length ≤ 281474976710656) :
    Calls Tryd.prog 78 #[strV s] w fun e w' => ((∃ v, Go.Lib.atoiAll s = .ok v ∧ e = .returned (.tuple #[.int .i64 v, .nilIface])) ∨ (∃ n N, (∀ v, Go.Lib.atoiAll s ≠ .ok v) ∧ e = .returned (.tuple #[.int .i64 n, .iface 137 (.pointer (some ⟨N, 0, none⟩))]))) ∧ Below w.heap.size w w' := by
  obtain ⟨h1, ⟨a, b, h2⟩, ⟨c, d, h3⟩, _⟩ := hl
  have hsz : (⟨s.toArray⟩ : ByteArray).size = s.length := by show s.toArray.size = _; simp
  rcases ha : Go.Lib.atoiAll s with v | _ | _
  · refine (Tryd.strconv_Atoi_ok ⟨s.toArray⟩ (by omega) v (by simpa using ha) w).mono ?_
    rintro e w' ⟨rfl, hw⟩
    refine ⟨.inl ⟨v, rfl, rfl⟩, ?_⟩
    rcases hw with rfl | ⟨t, rfl⟩
    · exact Below.refl _ _
    · exact Lib.bytesWorld_below _ _ _
  · refine (Tryd.strconv_Atoi_syntax_var ⟨s.toArray⟩ (by omega) (show Go.Lib.atoiAll s = Go.Lib.atoiAll [] from ha.trans rfl) a b w h2).mono ?_
    rintro e w' ⟨N, rfl, _, _, hb⟩
    exact ⟨.inr ⟨_, N, (fun v h => by cases h), rfl⟩, hb⟩
  · refine (Tryd.strconv_Atoi_range_var ⟨s.toArray⟩ (by omega) (by simpa using ha) c d w h3).mono ?_
    rintro e w' ⟨N, rfl, _, _, hb⟩
    exact ⟨.inr ⟨_, N, (fun v h => by cases h), rfl⟩, hb⟩
end Go.Proofs.YtelaijogjgcloaaDoor
