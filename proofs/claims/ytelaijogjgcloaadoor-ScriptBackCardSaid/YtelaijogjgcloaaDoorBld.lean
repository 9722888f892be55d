/- strings.Builder here: copyCheck, WriteString, WriteByte (this program's copyCheck refuses a written builder's copy: the shelf's own cannot be laid). The walks follow the shelf's. Condition: the builder is one of the call's own. -/
import Derived.Test.YtelaijogjgcloaaDoorWrd
import Derived.Lib.Builder
import Derived.Lib.AppendStr
import Derived.WalkKit
import Derived.Laws.Externs
set_option linter.unusedVariables false
set_option linter.unusedSimpArgs false
namespace Go.Proofs.YtelaijogjgcloaaDoor
open Go.RowKit Go.Ice Go.Scr

theorem ptrOf46 : Tryd.prog.underlying 46 = some (.pointer 48) := Tryd.underlying46
theorem builderSize : ∃ j, Tryd.prog.info? 48 = some j ∧ j.size = 2 := Option.map_eq_some_iff.1 (show (Tryd.prog.info? 48).map (·.size) = some 2 by kernel_rfl)

set_option maxHeartbeats 4000000 in
set_option maxRecDepth 100000 in
theorem copyCheck_used (b : Nat) (w : World) (h0 : w.cell? ⟨b, 0, none⟩ = some (.pointer (some ⟨b, 0, none⟩))) :
    Calls Tryd.prog 47 #[.pointer (some ⟨b, 0, none⟩)] w fun e w' => e = .returned (.tuple #[]) ∧ w' = w := by
  obtain ⟨j, hj, _⟩ := builderSize
  go_enter Tryd.func47, Tryd.ntmps47
  go_wp2
  rw [Lib.run_neq_ptr_same w _ ptrOf46 hj]
  go_wp2
  go_end0
  exact ⟨rfl, rfl⟩

set_option maxHeartbeats 4000000 in
set_option maxRecDepth 100000 in
theorem copyCheck_fresh (b : Nat) (w : World) (h0 : w.cell? ⟨b, 0, none⟩ = some (.pointer none)) (hsh : w.shape? b = some (48, 2)) (hfz : w.frozen? ⟨b, 0, none⟩ = false) :
    Calls Tryd.prog 47 #[.pointer (some ⟨b, 0, none⟩)] w fun e w' => e = .returned (.tuple #[]) ∧ w' = w.setCell ⟨b, 0, none⟩ (.pointer (some ⟨b, 0, none⟩)) := by
  obtain ⟨j, hj, hjs⟩ := builderSize
  go_enter Tryd.func47, Tryd.ntmps47
  go_wp2
  rw [Lib.run_to_unsafe w ⟨b, 0, none⟩ ptrOf46 Tryd.underlying107 hj (by rw [hjs]; decide) hsh (Nat.zero_lt_succ 1)]
  simp only [Result.andThen]
  rw [Oper.upon_value]
  go_wp2
  rw [run_callFunc_extern Tryd.func70 (by kernel_rfl) (by kernel_rfl) (by kernel_rfl) (e := Extern.AbiNoEscape.same) (by kernel_rfl)]
  rw [Lib.run_noEscape]
  simp only [Result.andThen]
  rw [Oper.upon_value]
  go_wp2
  rw [Lib.run_from_unsafe w ⟨b, 0, none⟩ Tryd.underlying107 ptrOf46 hj hsh (by kernel_rfl)]
  simp only [Result.andThen]
  rw [Oper.upon_value]
  go_wp2
  go_end0
  exact ⟨rfl, rfl⟩

/-- What a builder's writing leaves: what was below B; behind it every block of cells but the builder's own and rows of bytes. -/
structure Bfr (B b : Nat) (w w' : World) : Prop where
  below : Below B w w'
  kept : ∀ k cs t, w.heap[k]? = some (.cells cs t (0, 0)) → t ≠ 5 → k ≠ b → w'.heap[k]? = some (.cells cs t (0, 0))
theorem Bfr.refl (B b : Nat) (w : World) : Bfr B b w w := ⟨Below.refl _ _, fun _ _ _ h _ _ => h⟩
theorem Bfr.trans {B b : Nat} {u v w : World} (h : Bfr B b u v) (k : Bfr B b v w) : Bfr B b u w := ⟨h.below.trans k.below, fun i cs t h1 h2 h3 => k.kept i cs t (h.kept i cs t h1 h2 h3) h2 h3⟩
theorem Bfr.of_below {B b : Nat} {w w' : World} (h : Below w.heap.size w w') (hB : B ≤ w.heap.size) : Bfr B b w w' := ⟨h.mono hB, fun k cs t h1 _ _ => (h.block k (blk_lt h1)).trans h1⟩
theorem Bfr.set {B b : Nat} (w : World) (hB : B ≤ b) (k : Nat) (v : Value) : Bfr B b w (w.setCell ⟨b, k, none⟩ v) :=
  ⟨(Below.refl B w).setCell (p := ⟨b, k, none⟩) hB _, fun i cs t h1 _ h3 => blk_set h1 (p := ⟨b, k, none⟩) h3 v⟩
theorem Kp.bfr {w W W' : World} {B b : Nat} {L : List (Nat × Obj)} (h : Kp w L W) (hf : Bfr B b W W') (hB : w.heap.size ≤ B) (hL : ∀ p ∈ L, p.1 ≠ b ∧ ∃ cs t, p.2 = .cells cs t (0, 0) ∧ t ≠ 5) : Kp w L W' :=
  ⟨h.below.trans (hf.below.mono hB), fun p hp => by
    obtain ⟨h1, cs, t, h2, h3⟩ := hL p hp
    have h4 := h.blks p hp
    rw [h2] at h4 ⊢
    exact hf.kept _ cs t h4 h3 h1⟩

theorem copyCheck47 (B b : Nat) (bs : List Value) (w : World) (h : Lib.IsBuilder 48 5 B b bs w) :
    Calls Tryd.prog 47 #[.pointer (some ⟨b, 0, none⟩)] w fun e w' => e = .returned (.tuple #[]) ∧ (Lib.BuilderAt 48 5 B b (.pointer (some ⟨b, 0, none⟩)) bs w' ∧ Bfr B b w w') := by
  rcases h with h | h
  · refine (copyCheck_fresh b w h.cell0 h.shape h.frozen0).mono ?_
    rintro e w' ⟨rfl, rfl⟩
    exact ⟨rfl, h.used _, Bfr.set w h.1 0 _⟩
  · refine (copyCheck_used b w h.cell0).mono ?_
    rintro e w' ⟨rfl, rfl⟩
    exact ⟨rfl, h, Bfr.refl B b _⟩
end Go.Proofs.YtelaijogjgcloaaDoor
