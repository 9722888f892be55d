/- Bytes of one's own, whatever of the block behind them is marked: []byte(s), and a string appended. No condition. -/
import Derived.Test.YtelaijogjgcloaaDoorRbt
import Derived.Deep.AppendSrc
import Derived.Laws.IdiomCopy
import Derived.Lib.ConvBytes
set_option linter.unusedVariables false
set_option linter.unusedSimpArgs false
namespace Go.Proofs.YtelaijogjgcloaaDoor
open Go.RowKit Go.Ice Go.Scr

/-- Bytes in a block that is ours: its cells can be written. -/
structure OutB (B : Nat) (W : World) (v : Value) (g cap : Nat) (t : Txt) : Prop where
  form : v = .slice (some ⟨g, 0, none⟩) t.length cap
  lo : B ≤ g
  hi : g < W.heap.size
  le : t.length ≤ cap
  max : cap ≤ maxLen
  holds : ∀ j u, (t.map u8v)[j]? = some u → W.cell? ⟨g, j, none⟩ = some u
  there : ∀ j, j < cap → (W.cell? ⟨g, j, none⟩).isSome = true ∧ W.frozen? ⟨g, j, none⟩ = false
theorem OutB.step {B : Nat} {W W' : World} {v : Value} {g cap : Nat} {t : Txt} (h : OutB B W v g cap t) (hb : Below W.heap.size W W') : OutB B W' v g cap t := by
  have e := hb.block g h.hi
  refine ⟨h.form, h.lo, Nat.lt_of_lt_of_le h.hi hb.size, h.le, h.max, fun j u hu => ?_, fun j hj => ?_⟩
  · rw [World.cell?_of_block (a := ⟨g, j, none⟩) e]; exact h.holds j u hu
  · rw [World.cell?_of_block (a := ⟨g, j, none⟩) e, World.frozen?_of_block (a := ⟨g, j, none⟩) e]; exact h.there j hj
theorem OutB.isSl {B : Nat} {W : World} {v : Value} {g cap : Nat} {t : Txt} (h : OutB B W v g cap t) : IsSl W v (t.map u8v) := by
  have hf := h.form
  subst hf
  rcases Nat.eq_zero_or_pos t.length with h0 | h0
  · obtain rfl := List.length_eq_zero_iff.1 h0
    exact .inl ⟨rfl, .inr ⟨_, _, rfl⟩⟩
  · refine .inr ⟨by simpa using h0, g, 0, cap, by simp, by simpa using h.le, h.max, h.hi, fun j hj => ?_⟩
    rw [Nat.zero_add, List.getElem?_eq_getElem hj]
    exact h.holds j _ (List.getElem?_eq_getElem hj)
theorem below_sets {B g : Nat} (hg : B ≤ g) : ∀ (vs : List Value) (o : Nat) (w : World), Below B w (w.setCells g o vs)
  | [], o, w => Below.refl _ _
  | v :: r, o, w => by
    unfold World.setCells
    exact ((Below.refl B w).setCell (by exact hg) v).trans (below_sets hg r (o + 1) _)
theorem OutB.app {B : Nat} {W : World} {v : Value} {g cap : Nat} {t : Txt} (h : OutB B W v g cap t) (s : Txt) (ty : TypeId) (h1 : t.length + s.length ≤ 100000000) (hB : B ≤ W.heap.size) :
    ∃ v' w' g' cap', (Builtin.append_ #[38, 9] ty #[v, .string ⟨s.toArray⟩]).run Tryd.prog W = .ok v' w' ∧ OutB B w' v' g' cap' (t ++ s) ∧ Below B W w' := by
  obtain ⟨i0, hi0, hz0, hz1, hz2⟩ := elemByte.hi
  obtain ⟨hf, hlo, hhi, hle, hmx, hho, hth⟩ := h
  subst hf
  have hsrc := Src.ofString (P := Tryd.prog) W (tx := 9) Tryd.underlying9 ⟨s.toArray⟩
  have hsz : (⟨s.toArray⟩ : ByteArray).size = s.length := txt_size s
  have hbc : byteCells ⟨s.toArray⟩ = s.map u8v := by simp [byteCells, u8v]
  rw [hsz, hbc] at hsrc
  have hsl : (s.map u8v).length = s.length := by simp
  unfold maxLen at hmx
  by_cases hr : t.length + s.length ≤ cap
  · have hrun := run_append_room_src (P := Tryd.prog) W 38 9 ty 5 i0 Tryd.underlying38 hi0 g 0 t.length cap (.string ⟨s.toArray⟩) s.length (s.map u8v) (by rw [hz1]; exact hsrc) hr
      (fun j hj => by rw [hz1, Nat.mul_one, Nat.zero_add]; exact (hth _ (by omega)).1) (fun j hj => by rw [hz1, Nat.mul_one, Nat.zero_add]; exact (hth _ (by omega)).2)
    rw [hz1, Nat.mul_one, Nat.zero_add] at hrun
    refine ⟨_, _, g, cap, hrun, ⟨by rw [List.length_append], hlo, ?_, by rw [List.length_append]; exact hr, by unfold maxLen; omega, fun j u hu => ?_, fun j hj => ?_⟩, below_sets hlo _ _ _⟩
    · exact Nat.lt_of_lt_of_le hhi (below_sets hlo _ _ _).size
    · rw [List.map_append] at hu
      by_cases hj : j < t.length
      · rw [World.cell?_setCells_out g _ _ _ _ (fun _ _ => .inl hj)]
        rw [List.getElem?_append_left (by simpa using hj)] at hu
        exact hho j u hu
      · rw [List.getElem?_append_right (by simpa using hj)] at hu
        obtain ⟨k, rfl⟩ : ∃ k, j = t.length + k := ⟨j - t.length, by omega⟩
        rw [List.length_map, Nat.add_sub_cancel_left] at hu
        have hk : k < (s.map u8v).length := (List.getElem?_eq_some_iff.1 hu).1
        rw [World.cell?_setCells_in g _ _ _ (fun j' hj' => (hth _ (by omega)).1) k hk, ← hu, List.getElem?_eq_getElem hk]
    · refine ⟨?_, ?_⟩
      · by_cases hj1 : t.length ≤ j ∧ j < t.length + s.length
        · obtain ⟨k, rfl⟩ : ∃ k, j = t.length + k := ⟨j - t.length, by omega⟩
          rw [World.cell?_setCells_in g _ _ _ (fun j' hj' => (hth _ (by omega)).1) k (by omega)]
          rfl
        · rw [World.cell?_setCells_out g _ _ _ _ (fun _ _ => by
            show j < t.length ∨ t.length + (s.map u8v).length ≤ j
            omega)]
          exact (hth j hj).1
      · rw [World.frozen?_setCells]; exact (hth j hj).2
  · have hold : (Builtin.firstCells i0.size t.length (.slice (some ⟨g, 0, none⟩) t.length cap)).run Tryd.prog W.drew = .ok (t.map u8v).toArray W.drew := by
      rw [hz1]
      exact run_firstCells_some W.drew 1 t.length ⟨g, 0, none⟩ t.length cap (t.map u8v) (by simp) (fun j u hu => by
        have := hho j u hu
        rw [show (⟨g, 0, none⟩ : Addr).add j = ⟨g, j, none⟩ by unfold Addr.add; split <;> simp_all]
        exact this)
    have hrun := run_append_grow_src (P := Tryd.prog) W 38 9 ty 5 i0 (.int .u8 0) Tryd.underlying38 hi0 hz0 (some ⟨g, 0, none⟩) t.length cap (t.map u8v) hold (.string ⟨s.toArray⟩) s.length (s.map u8v) (by rw [hz1]; exact hsrc) (by omega) (by omega) (by rw [hz2]; exact growslice_fits (by omega) (by omega))
    have hcap := grownCap_ge W (t.length + s.length) cap 5
    have hmx2 := grownCap_le_maxLen W (t.length + s.length) cap 5 (by unfold maxLen; omega)
    generalize grownCap W (t.length + s.length) cap 5 = gc at hrun hcap hmx2
    have hzsz : (Value.int .u8 0).cells.size = 1 := rfl
    have hnew := heap_alloc_new W.drew (.cells ((t.map u8v ++ s.map u8v).toArray ++ Builtin.zeroCells (Value.int .u8 0).cells (gc - (t.length + s.length))) 5)
    have hb : Below B W (W.drew.alloc (.cells ((t.map u8v ++ s.map u8v).toArray ++ Builtin.zeroCells (Value.int .u8 0).cells (gc - (t.length + s.length))) 5)) := (Below.refl B W).drew.alloc hB _
    have hsize : ((t.map u8v ++ s.map u8v).toArray ++ Builtin.zeroCells (Value.int .u8 0).cells (gc - (t.length + s.length))).size = gc := by
      rw [Array.size_append, size_zeroCells, hzsz]; simp; omega
    refine ⟨_, _, W.heap.size, gc, hrun, ⟨by rw [List.length_append], hB, blk_lt hnew, by rw [List.length_append]; exact hcap, hmx2, fun j u hu => ?_, fun j hj => ⟨?_, ?_⟩⟩, hb⟩
    · have hj : j < (t.map u8v ++ s.map u8v).toArray.size := by
        rw [List.map_append] at hu
        simpa using (List.getElem?_eq_some_iff.1 hu).1
      have e := blk_cell hnew j
      refine e.trans ?_
      rw [Array.getElem?_append_left hj, List.getElem?_toArray, ← List.map_append]
      exact hu
    · have e := blk_cell hnew j
      rw [show (W.drew.alloc _).cell? ⟨W.heap.size, j, none⟩ = _ from e, Array.getElem?_eq_getElem (by omega)]
      rfl
    · exact blk_frozen hnew j
/-- []byte(s). -/
theorem OutB.conv (B : Nat) (W : World) (s : Txt) (hB : B ≤ W.heap.size) (hs : s.length ≤ 100000000) :
    ∃ v' w' g' cap', (convert 9 38 (.string ⟨s.toArray⟩)).run Tryd.prog W = .ok v' w' ∧ OutB B w' v' g' cap' s ∧ Below W.heap.size W w' := by
  have hrun := Lib.run_convert_string_bytes (P := Tryd.prog) W 9 38 5 ⟨s.toArray⟩ Tryd.underlying9 Tryd.underlying38 Tryd.underlying5
  have hsz : (⟨s.toArray⟩ : ByteArray).size = s.length := txt_size s
  have hcap := grownCap_ge W s.length 0 5
  have hmx2 := grownCap_le_maxLen W s.length 0 5 (by unfold maxLen; omega)
  have hnew := Lib.bytesWorld_at_new W 5 ⟨s.toArray⟩
  have hsize : (Lib.bytesCells W 5 ⟨s.toArray⟩).size = grownCap W s.length 0 5 := by
    unfold Lib.bytesCells
    rw [hsz]; simp; omega
  rw [hsz] at hrun
  refine ⟨_, _, W.heap.size, _, hrun, ⟨rfl, hB, by rw [Lib.bytesWorld_size]; omega, hcap, hmx2, fun j u hu => ?_, fun j hj => ⟨?_, ?_⟩⟩, ?_⟩
  · have hj : j < s.length := by simpa using (List.getElem?_eq_some_iff.1 hu).1
    rw [Lib.bytesWorld_cell W 5 ⟨s.toArray⟩ j (by rw [hsz]; exact hj), ← hu]
    simp [hj, u8v]
  · simp only [World.cell?, hnew]
    rw [Array.getElem?_eq_getElem (by rw [hsize]; exact hj)]
    rfl
  · simp only [World.frozen?, hnew]
    rw [hsize]
    simp; omega
  · exact ⟨rfl, rfl, rfl, by rw [Lib.bytesWorld_size]; omega, fun k hk => Lib.bytesWorld_at_old W 5 _ k hk⟩
/-- An append of a string, its run known. -/
theorem wpList_append_str {P : Program} {ops : Array Oper} {rest : List Oper} {o : Oper} {a : Act} {w : World} {Q : Exit → Act → World → Prop} (hgd : o.guard = none) (s x : Operand) (t u : TypeId)
    (ho : o.op = .call { callee := .builtin .append, args := #[s, x], argTypes := #[t, u] }) {v vx v' : Value} {w' : World} (hs : a.eval s = v) (hx : a.eval x = vx)
    (hrun : (Builtin.append_ #[t, u] o.type #[v, vx]).run P w = .ok v' w') (h : wpList P ops Q rest (a.put o.dst v') w') : wpList P ops Q (o :: rest) a w :=
  wpList_plain hgd fun _ hK => by
    unfold Oper.wp
    have : (execOp a.eval o).run P w = .ok (.value v') w' := by
      unfold execOp
      simp only [ho, resolve, invoke, builtin, Sem.run_bind, Sem.run_pure, Result.andThen_ok, List.map_toArray, List.map_cons, List.map_nil, hs, hx, hrun]
    rw [this]
    exact hK _ _ h
/-- A loop's state: the text so far, in memory of our own. -/
def OutT (w : World) (v : Value) (t : Txt) (W : World) : Prop := Below w.heap.size w W ∧ ∃ g cap, OutB w.heap.size W v g cap t
theorem OutT.step {w : World} {v : Value} {t : Txt} {W W' : World} (h : OutT w v t W) (hb : Below W.heap.size W W') : OutT w v t W' := by
  obtain ⟨h1, g, cap, h2⟩ := h
  exact ⟨h1.trans (hb.mono h1.size), g, cap, h2.step hb⟩
theorem OutT.app {w : World} {v : Value} {t : Txt} {W : World} (h : OutT w v t W) (s : Txt) (h1 : t.length + s.length ≤ 100000000) :
    ∃ g' n' c' w', (Builtin.append_ #[38, 9] 38 #[v, .string ⟨s.toArray⟩]).run Tryd.prog W = .ok (.slice (some ⟨g', 0, none⟩) n' c') w' ∧ OutT w (.slice (some ⟨g', 0, none⟩) n' c') (t ++ s) w' := by
  obtain ⟨hb, g, cap, h2⟩ := h
  obtain ⟨v', w', g', cap', hr, ho, hb'⟩ := h2.app s 38 h1 hb.size
  have e := ho.form
  subst e
  exact ⟨_, _, _, w', hr, hb.trans hb', g', cap', ho⟩
end Go.Proofs.YtelaijogjgcloaaDoor
