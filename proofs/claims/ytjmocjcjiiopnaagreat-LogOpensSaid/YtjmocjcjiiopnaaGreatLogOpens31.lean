/- Arguments that came in, read leaf by leaf: structs and slices of structs, nested however deep, whose leaves take one cell each. No condition. -/
import Derived.Test.YtjmocjcjiiopnaaGreatLogOpens01
import Derived.Deep.Slices
import Derived.SizedLaws

section
set_option linter.unusedVariables false
namespace Go.Ice
open Go.ChangeShapes Go.WideShapes Go.Deep Go.RowKit

/-- The leaves of a row of fields, one behind the other from a place on. -/
def leavesFs (P : Program) (L : TypeId → Option (List TypeId)) : Nat → List Field → Option (List TypeId)
  | _, [] => some []
  | off, f :: r => match L f.type, leavesFs P L (off + P.cellsOf f.type) r with
    | some a, some b => if f.offset = off ∧ a.length = P.cellsOf f.type then some (a ++ b) else none
    | _, _ => none
/-- The types of a type's leaves, in their order. -/
def leavesOf (P : Program) : Nat → TypeId → Option (List TypeId)
  | 0, _ => none
  | d + 1, t => match P.underlying t with
    | some (.struct fs) => leavesFs P (leavesOf P d) 0 fs.toList
    | some _ => if P.cellsOf t = 1 then some [t] else none
    | none => none

section
variable {H : Type} {enc : TypeId × Value → H} {P : Program} {w : World} {base : Nat} {spare : Nat → Bool} {held : Bool}

/-- A leaf's reading. -/
def LeafAt (enc : TypeId × Value → H) (P : Program) (w : World) (base : Nat) (spare : Nat → Bool) (held : Bool) (t : TypeId) (v : Value) : Prop :=
  ∃ n y, DataW.trod enc P w base spare held n t [v] = some y

theorem leavesFs_trod {L : TypeId → Option (List TypeId)} {n : Nat} {cs : List Value}
    (hL : ∀ t ts cs x, L t = some ts → cs.length = ts.length → DataW.trod enc P w base spare held n t cs = some x → ∀ (j : Nat) (t' : TypeId), ts[j]? = some t' → ∃ v, cs[j]? = some v ∧ LeafAt enc P w base spare held t' v) :
    ∀ (fs : List Field) (off : Nat) (ts : List TypeId), leavesFs P L off fs = some ts → off + ts.length ≤ cs.length → (∀ f ∈ fs, ∃ y, DataW.trod enc P w base spare held n f.type ((cs.drop f.offset).take (P.cellsOf f.type)) = some y) →
      ∀ (j : Nat) (t' : TypeId), ts[j]? = some t' → ∃ v, cs[off + j]? = some v ∧ LeafAt enc P w base spare held t' v
  | [], off, ts, h, _, _, j, t', hj => by simp [leavesFs] at h; subst h; simp at hj
  | f :: r, off, ts, h, hl, hf, j, t', hj => by
    unfold leavesFs at h
    split at h
    · rename_i a b ha hb
      split at h
      · rename_i hab
        obtain ⟨hof, hal⟩ := hab
        obtain rfl : a ++ b = ts := by simpa using h
        rw [List.length_append] at hl
        obtain ⟨y, hy⟩ := hf f (by simp)
        by_cases hja : j < a.length
        · rw [List.getElem?_append_left hja] at hj
          obtain ⟨v, hv, hl2⟩ := hL _ _ _ _ ha (by rw [List.length_take, List.length_drop]; omega) hy j t' hj
          rw [List.getElem?_take_of_lt (by omega), List.getElem?_drop, hof] at hv
          exact ⟨v, hv, hl2⟩
        · rw [List.getElem?_append_right (by omega)] at hj
          obtain ⟨v, hv, hl2⟩ := leavesFs_trod hL r _ _ hb (by omega) (fun g hg => hf g (by simp [hg])) _ t' hj
          rw [show off + P.cellsOf f.type + (j - a.length) = off + j from by omega] at hv
          exact ⟨v, hv, hl2⟩
      · simp at h
    · simp at h

theorem leaves_trod : ∀ (d : Nat) (n : Nat) (t : TypeId) (ts : List TypeId) (cs : List Value) (x : DataW H × List MemPlace), leavesOf P d t = some ts → cs.length = ts.length → DataW.trod enc P w base spare held n t cs = some x →
    ∀ (j : Nat) (t' : TypeId), ts[j]? = some t' → ∃ v, cs[j]? = some v ∧ LeafAt enc P w base spare held t' v
  | 0, n, t, ts, cs, x, h, _, _, _, _, _ => by simp [leavesOf] at h
  | d + 1, n, t, ts, cs, x, h, hl, ht, j, t', hj => by
    unfold leavesOf at h
    split at h
    · rename_i fs hu
      obtain ⟨xs, m, rfl, hx, hlen, hxl, hf⟩ := DataW.trod_struct hu ht
      have := leavesFs_trod (cs := cs) (n := m) (enc := enc) (P := P) (w := w) (base := base) (spare := spare) (held := held) (fun t ts cs x h1 h2 h3 => leaves_trod d m t ts cs x h1 h2 h3) fs.toList 0 ts h (by omega) (fun f hfm => by
        obtain ⟨i, hi, rfl⟩ := List.getElem_of_mem hfm
        have h4 := hf i fs.toList[i] (by simp)
        rw [h4, List.getElem?_eq_getElem (by rw [hxl]; simpa using hi)]
        exact ⟨_, rfl⟩) j t' hj
      simpa using this
    · split at h
      · obtain rfl : [t] = ts := by simpa using h
        match cs, hl with
        | [c], _ =>
          match j, hj with
          | 0, hj =>
            obtain rfl : t = t' := by simpa using hj
            exact ⟨c, rfl, n, x, ht⟩
      · simp at h
    · simp at h

theorem LeafAt.int {t : TypeId} {k : IntKind} {v : Value} (h : LeafAt enc P w base spare held t v) (ht : P.underlying t = some (.int k)) : ∃ n, v = .int k n ∧ (Lit.int k n).wf = true := by
  obtain ⟨n, y, h⟩ := h
  obtain ⟨z, h1, h2, h3⟩ := DataW.trod_int ht h
  exact ⟨z, by simpa using h1, h3⟩

/-- A struct by value: its leaves. -/
theorem open_flat {t : TypeId} {fs : Array Field} {v : Value} {dd : DataW H} {ps : List MemPlace} {b0 : Nat} {r : Reach} (hs : P.underlying t = some (.struct fs)) (d : Nat) (ts : List TypeId) (hts : leavesOf P d t = some ts) (hc : P.cellsOf t = ts.length)
    (hv : Value.okWide P w r b0 t v) (h : DataW.Trod enc P w base spare held t v dd ps) : ∃ cs : List Value, v = .agg cs.toArray ∧ cs.length = ts.length ∧ ∀ (j : Nat) (t' : TypeId), ts[j]? = some t' → ∃ u, cs[j]? = some u ∧ LeafAt enc P w base spare held t' u := by
  obtain ⟨cs, rfl, hsz⟩ := okWide_struct hs hv
  obtain ⟨n, hn⟩ := h
  refine ⟨cs.toList, rfl, by rw [← hc, ← hsz]; simp, ?_⟩
  have : (Value.agg cs).cells.toList = cs.toList := rfl
  rw [this] at hn
  exact leaves_trod d n t ts _ _ hts (by rw [← hc, ← hsz]; simp) hn

/-- A slice of such structs: its elements' leaves; the bytes that it takes. -/
theorem open_flat_slice {F : Func} {ds : List (DataW H)} {t e : TypeId} {v : Value} {dd : DataW H} {ps : List MemPlace} {b0 : Nat} {r : Reach} (hs : P.underlying t = some (.slice e)) (d : Nat) (ts : List TypeId) (hts : leavesOf P d e = some ts) (hc : P.cellsOf e = ts.length) (h0 : 0 < ts.length)
    (hv : Value.okWide P w r b0 t v) (h : DataW.Trod enc P w base spare held t v dd ps) :
    (v = .slice none 0 0 ∧ dd = .nil) ∨ ∃ (x : Addr) (len cap : Nat) (elems sp : List (DataW H)), v = .slice (some x) len cap ∧ dd = .slice elems sp ∧ len ≤ elems.length + sp.length ∧ len ≤ cap ∧ cap ≤ maxLen ∧ (0 < len → ∃ b off, x = ⟨b, off, none⟩ ∧ b < w.heap.size ∧
      ∀ i, i < len → ∀ (j : Nat) (t' : TypeId), ts[j]? = some t' → ∃ u, w.cell? ⟨b, off + (i * ts.length + j), none⟩ = some u ∧ LeafAt enc P w base spare held t' u) := by
  obtain ⟨a, len, cap, rfl⟩ := okWide_slice hs hv
  obtain ⟨n, hn⟩ := h
  rcases open_slice hs hn with ⟨hcs, hx⟩ | ⟨x, l, c, m, n', D, Pl, hcs, hb, hl, hm, hmm, hx, hel⟩
  · simp [Value.cells] at hcs
    obtain ⟨rfl, rfl, rfl⟩ := hcs
    left
    exact ⟨rfl, (Prod.mk.inj hx).1⟩
  · simp [Value.cells] at hcs
    obtain ⟨rfl, rfl, rfl⟩ := hcs
    right
    have hlm : len ≤ m := by rw [hmm]; split <;> omega
    refine ⟨x, len, cap, _, _, rfl, (Prod.mk.inj hx).1, by simp, hl, hm, fun hlen => ?_⟩
    have key : ∀ i, i < len → ∀ (j : Nat) (t' : TypeId), ts[j]? = some t' → ∃ u, w.cell? (x.add (i * ts.length + j)) = some u ∧ LeafAt enc P w base spare held t' u := by
      intro i hi j t' hj
      obtain ⟨cs', h1, h2⟩ := hel i (by omega)
      rw [hc] at h1
      obtain ⟨_, h3, h4⟩ := World.cells?_some h1
      have hjl : j < ts.length := (List.getElem?_eq_some_iff.1 hj).1
      obtain ⟨u, hu, hlf⟩ := leaves_trod d n' e ts cs' _ hts (by omega) h2 j t' hj
      have := h4 j hjl
      rw [add_add, hu] at this
      exact ⟨u, this, hlf⟩
    obtain ⟨u, hu, _⟩ := key 0 hlen 0 ts[0] (List.getElem?_eq_getElem h0)
    obtain ⟨b, off, spot⟩ := x
    have hspot : spot = none := by simpa [Addr.add] using World.cell?_spot hu
    subst hspot
    refine ⟨b, off, rfl, ?_, fun i hi j t' hj => ?_⟩
    · have := World.block_lt_of_cell? w _ hu
      simpa [Addr.add] using this
    · have := key i hi j t' hj
      rw [Go.WideShapes.add_plain] at this
      exact this

/-- A leaf that is a slice of such structs. -/
theorem LeafAt.structs {t e : TypeId} {v : Value} (hlf : LeafAt enc P w base spare held t v) (hs : P.underlying t = some (.slice e)) (d : Nat) (ts : List TypeId) (hts : leavesOf P d e = some ts) (hc : P.cellsOf e = ts.length) (h0 : 0 < ts.length) :
    v = .slice none 0 0 ∨ ∃ (x : Addr) (len cap : Nat), v = .slice (some x) len cap ∧ len ≤ cap ∧ cap ≤ maxLen ∧ (0 < len → ∃ b off, x = ⟨b, off, none⟩ ∧ b < w.heap.size ∧
      ∀ i, i < len → ∀ (j : Nat) (t' : TypeId), ts[j]? = some t' → ∃ u, w.cell? ⟨b, off + (i * ts.length + j), none⟩ = some u ∧ LeafAt enc P w base spare held t' u) := by
  obtain ⟨n, y, hn⟩ := hlf
  rcases open_slice hs hn with ⟨hcs, hx⟩ | ⟨x, l, c, m, n', D, Pl, hcs, hb, hl, hm, hmm, hx, hel⟩
  · left
    simpa using hcs
  · right
    have hlm : l ≤ m := by rw [hmm]; split <;> omega
    refine ⟨x, l, c, by simpa using hcs, hl, hm, fun hlen => ?_⟩
    have key : ∀ i, i < l → ∀ (j : Nat) (t' : TypeId), ts[j]? = some t' → ∃ u, w.cell? (x.add (i * ts.length + j)) = some u ∧ LeafAt enc P w base spare held t' u := by
      intro i hi j t' hj
      obtain ⟨cs', h1, h2⟩ := hel i (by omega)
      rw [hc] at h1
      obtain ⟨_, h3, h4⟩ := World.cells?_some h1
      have hjl : j < ts.length := (List.getElem?_eq_some_iff.1 hj).1
      obtain ⟨u, hu, hlf⟩ := leaves_trod d n' e ts cs' _ hts (by omega) h2 j t' hj
      have := h4 j hjl
      rw [add_add, hu] at this
      exact ⟨u, this, hlf⟩
    obtain ⟨u, hu, _⟩ := key 0 hlen 0 ts[0] (List.getElem?_eq_getElem h0)
    obtain ⟨b, off, spot⟩ := x
    have hspot : spot = none := by simpa [Addr.add] using World.cell?_spot hu
    subst hspot
    refine ⟨b, off, rfl, ?_, fun i hi j t' hj => ?_⟩
    · have := World.block_lt_of_cell? w _ hu
      simpa [Addr.add] using this
    · have := key i hi j t' hj
      rw [Go.WideShapes.add_plain] at this
      exact this
end
end Go.Ice
end
