/- Slices of structs and blocks in memory: small lemmas that the walks share. No condition. -/
import Derived.Test.YtngpffmgkponfaaBase
set_option linter.unusedVariables false
namespace Go.Ice
open Go.RowKit

theorem drewN_below (w : World) (n : Nat) : Below w.heap.size w (w.drewN n) := ⟨rfl, rfl, rfl, Nat.le_refl _, fun _ _ => rfl⟩

theorem frm_below {w w' : World} {T : Nat → Prop} (h : Below w.heap.size w w') : Frm T w w' := ⟨h.os, h.tape, h.output, h.size, fun k hk _ => h.block k hk⟩

/-- The world behind a name: what is said of it is kept. -/
theorem wp_world {P : Program} {c : Code} {Q : Exit → Act → World → Prop} {a : Act} {w : World} (R : World → Prop) (h : R w) (k : ∀ w', R w' → Code.wp P c Q a w') : Code.wp P c Q a w := k w h

/-- A slice of elements of several cells each, that reads as the cells cs. -/
def IsSlK (w : World) (size n : Nat) (v : Value) (cs : List Value) : Prop :=
  cs.length = n * size ∧ ((n = 0 ∧ (v = .slice none 0 0 ∨ ∃ a cap, v = .slice (some a) 0 cap)) ∨
  (0 < n ∧ ∃ b off cap, v = .slice (some ⟨b, off, none⟩) n cap ∧ n ≤ cap ∧ cap ≤ maxLen ∧ b < w.heap.size ∧ ∀ j, j < cs.length → w.cell? ⟨b, off + j, none⟩ = cs[j]?))

theorem IsSlK.below {B size n : Nat} {w w' : World} {v : Value} {cs : List Value} (h : IsSlK w size n v cs) (hb : Below B w w') (hB : w.heap.size ≤ B) : IsSlK w' size n v cs := by
  obtain ⟨hl, h⟩ := h
  refine ⟨hl, ?_⟩
  rcases h with h | ⟨h0, b, off, cap, hv, h1, h2, h3, h4⟩
  · exact .inl h
  · refine .inr ⟨h0, b, off, cap, hv, h1, h2, by have := hb.size; omega, fun j hj => ?_⟩
    rw [hb.cell (p := ⟨b, off + j, none⟩) (by simp; omega)]
    exact h4 j hj

theorem IsSlK.form {w : World} {size n : Nat} {v : Value} {cs : List Value} (h : IsSlK w size n v cs) : ∃ a cap, v = .slice a n cap ∧ n ≤ maxLen := by
  rcases h.2 with ⟨rfl, rfl | ⟨a, cap, rfl⟩⟩ | ⟨h0, b, off, cap, hv, h1, h2, h3, h4⟩
  · exact ⟨_, _, rfl, by decide⟩
  · exact ⟨_, _, rfl, by decide⟩
  · exact ⟨_, _, hv, by omega⟩

theorem own_isSlK {w : World} {base size : Nat} {e : TypeId} {v : Value} {n : Nat} {xs : List Value} (h : w.ownsRow base e size v n xs) : IsSlK w size n v xs := by
  obtain ⟨hl, h⟩ := h
  refine ⟨hl, ?_⟩
  rcases h with ⟨h, h'⟩ | ⟨g', cap', cur, h1, h2, h3, h4, h5, h6, h7⟩
  · exact .inl ⟨h', .inl h⟩
  · have hlt : g' < w.heap.size := (Array.getElem?_eq_some_iff.1 h3).1
    rcases Nat.eq_zero_or_pos n with h0 | h0
    · subst h0; exact .inl ⟨rfl, .inr ⟨_, _, h1⟩⟩
    · refine .inr ⟨h0, g', 0, cap', h1, h4, h5, hlt, fun j hj => ?_⟩
      have e : xs[j]? = (cur.toList.take (n * size))[j]? := by rw [h7]
      rw [e, List.getElem?_take_of_lt (by omega)]
      simp [World.cell?, h3]

/-- The slice v has n elements of c cells each: cell j of element i is X i j. -/
def RowAt (w : World) (c : Nat) (v : Value) (n : Nat) (X : Nat → Nat → Value) : Prop :=
  (n = 0 ∧ (v = .slice none 0 0 ∨ ∃ a cap, v = .slice (some a) 0 cap)) ∨
  (0 < n ∧ ∃ b off cap, v = .slice (some ⟨b, off, none⟩) n cap ∧ n ≤ cap ∧ cap ≤ maxLen ∧ b < w.heap.size ∧ ∀ i, i < n → ∀ j, j < c → w.cell? ⟨b, off + (i * c + j), none⟩ = some (X i j))

theorem RowAt.below {B c n : Nat} {w w' : World} {v : Value} {X : Nat → Nat → Value} (h : RowAt w c v n X) (hb : Below B w w') (hB : w.heap.size ≤ B) : RowAt w' c v n X := by
  rcases h with h | ⟨h0, b, off, cap, hv, h1, h2, h3, h4⟩
  · exact .inl h
  · refine .inr ⟨h0, b, off, cap, hv, h1, h2, by have := hb.size; omega, fun i hi j hj => ?_⟩
    rw [hb.cell (p := ⟨b, off + (i * c + j), none⟩) (by simp; omega)]
    exact h4 i hi j hj

theorem RowAt.form {c n : Nat} {w : World} {v : Value} {X : Nat → Nat → Value} (h : RowAt w c v n X) : ∃ a cap, v = .slice a n cap ∧ n ≤ maxLen := by
  rcases h with ⟨rfl, rfl | ⟨a, cap, rfl⟩⟩ | ⟨h0, b, off, cap, hv, h1, h2, h3, h4⟩
  · exact ⟨_, _, rfl, by decide⟩
  · exact ⟨_, _, rfl, by decide⟩
  · exact ⟨_, _, hv, by omega⟩

theorem RowAt.at {c n : Nat} {w : World} {v : Value} {X : Nat → Nat → Value} (h : RowAt w c v n X) (hn : 0 < n) : ∃ b off cap, v = .slice (some ⟨b, off, none⟩) n cap ∧ n ≤ cap ∧ cap ≤ maxLen ∧ b < w.heap.size ∧ ∀ i, i < n → ∀ j, j < c → w.cell? ⟨b, off + (i * c + j), none⟩ = some (X i j) := by
  rcases h with ⟨rfl, _⟩ | ⟨h0, h⟩
  · omega
  · exact h

theorem IsSlK.rowAt {w : World} {c n : Nat} {v : Value} {cs : List Value} (h : IsSlK w c n v cs) {X : Nat → Nat → Value} (hX : ∀ i, i < n → ∀ j, j < c → cs[i * c + j]? = some (X i j)) : RowAt w c v n X := by
  obtain ⟨hl, h⟩ := h
  rcases h with h | ⟨h0, b, off, cap, hv, h1, h2, h3, h4⟩
  · exact .inl h
  · refine .inr ⟨h0, b, off, cap, hv, h1, h2, h3, fun i hi j hj => ?_⟩
    have : i * c + j < cs.length := by
      rw [hl]
      calc i * c + j < i * c + c := by omega
        _ = (i + 1) * c := by rw [Nat.succ_mul]
        _ ≤ n * c := Nat.mul_le_mul_right c hi
    rw [h4 _ this, hX i hi j hj]

theorem RowAt.take {c n m : Nat} {w : World} {a : Option Addr} {cap : Nat} {X : Nat → Nat → Value} (h : RowAt w c (.slice a n cap) n X) (hm : m ≤ n) : RowAt w c (.slice a m cap) m X := by
  rcases h with ⟨rfl, h⟩ | ⟨h0, b, off, cap', hv, h1, h2, h3, h4⟩
  · obtain rfl : m = 0 := by omega
    exact .inl ⟨rfl, h⟩
  · cases hv
    rcases Nat.eq_zero_or_pos m with rfl | hm0
    · exact .inl ⟨rfl, .inr ⟨_, _, rfl⟩⟩
    · exact .inr ⟨hm0, b, off, cap, rfl, by omega, h2, h3, fun i hi => h4 i (by omega)⟩

theorem RowAt.frm {w w' : World} {c n : Nat} {v : Value} {X : Nat → Nat → Value} {T : Nat → Prop} (h : RowAt w c v n X) (hf : Frm T w w') (hT : ∀ b, v.ownBlock = some b → ¬ T b) : RowAt w' c v n X := by
  rcases h with h | ⟨h0, b, off, cap, hv, h1, h2, h3, h4⟩
  · exact .inl h
  · refine .inr ⟨h0, b, off, cap, hv, h1, h2, by have := hf.size; omega, fun i hi j hj => ?_⟩
    rw [hf.cell (p := ⟨b, off + (i * c + j), none⟩) h3 (hT b (by rw [hv]; rfl))]
    exact h4 i hi j hj

/-- A block of cells that was made. -/
theorem blk_cell {w : World} {b : Nat} {cs : Array Value} {e : TypeId} (h : w.heap[b]? = some (.cells cs e (0, 0))) (r : Nat) : w.cell? ⟨b, r, none⟩ = cs[r]? := by simp [World.cell?, h]

theorem blk_frozen {w : World} {b : Nat} {cs : Array Value} {e : TypeId} (h : w.heap[b]? = some (.cells cs e (0, 0))) (r : Nat) : w.frozen? ⟨b, r, none⟩ = false := by simp [World.frozen?, h]

theorem blk_below {w w' : World} {b n : Nat} {o : Obj} (h : w.heap[b]? = some o) (hb : Below n w w') (hn : b < n) : w'.heap[b]? = some o := (hb.block b hn).trans h

/-- The block of a result of two cells, written over; another block too. -/
theorem res_cells {w : World} {b b' : Nat} {c0 c1 v0 v1 : Value} {e : TypeId} (h : w.heap[b]? = some (.cells #[c0, c1] e (0, 0))) :
    ((w.setCell ⟨b, 0, none⟩ v0).setCell ⟨b, 1, none⟩ v1).cell? ⟨b, 0, none⟩ = some v0 ∧ ((w.setCell ⟨b, 0, none⟩ v0).setCell ⟨b, 1, none⟩ v1).cell? ⟨b, 1, none⟩ = some v1 := by
  simp [World.cell?, World.setCell, Array.getElem?_modify, h]

theorem blk_set {w : World} {b : Nat} {o : Obj} (h : w.heap[b]? = some o) {p : Addr} (hp : b ≠ p.block) (u : Value) : (w.setCell p u).heap[b]? = some o := (Below.heap_setCell w p u b hp).trans h

theorem own_set {w : World} {base e size n : Nat} {v : Value} {xs : List Value} (h : w.ownsRow base e size v n xs) {p : Addr} (hp : p.block < base) (u : Value) : (w.setCell p u).ownsRow base e size v n xs :=
  h.kept (row := some p.block) ⟨rfl, rfl, rfl, by simp [World.setCell], fun k _ hne => Below.heap_setCell _ _ _ _ (fun e => hne (by rw [e]))⟩ (by
    cases hv : v.ownBlock with
    | none => exact .inl rfl
    | some g => right; intro e; have := (h.lt g hv).1; injection e with e; omega)

theorem own_form {w : World} {base e size n : Nat} {v : Value} {xs : List Value} (h : w.ownsRow base e size v n xs) : ∃ a cap, v = .slice a n cap ∧ n ≤ maxLen := by
  rcases h.2 with ⟨rfl, rfl⟩ | ⟨g', cap, cur, rfl, _, _, h1, h2, _⟩
  · exact ⟨_, _, rfl, by decide⟩
  · exact ⟨_, _, rfl, by omega⟩

theorem own_frm {w w' : World} {base e size n : Nat} {v : Value} {xs : List Value} {T : Nat → Prop} (h : w.ownsRow base e size v n xs) (hf : Frm T w w') (hT : ∀ k, base ≤ k → ¬ T k) : w'.ownsRow base e size v n xs := by
  obtain ⟨h1, h2⟩ := h
  refine ⟨h1, ?_⟩
  rcases h2 with h2 | ⟨g, cap, cur, hv, hb, hg, r⟩
  · exact .inl h2
  · exact .inr ⟨g, cap, cur, hv, hb, (hf.block g (Array.getElem?_eq_some_iff.1 hg).1 (hT g hb)).trans hg, r⟩

/-- An append to a row of one's own: of whatever slice of n elements; where the new row lies. -/
theorem app_at {P : Program} {t ty e size bytes : Nat} {z : Value} (E : Elem P t e size bytes z) {w : World} {base : Nat} {v x : Value} {n m : Nat} {xs news : List Value}
    (hown : w.ownsRow base e size v n xs) (hx : IsSlK w size m x news) (h1 : ∀ u ∈ news, u.oneCell' = true) (hroom : (n + m) * bytes ≤ 140737488355328) (h63 : n + m ≤ maxLen) (hbase : base ≤ w.heap.size) :
    ∃ v' w', (Builtin.append_ #[t, t] ty #[v, x]).run P w = .ok v' w' ∧ w'.ownsRow base e size v' (n + m) (xs ++ news) ∧ w.grownBy w' v.ownBlock ∧ (v'.ownBlock = v.ownBlock ∨ v'.ownBlock = some w.heap.size) := by
  obtain ⟨ht, ⟨i, hi, hz, hs, hb⟩, hzs, hsz⟩ := E
  obtain ⟨hl, ⟨rfl, rfl | ⟨a, c, rfl⟩⟩ | ⟨h0, b, off, cap, rfl, g1, g2, g3, g4⟩⟩ := hx
  · obtain rfl : news = [] := List.length_eq_zero_iff.1 (by rw [hl, Nat.zero_mul])
    exact ⟨v, w, run_append_owned_none w base t ty e i size ht hi v n xs hown, by simpa using hown, World.grownBy.refl w _, .inl rfl⟩
  · obtain rfl : news = [] := List.length_eq_zero_iff.1 (by rw [hl, Nat.zero_mul])
    obtain ⟨v', w', hr, h2, h3, h4, h5⟩ := run_append_own_at (P := P) w base t ty e i z size bytes ht hi hz hs hb hzs hsz v n xs hown a 0 c [] (by simp) (fun j u hu => by simp at hu) (by simp) h63 hroom hbase
    exact ⟨v', w', hr, h2, h3, h5⟩
  · obtain ⟨v', w', hr, h2, h3, h4, h5⟩ := run_append_own_at (P := P) w base t ty e i z size bytes ht hi hz hs hb hzs hsz v n xs hown ⟨b, off, none⟩ m cap news hl (fun j u hu => by
      have hj : j < news.length := by
        rcases Nat.lt_or_ge j news.length with h | h
        · exact h
        · rw [List.getElem?_eq_none h] at hu; cases hu
      rw [show (⟨b, off, none⟩ : Addr).add j = ⟨b, off + j, none⟩ from Addr.add_lit _ _ _, g4 j hj, hu]) h1 h63 hroom hbase
    exact ⟨v', w', hr, h2, h3, h5⟩

theorem own_block {w : World} {base e size n g : Nat} {v : Value} {xs : List Value} (h : w.ownsRow base e size v n xs) (hg : v.ownBlock = some g) : ∃ c, w.heap[g]? = some (.cells c e (0, 0)) := by
  rcases h.2 with ⟨rfl, _⟩ | ⟨g', cap, cur, rfl, hb, hgg, _⟩
  · simp [Value.ownBlock] at hg
  · simp [Value.ownBlock] at hg
    subst hg
    exact ⟨cur, hgg⟩

theorem own_apart {w : World} {base base' e e' size size' n n' : Nat} {v v' : Value} {xs xs' : List Value} (h : w.ownsRow base e size v n xs) (h' : w.ownsRow base' e' size' v' n' xs') (he : e ≠ e') : v'.ownBlock = none ∨ v'.ownBlock ≠ v.ownBlock := by
  cases hv : v'.ownBlock with
  | none => exact .inl rfl
  | some g =>
    right
    intro hg
    obtain ⟨c, hc⟩ := own_block h hg.symm
    obtain ⟨c', hc'⟩ := own_block h' hv
    rw [hc] at hc'
    injection hc' with hc'
    injection hc' with _ h2
    exact he h2

theorem block_apart {w : World} {base e e' size n g : Nat} {v : Value} {xs : List Value} {c : Array Value} (h : w.ownsRow base e size v n xs) (h' : w.heap[g]? = some (.cells c e' (0, 0))) (he : e ≠ e') : some g ≠ v.ownBlock := by
  intro hg
  obtain ⟨c', hc⟩ := own_block h hg.symm
  rw [hc] at h'
  injection h' with h'
  injection h' with _ h2
  exact he h2

theorem block_cells {w : World} {g : Nat} {cs : List Value} {e : TypeId} (h : w.heap[g]? = some (.cells cs.toArray e (0, 0))) : ∀ j u, cs[j]? = some u → w.cell? ((⟨g, 0, none⟩ : Addr).add j) = some u := fun j u hu => by
  rw [Addr.add_lit, Nat.zero_add]
  simp [World.cell?, h, hu]

/-- A block of at least m cells, none frozen. -/
def Blk (w : World) (g : Nat) (e : TypeId) (m : Nat) : Prop := ∃ c, w.heap[g]? = some (.cells c e (0, 0)) ∧ m ≤ c.size

theorem Blk.cell {w : World} {g m : Nat} {e : TypeId} (h : Blk w g e m) (k : Nat) (hk : k < m) : (∃ u, w.cell? ⟨g, k, none⟩ = some u) ∧ w.frozen? ⟨g, k, none⟩ = false := by
  obtain ⟨c, h1, h2⟩ := h
  exact ⟨⟨c[k]'(by omega), by simp [World.cell?, h1]⟩, by simp [World.frozen?, h1]⟩

theorem Blk.set {w : World} {g m : Nat} {e : TypeId} (h : Blk w g e m) (k : Nat) (u : Value) : Blk (w.setCell ⟨g, k, none⟩ u) g e m := by
  obtain ⟨c, h1, h2⟩ := h
  exact ⟨c.setIfInBounds k u, by simp [World.setCell, Array.getElem?_modify, h1], by simpa using h2⟩

theorem own_slice {w : World} {base e size n : Nat} {v : Value} {xs : List Value} (h : w.ownsRow base e size v n xs) : ∃ a cap, v = .slice a n cap := by
  rcases h.2 with ⟨rfl, rfl⟩ | ⟨g', cap, cur, rfl, _⟩
  · exact ⟨_, _, rfl⟩
  · exact ⟨_, _, rfl⟩

end Go.Ice
