/- A boxed argument, its block carried along; rows of structs as flat lists of cells. No condition. -/
import Derived.Test.YtngpffmgkponfaaMem
set_option linter.unusedVariables false
namespace Go.Ice
open Go.RowKit

theorem boxed (w : World) (cs : Array Value) (ty : TypeId) : ∃ B W0, B = w.heap.size ∧ W0 = w.alloc (.cells cs ty) ∧ Hid (B = w.heap.size) ∧ Hid (W0.heap[B]? = some (.cells cs ty (0, 0))) ∧ Hid (Below B w W0) ∧ Hid (W0.heap.size = B + 1) :=
  ⟨w.heap.size, _, rfl, rfl, rfl, heap_alloc_new w _, (Below.refl _ w).alloc (Nat.le_refl _) _, (show (w.alloc _).heap.size = _ from by simp)⟩

theorem hid_keep {w w1 : World} {b : Nat} {o : Obj} (h : Hid (w.heap[b]? = some o)) (hb : Below w.heap.size w w1) : Hid (w1.heap[b]? = some o) :=
  (hb.block b (Array.getElem?_eq_some_iff.1 h.out).1).trans h.out

theorem hid_step {B : Nat} {w w1 w2 : World} (h : Hid (Below B w w1)) (hb : Below w1.heap.size w1 w2) (hB : Hid (B = w.heap.size)) : Hid (Below B w w2) :=
  h.out.trans (hb.mono (by have := h.out.size; have := hB.out; omega))

theorem keep_alloc {w : World} {b : Nat} {o : Obj} (h : w.heap[b]? = some o) (x : Obj) : (w.alloc x).heap[b]? = some o :=
  (Below.heap_alloc w x b (Array.getElem?_eq_some_iff.1 h).1).trans h

theorem blk_lt {w : World} {b : Nat} {o : Obj} (h : w.heap[b]? = some o) : b < w.heap.size := (Array.getElem?_eq_some_iff.1 h).1

/-- The cells of n elements of c cells each, one behind the other. -/
def flat (n c : Nat) (X : Nat → Nat → Value) : List Value := (List.range (n * c)).map fun k => X (k / c) (k % c)

theorem flat_len (n c : Nat) (X : Nat → Nat → Value) : (flat n c X).length = n * c := by simp [flat]
theorem flat_get {n c : Nat} (X : Nat → Nat → Value) {k : Nat} (hk : k < n * c) : (flat n c X)[k]? = some (X (k / c) (k % c)) := by
  simp [flat, hk]
theorem mul_lt {n c i j : Nat} (hi : i < n) (hj : j < c) : i * c + j < n * c := by
  calc i * c + j < i * c + c := by omega
    _ = (i + 1) * c := by rw [Nat.succ_mul]
    _ ≤ n * c := Nat.mul_le_mul_right c hi
theorem flat_at {n c : Nat} (X : Nat → Nat → Value) {i j : Nat} (hi : i < n) (hj : j < c) : (flat n c X)[i * c + j]? = some (X i j) := by
  rw [flat_get X (mul_lt hi hj), Nat.mul_comm i c, Nat.mul_add_div (by omega), Nat.mul_add_mod, Nat.div_eq_of_lt hj, Nat.mod_eq_of_lt hj, Nat.add_zero]
theorem flat_congr {n c : Nat} {X Y : Nat → Nat → Value} (h : ∀ i, i < n → ∀ j, j < c → X i j = Y i j) : flat n c X = flat n c Y := by
  rcases Nat.eq_zero_or_pos c with rfl | hc
  · simp [flat]
  · refine List.map_congr_left fun k hk => ?_
    rw [List.mem_range] at hk
    exact h _ ((Nat.div_lt_iff_lt_mul hc).2 hk) _ (Nat.mod_lt _ hc)
theorem flat_mem {n c : Nat} {X : Nat → Nat → Value} {u : Value} (hu : u ∈ flat n c X) : ∃ i j, i < n ∧ j < c ∧ u = X i j := by
  unfold flat at hu
  rw [List.mem_map] at hu
  obtain ⟨k, hk, rfl⟩ := hu
  rw [List.mem_range] at hk
  have hc : 0 < c := by
    rcases Nat.eq_zero_or_pos c with rfl | h
    · simp at hk
    · exact h
  exact ⟨_, _, (Nat.div_lt_iff_lt_mul hc).2 hk, Nat.mod_lt _ hc, rfl⟩
theorem flat_append {n m c : Nat} (X Y : Nat → Nat → Value) : flat n c X ++ flat m c Y = flat (n + m) c fun i j => if i < n then X i j else Y (i - n) j := by
  rcases Nat.eq_zero_or_pos c with rfl | hc
  · simp [flat]
  · refine List.ext_getElem? fun k => ?_
    rcases Nat.lt_or_ge k (n * c) with h | h
    · rw [List.getElem?_append_left (by rw [flat_len]; exact h), flat_get X h, flat_get _ (by rw [Nat.add_mul]; omega), if_pos ((Nat.div_lt_iff_lt_mul hc).2 h)]
    · rw [List.getElem?_append_right (by rw [flat_len]; exact h), flat_len]
      obtain ⟨d, rfl⟩ : ∃ d, k = n * c + d := ⟨k - n * c, by omega⟩
      rw [show n * c + d - n * c = d from by omega]
      have e1 : (n * c + d) / c = n + d / c := by rw [Nat.mul_comm, Nat.mul_add_div hc]
      have e2 : (n * c + d) % c = d % c := by rw [Nat.mul_comm, Nat.mul_add_mod]
      rcases Nat.lt_or_ge d (m * c) with h2 | h2
      · rw [flat_get Y h2, flat_get _ (by rw [Nat.add_mul]; omega), e1, e2, if_neg (Nat.not_lt.2 (Nat.le_add_right n _)), Nat.add_sub_cancel_left]
      · rw [List.getElem?_eq_none (by rw [flat_len]; exact h2), List.getElem?_eq_none (by rw [flat_len, Nat.add_mul]; omega)]

theorem RowAt.congr {w : World} {c n : Nat} {v : Value} {X Y : Nat → Nat → Value} (h : RowAt w c v n X) (hXY : ∀ i, i < n → ∀ j, j < c → X i j = Y i j) : RowAt w c v n Y := by
  rcases h with h | ⟨h0, b, off, cap, hv, h1, h2, h3, h4⟩
  · exact .inl h
  · exact .inr ⟨h0, b, off, cap, hv, h1, h2, h3, fun i hi j hj => by rw [h4 i hi j hj, hXY i hi j hj]⟩

theorem RowAt.slK {w : World} {c n : Nat} {v : Value} {X : Nat → Nat → Value} (h : RowAt w c v n X) (hc : 0 < c) : IsSlK w c n v (flat n c X) := by
  refine ⟨flat_len n c X, ?_⟩
  rcases h with h | ⟨h0, b, off, cap, hv, h1, h2, h3, h4⟩
  · exact .inl h
  · refine .inr ⟨h0, b, off, cap, hv, h1, h2, h3, fun k hk => ?_⟩
    rw [flat_len] at hk
    have := h4 (k / c) ((Nat.div_lt_iff_lt_mul hc).2 hk) (k % c) (Nat.mod_lt _ hc)
    rw [Nat.mul_comm, Nat.div_add_mod] at this
    rw [this, flat_get X hk]

theorem own_rowAt {w : World} {base e c n : Nat} {v : Value} {X : Nat → Nat → Value} (h : w.ownsRow base e c v n (flat n c X)) : RowAt w c v n X :=
  (own_isSlK h).rowAt fun i hi j hj => flat_at X hi hj

theorem own_nonempty {w : World} {base e c n : Nat} {v : Value} {X : Nat → Nat → Value} (h : w.ownsRow base e c v n (flat n c X)) (hn : 0 < n) :
    ∃ g cap cur, v = .slice (some ⟨g, 0, none⟩) n cap ∧ base ≤ g ∧ w.heap[g]? = some (.cells cur e (0, 0)) ∧ n ≤ cap ∧ cap ≤ maxLen ∧ cur.size = cap * c ∧ ∀ i, i < n → ∀ j, j < c → cur[i * c + j]? = some (X i j) := by
  obtain ⟨_, ⟨_, h0⟩ | ⟨g, cap, cur, hv, hb, hg, h1, h2, h3, h4⟩⟩ := h
  · omega
  · refine ⟨g, cap, cur, hv, hb, hg, h1, h2, h3, fun i hi j hj => ?_⟩
    have e : (cur.toList.take (n * c))[i * c + j]? = some (X i j) := by rw [h4]; exact flat_at X hi hj
    rw [List.getElem?_take_of_lt (mul_lt hi hj)] at e
    simpa using e

theorem own_of_cells {w : World} {base e c n g cap : Nat} {cur : Array Value} {X : Nat → Nat → Value} (hc : 0 < c) (hb : base ≤ g) (hg : w.heap[g]? = some (.cells cur e (0, 0))) (h1 : n ≤ cap) (h2 : cap ≤ maxLen) (h3 : cur.size = cap * c)
    (h4 : ∀ i, i < n → ∀ j, j < c → cur[i * c + j]? = some (X i j)) : w.ownsRow base e c (.slice (some ⟨g, 0, none⟩) n cap) n (flat n c X) := by
  refine ⟨flat_len n c X, .inr ⟨g, cap, cur, rfl, hb, hg, h1, h2, h3, List.ext_getElem? fun k => ?_⟩⟩
  rcases Nat.lt_or_ge k (n * c) with hk | hk
  · rw [List.getElem?_take_of_lt hk, flat_get X hk]
    have := h4 (k / c) ((Nat.div_lt_iff_lt_mul hc).2 hk) (k % c) (Nat.mod_lt _ hc)
    rw [Nat.mul_comm, Nat.div_add_mod] at this
    simpa using this
  · rw [List.getElem?_eq_none (l := flat n c X) (by rw [flat_len]; exact hk), List.getElem?_eq_none (by rw [List.length_take]; omega)]

theorem own_len0 {w : World} {base e c n : Nat} {v : Value} {xs : List Value} (h : w.ownsRow base e c v n xs) (hn : n = 0) : ∃ a cap, v = .slice a 0 cap := by
  obtain ⟨a, cap, h, _⟩ := own_form h
  exact ⟨a, cap, by rw [h, hn]⟩

/-- An append within the capacity, of whatever slice. -/
theorem app_fits {P : Program} {t ty e size : Nat} (ht : P.underlying t = some (.slice e)) (hi : ∃ i, P.info? e = some i ∧ i.size = size) {w : World} {base g n m cap : Nat} {x : Value} {xs news : List Value}
    (hown : w.ownsRow base e size (.slice (some ⟨g, 0, none⟩) n cap) n xs) (hx : IsSlK w size m x news) (h1 : ∀ u ∈ news, u.oneCell' = true) (hroom : n + m ≤ cap) :
    ∃ w', (Builtin.append_ #[t, t] ty #[.slice (some ⟨g, 0, none⟩) n cap, x]).run P w = .ok (.slice (some ⟨g, 0, none⟩) (n + m) cap) w' ∧ w'.ownsRow base e size (.slice (some ⟨g, 0, none⟩) (n + m) cap) (n + m) (xs ++ news) ∧ w.grownBy w' (some g) := by
  obtain ⟨i, hi, hs⟩ := hi
  obtain ⟨hl, ⟨rfl, rfl | ⟨a, c, rfl⟩⟩ | ⟨h0, b, off, c, rfl, g1, g2, g3, g4⟩⟩ := hx
  · obtain rfl : news = [] := List.length_eq_zero_iff.1 (by rw [hl, Nat.zero_mul])
    exact ⟨w, run_append_owned_none w base t ty e i size ht hi _ n xs hown, by simpa using hown, World.grownBy.refl w _⟩
  · obtain rfl : news = [] := List.length_eq_zero_iff.1 (by rw [hl, Nat.zero_mul])
    exact run_append_fits (P := P) w base t ty e i size ht hi hs g n cap xs hown a 0 c [] (by simp) (fun j u hu => by simp at hu) (by simp) hroom
  · exact run_append_fits (P := P) w base t ty e i size ht hi hs g n cap xs hown ⟨b, off, none⟩ m c news hl (fun j u hu => by
      have hj : j < news.length := by
        rcases Nat.lt_or_ge j news.length with h | h
        · exact h
        · rw [List.getElem?_eq_none h] at hu; cases hu
      rw [show (⟨b, off, none⟩ : Addr).add j = ⟨b, off + j, none⟩ from Addr.add_lit _ _ _, g4 j hj, hu]) h1 hroom

theorem own_block_eq {w : World} {base e size n cap g : Nat} {xs : List Value} (h : w.ownsRow base e size (.slice (some ⟨g, 0, none⟩) n cap) n xs) : base ≤ g ∧ g < w.heap.size := h.lt g rfl

/-- x[:h]. -/
theorem run_slice_to {P : Program} {w : World} {t e : TypeId} (ht : P.underlying t = some (.slice e)) (hs : ∃ n, (sizeOf e).run P w = .ok n w) (a : Option Addr) (len cap h : Nat) (hh : h ≤ cap) :
    (Instr.sliceAt t (.slice a len cap) none (some (.int .i64 h)) none).run P w = .ok (.slice a h cap) w := by
  obtain ⟨n, hn⟩ := hs
  cases a with
  | none => simp [Instr.sliceAt, Instr.slice, Instr.sliceBounds, Instr.sliceBound, go_sem, run_underlying ht, hh, hn]
  | some a => simp [Instr.sliceAt, Instr.slice, Instr.sliceBounds, Instr.sliceBound, go_sem, run_underlying ht, hh, hn]

theorem own_below {w w' : World} {base e size n : Nat} {v : Value} {xs : List Value} (h : w.ownsRow base e size v n xs) (hb : Below w.heap.size w w') : w'.ownsRow base e size v n xs := by
  obtain ⟨h1, h2⟩ := h
  refine ⟨h1, ?_⟩
  rcases h2 with h2 | ⟨g, cap, cur, hv, hbg, hg, r⟩
  · exact .inl h2
  · exact .inr ⟨g, cap, cur, hv, hbg, (hb.block g (Array.getElem?_eq_some_iff.1 hg).1).trans hg, r⟩
end Go.Ice
