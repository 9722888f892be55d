/- Plain: a segment's scan is the document's scan of the blocks that the disk holds. Conditions: nothing fails. -/
import Derived.Test.YtjmocjcjiiopnaaGreatLogScans38
import Derived.Test.YtjmocjcjiiopnaaGreatLogScans30

section
set_option linter.unusedVariables false
set_option linter.unusedSimpArgs false
namespace Go.Lg
open Go.Ring Go.Dsk Go.Oct Go.Proofs.YtjmocjcjiiopnaaGreat
/-- The disk holds blocks from a place on. -/
structure HoldsB (D : Dk) (b : Nat) (bs : List (List UInt8)) : Prop where
  calm : D.calm
  fit : b + bs.length ≤ D.safe.length
  at_ : ∀ j x, bs[j]? = some x → D.at (b + j) = x
section
variable {D : Dk} {b g : Nat} {bs : List (List UInt8)}
theorem HoldsB.rd (h : HoldsB D b bs) {u : Nat} {x : List UInt8} (hx : bs[u]? = some x) : D.read ((b : Int) + u) = (D, x, 0) := by
  have hlt := (List.getElem?_eq_some_iff.1 hx).1
  have e := h.calm.read (i := b + u) (by have := h.fit; omega)
  rw [h.at_ u x hx] at e
  rw [show ((b : Int) + u) = ((b + u : Nat) : Int) by omega]
  exact e
theorem HoldsB.sec_none (h : HoldsB D b bs) {u : Nat} (hx : bs[u]? = none) : secF D (b : Int) (bs.length : Int) g u = (D, [], zB, false, 0) := by
  have := List.getElem?_eq_none_iff.1 hx
  unfold secF
  rw [if_pos (by omega)]
theorem HoldsB.sec_bad (h : HoldsB D b bs) {u : Nat} {x : List UInt8} (hx : bs[u]? = some x) (hr : readB x = none) : secF D (b : Int) (bs.length : Int) g u = (D, [], x, false, 0) := by
  have hlt := (List.getElem?_eq_some_iff.1 hx).1
  unfold secF
  rw [if_neg (by omega), h.rd hx, if_neg (by simp)]
  dsimp only
  rw [hr]
theorem HoldsB.sec_some (h : HoldsB D b bs) {u : Nat} {x : List UInt8} {z : Nat × Nat × List UInt8} (hx : bs[u]? = some x) (hr : readB x = some z) : secF D (b : Int) (bs.length : Int) g u = (D, z.2.2, x, decide (z.1 = g ∧ z.2.1 = u), 0) := by
  have hlt := (List.getElem?_eq_some_iff.1 hx).1
  unfold secF
  rw [if_neg (by omega), h.rd hx, if_neg (by simp)]
  dsimp only
  rw [hr]
theorem drop_cons {j : Nat} {x : List UInt8} (hx : bs[j]? = some x) : bs.drop j = x :: bs.drop (j + 1) := by
  obtain ⟨hlt, e⟩ := List.getElem?_eq_some_iff.1 hx
  rw [List.drop_eq_getElem_cons hlt, e]
theorem HoldsB.more (h : HoldsB D b bs) (hm : bs.length ≤ 20000) : ∀ (c j : Nat) (acc : List (List UInt8)), j ≤ bs.length → (j + c ≤ bs.length ∧ moreF (b : Int) (bs.length : Int) g c D j acc = (D, some (acc ++ (bs.drop j).take c), 0)) ∨ (moreF (b : Int) (bs.length : Int) g c D j acc = (D, none, 0) ∧ (j + c ≤ bs.length → ∀ out, joinGo (some (g, j)) ((bs.drop j).take c) out = none))
  | 0, j, acc, hj => .inl ⟨hj, by rw [moreF]; simp⟩
  | c + 1, j, acc, hj => by
    cases hx : bs[j]? with
    | none =>
      have := List.getElem?_eq_none_iff.1 hx
      exact .inr ⟨moreF_bad (h.sec_none hx) (.inr rfl), fun hc => by omega⟩
    | some x =>
      have hlt := (List.getElem?_eq_some_iff.1 hx).1
      rw [drop_cons hx, List.take_succ_cons]
      cases hr : readB x with
      | none =>
        refine .inr ⟨moreF_bad (h.sec_bad hx hr) (.inr rfl), fun _ out => ?_⟩
        rcases joinGo_cases (some (g, j)) x ((bs.drop (j + 1)).take c) out with ⟨_, e⟩ | ⟨g', p', pl, h1, _⟩
        · exact e
        · rw [hr] at h1; cases h1
      | some z =>
        by_cases hz : z.1 = g ∧ z.2.1 = j
        · have e := h.sec_some (g := g) hx hr
          rw [decide_eq_true hz] at e
          rw [moreF_ok e]
          rcases HoldsB.more h hm c (j + 1) (acc ++ [x]) hlt with ⟨h1, h2⟩ | ⟨h1, h2⟩
          · exact .inl ⟨by omega, by rw [h2, List.append_assoc]; rfl⟩
          · refine .inr ⟨h1, fun hc out => ?_⟩
            rcases joinGo_cases (some (g, j)) x ((bs.drop (j + 1)).take c) out with ⟨_, e⟩ | ⟨g', p', pl, h3, ⟨_, _, e⟩ | ⟨_, _, e⟩ | ⟨_, _, _, e⟩ | ⟨_, h4, _, e⟩⟩
            · exact e
            · exact e
            · exact e
            · exact e
            · have : (g', p') = (g, j) := Classical.byContradiction fun hn => h4 ⟨_, rfl, fun h5 => hn h5.symm⟩
              obtain ⟨rfl, rfl⟩ := Prod.mk.inj this
              rw [e, show (p' + 1) % 4294967296 = p' + 1 by omega]
              exact h2 (by omega) _
        · have e := h.sec_some (g := g) hx hr
          rw [decide_eq_false hz] at e
          refine .inr ⟨moreF_bad e (.inr rfl), fun _ out => ?_⟩
          rcases joinGo_cases (some (g, j)) x ((bs.drop (j + 1)).take c) out with ⟨_, e⟩ | ⟨g', p', pl, h3, ⟨_, _, e⟩ | ⟨_, _, e⟩ | ⟨_, _, _, e⟩ | ⟨_, h4, _, e⟩⟩
          · exact e
          · exact e
          · exact e
          · exact e
          · have : (g', p') = (g, j) := Classical.byContradiction fun hn => h4 ⟨_, rfl, fun h5 => hn h5.symm⟩
            obtain ⟨rfl, rfl⟩ := Prod.mk.inj this
            rw [hr] at h3
            cases h3
            exact absurd ⟨rfl, rfl⟩ hz
theorem HoldsB.recd (h : HoldsB D b bs) (hm : bs.length ≤ 20000) (u : Nat) : recF D (b : Int) (bs.length : Int) g u = (D, docRec bs g u, 0) := by
  unfold recF docRec
  cases hx : bs[u]? with
  | none =>
    rw [h.sec_none hx, if_pos (.inr rfl)]
  | some x =>
    have hlt := (List.getElem?_eq_some_iff.1 hx).1
    cases hr : readB x with
    | none =>
      rw [h.sec_bad hx hr, if_pos (.inr rfl)]
      dsimp only
      rw [hr]
    | some z =>
      rw [h.sec_some hx hr]
      dsimp only
      rw [hr]
      dsimp only
      by_cases h1 : z.1 = g ∧ z.2.1 = u
      · rw [if_neg (by rw [decide_eq_true h1]; simp), if_neg (show ¬ (z.1 ≠ g ∨ z.2.1 ≠ u) from fun hh => hh.elim (fun a => a h1.1) fun a => a h1.2)]
        by_cases h2 : headE z.2.2 = 0
        · rw [if_neg (fun hh => hh h2), if_neg (fun hh => hh h2)]
          have hp := secs_pos (needB z.2.2)
          have et : (bs.drop u).take (secs (needB z.2.2)) = x :: (bs.drop (u + 1)).take (secs (needB z.2.2) - 1) := by
            rw [drop_cons hx, show secs (needB z.2.2) = secs (needB z.2.2) - 1 + 1 by omega, List.take_succ_cons]
            rfl
          rcases h.more (g := g) hm (secs (needB z.2.2) - 1) (u + 1) [x] hlt with ⟨h3, e⟩ | ⟨e, h3⟩
          · rw [e]
            dsimp only
            rw [if_neg (by omega), et]
            rfl
          · rw [e]
            dsimp only
            by_cases h4 : bs.length < u + secs (needB z.2.2)
            · rw [if_pos h4]
            · rw [if_neg h4, et]
              have hj : joinB (x :: (bs.drop (u + 1)).take (secs (needB z.2.2) - 1)) = none := by
                unfold joinB
                rw [if_neg (by simp)]
                rcases joinGo_cases none x ((bs.drop (u + 1)).take (secs (needB z.2.2) - 1)) [] with ⟨_, e9⟩ | ⟨g', p', pl, h5, ⟨_, _, e9⟩ | ⟨_, _, e9⟩ | ⟨_, _, _, e9⟩ | ⟨_, _, _, e9⟩⟩
                · exact e9
                · exact e9
                · exact e9
                · exact e9
                · rw [hr] at h5
                  cases h5
                  obtain ⟨rfl, rfl⟩ := h1
                  dsimp only at hx hlt h3 e9 ⊢
                  rw [e9, show (p' + 1) % 4294967296 = p' + 1 by omega]
                  exact h3 (by dsimp only at h4 hp ⊢; omega) _
              unfold allF
              rw [hj]
        · rw [if_pos h2, if_pos h2]
      · rw [if_pos (.inr (decide_eq_false h1)), if_pos (by
          by_cases h2 : z.1 = g
          · exact .inr fun h3 => h1 ⟨h2, h3⟩
          · exact .inl h2)]
theorem recT_doc (D : Dk) (r : Option (List UInt8 × Nat)) : recT (D, r, 0) = ((docT r).1, (docT r).2.1, (docT r).2.2.1, (docT r).2.2.2, 0) := by cases r <;> rfl
theorem HoldsB.scanGo (h : HoldsB D b bs) (hm : bs.length ≤ 20000) : ∀ (f u : Nat) (acc : List PlT), scanGo (b : Int) (bs.length : Int) g f D u acc = (D, 0, docScanGo bs g f u acc)
  | 0, u, acc => rfl
  | f + 1, u, acc => by
    rw [scanGo_succ, docScanGo_succ, h.recd hm, recT_doc]
    dsimp only
    rw [if_neg (by simp)]
    by_cases h0 : (docT (docRec bs g u)).2.2.2 = 0
    · rw [if_pos h0, if_pos h0]
    · rw [if_neg h0, if_neg h0]
      exact HoldsB.scanGo h hm f _ _
theorem HoldsB.scan {x : Sp} {i : Nat} (hs : x.sec = bs.length) (h : HoldsB D (2 + i * bs.length) bs) (h0 : 0 < bs.length) (hm : bs.length ≤ 20000) : scanF x D i = (D, 0, docScan bs i) := by
  have e : (2 + (i : Int) * x.sec) = ((2 + i * bs.length : Nat) : Int) := by rw [hs]; simp
  obtain ⟨b0, hb0⟩ : ∃ b0, bs[0]? = some b0 := ⟨_, List.getElem?_eq_getElem h0⟩
  have hrd := h.rd hb0
  rw [show (((2 + i * bs.length : Nat) : Int) + ((0 : Nat) : Int)) = ((2 + i * bs.length : Nat) : Int) by omega] at hrd
  unfold scanF docScan
  rw [e, hs, hrd, hb0, if_neg (by simp)]
  dsimp only
  cases hr : readB b0 with
  | none => rfl
  | some z =>
    dsimp only
    by_cases h1 : b0 = headS z.1 i
    · rw [if_neg (fun hh => hh h1.symm), if_pos h1, h.scanGo hm, if_neg (by simp)]
    · rw [if_pos (fun hh => h1 hh.symm), if_neg h1]
end
/-- What sectors hold behind writes: zeros behind them. -/
def heldB (n : Nat) (bs : List (List UInt8)) : List (List UInt8) := (List.range n).map fun j => bs.getD j zB
theorem heldB_len (n : Nat) (bs : List (List UInt8)) : (heldB n bs).length = n := by unfold heldB; simp
theorem heldB_get {n j : Nat} {bs : List (List UInt8)} (h : j < n) : (heldB n bs)[j]? = some (bs.getD j zB) := by
  unfold heldB
  rw [List.getElem?_map, List.getElem?_range h]
  rfl
theorem heldB_64 {n : Nat} {bs : List (List UInt8)} (hb : ∀ x ∈ bs, x.length = 64) : ∀ x ∈ heldB n bs, x.length = 64 := fun x hx => by
  obtain ⟨j, _, rfl⟩ := List.mem_map.1 hx
  rw [List.getD_eq_getElem?_getD]
  cases h : bs[j]? with
  | none => exact List.length_replicate
  | some y => exact hb y (List.mem_of_getElem? h)
theorem heldB_nil (n : Nat) : heldB n [] = List.replicate n zB := by
  unfold heldB
  refine List.ext_getElem (by simp) fun i h1 h2 => ?_
  simp
theorem heldB_step {n i : Nat} {bs : List (List UInt8)} {x : List UInt8} (hx : bs[i]? = some x) (hi : i < n) : (heldB n (bs.take i)).set i x = heldB n (bs.take (i + 1)) := by
  have hlt := (List.getElem?_eq_some_iff.1 hx).1
  refine List.ext_getElem? fun j => ?_
  rw [List.getElem?_set]
  by_cases hj : j < n
  · rw [heldB_get hj, heldB_get hj, heldB_len]
    by_cases e : i = j
    · subst e
      rw [if_pos rfl, if_pos hi]
      simp [List.getD_eq_getElem?_getD, List.getElem?_take, hx]
    · rw [if_neg e]
      simp only [List.getD_eq_getElem?_getD, List.getElem?_take]
      by_cases h2 : j < i
      · rw [if_pos h2, if_pos (by omega)]
      · rw [if_neg h2, if_neg (by omega)]
  · rw [List.getElem?_eq_none (by rw [heldB_len]; omega), List.getElem?_eq_none (by rw [heldB_len]; omega)]
    rw [if_neg (by omega)]
theorem heldB_over {n i : Nat} {bs : List (List UInt8)} (hi : n ≤ i) : heldB n (bs.take i) = heldB n bs := by
  unfold heldB
  refine List.map_congr_left fun j hj => ?_
  have := List.mem_range.1 hj
  simp only [List.getD_eq_getElem?_getD, List.getElem?_take]
  rw [if_pos (by omega)]
theorem putsD_snoc (x : List UInt8) : ∀ (l : List (List UInt8)) (D : Dk) (k : Nat), putsD D k (l ++ [x]) = (putsD D k l).put (k + l.length) x
  | [], D, k => rfl
  | b :: l, D, k => by
    show putsD (D.put k b) (k + 1) (l ++ [x]) = _
    rw [putsD_snoc x l, show k + (b :: l).length = k + 1 + l.length by simp; omega]
    rfl
/-- The disk behind the writes of some blocks into a segment. -/
theorem put_holds {n sec k : Nat} {bs : List (List UInt8)} (hn : 4 ≤ n ∧ n ≤ 16) (hs : 24 ≤ sec ∧ sec ≤ 64) (hk : k < n) (hb : ∀ x ∈ bs, x.length = 64) {l : List (List UInt8)} (hl : l = bs.take sec) : PutsD (D0 n sec) (putsD (D0 n sec) (2 + k * sec) l) (2 + k * sec) l ∧ HoldsB (putsD (D0 n sec) (2 + k * sec) l) (2 + k * sec) (heldB sec bs) := by
  have hll : l.length ≤ sec := by rw [hl, List.length_take]; omega
  have hks : k * sec + sec ≤ 1024 := by
    have h1 : (k + 1) * sec ≤ 16 * 64 := Nat.mul_le_mul (by omega) (by omega)
    rw [Nat.add_mul, Nat.one_mul] at h1
    omega
  obtain ⟨_, ho, hc, hlen, hp⟩ := D0_at (n := n) (sec := sec) (q := 2) (by omega) (by omega)
  have P := (writesF_calm l (D0 n sec) (2 + k * sec) hc ho (by omega) (fun x hx => hb x (by rw [hl] at hx; exact List.mem_of_mem_take hx)) (by rw [hp]; simp; omega)).2
  refine ⟨P, P.calm, by rw [heldB_len, P.len, hlen]; omega, fun j x hj => ?_⟩
  have hjl := (List.getElem?_eq_some_iff.1 hj).1
  rw [heldB_len] at hjl
  rw [heldB_get hjl] at hj
  injection hj with hj
  rw [← hj, P.at_]
  by_cases h1 : j < l.length
  · rw [if_pos (by omega), show 2 + k * sec + j - (2 + k * sec) = j by omega, hl]
    simp only [List.getD_eq_getElem?_getD, List.getElem?_take]
    rw [if_pos hjl]
    rw [hl, List.length_take] at h1
    rw [List.getElem?_eq_getElem (by omega)]
    rfl
  · rw [if_neg (by omega), (D0_at (n := n) (sec := sec) (q := 2 + k * sec + j) (by omega) (by omega)).1]
    rw [hl, List.length_take] at h1
    rw [List.getD_eq_getElem?_getD, List.getElem?_eq_none (by omega)]
    rfl
theorem putsD_step {D : Dk} {b i m : Nat} {bs : List (List UInt8)} {x : List UInt8} (hx : bs[i]? = some x) (hi : i < m) : putsD D b ((bs.take (i + 1)).take m) = (putsD D b ((bs.take i).take m)).put (b + i) x := by
  have hlt := (List.getElem?_eq_some_iff.1 hx).1
  have e1 : (bs.take (i + 1)).take m = bs.take i ++ [x] := by
    rw [List.take_take, Nat.min_eq_right (by omega), List.take_add_one, hx]
    rfl
  have e2 : (bs.take i).take m = bs.take i := by rw [List.take_take, Nat.min_eq_right (by omega)]
  rw [e1, e2, putsD_snoc, List.length_take, Nat.min_eq_left (by omega)]
theorem take_over {i m : Nat} {bs : List (List UInt8)} (hi : m ≤ i) : (bs.take (i + 1)).take m = (bs.take i).take m := by
  rw [List.take_take, List.take_take, Nat.min_eq_left (by omega), Nat.min_eq_left hi]
theorem heldB_over1 {n i : Nat} {bs : List (List UInt8)} (hi : n ≤ i) : heldB n (bs.take (i + 1)) = heldB n (bs.take i) := by rw [heldB_over hi, heldB_over (by omega)]
end Go.Lg
end
