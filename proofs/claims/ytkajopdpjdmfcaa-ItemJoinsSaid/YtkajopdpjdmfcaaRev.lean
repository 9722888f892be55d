/- slices.Reverse over bytes of a block of the call's own. Condition: the block holds n cells at least. -/
import Derived.Test.YtkajopdpjdmfcaaBase
import Derived.Outline
namespace Go.Proofs.Ytkajopdpjdmfcaa
open Go.RowKit Go.Ice

/-- What is so of block g: cells X below n, not frozen, as many as there were. -/
def RevAt (g n m : Nat) (X : Nat → Value) (w : World) : Prop := ∃ c, w.heap[g]? = some (.cells c 5 (0, 0)) ∧ c.size = m ∧ ∀ k, k < n → c[k]? = some (X k)

theorem RevAt.cell {g n m : Nat} {X : Nat → Value} {w : World} (h : RevAt g n m X w) {k : Nat} (hk : k < n) : w.cell? ⟨g, k, none⟩ = some (X k) := by
  obtain ⟨c, h1, h2, h3⟩ := h
  simp [World.cell?, h1, h3 k hk]
theorem RevAt.frozen {g n m : Nat} {X : Nat → Value} {w : World} (h : RevAt g n m X w) (k : Nat) : w.frozen? ⟨g, k, none⟩ = false := by
  obtain ⟨c, h1, h2, h3⟩ := h
  simp [World.frozen?, h1]
theorem RevAt.drew {g n m : Nat} {X : Nat → Value} {w : World} (h : RevAt g n m X w) : RevAt g n m X w.drew := h
theorem RevAt.set {g n m : Nat} {X : Nat → Value} {w : World} (h : RevAt g n m X w) (j : Nat) (v : Value) : RevAt g n m (fun k => if k = j then v else X k) (w.setCell ⟨g, j, none⟩ v) := by
  obtain ⟨c, h1, h2, h3⟩ := h
  refine ⟨c.setIfInBounds j v, ?_, by simp [h2], ?_⟩
  · simp [World.setCell, Array.getElem?_modify, h1]
  · intro k hk
    have h4 := h3 k hk
    have hlt : k < c.size := (Array.getElem?_eq_some_iff.1 h4).1
    by_cases e : k = j
    · subst e; simp [hlt]
    · simp [e, Ne.symm e, h4]
theorem RevAt.congr {g n m : Nat} {X Y : Nat → Value} {w : World} (h : RevAt g n m X w) (hxy : ∀ k, k < n → X k = Y k) : RevAt g n m Y w := by
  obtain ⟨c, h1, h2, h3⟩ := h
  exact ⟨c, h1, h2, fun k hk => by rw [h3 k hk, hxy k hk]⟩

set_option maxHeartbeats 800000 in
theorem reverse (w : World) (g n cap m : Nat) (X : Nat → Int) (hn : n ≤ 1000000) (h : RevAt g n m (fun k => .int .u8 (X k)) w) :
    Calls Try.prog 22 #[.slice (some ⟨g, 0, none⟩) n cap] w fun e w' => e = .returned (.tuple #[]) ∧ RevAt g n m (fun k => .int .u8 (X (n - 1 - k))) w' ∧ Frm (fun k => k = g) w w' := by
  have H := Lib.hid h
  clear h
  go_enter Try.func22, Try.ntmps22
  go_wp2
  go_loopw [2, 3] (fun a b wr => ∃ i : Nat, i ≤ n ∧ 2 * i ≤ n + 1 ∧ a = .int .i64 i ∧ b = .int .i64 ((n : Int) - 1 - i) ∧ RevAt g n m (fun k => .int .u8 (X (if k < i ∨ n ≤ k + i then n - 1 - k else k))) wr ∧ Frm (fun k => k = g) w wr) (fun a b _ => (intOf b - intOf a + 1).toNat)
  case atStart =>
    refine ⟨0, by omega, by omega, rfl, by simp, ?_, Frm.refl _ _⟩
    exact H.out.congr fun k hk => by rw [if_neg (by omega)]
  case round =>
    obtain ⟨i, hi, h2i, rfl, rfl, hA, hF⟩ := hrel
    by_cases hlt : 2 * i + 1 < n
    · obtain ⟨j, hj⟩ : ∃ j : Nat, j = n - 1 - i := ⟨_, rfl⟩
      rw [show ((n : Int) - 1 - i) = (j : Int) from by omega]
      have hij : i < j := by omega
      have hjn : j < n := by omega
      have ci := hA.cell (k := i) (by omega)
      have cj := hA.cell (k := j) (by omega)
      simp only [show ¬ (i < i ∨ n ≤ i + i) from by omega, show ¬ (j < i ∨ n ≤ j + i) from by omega, if_false] at ci cj
      have fi := hA.frozen i
      have fj := hA.frozen j
      have HA := Lib.hid hA
      have HJ := Lib.hid hj
      clear hA hj
      go_wp2
      go_region
      go_wp2
      go_roundw
      case rel =>
        have hj := HJ.out
        refine ⟨i + 1, by omega, by omega, rfl, by congr 1; omega, ?_, ((hF.setCell (.inl rfl) _).setCell (.inl rfl) _).drew⟩
        refine (((HA.out.set i _).set j _).drew).congr fun k hk => ?_
        by_cases e1 : k = j
        · subst e1; rw [if_pos rfl, if_pos (by omega), show n - 1 - k = i from by omega]
        · rw [if_neg e1]
          by_cases e2 : k = i
          · subst e2; rw [if_pos rfl, if_pos (by omega), show n - 1 - k = j from by omega]
          · rw [if_neg e2]
            by_cases e3 : k < i ∨ n ≤ k + i
            · rw [if_pos e3, if_pos (by omega)]
            · rw [if_neg e3, if_neg (by omega)]
      case measure => simp [intOf]; omega
    · have hge : ¬ ((i : Int) < (n : Int) - 1 - i) := by omega
      have HA := Lib.hid hA
      clear hA
      go_wp2
      go_end0
      refine ⟨rfl, HA.out.congr fun k hk => ?_, hF⟩
      by_cases e3 : k < i ∨ n ≤ k + i
      · rw [if_pos e3]
      · rw [if_neg e3, show n - 1 - k = k from by omega]
end Go.Proofs.Ytkajopdpjdmfcaa
