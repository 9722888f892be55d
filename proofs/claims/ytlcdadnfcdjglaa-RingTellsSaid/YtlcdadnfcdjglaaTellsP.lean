/- What Order tells, by numbers. Plain Lean. -/
import Derived.Test.YtlcdadnfcdjglaaSeq2
namespace Go.Proofs.Ytlcdadnfcdjglaa
open Go.Ring

def telF (sec : Int) (l : List Seg) (N k : Nat) : Nat × Seg := (tellL sec l).getD (k % N) (0, zero)
def ordN (l : List Seg) (p : Nat) : Nat := (order l).getD p 0
theorem tell_true {sec : Int} {l : List Seg} (h : checkB sec l = true) : tellL sec l = (order l).map fun i => (i, at' l i) := by unfold tellL; rw [h]; rfl
theorem tell_at {sec : Int} {l : List Seg} (h : checkB sec l = true) {p : Nat} (hp : p < (order l).length) : (tellL sec l)[p]? = some (ordN l p, at' l (ordN l p)) := by
  rw [tell_true h, List.getElem?_map, List.getElem?_eq_getElem hp]
  simp [ordN, List.getD_eq_getElem?_getD, hp]
theorem ordN_lt {l : List Seg} {p : Nat} (hp : p < (order l).length) : ordN l p < l.length := by
  have : ordN l p ∈ order l := by unfold ordN; rw [List.getD_eq_getElem?_getD, List.getElem?_eq_getElem hp]; exact List.getElem_mem _
  exact (mem_order.1 this).1
theorem telF_lt {sec : Int} {l : List Seg} {N : Nat} (h : checkB sec l = true) (hN : N = (order l).length) {k : Nat} (hk : k < N) : telF sec l N k = (ordN l k, at' l (ordN l k)) := by
  unfold telF
  rw [Nat.mod_eq_of_lt hk, List.getD_eq_getElem?_getD, tell_at h (by omega)]
  rfl
theorem telF_map {sec : Int} {l : List Seg} {N : Nat} (h : checkB sec l = true) (hN : N = (order l).length) : (List.range N).map (telF sec l N) = tellL sec l := by
  apply List.ext_getElem?
  intro i
  rw [List.getElem?_map]
  by_cases hi : i < N
  · rw [List.getElem?_eq_getElem (by simpa using hi), tell_at h (by omega)]
    simp [telF_lt h hN hi]
  · rw [List.getElem?_eq_none (by simpa using hi), List.getElem?_eq_none]
    · rfl
    · rw [tell_true h, List.length_map]; omega
theorem telF_cases {sec : Int} {l : List Seg} {N : Nat} (h : checkB sec l = true) (hN : N = (order l).length) (x : Nat) {p : Nat} (hp : p < N) :
    telF sec l N x = (ordN l p, at' l (ordN l p)) ∨ (telF sec l N x).1 ≠ ordN l p := by
  have hx : x % N < N := Nat.mod_lt _ (by omega)
  have hf : telF sec l N x = (ordN l (x % N), at' l (ordN l (x % N))) := by
    have := telF_lt h hN hx
    unfold telF at this ⊢
    rw [Nat.mod_mod] at this
    exact this
  by_cases he : x % N = p
  · left; rw [hf, he]
  · right
    rw [hf]
    intro hc
    apply he
    have h1 : (order l)[x % N]? = (order l)[p]? := by
      have hc : ordN l (x % N) = ordN l p := hc
      unfold ordN at hc
      rw [List.getD_eq_getElem?_getD, List.getD_eq_getElem?_getD, List.getElem?_eq_getElem (by omega), List.getElem?_eq_getElem (by omega)] at hc
      rw [List.getElem?_eq_getElem (by omega), List.getElem?_eq_getElem (by omega)]
      exact congrArg some hc
    have hnd := List.pairwise_iff_getElem.1 (order_nodup l)
    rw [List.getElem?_eq_getElem (by omega), List.getElem?_eq_getElem (by omega)] at h1
    injection h1 with h1
    rcases Nat.lt_trichotomy (x % N) p with h2 | h2 | h2
    · exact absurd h1 (hnd _ _ (by omega) (by omega) h2)
    · exact h2
    · exact absurd h1.symm (hnd _ _ (by omega) (by omega) h2)
theorem tell_next {sec : Int} {l : List Seg} {N : Nat} (h : checkB sec l = true) (hN : N = (order l).length) {pre : List Nat} {x : Nat} (hp : pre.length < N) (hm : pre.map (telF sec l N) = (tellL sec l).take pre.length)
    (hx : telF sec l N x = (ordN l pre.length, at' l (ordN l pre.length))) : (pre ++ [x]).map (telF sec l N) = (tellL sec l).take (pre ++ [x]).length := by
  rw [List.map_append, List.length_append, hm, List.length_singleton, List.take_add_one, tell_at h (by omega)]
  simp [hx]
theorem tell_not {sec : Int} {l : List Seg} {N : Nat} (h : checkB sec l = true) (hN : N = (order l).length) {pre : List Nat} {x : Nat} (hp : pre.length < N)
    (hx : (telF sec l N x).1 ≠ ordN l pre.length) : ¬ (pre ++ [x]).map (telF sec l N) = (tellL sec l).take (pre ++ [x]).length := by
  intro hc
  have h1 : ((pre ++ [x]).map (telF sec l N))[pre.length]? = some (telF sec l N x) := by simp
  rw [hc, List.getElem?_take_of_lt (by simp), tell_at h (by omega)] at h1
  injection h1 with h1
  apply hx
  rw [← h1]
theorem tell_pre {sec : Int} {l : List Seg} {N : Nat} (h : checkB sec l = true) (hN : N = (order l).length) {pre : List Nat} (hp : pre <+: List.range N) : pre.map (telF sec l N) = (tellL sec l).take pre.length := by
  have h1 := telF_map h hN
  obtain ⟨s, hs⟩ := hp
  rw [← h1, ← hs, List.map_append, List.take_append_of_le_length (by simp), List.take_of_length_le (by simp)]
end Go.Proofs.Ytlcdadnfcdjglaa
