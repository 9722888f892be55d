/- How many sectors of the open segment are left; the open one with another error. Conditions: the segments lie in memory. -/
import Derived.Test.YtlcdadnfcdjglaaFre
import Derived.Test.YtlcdadnfcdjglaaCln
set_option linter.unusedVariables false
set_option linter.unusedSimpArgs false
namespace Go.Proofs.Ytlcdadnfcdjglaa
open Go.RowKit Go.Ice Go.Ring

theorem check_size {sec : Int} {l : List Seg} (h : checkB sec l = true) : 4 ≤ l.length ∧ l.length ≤ 16 ∧ 24 ≤ sec ∧ sec ≤ 64 := by
  unfold checkB sizedB at h
  rw [Bool.and_eq_true, Bool.and_eq_true, Bool.and_eq_true] at h
  have h1 := of_decide_eq_true h.1.1.1
  have h2 := of_decide_eq_true h.1.1.2
  exact ⟨h1.1, h1.2, h2.1, h2.2⟩
theorem check_seg {sec : Int} {l : List Seg} (h : checkB sec l = true) {i : Nat} (hi : i < l.length) : segOk sec (at' l i) = true := by
  unfold checkB at h
  rw [Bool.and_eq_true, Bool.and_eq_true, List.all_eq_true] at h
  exact h.1.2 _ (at_mem hi)
theorem opened_lt {l : List Seg} {i : Nat} (h : openedP l = some i) : i < l.length ∧ (at' l i).st = 1 := by
  unfold openedP at h
  have h1 := List.mem_of_find?_eq_some h
  have h2 := List.find?_some h
  exact ⟨(mem_order.1 h1).1, by simpa [openB] using h2⟩
theorem oldest_lt {l : List Seg} {i : Nat} (h : oldestP l = some i) : i < l.length ∧ (at' l i).st = 2 := by
  unfold oldestP at h
  have h1 := List.mem_of_find?_eq_some h
  have h2 := List.find?_some h
  exact ⟨(mem_order.1 h1).1, by simpa [sealedB] using h2⟩
theorem latest_lt {l : List Seg} {i : Nat} (h : latestP l = some i) : i < l.length := (mem_order.1 (List.mem_of_getLast? h)).1
theorem used_bd {sec : Int} {l : List Seg} (h : checkB sec l = true) {i : Nat} (hi : i < l.length) (hs : (at' l i).st = 1 ∨ (at' l i).st = 2) : 1 ≤ (at' l i).used ∧ (at' l i).used ≤ sec := by
  have := check_seg h hi
  unfold segOk at this
  rw [if_neg (by omega), Bool.and_eq_true] at this
  exact of_decide_eq_true this.2

def leftV (b : Bool) (x : Int) : Value := .int .i64 (if b then x else 0)

set_option maxHeartbeats 4000000 in
theorem left (w : World) (sec : Int) (v : Value) (l : List Seg) (h : SegsAt w v l) :
    Calls Try.prog 21 #[ringV sec v] w fun e w' => e = .returned (leftV (checkB sec l) (leftP sec l)) ∧ Below w.heap.size w w' := by
  obtain ⟨B, W0, hB, hW0, HB, HBX, HBL, HSZ⟩ := boxed w #[.int .i64 sec, v] 25
  have HR : Hid (SegsAt W0 v l) := RowAt.below h HBL.out (by omega)
  have HCK := Lib.hid (opend W0 sec v l HR.out)
  have b0 : W0.cell? ⟨B, 0, none⟩ = some (.int .i64 sec) := blk_cell HBX.out 0
  have b1 : W0.cell? ⟨B, 1, none⟩ = some v := blk_cell HBX.out 1
  obtain ⟨cb, hcb⟩ : ∃ cb, cb = checkB sec l := ⟨_, rfl⟩
  obtain ⟨op, hop⟩ : ∃ op, op = openedP l := ⟨_, rfl⟩
  rw [← hcb, ← hop] at HCK
  rw [← hcb]
  have HCB := Lib.hid hcb
  have HOP := Lib.hid hop
  clear h hcb hop
  unfold ringV at HCK ⊢
  go_enter Try.func21, Try.ntmps21
  go_upto_region 1 with fail
  rw [← hB, ← hW0]
  clear hW0 hB
  go_wp2_with fail
  refine HCK.out.mono ?_
  rintro e w1 ⟨rfl, hbl⟩
  have HBW := hid_step HBL hbl HB
  have HXB := hid_keep HBX hbl
  have HR1 : Hid (SegsAt w1 v l) := RowAt.below HR.out hbl (Nat.le_refl _)
  clear hbl b0 b1 HCK
  unfold seekV
  cases cb with
  | false =>
    simp only [Bool.false_eq_true, if_false]
    go_wp2_with fail
    go_ret
    exact ⟨rfl, by rw [← HB.out]; exact HBW.out⟩
  | true =>
    simp only [if_true]
    cases op with
    | none =>
      have HL : Hid (leftP sec l = 0) := by show _ = _; unfold leftP; rw [← HOP.out]
      go_wp2_with fail
      go_ret
      exact ⟨by rw [HL.out]; rfl, by rw [← HB.out]; exact HBW.out⟩
    | some i =>
      have hs := check_size HCB.out.symm
      have hil := opened_lt HOP.out.symm
      obtain ⟨bs, off, cap, rfl, h1, h2, h3, h4⟩ := HR1.out.cell (by omega)
      obtain ⟨q0, q1, q2⟩ := h4 i hil.1
      have hub := used_bd HCB.out.symm hil.1 (.inl hil.2)
      have HL : Hid (leftP sec l = sec - (at' l i).used) := by show _ = _; unfold leftP; rw [← HOP.out]
      have c0 : w1.cell? ⟨B, 0, none⟩ = some (.int .i64 sec) := blk_cell HXB.out 0
      have c1 : w1.cell? ⟨B, 1, none⟩ = some (.slice (some ⟨bs, off, none⟩) l.length cap) := blk_cell HXB.out 1
      generalize (at' l i).used = u at *
      have hil1 := hil.1
      have hwr : IntKind.i64.wrap (sec - u) = sec - u := by rw [IntKind.wrap_i64]; omega
      clear h4 q0 q1 hil HR HR1 HXB HBX
      generalize l.length = n at *
      unfold maxLen at h2
      simp only
      go_upto_region 4 with fail
      go_quiet (fail)
      go_wp2_with fail
      go_ret
      exact ⟨by rw [HL.out]; simp [leftV], by rw [← HB.out]; exact (hid_step HBW (drewN_below w1 nq) HB).out⟩

def openedV (b : Bool) (o : Option Nat) : Value := if b then (match o with | none => .tuple #[.int .i64 0, .int .i64 181] | some i => .tuple #[.int .i64 i, .int .i64 0]) else .tuple #[.int .i64 0, .int .i64 180]

set_option maxHeartbeats 4000000 in
theorem opened (w : World) (sec : Int) (v : Value) (l : List Seg) (h : SegsAt w v l) :
    Calls Try.prog 54 #[ringV sec v] w fun e w' => e = .returned (openedV (checkB sec l) (openedP l)) ∧ Below w.heap.size w w' := by
  obtain ⟨B, W0, hB, hW0, HB, HBX, HBL, HSZ⟩ := boxed w #[.int .i64 sec, v] 25
  have HR : Hid (SegsAt W0 v l) := RowAt.below h HBL.out (by omega)
  have HCK := Lib.hid (opend W0 sec v l HR.out)
  have b0 : W0.cell? ⟨B, 0, none⟩ = some (.int .i64 sec) := blk_cell HBX.out 0
  have b1 : W0.cell? ⟨B, 1, none⟩ = some v := blk_cell HBX.out 1
  generalize checkB sec l = cb at *
  generalize openedP l = op at *
  clear h
  unfold ringV at HCK ⊢
  go_enter Try.func54, Try.ntmps54
  go_upto_region 1 with fail
  rw [← hB, ← hW0]
  clear hW0 hB
  go_wp2_with fail
  refine HCK.out.mono ?_
  rintro e w1 ⟨rfl, hbl⟩
  have HBW := hid_step HBL hbl HB
  clear hbl b0 b1 HCK
  unfold seekV
  cases cb with
  | false =>
    simp only [Bool.false_eq_true, if_false]
    go_wp2_with fail
    go_ret2
    exact ⟨rfl, by rw [← HB.out]; exact HBW.out⟩
  | true =>
    simp only [if_true]
    cases op with
    | none =>
      simp only
      go_wp2_with fail
      go_ret2
      exact ⟨rfl, by rw [← HB.out]; exact HBW.out⟩
    | some i =>
      simp only
      go_wp2_with fail
      go_ret2
      exact ⟨rfl, by rw [← HB.out]; exact HBW.out⟩
end Go.Proofs.Ytlcdadnfcdjglaa
