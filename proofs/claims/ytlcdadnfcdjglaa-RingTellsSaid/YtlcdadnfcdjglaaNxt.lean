/- The next segment to open. Conditions: the segments lie in memory. -/
import Derived.Test.YtlcdadnfcdjglaaLft
set_option linter.unusedVariables false
set_option linter.unusedSimpArgs false
namespace Go.Proofs.Ytlcdadnfcdjglaa
open Go.RowKit Go.Ice Go.Ring

def nextV (b : Bool) (o : Option Nat) : Value := if b then (match o with | none => .tuple #[.int .i64 0, .int .i64 6] | some i => .tuple #[.int .i64 i, .int .i64 0]) else .tuple #[.int .i64 0, .int .i64 180]

theorem startOf_late (l : List Seg) : lateI l + 1 = (startOf (latestP l) : Nat) := by
  unfold lateI startOf
  cases latestP l <;> simp

set_option maxHeartbeats 4000000 in
theorem next (w : World) (sec : Int) (v : Value) (l : List Seg) (h : SegsAt w v l) :
    Calls Try.prog 18 #[ringV sec v] w fun e w' => e = .returned (nextV (checkB sec l) (nextP l)) ∧ Below w.heap.size w w' := by
  obtain ⟨B, W0, hB, hW0, HB, HBX, HBL, HSZ⟩ := boxed w #[.int .i64 sec, v] 25
  have HR : Hid (SegsAt W0 v l) := RowAt.below h HBL.out (by omega)
  have HCK := Lib.hid (chek W0 sec v l HR.out)
  have b0 : W0.cell? ⟨B, 0, none⟩ = some (.int .i64 sec) := blk_cell HBX.out 0
  have b1 : W0.cell? ⟨B, 1, none⟩ = some v := blk_cell HBX.out 1
  obtain ⟨cb, hcb⟩ : ∃ cb, cb = checkB sec l := ⟨_, rfl⟩
  rw [← hcb] at HCK
  rw [← hcb]
  have HCB := Lib.hid hcb
  clear h hcb
  unfold ringV at HCK ⊢
  go_enter Try.func18, Try.ntmps18
  go_upto_region 1 with fail
  rw [← hB, ← hW0]
  clear hW0 hB
  go_step3
  go_wp2_with fail
  refine HCK.out.mono ?_
  rintro e w1 ⟨rfl, hbl⟩
  have HBW := hid_step HBL hbl HB
  have HXB := hid_keep HBX hbl
  have HR1 : Hid (SegsAt w1 v l) := RowAt.below HR.out hbl (Nat.le_refl _)
  clear hbl b0 b1 HCK
  unfold chekE
  cases cb with
  | false =>
    simp only [Bool.false_eq_true, if_false]
    go_wp2_with fail
    rw [Exit.noGoto_ret]
    go_ret2
    exact ⟨rfl, by rw [← HB.out]; exact HBW.out⟩
  | true =>
    simp only [if_true]
    have hs := check_size HCB.out.symm
    have HLT := Lib.hid (late w1 sec v l HR1.out (by omega) (by omega))
    have c0 : w1.cell? ⟨B, 0, none⟩ = some (.int .i64 sec) := blk_cell HXB.out 0
    have c1 : w1.cell? ⟨B, 1, none⟩ = some v := blk_cell HXB.out 1
    unfold ringV at HLT
    clear hs
    go_wp2_with fail
    refine HLT.out.mono ?_
    rintro e w2 ⟨rfl, hbl⟩
    have HBW2 := hid_step HBW hbl HB
    have HXB2 := hid_keep HXB hbl
    have HR2 : Hid (SegsAt w2 v l) := RowAt.below HR1.out hbl (Nat.le_refl _)
    clear hbl c0 c1 HLT HBW HXB HR1
    have hs := check_size HCB.out.symm
    obtain ⟨bs, off, cap, rfl, h1, h2, h3, h4⟩ := HR2.out.cell (by omega)
    have d1 : w2.cell? ⟨B, 1, none⟩ = some (.slice (some ⟨bs, off, none⟩) l.length cap) := blk_cell HXB2.out 1
    have hst := startOf_late l
    have hsl : startOf (latestP l) ≤ l.length := by
      unfold startOf
      cases hla : latestP l with
      | none => simp
      | some a => have := latest_lt hla; simp; omega
    have HNX : Hid (nextP l = (behind l.length (startOf (latestP l))).find? (freeB l)) := rfl
    generalize startOf (latestP l) = s at *
    have hla : lateI l = (s : Int) - 1 := by omega
    rw [hla]
    have H4 : Hid (∀ i, i < l.length → w2.cell? ⟨bs, off + i * 3, none⟩ = some (.int .i64 (at' l i).st)) := fun i hi => (h4 i hi).1
    clear hst hla h4
    have HN := Lib.hid (show l.length = l.length from rfl)
    obtain ⟨n, hn⟩ : ∃ n, n = l.length := ⟨_, rfl⟩
    rw [← hn] at hs d1 hsl H4 HNX h1
    rw [← hn]
    clear HN
    have HN := Lib.hid hn
    unfold maxLen at h2
    clear hn
    go_wp2_with fail
    go_step3
    go_wp2_with fail
    go_loopg [8, 9, 10, 25] n (fun g xv fv yv kv wr => ∃ k : Nat, g = n - k ∧ k ≤ n ∧ kv = .int .i64 k ∧ fv = .bool false ∧ wr = w2 ∧ Hid (∀ j, j < k → freeB l ((s + j) % n) = false))
    case atStart => exact ⟨0, rfl, by omega, rfl, rfl, rfl, fun j hj => by omega⟩
    case round =>
      obtain ⟨k, rfl, hk, rfl, rfl, rfl, HJ⟩ := hrel
      by_cases hlt : k < n
      · obtain ⟨idx, hidx⟩ : ∃ idx, idx = (s + k) % n := ⟨_, rfl⟩
        have hil : idx < n := by rw [hidx]; exact Nat.mod_lt _ (by omega)
        have hie : ((s : Int) + (k : Int)) % (n : Int) = (idx : Int) := by rw [hidx, Int.natCast_emod, Int.natCast_add]
        have HIE := Lib.hid hie
        have q0 := H4.out idx hil
        have HIX := Lib.hid hidx
        clear hidx
        by_cases hfr : (at' l idx).st = 0
        · have HF : Hid (nextP l = some idx) := by
            show _ = _
            rw [HNX.out]
            have : behind n s = (List.range n).map fun j => (s + j) % n := rfl
            rw [this, HIX.out]
            refine find_map_range hlt ?_ HJ.out
            rw [← HIX.out]
            simp [freeB, hfr]
          rw [hfr] at q0
          go_wp2_with fail
          rw [Exit.noGoto_ret]
          go_ret2
          exact ⟨by rw [HF.out]; show Ending.returned (.tuple #[.int .i64 (((s : Int) + (k : Int)) % (n : Int)), .int .i64 0]) = _; rw [HIE.out]; rfl, by rw [← HB.out]; exact HBW2.out⟩
        · have HF : Hid (∀ j, j < k + 1 → freeB l ((s + j) % n) = false) := fun j hj => by
            rcases Nat.lt_succ_iff_lt_or_eq.1 hj with h | rfl
            · exact HJ.out j h
            · rw [← HIX.out]; simp [freeB, hfr]
          have s0 : ((at' l idx).st == 0) = false := by simpa using hfr
          generalize (at' l idx).st = st at *
          go_wp2_with fail
          go_roundg (n - (k + 1))
          case measure => omega
          case rel => exact ⟨k + 1, rfl, by omega, by go_num, rfl, rfl, HF.out⟩
      · obtain rfl : k = n := by omega
        have HF : Hid (nextP l = none) := by
          show _ = _
          rw [HNX.out]
          have : behind k s = (List.range k).map fun j => (s + j) % k := rfl
          rw [this]
          exact find_map_none HJ.out
        go_wp2_with fail
        rw [Exit.noGoto_ret]
        go_ret2
        exact ⟨by rw [HF.out]; rfl, by rw [← HB.out]; exact HBW2.out⟩
end Go.Proofs.Ytlcdadnfcdjglaa
