/- The document's ring: Left, Next, Free. Conditions: the segments lie in memory; at most a thousand. -/
import Derived.Test.YtlcdadnfcdjglaaWth
import Derived.Test.YtlcdadnfcdjglaaUsd
set_option linter.unusedVariables false
set_option linter.unusedSimpArgs false
namespace Go.Proofs.Ytlcdadnfcdjglaa
open Go.RowKit Go.Ice Go.Ring

def leftR (sec : Int) (l : List Seg) : Int := match openedR l with | none => 0 | some i => sec - (at' l i).used
def nextR (l : List Seg) : Option Nat := (behind l.length (startOf (latestR l))).find? (freeB l)

theorem openedR_lt {l : List Seg} {i : Nat} (h : openedR l = some i) : i < l.length ∧ (at' l i).st = 1 := by
  unfold openedR at h
  exact ⟨List.mem_range.1 (List.mem_of_find?_eq_some h), by simpa [openB] using List.find?_some h⟩
theorem refI_neg (o : Option Nat) : refI o < 0 ↔ o = none := by
  cases o with
  | none => simp [refI]
  | some i => simp [refI]

set_option maxHeartbeats 4000000 in
theorem leftRef (w : World) (sec : Int) (v : Value) (l : List Seg) (h : SegsAt w v l) :
    Calls Try.prog 30 #[ringV sec v] w fun e w' => e = .returned (leftV (checkB sec l) (leftR sec l)) ∧ Below w.heap.size w w' := by
  obtain ⟨B, W0, HB, HW, HK, HZ⟩ := boxed1 w #[.int .i64 sec, v] 25
  have HR : Hid (SegsAt W0 v l) := RowAt.below h HK.out.below (Nat.le_refl _)
  have HCK := Lib.hid (openedRef W0 sec v l HR.out)
  have b0 : W0.cell? ⟨B, 0, none⟩ = some (.int .i64 sec) := blk_cell HK.out.b0 0
  have b1 : W0.cell? ⟨B, 1, none⟩ = some v := blk_cell HK.out.b0 1
  obtain ⟨op, hop⟩ : ∃ op, op = openedR l := ⟨_, rfl⟩
  rw [← hop] at HCK
  have HOP := Lib.hid hop
  clear h hop
  unfold ringV at HCK ⊢
  go_enter Try.func30, Try.ntmps30
  go_upto_region 1 with fail
  rw [HB.out, HW.out]
  go_wp2_with fail
  refine HCK.out.mono ?_
  rintro e w1 ⟨rfl, hbl⟩
  have HK1 := Lib.hid (HK.out.step hbl)
  have HR1 : Hid (SegsAt w1 v l) := RowAt.below HR.out hbl (Nat.le_refl _)
  have HRG := Lib.hid (rightRef w1 sec v l HR1.out)
  have c0 : w1.cell? ⟨B, 0, none⟩ = some (.int .i64 sec) := blk_cell HK1.out.b0 0
  have c1 : w1.cell? ⟨B, 1, none⟩ = some v := blk_cell HK1.out.b0 1
  rw [← check_right] at HRG
  obtain ⟨cb, hcb⟩ : ∃ cb, cb = checkB sec l := ⟨_, rfl⟩
  rw [← hcb] at HRG
  have HCB := Lib.hid hcb
  unfold ringV at HRG
  clear hbl b0 b1 HCK HR HK hcb
  go_wp2_with fail
  refine HRG.out.mono ?_
  rintro e w2 ⟨rfl, hbl⟩
  have HK2 := Lib.hid (HK1.out.step hbl)
  have HR2 : Hid (SegsAt w2 v l) := RowAt.below HR1.out hbl (Nat.le_refl _)
  have d0 : w2.cell? ⟨B, 0, none⟩ = some (.int .i64 sec) := blk_cell HK2.out.b0 0
  have d1 : w2.cell? ⟨B, 1, none⟩ = some v := blk_cell HK2.out.b0 1
  clear hbl c0 c1 HRG HR1 HK1
  cases cb with
  | false =>
    go_wp2_with fail
    go_ret
    exact ⟨by rw [← HCB.out]; rfl, HK2.out.below⟩
  | true =>
    cases op with
    | none =>
      have HL : Hid (leftR sec l = 0) := by show _ = _; unfold leftR; rw [← HOP.out]
      dsimp only [refI]
      go_wp2_with fail
      go_ret
      exact ⟨by rw [HL.out, ← HCB.out]; rfl, HK2.out.below⟩
    | some i =>
      have hs := check_size HCB.out.symm
      have hil := openedR_lt HOP.out.symm
      obtain ⟨bs, off, cap, rfl, h1, h2, h3, h4⟩ := HR2.out.cell (by omega)
      obtain ⟨q0, q1, q2⟩ := h4 i hil.1
      have hub := used_bd HCB.out.symm hil.1 (.inl hil.2)
      have HL : Hid (leftR sec l = sec - (at' l i).used) := by show _ = _; unfold leftR; rw [← HOP.out]
      generalize (at' l i).used = u at *
      have hil1 := hil.1
      have hwr : IntKind.i64.wrap (sec - u) = sec - u := by rw [IntKind.wrap_i64]; omega
      have hi0 : decide ((0 : Int) ≤ (i : Int)) = true := by simp
      clear h4 q0 q1 hil HR2
      generalize l.length = n at *
      unfold maxLen at h2
      dsimp only [refI]
      go_upto_region 3 with fail
      go_quiet (fail)
      go_wp2_with fail
      go_ret
      exact ⟨by rw [HL.out, ← HCB.out]; simp [leftV], (HK2.out.drewN nq).below⟩

theorem startOf_ref (o : Option Nat) : refI o + 1 = (startOf o : Nat) := by
  unfold refI startOf
  cases o <;> simp

theorem latestR_lt {l : List Seg} {i : Nat} (h : latestR l = some i) : i < l.length := (latestRef_range _ _ h).1

set_option maxHeartbeats 4000000 in
theorem nextRef (w : World) (sec : Int) (v : Value) (l : List Seg) (h : SegsAt w v l) (hl0 : 0 < l.length) (hl1 : l.length ≤ 1000) :
    Calls Try.prog 28 #[ringV sec v] w fun e w' => e = .returned (.int .i64 (refI (nextR l))) ∧ Below w.heap.size w w' := by
  obtain ⟨B, W0, HB, HW, HK, HZ⟩ := boxed1 w #[.int .i64 sec, v] 25
  have HR : Hid (SegsAt W0 v l) := RowAt.below h HK.out.below (Nat.le_refl _)
  have HCK := Lib.hid (latestRef W0 sec v l HR.out)
  have b0 : W0.cell? ⟨B, 0, none⟩ = some (.int .i64 sec) := blk_cell HK.out.b0 0
  have b1 : W0.cell? ⟨B, 1, none⟩ = some v := blk_cell HK.out.b0 1
  have HL0 := Lib.hid hl0
  have HL1 := Lib.hid hl1
  clear h hl0 hl1
  unfold ringV at HCK ⊢
  go_enter Try.func28, Try.ntmps28
  go_upto_region 1 with fail
  rw [HB.out, HW.out]
  go_wp2_with fail
  refine HCK.out.mono ?_
  rintro e w1 ⟨rfl, hbl⟩
  have HK1 := Lib.hid (HK.out.step hbl)
  have hr1 : SegsAt w1 v l := RowAt.below HR.out hbl (Nat.le_refl _)
  obtain ⟨bs, off, cap, rfl, h1, h2, h3, h4⟩ := hr1.cell HL0.out
  have d1 : w1.cell? ⟨B, 1, none⟩ = some (.slice (some ⟨bs, off, none⟩) l.length cap) := blk_cell HK1.out.b0 1
  have hst := startOf_ref (latestR l)
  have hsl : startOf (latestR l) ≤ l.length := by
    unfold startOf
    cases hla : latestR l with
    | none => simp
    | some a => have := latestR_lt hla; simp; omega
  have HNX : Hid (nextR l = (behind l.length (startOf (latestR l))).find? (freeB l)) := rfl
  generalize startOf (latestR l) = s at *
  have hla : refI (latestR l) = (s : Int) - 1 := by omega
  rw [hla]
  have H4 : Hid (∀ i, i < l.length → w1.cell? ⟨bs, off + i * 3, none⟩ = some (.int .i64 (at' l i).st)) := fun i hi => (h4 i hi).1
  clear hst hla h4 hr1 HR HCK HK b0 b1 hbl
  have hl0 := HL0.out
  have hl1 := HL1.out
  obtain ⟨n, hn⟩ : ∃ n, n = l.length := ⟨_, rfl⟩
  rw [← hn] at d1 hsl H4 HNX h1 hl0 hl1
  rw [← hn]
  have HN := Lib.hid hn
  unfold maxLen at h2
  clear hn
  go_wp2_with fail
  go_loopg [4, 5] n (fun g kv iv wr => ∃ k : Nat, g = n - k ∧ k ≤ n ∧ kv = .int .i64 ((k : Int) + 1) ∧ wr = w1 ∧ Hid (∀ j, j < k → freeB l ((s + j) % n) = false))
  case atStart => exact ⟨0, rfl, by omega, rfl, rfl, fun j hj => by omega⟩
  case round =>
    obtain ⟨k, rfl, hk, rfl, rfl, HJ⟩ := hrel
    by_cases hlt : k < n
    · obtain ⟨idx, hidx⟩ : ∃ idx, idx = (s + k) % n := ⟨_, rfl⟩
      have hil : idx < n := by rw [hidx]; exact Nat.mod_lt _ (by omega)
      have hie : ((s : Int) - 1 + ((k : Int) + 1)) % (n : Int) = (idx : Int) := by rw [hidx, Int.natCast_emod, Int.natCast_add]; congr 1; omega
      have HIE := Lib.hid hie
      have q0 := H4.out idx hil
      have HIX := Lib.hid hidx
      clear hidx
      by_cases hfr : (at' l idx).st = 0
      · have HF : Hid (nextR l = some idx) := by
          show _ = _
          rw [HNX.out]
          have : behind n s = (List.range n).map fun j => (s + j) % n := rfl
          rw [this, HIX.out]
          refine find_map_range hlt ?_ HJ.out
          rw [← HIX.out]
          simp [freeB, hfr]
        rw [hfr] at q0
        go_wp2_with fail
        go_ret
        exact ⟨by rw [HF.out]; show Ending.returned (.int .i64 (((s : Int) - 1 + ((k : Int) + 1)) % (n : Int))) = _; rw [HIE.out]; rfl, HK1.out.below⟩
      · have HF : Hid (∀ j, j < k + 1 → freeB l ((s + j) % n) = false) := fun j hj => by
          rcases Nat.lt_succ_iff_lt_or_eq.1 hj with h | rfl
          · exact HJ.out j h
          · rw [← HIX.out]; simp [freeB, hfr]
        have s0 : ((at' l idx).st == 0) = false := by simpa using hfr
        generalize (at' l idx).st = st at *
        go_wp2_with fail
        go_roundg (n - (k + 1))
        case measure => omega
        case rel => exact ⟨k + 1, rfl, by omega, by go_num, rfl, HF.out⟩
    · obtain rfl : k = n := by omega
      have HF : Hid (nextR l = none) := by
        show _ = _
        rw [HNX.out]
        have : behind k s = (List.range k).map fun j => (s + j) % k := rfl
        rw [this]
        exact find_map_none HJ.out
      go_wp2_with fail
      go_ret
      exact ⟨by rw [HF.out]; rfl, HK1.out.below⟩
end Go.Proofs.Ytlcdadnfcdjglaa
