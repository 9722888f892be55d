/- The document's ring: Opened, Oldest, latest. Conditions: the segments lie in memory. -/
import Derived.Test.YtlcdadnfcdjglaaCpy
set_option linter.unusedVariables false
set_option linter.unusedSimpArgs false
namespace Go.Proofs.Ytlcdadnfcdjglaa
open Go.RowKit Go.Ice Go.Ring

def refI (o : Option Nat) : Int := match o with | none => -1 | some i => i

theorem find_range {n : Nat} {p : Nat → Bool} {k : Nat} (hk : k < n) (h1 : p k = true) (h2 : ∀ j, j < k → p j = false) : (List.range n).find? p = some k := by
  have := find_map_range (f := id) hk h1 h2
  simpa using this
theorem find_range_none {n : Nat} {p : Nat → Bool} (h : ∀ j, j < n → p j = false) : (List.range n).find? p = none := by
  have := find_map_none (n := n) (f := id) h
  simpa using this

/-- What stays in memory through a loop over a ring's segments. -/
structure LoopR (w : World) (B : Nat) (sec : Int) (v : Value) (l : List Seg) (W : World) : Prop where
  kp : Kp w [(B, .cells #[.int .i64 sec, v] 25)] W
  segs : SegsAt W v l
theorem LoopR.alloc {w W : World} {B : Nat} {sec : Int} {v : Value} {l : List Seg} (h : LoopR w B sec v l W) (o : Obj) : LoopR w B sec v l (W.alloc o) :=
  ⟨h.kp.step ((Below.refl _ W).alloc (Nat.le_refl _) o), RowAt.below h.segs ((Below.refl _ W).alloc (Nat.le_refl _) o) (Nat.le_refl _)⟩
theorem LoopR.drewN {w W : World} {B : Nat} {sec : Int} {v : Value} {l : List Seg} (h : LoopR w B sec v l W) (n : Nat) : LoopR w B sec v l (W.drewN n) := ⟨h.kp.drewN n, h.segs⟩

/-- A round's segment: its cells, and the copy of it that the round makes. -/
theorem LoopR.at {w W : World} {B : Nat} {sec : Int} {bs off cap n : Nat} {l : List Seg} (h : LoopR w B sec (.slice (some ⟨bs, off, none⟩) n cap) l W) (hn : n = l.length) {i : Nat} (hi : i < n) :
    bs < W.heap.size ∧ n ≤ cap ∧ cap ≤ maxLen ∧ W.cell? ⟨bs, off + i * 3, none⟩ = some (.int .i64 (at' l i).st) ∧ W.cell? ⟨bs, off + i * 3 + 1, none⟩ = some (.int .u64 (at' l i).gen) ∧ W.cell? ⟨bs, off + i * 3 + 2, none⟩ = some (.int .i64 (at' l i).used) := by
  obtain ⟨b', o', c', e, h1, h2, h3, h4⟩ := h.segs.cell (by omega)
  injection e with e1 e2 e3
  injection e1 with e1
  injection e1 with e4 e5
  subst e4 e5 e3
  obtain ⟨q0, q1, q2⟩ := h4 i (by omega)
  exact ⟨h3, by omega, h2, q0, q1, q2⟩

def segO (s : Seg) : Obj := .cells #[.int .i64 s.st, .int .u64 s.gen, .int .i64 s.used] 46
theorem LoopR.copy {w W : World} {B : Nat} {sec : Int} {v : Value} {l : List Seg} (h : LoopR w B sec v l W) (s : Seg) : LoopR w B sec v l (W.alloc (segO s)) ∧ (W.alloc (segO s)).heap[W.heap.size]? = some (segO s) :=
  ⟨h.alloc _, heap_alloc_new W _⟩

set_option maxHeartbeats 4000000 in
theorem openedRef (w : World) (sec : Int) (v : Value) (l : List Seg) (h : SegsAt w v l) :
    Calls Try.prog 27 #[ringV sec v] w fun e w' => e = .returned (.int .i64 (refI (openedR l))) ∧ Below w.heap.size w w' := by
  obtain ⟨B, W0, HB, HW, HK, HZ⟩ := boxed1 w #[.int .i64 sec, v] 25
  have HL0 : Hid (LoopR w B sec v l W0) := ⟨HK.out, RowAt.below h HK.out.below (Nat.le_refl _)⟩
  have b1 : W0.cell? ⟨B, 1, none⟩ = some v := blk_cell HK.out.b0 1
  obtain ⟨a, cap, rfl, hm⟩ := h.form
  obtain ⟨n, hn⟩ : ∃ n, n = l.length := ⟨_, rfl⟩
  rw [← hn] at hm b1 HL0 HW ⊢
  have HN := Lib.hid hn
  unfold maxLen at hm
  clear h HK hn
  unfold ringV
  go_enter Try.func27, Try.ntmps27
  go_upto_region 1 with fail
  rw [HB.out, HW.out]
  go_wp2_with fail
  clear b1
  go_loopg [3, 4, 8] n (fun g iv pv kv wr => ∃ k : Nat, g = n - k ∧ k ≤ n ∧ kv = .int .i64 k ∧ Hid (LoopR w B sec (.slice a n cap) l wr ∧ ∀ j, j < k → openB l j = false))
  case atStart => exact ⟨0, rfl, by omega, rfl, HL0.out, fun j hj => by omega⟩
  case round =>
    clear HL0
    obtain ⟨k, rfl, hk, rfl, HS⟩ := hrel
    by_cases hlt : k < n
    · obtain ⟨bs, off, cap', e, _⟩ := HS.out.1.segs.cell (by have := HN.out; omega)
      injection e with e1 e2 e3
      subst e1 e3
      clear e2
      obtain ⟨h3, h1, h2, q0, q1, q2⟩ := HS.out.1.at HN.out hlt
      go_upto_region 4 with fail
      obtain ⟨Wa, hWa⟩ : ∃ Wa, Wa = wr.alloc (segO (at' l k)) := ⟨_, rfl⟩
      obtain ⟨hla, hca⟩ := HS.out.1.copy (at' l k)
      rw [← hWa] at hla hca
      have HLA := Lib.hid hla
      unfold segO at hWa hca
      rw [← hWa]
      have a0 : Wa.cell? ⟨wr.heap.size, 0, none⟩ = some (.int .i64 (at' l k).st) := blk_cell hca 0
      have HJ := Lib.hid HS.out.2
      clear hla hca hWa q0 q1 q2 HS
      by_cases hst : (at' l k).st = 1
      · have HF := Lib.hid (show openedR l = some k from find_range (by have := HN.out; omega) (by simp [openB, hst]) HJ.out)
        rw [hst] at a0 ⊢
        go_wp2_with fail
        go_ret
        exact ⟨by rw [HF.out]; rfl, HLA.out.kp.below⟩
      · have s0 : ((at' l k).st == 1) = false := by simpa using hst
        have HJ2 : Hid (∀ j, j < k + 1 → openB l j = false) := fun j hj => by
          rcases Nat.lt_succ_iff_lt_or_eq.1 hj with h | rfl
          · exact HJ.out j h
          · simp [openB, hst]
        generalize (at' l k).st = st at *
        go_wp2_with fail
        go_roundg (n - (k + 1))
        case measure => omega
        case rel => exact ⟨k + 1, rfl, by omega, by go_num, HLA.out, HJ2.out⟩
    · obtain rfl : k = n := by omega
      have HF := Lib.hid (show openedR l = none from find_range_none (by rw [← HN.out]; exact HS.out.2))
      go_wp2_with fail
      go_ret
      exact ⟨by rw [HF.out]; rfl, HS.out.1.kp.below⟩

theorem oldestRef_range {l : List Seg} : ∀ (k : Nat) (a : Nat), best (sealedB l) (fun i => - (gen l i : Int)) (List.range k) = some a → a < k ∧ sealedB l a = true := fun k a hb => by
  have := best_spec (sealedB l) (fun i => - (gen l i : Int)) (List.range k)
  rw [hb] at this
  exact ⟨List.mem_range.1 this.1, this.2.1⟩

set_option maxHeartbeats 4000000 in
theorem oldestRef (w : World) (sec : Int) (v : Value) (l : List Seg) (h : SegsAt w v l) :
    Calls Try.prog 29 #[ringV sec v] w fun e w' => e = .returned (.int .i64 (refI (oldestR l))) ∧ Below w.heap.size w w' := by
  obtain ⟨B, W0, HB, HW, HK, HZ⟩ := boxed1 w #[.int .i64 sec, v] 25
  have HL0 : Hid (LoopR w B sec v l W0) := ⟨HK.out, RowAt.below h HK.out.below (Nat.le_refl _)⟩
  have b1 : W0.cell? ⟨B, 1, none⟩ = some v := blk_cell HK.out.b0 1
  obtain ⟨a, cap, rfl, hm⟩ := h.form
  obtain ⟨n, hn⟩ : ∃ n, n = l.length := ⟨_, rfl⟩
  rw [← hn] at hm b1 HL0 HW ⊢
  have HN := Lib.hid hn
  unfold maxLen at hm
  clear h HK hn
  unfold ringV
  go_enter Try.func29, Try.ntmps29
  go_upto_region 1 with fail
  rw [HB.out, HW.out]
  go_wp2_with fail
  clear b1
  go_loopg [3, 4, 5, 9] n (fun g av iv pv kv wr => ∃ k : Nat, g = n - k ∧ k ≤ n ∧ kv = .int .i64 k ∧ av = .int .i64 (refI (best (sealedB l) (fun i => - (gen l i : Int)) (List.range k))) ∧ Hid (LoopR w B sec (.slice a n cap) l wr))
  case atStart => exact ⟨0, rfl, by omega, rfl, rfl, HL0.out⟩
  case round =>
    clear HL0
    obtain ⟨k, rfl, hk, rfl, rfl, HS⟩ := hrel
    by_cases hlt : k < n
    · obtain ⟨bs, off, cap', e, _⟩ := HS.out.segs.cell (by have := HN.out; omega)
      injection e with e1 e2 e3
      subst e1 e3
      clear e2
      obtain ⟨h3, h1, h2, q0, q1, q2⟩ := HS.out.at HN.out hlt
      unfold maxLen at h2
      go_upto_region 5 with fail
      obtain ⟨Wa, hWa⟩ : ∃ Wa, Wa = wr.alloc (segO (at' l k)) := ⟨_, rfl⟩
      obtain ⟨hla, hca⟩ := HS.out.copy (at' l k)
      rw [← hWa] at hla hca
      have HLA := Lib.hid hla
      unfold segO at hWa hca
      rw [← hWa]
      have a0 : Wa.cell? ⟨wr.heap.size, 0, none⟩ = some (.int .i64 (at' l k).st) := blk_cell hca 0
      have a1 : Wa.cell? ⟨wr.heap.size, 1, none⟩ = some (.int .u64 (at' l k).gen) := blk_cell hca 1
      have c1 : Wa.cell? ⟨B, 1, none⟩ = some (.slice (some ⟨bs, off, none⟩) n cap) := blk_cell HLA.out.kp.b0 1
      have HSU : Hid (best (sealedB l) (fun i => - (gen l i : Int)) (List.range (k + 1)) = bestF (sealedB l) (fun i => - (gen l i : Int)) (best (sealedB l) (fun i => - (gen l i : Int)) (List.range k)) k) := by
        show _ = _
        unfold best
        rw [List.range_succ, List.foldl_append]
        rfl
      have HBR := Lib.hid (oldestRef_range (l := l) k)
      clear hla hca hWa q0 q1 q2 HS
      generalize best (sealedB l) (fun i => - (gen l i : Int)) (List.range k) = o at *
      have hgk : gen l k = (at' l k).gen := rfl
      have HGK := Lib.hid hgk
      have hpk : sealedB l k = decide ((at' l k).st = 2) := rfl
      have HPK := Lib.hid hpk
      clear hgk hpk
      generalize (at' l k).st = st at *
      generalize (at' l k).gen = gk at *
      by_cases hst : decide (st = 2) = true
      · have HST := Lib.hid hst
        obtain rfl : st = 2 := by simpa using hst
        cases o with
        | none =>
          have HO : Hid (best (sealedB l) (fun i => - (gen l i : Int)) (List.range (k + 1)) = some k) := by
            show _ = _
            rw [HSU.out]; unfold bestF; rw [HPK.out, HST.out]; rfl
          clear hst
          dsimp only [refI]
          go_quiet (fail)
          go_wp2_with fail
          go_roundg (n - (k + 1))
          case measure => omega
          case rel => exact ⟨k + 1, rfl, by omega, by go_num, by rw [HO.out]; rfl, HLA.out.drewN _⟩
        | some b =>
          have hbk := (HBR.out b rfl).1
          obtain ⟨_, _, _, r0, r1, r2⟩ := HLA.out.at HN.out (i := b) (by omega)
          have hgb : gen l b = (at' l b).gen := rfl
          have HGB := Lib.hid hgb
          clear hgb
          generalize (at' l b).gen = gb at *
          have hb0 : decide ((b : Int) < 0) = false := by simp
          by_cases hcmp : gk < gb
          · have hcd : decide ((gk : Int) < (gb : Int)) = true := by simp; omega
            have HO : Hid (best (sealedB l) (fun i => - (gen l i : Int)) (List.range (k + 1)) = some k) := by
              show _ = _
              rw [HSU.out]; unfold bestF; rw [HPK.out, HST.out]
              simp only [HGB.out, HGK.out]
              rw [decide_eq_true (by omega)]; rfl
            clear hst
            dsimp only [refI]
            go_quiet (fail)
            go_wp2_with fail
            go_roundg (n - (k + 1))
            case measure => omega
            case rel => exact ⟨k + 1, rfl, by omega, by go_num, by rw [HO.out]; rfl, HLA.out.drewN _⟩
          · have hcd : decide ((gk : Int) < (gb : Int)) = false := by simp; omega
            have HO : Hid (best (sealedB l) (fun i => - (gen l i : Int)) (List.range (k + 1)) = some b) := by
              show _ = _
              rw [HSU.out]; unfold bestF; rw [HPK.out, HST.out]
              simp only [HGB.out, HGK.out]
              rw [decide_eq_false (by omega)]; rfl
            clear hst
            dsimp only [refI]
            go_quiet (fail)
            go_wp2_with fail
            go_roundg (n - (k + 1))
            case measure => omega
            case rel => exact ⟨k + 1, rfl, by omega, by go_num, by rw [HO.out]; rfl, HLA.out.drewN _⟩
      · have hst : decide (st = 2) = false := by simpa using hst
        have HO : Hid (best (sealedB l) (fun i => - (gen l i : Int)) (List.range (k + 1)) = o) := by
          show _ = _
          rw [HSU.out]; unfold bestF; rw [HPK.out, hst]; rfl
        have s0 : (st == 2) = false := by simpa using hst
        clear hst
        go_quiet (fail)
        go_wp2_with fail
        go_roundg (n - (k + 1))
        case measure => omega
        case rel => exact ⟨k + 1, rfl, by omega, by go_num, by rw [HO.out], HLA.out.drewN _⟩
    · obtain rfl : k = n := by omega
      have HF : Hid (oldestR l = best (sealedB l) (fun i => - (gen l i : Int)) (List.range k)) := by show _ = _; unfold oldestR; rw [HN.out]
      go_wp2_with fail
      go_ret
      exact ⟨by rw [HF.out]; rfl, HS.out.kp.below⟩

theorem latestRef_range {l : List Seg} : ∀ (k : Nat) (a : Nat), best (usedB l) (fun i => (gen l i : Int)) (List.range k) = some a → a < k ∧ usedB l a = true := fun k a hb => by
  have := best_spec (usedB l) (fun i => (gen l i : Int)) (List.range k)
  rw [hb] at this
  exact ⟨List.mem_range.1 this.1, this.2.1⟩

set_option maxHeartbeats 4000000 in
theorem latestRef (w : World) (sec : Int) (v : Value) (l : List Seg) (h : SegsAt w v l) :
    Calls Try.prog 49 #[ringV sec v] w fun e w' => e = .returned (.int .i64 (refI (latestR l))) ∧ Below w.heap.size w w' := by
  obtain ⟨B, W0, HB, HW, HK, HZ⟩ := boxed1 w #[.int .i64 sec, v] 25
  have HL0 : Hid (LoopR w B sec v l W0) := ⟨HK.out, RowAt.below h HK.out.below (Nat.le_refl _)⟩
  have b1 : W0.cell? ⟨B, 1, none⟩ = some v := blk_cell HK.out.b0 1
  obtain ⟨a, cap, rfl, hm⟩ := h.form
  obtain ⟨n, hn⟩ : ∃ n, n = l.length := ⟨_, rfl⟩
  rw [← hn] at hm b1 HL0 HW ⊢
  have HN := Lib.hid hn
  unfold maxLen at hm
  clear h HK hn
  unfold ringV
  go_enter Try.func49, Try.ntmps49
  go_upto_region 1 with fail
  rw [HB.out, HW.out]
  go_wp2_with fail
  clear b1
  go_loopg [3, 4, 5, 9] n (fun g av iv pv kv wr => ∃ k : Nat, g = n - k ∧ k ≤ n ∧ kv = .int .i64 k ∧ av = .int .i64 (refI (best (usedB l) (fun i => (gen l i : Int)) (List.range k))) ∧ Hid (LoopR w B sec (.slice a n cap) l wr))
  case atStart => exact ⟨0, rfl, by omega, rfl, rfl, HL0.out⟩
  case round =>
    clear HL0
    obtain ⟨k, rfl, hk, rfl, rfl, HS⟩ := hrel
    by_cases hlt : k < n
    · obtain ⟨bs, off, cap', e, _⟩ := HS.out.segs.cell (by have := HN.out; omega)
      injection e with e1 e2 e3
      subst e1 e3
      clear e2
      obtain ⟨h3, h1, h2, q0, q1, q2⟩ := HS.out.at HN.out hlt
      unfold maxLen at h2
      go_upto_region 5 with fail
      obtain ⟨Wa, hWa⟩ : ∃ Wa, Wa = wr.alloc (segO (at' l k)) := ⟨_, rfl⟩
      obtain ⟨hla, hca⟩ := HS.out.copy (at' l k)
      rw [← hWa] at hla hca
      have HLA := Lib.hid hla
      unfold segO at hWa hca
      rw [← hWa]
      have a0 : Wa.cell? ⟨wr.heap.size, 0, none⟩ = some (.int .i64 (at' l k).st) := blk_cell hca 0
      have a1 : Wa.cell? ⟨wr.heap.size, 1, none⟩ = some (.int .u64 (at' l k).gen) := blk_cell hca 1
      have c1 : Wa.cell? ⟨B, 1, none⟩ = some (.slice (some ⟨bs, off, none⟩) n cap) := blk_cell HLA.out.kp.b0 1
      have HSU : Hid (best (usedB l) (fun i => (gen l i : Int)) (List.range (k + 1)) = bestF (usedB l) (fun i => (gen l i : Int)) (best (usedB l) (fun i => (gen l i : Int)) (List.range k)) k) := by
        show _ = _
        unfold best
        rw [List.range_succ, List.foldl_append]
        rfl
      have HBR := Lib.hid (latestRef_range (l := l) k)
      clear hla hca hWa q0 q1 q2 HS
      generalize best (usedB l) (fun i => (gen l i : Int)) (List.range k) = o at *
      have hgk : gen l k = (at' l k).gen := rfl
      have HGK := Lib.hid hgk
      have hpk : usedB l k = (!decide ((at' l k).st = 0)) := rfl
      have HPK := Lib.hid hpk
      clear hgk hpk
      generalize (at' l k).st = st at *
      generalize (at' l k).gen = gk at *
      by_cases hst : (!decide (st = 0)) = true
      · have HST := Lib.hid hst
        have s0 : (st != 0) = true := by simpa using hst
        cases o with
        | none =>
          have HO : Hid (best (usedB l) (fun i => (gen l i : Int)) (List.range (k + 1)) = some k) := by
            show _ = _
            rw [HSU.out]; unfold bestF; rw [HPK.out, HST.out]; rfl
          clear hst
          dsimp only [refI]
          go_quiet (fail)
          go_wp2_with fail
          go_roundg (n - (k + 1))
          case measure => omega
          case rel => exact ⟨k + 1, rfl, by omega, by go_num, by rw [HO.out]; rfl, HLA.out.drewN _⟩
        | some b =>
          have hbk := (HBR.out b rfl).1
          obtain ⟨_, _, _, r0, r1, r2⟩ := HLA.out.at HN.out (i := b) (by omega)
          have hgb : gen l b = (at' l b).gen := rfl
          have HGB := Lib.hid hgb
          clear hgb
          generalize (at' l b).gen = gb at *
          have hb0 : decide ((b : Int) < 0) = false := by simp
          by_cases hcmp : gb < gk
          · have hcd : decide ((gb : Int) < (gk : Int)) = true := by simp; omega
            have HO : Hid (best (usedB l) (fun i => (gen l i : Int)) (List.range (k + 1)) = some k) := by
              show _ = _
              rw [HSU.out]; unfold bestF; rw [HPK.out, HST.out]
              simp only [HGB.out, HGK.out]
              rw [decide_eq_true (by omega)]; rfl
            clear hst
            dsimp only [refI]
            go_quiet (fail)
            go_wp2_with fail
            go_roundg (n - (k + 1))
            case measure => omega
            case rel => exact ⟨k + 1, rfl, by omega, by go_num, by rw [HO.out]; rfl, HLA.out.drewN _⟩
          · have hcd : decide ((gb : Int) < (gk : Int)) = false := by simp; omega
            have HO : Hid (best (usedB l) (fun i => (gen l i : Int)) (List.range (k + 1)) = some b) := by
              show _ = _
              rw [HSU.out]; unfold bestF; rw [HPK.out, HST.out]
              simp only [HGB.out, HGK.out]
              rw [decide_eq_false (by omega)]; rfl
            clear hst
            dsimp only [refI]
            go_quiet (fail)
            go_wp2_with fail
            go_roundg (n - (k + 1))
            case measure => omega
            case rel => exact ⟨k + 1, rfl, by omega, by go_num, by rw [HO.out]; rfl, HLA.out.drewN _⟩
      · have hst : (!decide (st = 0)) = false := by simpa using hst
        have HO : Hid (best (usedB l) (fun i => (gen l i : Int)) (List.range (k + 1)) = o) := by
          show _ = _
          rw [HSU.out]; unfold bestF; rw [HPK.out, hst]; rfl
        have s0 : st = 0 := by simpa using hst
        subst s0
        clear hst
        go_quiet (fail)
        go_wp2_with fail
        go_roundg (n - (k + 1))
        case measure => omega
        case rel => exact ⟨k + 1, rfl, by omega, by go_num, by rw [HO.out], HLA.out.drewN _⟩
    · obtain rfl : k = n := by omega
      have HF : Hid (latestR l = best (usedB l) (fun i => (gen l i : Int)) (List.range k)) := by show _ = _; unfold latestR; rw [HN.out]
      go_wp2_with fail
      go_ret
      exact ⟨by rw [HF.out]; rfl, HS.out.kp.below⟩
end Go.Proofs.Ytlcdadnfcdjglaa
