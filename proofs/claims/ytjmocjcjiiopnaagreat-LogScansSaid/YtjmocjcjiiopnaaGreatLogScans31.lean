/- A log that is not there: what its methods answer; Ring of one that is; how many segments and sectors. Conditions: none. The document's records: Right, Same. No condition. The document's numbers and bytes: Number, num, Sectors, Both, High. Conditions: numbers of at most eight bytes. The document's High: a number's bytes. Conditions: at most eight. -/
import Derived.Test.YtjmocjcjiiopnaaGreatLogScans24
import Derived.Test.YtjmocjcjiiopnaaGreatLogScans07
import Derived.Test.YtjmocjcjiiopnaaGreatLogScans11
import Derived.Test.YtjmocjcjiiopnaaGreatLogScans05
import Derived.Test.YtjmocjcjiiopnaaGreatLogScans06
import Derived.Test.YtjmocjcjiiopnaaGreatLogScans08
import Derived.Lib.JoinLaws
import Derived.Test.YtjmocjcjiiopnaaGreatLogScans09

section
set_option linter.unusedVariables false
set_option linter.unusedSimpArgs false
namespace Go.Proofs.YtjmocjcjiiopnaaGreat
open Go.RowKit Go.Ice Go.Oct Go.Dsk Go.Ring Go.Lg
theorem bigAddr0 : Big Tryz.prog 64 3 := ⟨⟨_, Tryz.underlying64, rfl⟩, by kernel_rfl⟩
theorem bigScan0 : Big Tryz.prog 43 3 := ⟨⟨_, Tryz.underlying43, rfl⟩, by kernel_rfl⟩
theorem bigRec0 : Big Tryz.prog 62 6 := ⟨⟨_, Tryz.underlying62, rfl⟩, by kernel_rfl⟩
theorem bigRing0 : Big Tryz.prog 54 2 := ⟨⟨_, Tryz.underlying54, rfl⟩, by kernel_rfl⟩
def recZ : List Value := [.int .i64 0, .int .u32 0, .int .u32 0, .int .u64 0, .slice none 0 0, .slice none 0 0]
def addrZ : List Value := [.int .i64 0, .int .u64 0, .int .i64 0]
set_option maxHeartbeats 8000000 in
set_option maxRecDepth 20000 in
theorem append_nil : Meets Tryz.prog 16 #[.pointer none, .agg recZ.toArray] [] [] fun v L => v = .tuple #[.agg addrZ.toArray, .int .i64 1] ∧ L = [] := by
  intro w B H
  have H1 := (H.alloc recZ 62).alloc addrZ 64
  simp only [World.size_alloc] at H1
  unfold recZ addrZ at *
  go_enter Tryz.func16, Tryz.ntmps16
  go_upto_region 1 with fail
  refine wp_world (fun W => St w B _ _ W) H1 ?_
  intro w1 H2
  obtain ⟨hc, hf⟩ := St.cells H2 0
  have H3 := ((H2.set_ 0 0 (.int .i64 0)).set_ 0 1 (.int .u64 0)).set_ 0 2 (.int .i64 0)
  go_wp2_with fail
  exact bodyPost_ret (results_ct rfl rfl bigAddr0 (St.range H3 0)) rfl (Back.mk (L' := []) ⟨rfl, rfl⟩ (St.pick H3 []))
set_option maxHeartbeats 8000000 in
set_option maxRecDepth 20000 in
theorem read_nil : Meets Tryz.prog 21 #[.pointer none, .agg addrZ.toArray] [] [] fun v L => v = .tuple #[.agg recZ.toArray, .int .i64 1] ∧ L = [] := by
  intro w B H
  have H1 := (H.alloc addrZ 64).alloc recZ 62
  simp only [World.size_alloc] at H1
  unfold recZ addrZ at *
  go_enter Tryz.func21, Tryz.ntmps21
  go_upto_region 1 with fail
  refine wp_world (fun W => St w B _ _ W) H1 ?_
  intro w1 H2
  obtain ⟨hc, hf⟩ := St.cells H2 0
  have H3 := (((((H2.set_ 0 0 (.int .i64 0)).set_ 0 1 (.int .u32 0)).set_ 0 2 (.int .u32 0)).set_ 0 3 (.int .u64 0)).set_ 0 4 (.slice none 0 0)).set_ 0 5 (.slice none 0 0)
  go_wp2_with fail
  exact bodyPost_ret (results_ct rfl rfl bigRec0 (St.range H3 0)) rfl (Back.mk (L' := []) ⟨rfl, rfl⟩ (St.pick H3 []))
set_option maxHeartbeats 8000000 in
set_option maxRecDepth 20000 in
theorem scan_nil : Meets Tryz.prog 12 #[.pointer none, .int .i64 0] [] [] fun v L => v = .tuple #[.agg #[.int .u64 0, .int .i64 0, .slice none 0 0], .int .i64 1] ∧ L = [] := by
  intro w B H
  have H1 := H.alloc [.int .u64 0, .int .i64 0, .slice none 0 0] 43
  go_enter Tryz.func12, Tryz.ntmps12
  go_upto_region 1 with fail
  refine wp_world (fun W => St w B _ _ W) H1 ?_
  intro w1 H2
  obtain ⟨hc, hf⟩ := St.cells H2 0
  have H3 := ((H2.set_ 0 0 (.int .u64 0)).set_ 0 1 (.int .i64 0)).set_ 0 2 (.slice none 0 0)
  go_step3
  go_wp2_with fail
  rw [Exit.noGoto_ret]
  exact bodyPost_ret (results_ct rfl rfl bigScan0 (St.range H3 0)) rfl (Back.mk (L' := []) ⟨rfl, rfl⟩ (St.pick H3 []))
set_option maxHeartbeats 8000000 in
set_option maxRecDepth 20000 in
theorem sync_nil : Meets Tryz.prog 20 #[.pointer none] [] [] fun v L => v = .int .i64 1 ∧ L = [] := by
  intro w B H
  go_enter Tryz.func20, Tryz.ntmps20
  go_wp2_with fail
  exact bodyPost_ret (results_tmp rfl _ _ _) rfl (Back.mk (L' := []) ⟨rfl, rfl⟩ H)
set_option maxHeartbeats 8000000 in
set_option maxRecDepth 20000 in
theorem free_nil : Meets Tryz.prog 24 #[.pointer none, .int .i64 0] [] [] fun v L => v = .int .i64 1 ∧ L = [] := by
  intro w B H
  go_enter Tryz.func24, Tryz.ntmps24
  go_wp2_with fail
  exact bodyPost_ret (results_tmp rfl _ _ _) rfl (Back.mk (L' := []) ⟨rfl, rfl⟩ H)
set_option maxHeartbeats 8000000 in
set_option maxRecDepth 20000 in
theorem super_nil : Meets Tryz.prog 9 #[.pointer none] [] [] fun v L => v = .pointer none ∧ L = [] := by
  intro w B H
  go_enter Tryz.func9, Tryz.ntmps9
  go_wp2_with fail
  exact bodyPost_ret (results_tmp rfl _ _ _) rfl (Back.mk (L' := []) ⟨rfl, rfl⟩ H)
set_option maxHeartbeats 8000000 in
set_option maxRecDepth 20000 in
theorem broken_nil : Meets Tryz.prog 30 #[.pointer none] [] [] fun v L => v = .bool false ∧ L = [] := by
  intro w B H
  go_enter Tryz.func30, Tryz.ntmps30
  go_wp2_with fail
  exact bodyPost_ret (results_tmp rfl _ _ _) rfl (Back.mk (L' := []) ⟨rfl, rfl⟩ H)
set_option maxHeartbeats 8000000 in
set_option maxRecDepth 20000 in
theorem ring_nil : Meets Tryz.prog 29 #[.pointer none] [] [] fun v L => v = .agg #[.int .i64 0, .slice none 0 0] ∧ L = [] := by
  intro w B H
  have H1 := H.alloc [.int .i64 0, .slice none 0 0] 54
  go_enter Tryz.func29, Tryz.ntmps29
  go_upto_region 1 with fail
  refine wp_world (fun W => St w B _ _ W) H1 ?_
  intro w1 H2
  obtain ⟨hc, hf⟩ := St.cells H2 0
  have H3 := (H2.set_ 0 0 (.int .i64 0)).set_ 0 1 (.slice none 0 0)
  go_wp2_with fail
  exact bodyPost_ret (results_c rfl rfl bigRing0 (St.range H3 0)) rfl (Back.mk (L' := []) ⟨rfl, rfl⟩ (St.pick H3 []))
set_option maxHeartbeats 8000000 in
set_option maxRecDepth 20000 in
theorem sized0 (a b : Int) : Meets Tryz.prog 7 #[.int .i64 a, .int .i64 b] [] [] fun v L => (∃ n s : Nat, v = .tuple #[.int .i64 n, .int .i64 s] ∧ (4 ≤ n ∧ n ≤ 16) ∧ (24 ≤ s ∧ s ≤ 64)) ∧ L = [] := by
  intro w B H
  go_enter Tryz.func7, Tryz.ntmps7
  go_wp2_with fail
  all_goals refine bodyPost_ret (results_tmp2 rfl _ _ _) rfl (Back.mk (L' := []) ⟨?_, rfl⟩ H)
  all_goals first
    | exact ⟨4, 24, rfl, by decide, by decide⟩
    | (refine ⟨4, (24 + b % 41).toNat, ?_, by decide, by omega⟩
       show Value.tuple #[.int .i64 4, .int .i64 (24 + b % 41)] = _
       rw [Int.toNat_of_nonneg (by omega)]
       rfl)
    | (refine ⟨(4 + a % 13).toNat, 24, ?_, by omega, by decide⟩
       show Value.tuple #[.int .i64 (4 + a % 13), .int .i64 24] = _
       rw [Int.toNat_of_nonneg (by omega)]
       rfl)
    | (refine ⟨(4 + a % 13).toNat, (24 + b % 41).toNat, ?_, by omega, by omega⟩
       show Value.tuple #[.int .i64 (4 + a % 13), .int .i64 (24 + b % 41)] = _
       rw [Int.toNat_of_nonneg (by omega), Int.toNat_of_nonneg (by omega)])
/-- The ring of a log that is there. -/
theorem lring (g s p : Nat) (L : Lg) (hl : L.segs.length ≤ 1000) : Meets Tryz.prog 29 #[.pointer (some ⟨g, 0, none⟩)] [logA g s p L] [] fun v M => ∃ u, v = .agg #[.int .i64 L.x.sec, u] ∧ M = [logA g s p L, segsA u L.segs] := by
  intro w B H
  obtain ⟨av, cv, H1⟩ := logA.open H
  have H2 := H1.alloc [.int .i64 0, .slice none 0 0] 54
  obtain ⟨qb, hqb⟩ : ∃ qb, qb = w.heap.size := ⟨_, rfl⟩
  rw [← hqb] at H2
  unfold logL logC at H2
  go_enter Tryz.func29, Tryz.ntmps29
  go_upto_region 1 with fail
  rw [← hqb]
  clear hqb
  refine wp_world (fun W => St w B _ _ W) H2 ?_
  intro w1 H3
  obtain ⟨hc, hf⟩ := St.cells H3 1
  have H4 := H3.alloc [.int .i64 L.x.sec, .slice av L.segs.length cv] 54
  obtain ⟨rb, hrb⟩ : ∃ rb, rb = w1.heap.size := ⟨_, rfl⟩
  rw [← hrb] at H4
  go_upto_region 4 with fail
  rw [← hrb]
  clear hrb
  refine wp_world (fun W => St w B _ _ W) H4 ?_
  intro w2 H5
  clear H3 H4 hc hf
  obtain ⟨hc, hf⟩ := St.cells H5 0
  have HCL := Rg.clone w2 _ L.segs (segs_of H5 5 rfl) hl
  go_wp2_with fail
  refine HCL.mono ?_
  rintro e w3 ⟨u, rfl, ho, hb⟩
  obtain ⟨a7, c7, rfl, _⟩ := own_form ho
  have H6 := St.newSegs H5 hb ho
  clear H5 HCL hb hc hf
  obtain ⟨hc, hf⟩ := St.cells H6 1
  have H7 := H6.set_ 1 1 (.slice a7 L.segs.length c7)
  go_upto_region 5 with fail
  refine wp_world (fun W => St w B _ _ W) H7 ?_
  intro w4 H8
  clear H6 H7 hc hf
  obtain ⟨hc, hf⟩ := St.cells H8 1
  obtain ⟨hc2, hf2⟩ := St.cells H8 2
  have H9 := (H8.set_ 2 0 (.int .i64 L.x.sec)).set_ 2 1 (.slice a7 L.segs.length c7)
  go_wp2_with fail
  exact bodyPost_ret (results_c rfl rfl bigRing0 (St.range H9 2)) rfl (Back.mk ⟨_, rfl, rfl⟩ (logA.close (L := L) (v := .slice av L.segs.length cv) (St.pick H9 [3, 4, 5, 6, 0])))
end Go.Proofs.YtjmocjcjiiopnaaGreat
end

section
set_option linter.unusedVariables false
set_option linter.unusedSimpArgs false
namespace Go.Proofs.YtjmocjcjiiopnaaGreat
open Go.RowKit Go.Ice Go.Oct
set_option maxHeartbeats 16000000 in
set_option maxRecDepth 20000 in
theorem rright (r : Rc) (x y : Option Addr) (n c m d : Nat) (hn : n ≤ maxLen) (hm : m ≤ maxLen) : Meets Tryz.prog 18 #[recV r (.slice x n c) (.slice y m d)] [] [] fun v L => v = .bool (r.right n m) ∧ L = [] := by
  intro w B H
  unfold maxLen at hn hm
  obtain ⟨k, f, e, s⟩ := r
  obtain ⟨q, hq⟩ : ∃ q, q = Rc.right ⟨k, f, e, s⟩ n m := ⟨_, rfl⟩
  rw [← hq]
  unfold recV
  have H1 := H.alloc [.int .i64 k, .int .u32 f, .int .u32 e, .int .u64 s, .slice x n c, .slice y m d] 62
  have HQ := Lib.hid hq
  clear hq
  go_enter Tryz.func18, Tryz.ntmps18
  go_upto_region 1 with fail
  refine wp_world (fun W => St w B _ _ W) H1 ?_
  intro w1 H2
  clear H1
  obtain ⟨hc, hf⟩ := St.cells H2 0
  go_wp2_with fail
  all_goals
    refine bodyPost_ret (results_tmp rfl _ _ _) rfl (Back.mk ⟨?_, rfl⟩ (St.pick H2 []))
    have e := HQ.out
    show Value.bool _ = Value.bool q
    rw [e]
    congr 1
    unfold Rc.right
    rw [Bool.eq_iff_iff, decide_eq_true_eq]
    simp
    clear e hc hf H2 H HQ
    try simp only [beq_iff_eq, beq_eq_false_iff_ne, ne_eq] at *
    omega
set_option maxHeartbeats 32000000 in
set_option maxRecDepth 20000 in
theorem rsame (r s : Rc) (x1 x2 y1 y2 : Option Addr) (ka va kb vb : List UInt8) (c1 c2 d1 d2 : Nat) : Meets Tryz.prog 23 #[recV r (.slice x1 ka.length c1) (.slice x2 va.length c2), recV s (.slice y1 kb.length d1) (.slice y2 vb.length d2)] [] [bytA (.slice x1 ka.length c1) ka, bytA (.slice x2 va.length c2) va, bytA (.slice y1 kb.length d1) kb, bytA (.slice y2 vb.length d2) vb] fun v L => v = .bool (sameR r s ka va kb vb) ∧ L = [] := by
  intro w B H
  obtain ⟨k, f, e, q⟩ := r
  obtain ⟨k2, f2, e2, q2⟩ := s
  obtain ⟨z, hz⟩ : ∃ z, z = sameR ⟨k, f, e, q⟩ ⟨k2, f2, e2, q2⟩ ka va kb vb := ⟨_, rfl⟩
  rw [← hz]
  have HQ := Lib.hid hz
  clear hz
  unfold recV
  have H1 := (H.alloc [.int .i64 k, .int .u32 f, .int .u32 e, .int .u64 q, .slice x1 ka.length c1, .slice x2 va.length c2] 62).alloc [.int .i64 k2, .int .u32 f2, .int .u32 e2, .int .u64 q2, .slice y1 kb.length d1, .slice y2 vb.length d2] 62
  simp only [World.size_alloc] at H1
  go_enter Tryz.func23, Tryz.ntmps23
  go_upto_region 1 with fail
  refine wp_world (fun W => St w B _ _ W) H1 ?_
  intro w1 H2
  clear H1
  obtain ⟨hc, hf⟩ := St.cells H2 0
  obtain ⟨hc2, hf2⟩ := St.cells H2 1
  have v1 := convert_sl 60 5 Tryz.underlying60 Tryz.underlying5 (H2.bytes 0) 9 Tryz.underlying9
  have v2 := convert_sl 60 5 Tryz.underlying60 Tryz.underlying5 (H2.bytes 1) 9 Tryz.underlying9
  have v3 := convert_sl 60 5 Tryz.underlying60 Tryz.underlying5 (H2.bytes 2) 9 Tryz.underlying9
  have v4 := convert_sl 60 5 Tryz.underlying60 Tryz.underlying5 (H2.bytes 3) 9 Tryz.underlying9
  go_wp2_with fail
  all_goals
    refine bodyPost_ret (results_tmp rfl _ _ _) rfl (Back.mk ⟨?_, rfl⟩ (St.pick H2 []))
    have e := HQ.out
    show Value.bool _ = Value.bool z
    rw [e]
    congr 1
    unfold sameR
    clear e hc hf hc2 hf2 H2 H HQ v1 v2 v3 v4
    rw [Bool.eq_iff_iff, decide_eq_true_eq]
    try simp only [beq_iff_eq, beq_eq_false_iff_ne, ne_eq, Int.natCast_inj] at *
    simp [*]
end Go.Proofs.YtjmocjcjiiopnaaGreat
end

section
set_option linter.unusedVariables false
set_option linter.unusedSimpArgs false
namespace Go.Proofs.YtjmocjcjiiopnaaGreat
open Go.RowKit Go.Ice Go.Oct
set_option maxHeartbeats 8000000 in
set_option maxRecDepth 20000 in
theorem rnumber (a : Option Addr) (c : Nat) (l : List UInt8) (h8 : l.length ≤ 8) : Meets Tryz.prog 91 #[.slice a l.length c] [] [bytA (.slice a l.length c) l] fun v L => v = .int .u64 (numB l) ∧ L = [] := by
  intro w B H
  obtain ⟨n, hn⟩ : ∃ n, n = l.length := ⟨_, rfl⟩
  have hc : 0 < n → ∃ b off, a = some ⟨b, off, none⟩ ∧ ∀ j, j < n → w.cell? ⟨b, off + j, none⟩ = some (u8v (l.getD j 0)) := fun h => by rw [hn] at h ⊢; exact byt_cell (H.bytes 0) h
  rw [← hn] at h8 ⊢
  have HC := Lib.hid hc
  have HN := Lib.hid hn
  clear hc hn
  go_enter Tryz.func91, Tryz.ntmps91
  go_wp2_with fail
  go_loopg [3, 4] n (fun gg b3 b4 wr => ∃ j : Nat, j ≤ n ∧ gg = n - j ∧ b4 = .int .i64 j ∧ b3 = .int .u64 (numB (l.take j)) ∧ Hid (wr = w))
  case atStart => exact ⟨0, Nat.zero_le _, rfl, rfl, rfl, Lib.hid rfl⟩
  case round =>
  obtain ⟨j, hj, rfl, rfl, rfl, HWR⟩ := hrel
  have hw := HWR.out
  subst hw
  by_cases hlt : j < n
  · obtain ⟨b, off, rfl, hcel0⟩ := HC.out (by omega)
    have hcell := hcel0 j hlt
    clear hcel0
    have hst := numB_step l j (by rw [← HN.out]; exact hlt)
    have hb := numB_take l j (by rw [← HN.out]; omega)
    have hcc := (l.getD j 0).toNat_lt
    generalize (l.getD j 0) = cc at *
    unfold u8v at hcell
    generalize hx : numB (l.take j) = x at *
    have hx256 : x * 256 + 255 < 18446744073709551616 := by
      have : 256 ^ j ≤ 256 ^ 7 := Nat.pow_le_pow_right (by omega) (by omega)
      omega
    have HST := Lib.hid hst
    clear hst hb hx
    go_wp2_with fail
    go_roundg (n - (j + 1))
    case measure => omega
    case rel => exact ⟨j + 1, by omega, rfl, by go_num, by rw [HST.out]; go_num, Lib.hid rfl⟩
  · obtain rfl : j = n := by omega
    go_wp2_with fail
    go_ret
    exact Back.mk ⟨by rw [List.take_of_length_le (by rw [← HN.out]; exact Nat.le_refl _)]; rfl, rfl⟩ (by rw [HN.out]; exact H)
set_option maxHeartbeats 8000000 in
set_option maxRecDepth 20000 in
theorem rsectors (n : Nat) (hn : n ≤ 1000000) : Meets Tryz.prog 59 #[.int .i64 n] [] [] fun v L => v = .int .i64 (secs n) ∧ L = [] := by
  intro w B H
  obtain ⟨m, hm⟩ : ∃ m, m = secs n := ⟨_, rfl⟩
  have h1 : 1 ≤ m ∧ n ≤ 48 * m ∧ (1 < m → 48 * (m - 1) < n) := by
    rw [hm]; unfold secs; split <;> omega
  rw [← hm]
  clear hm
  go_enter Tryz.func59, Tryz.ntmps59
  go_wp2_with fail
  go_loopg [3] (m - 1) (fun gg b3 wr => ∃ j : Nat, 1 ≤ j ∧ j ≤ m ∧ gg = m - j ∧ b3 = .int .i64 j ∧ Hid (wr = w))
  case atStart => exact ⟨1, Nat.le_refl _, h1.1, rfl, rfl, Lib.hid rfl⟩
  case round =>
  obtain ⟨j, hj1, hj, rfl, rfl, HWR⟩ := hrel
  have hw := HWR.out
  subst hw
  have hj48 : (j : Int) * 48 < 9223372036854775807 := by omega
  by_cases hlt : j < m
  · have h2 : (j : Int) * 48 < (n : Int) := by omega
    go_wp2_with fail
    go_roundg (m - (j + 1))
    case measure => omega
    case rel => exact ⟨j + 1, by omega, by omega, rfl, by go_num, Lib.hid rfl⟩
  · have h2 : ¬ (j : Int) * 48 < (n : Int) := by omega
    obtain rfl : j = m := by omega
    go_wp2_with fail
    go_ret
    exact Back.mk ⟨rfl, rfl⟩ H
set_option maxHeartbeats 8000000 in
set_option maxRecDepth 20000 in
theorem rboth (a b : Option Addr) (c d : Nat) (l m : List UInt8) (hl : l.length ≤ 1000000) (hm : m.length ≤ 1000000) : Meets Tryz.prog 92 #[.slice a l.length c, .slice b m.length d] [] [bytA (.slice a l.length c) l, bytA (.slice b m.length d) m] fun v L => ∃ x e, v = .slice x (l.length + m.length) e ∧ L = [ownA 5 1 (.slice x (l.length + m.length) e) (l.length + m.length) ((l ++ m).map u8v)] := by
  intro w B H
  have hs0 : bytA (.slice a l.length c) l ∈ [bytA (.slice a l.length c) l, bytA (.slice b m.length d) m] := by simp
  have hs1 : bytA (.slice b m.length d) m ∈ [bytA (.slice a l.length c) l, bytA (.slice b m.length d) m] := by simp
  generalize [bytA (.slice a l.length c) l, bytA (.slice b m.length d) m] = S at *
  have HS0 := Lib.hid hs0
  have HS1 := Lib.hid hs1
  have hbl : ∀ W M, St w B M S W → BytesAt W (.slice a l.length c) l := fun _ _ h => (h.getS HS0.out).elim fun _ h => h.2
  have hbm : ∀ W M, St w B M S W → BytesAt W (.slice b m.length d) m := fun _ _ h => (h.getS HS1.out).elim fun _ h => h.2
  have hcl : ∀ W M, St w B M S W → 0 < l.length → ∃ b0 off, a = some ⟨b0, off, none⟩ ∧ ∀ j, j < l.length → W.cell? ⟨b0, off + j, none⟩ = some (u8v (l.getD j 0)) := fun W M h h0 => byt_cell (hbl W M h) h0
  have hcm : ∀ W M, St w B M S W → 0 < m.length → ∃ b0 off, b = some ⟨b0, off, none⟩ ∧ ∀ j, j < m.length → W.cell? ⟨b0, off + j, none⟩ = some (u8v (m.getD j 0)) := fun W M h h0 => byt_cell (hbm W M h) h0
  obtain ⟨n, hn⟩ : ∃ n, n = l.length := ⟨_, rfl⟩
  obtain ⟨k, hk⟩ : ∃ k, k = m.length := ⟨_, rfl⟩
  rw [← hn] at hl hcl ⊢
  rw [← hk] at hm hcm ⊢
  have HCL := Lib.hid hcl
  have HCM := Lib.hid hcm
  have HN := Lib.hid hn
  have HK := Lib.hid hk
  clear hs0 hs1 hbl hbm hcl hcm hn hk HS0 HS1
  have hrun := run_make_room (P := Tryz.prog) 60 5 (.int .u8 0) 1 Tryz.underlying60 (by kernel_rfl) rfl .i64 .i64 (n + k) (by omega) (by omega) w
  rw [Int.natCast_add] at hrun
  have hown : (w.alloc (.cells (madeCells #[.int .u8 0] (n + k)) 5)).ownsRow w.heap.size 5 1 (.slice (some ⟨w.heap.size, 0, none⟩) 0 (n + k)) 0 [] := World.ownsRow_made w _ _ (Nat.le_refl _) (by unfold maxLen; omega) (by simp [madeCells])
  have H1 := H.newOwn ((Below.refl _ w).alloc (Nat.le_refl _) _) hown
  have HR := Lib.hid hrun
  clear hrun hown
  obtain ⟨g0, hg0⟩ : ∃ g0, g0 = w.heap.size := ⟨_, rfl⟩
  rw [← hg0] at H1
  have hnk : (n : Int) + (k : Int) < 9223372036854775807 := by omega
  go_enter Tryz.func92, Tryz.ntmps92
  go_upto_region 2 with (first | rw [HR.out] | fail)
  rw [← hg0]
  clear hg0
  refine wp_world (fun W => St w B _ _ W) H1 ?_
  intro w1 H2
  clear H1 HR
  go_wp2_with fail
  go_loopg [5, 6] n (fun gg b5 b6 wr => ∃ (j : Nat) (x : Option Addr) (e : Nat), j ≤ n ∧ gg = n - j ∧ b6 = .int .i64 j ∧ b5 = .slice x j e ∧ Hid (St w B [ownA 5 1 (.slice x j e) j ((l.take j).map u8v)] S wr))
  case atStart => exact ⟨0, _, _, Nat.zero_le _, rfl, rfl, rfl, Lib.hid H2⟩
  case round =>
  obtain ⟨j, x, e, hj, rfl, rfl, rfl, HI⟩ := hrel
  clear H2 H
  have H3 := HI.out
  by_cases hlt : j < n
  · obtain ⟨b0, off, rfl, hcel0⟩ := HCL.out _ _ H3 (by omega)
    have hcell := hcel0 j hlt
    clear hcel0
    obtain ⟨cc, hcc⟩ : ∃ cc, cc = l.getD j 0 := ⟨_, rfl⟩
    rw [← hcc] at hcell
    have hlit := elemByte.lit [u8v cc] (fun v hv => by rw [List.mem_singleton.1 hv]; rfl) (by simp) (by simp) wr #[(0, u8v cc)] rfl
    have H4 := H3.alloc [u8v cc] 5
    obtain ⟨v6, w6, hr6, H5⟩ := H4.app (ty := 60) elemByte 1 rfl (isSlK_of_blk H4 0 rfl 1 (by omega) rfl (by decide)) (fun u hu => by rw [List.mem_singleton.1 hu]; rfl) (by omega) (by unfold maxLen; omega)
    obtain ⟨a6, c6, rfl, _⟩ := own_form (St.own H5 1)
    have HR6 := Lib.hid hr6
    have HCC := Lib.hid hcc
    have HLIT := Lib.hid hlit
    clear hr6 H4 hcc hlit
    unfold u8v at hcell
    go_upto_region 4 with (first | (refine wpl_lit (vals := #[(0, u8v cc)]) (by simp [Act.eval, u8v]) HLIT.out ?_) | (at_builtin; refine wpList_append_eq rfl _ _ _ rfl rfl rfl HR6.out ?_) | fail)
    clear hcell HLIT
    go_wp2_with fail
    go_roundg (n - (j + 1))
    case measure => omega
    case rel =>
      refine ⟨j + 1, a6, c6, by omega, rfl, by go_num, rfl, Lib.hid (St.cast ?_ (St.tail H5))⟩
      rw [take_snoc (by rw [← HN.out]; exact hlt), List.map_append, HCC.out]
      rfl
  · obtain rfl : j = n := by omega
    rw [List.take_of_length_le (by rw [← HN.out]; exact Nat.le_refl _)] at H3
    clear HI
    go_wp2_with fail
    go_loopg [5, 7] k (fun gg b5 b7 wr => ∃ (i : Nat) (x : Option Addr) (e : Nat), i ≤ k ∧ gg = k - i ∧ b7 = .int .i64 i ∧ b5 = .slice x (j + i) e ∧ Hid (St w B [ownA 5 1 (.slice x (j + i) e) (j + i) (l.map u8v ++ (m.take i).map u8v)] S wr))
    case atStart => exact ⟨0, _, _, Nat.zero_le _, rfl, rfl, rfl, Lib.hid (St.cast (by simp) H3)⟩
    case round =>
    obtain ⟨i, x, e, hi, rfl, rfl, rfl, HI⟩ := hrel
    clear H3
    have H3 := HI.out
    by_cases hlt : i < k
    · obtain ⟨b0, off, rfl, hcel0⟩ := HCM.out _ _ H3 (by omega)
      have hcell := hcel0 i hlt
      clear hcel0
      obtain ⟨cc, hcc⟩ : ∃ cc, cc = m.getD i 0 := ⟨_, rfl⟩
      rw [← hcc] at hcell
      have hlit := elemByte.lit [u8v cc] (fun v hv => by rw [List.mem_singleton.1 hv]; rfl) (by simp) (by simp) wr #[(0, u8v cc)] rfl
      have H4 := H3.alloc [u8v cc] 5
      obtain ⟨v6, w6, hr6, H5⟩ := H4.app (ty := 60) elemByte 1 rfl (isSlK_of_blk H4 0 rfl 1 (by omega) rfl (by decide)) (fun u hu => by rw [List.mem_singleton.1 hu]; rfl) (by omega) (by unfold maxLen; omega)
      obtain ⟨a6, c6, rfl, _⟩ := own_form (St.own H5 1)
      have HR6 := Lib.hid hr6
      have HCC := Lib.hid hcc
      have HLIT := Lib.hid hlit
      clear hr6 H4 hcc hlit
      unfold u8v at hcell
      go_upto_region 8 with (first | (refine wpl_lit (vals := #[(0, u8v cc)]) (by simp [Act.eval, u8v]) HLIT.out ?_) | (at_builtin; refine wpList_append_eq rfl _ _ _ rfl rfl rfl HR6.out ?_) | fail)
      clear hcell HLIT
      go_wp2_with fail
      go_roundg (k - (i + 1))
      case measure => omega
      case rel =>
        refine ⟨i + 1, a6, c6, by omega, rfl, by go_num, by rw [Nat.add_assoc], Lib.hid (St.cast ?_ (St.tail H5))⟩
        rw [take_snoc (by rw [← HK.out]; exact hlt), List.map_append, HCC.out, ← List.append_assoc]
        rfl
    · obtain rfl : i = k := by omega
      rw [List.take_of_length_le (by rw [← HK.out]; exact Nat.le_refl _)] at H3
      go_wp2_with fail
      exact bodyPost_ret (results_tmp rfl _ _ _) rfl (Back.mk ⟨_, _, rfl, rfl⟩ (St.cast (by rw [List.map_append]) H3))
end Go.Proofs.YtjmocjcjiiopnaaGreat
end

section
set_option linter.unusedVariables false
set_option linter.unusedSimpArgs false
namespace Go.Proofs.YtjmocjcjiiopnaaGreat
open Go.RowKit Go.Ice Go.Oct
theorem make_bytes (W : World) : ∀ n : Nat, n ≤ 8 → (Instr.makeSlice 60 (.int .i64 (n : Int)) (.int .i64 (n : Int))).run Tryz.prog W = .ok (.slice (some ⟨W.heap.size, 0, none⟩) n n) (W.alloc (.cells ((List.replicate n (0 : UInt8)).map u8v).toArray 5))
  | 0, _ => by kernel_rfl
  | 1, _ => by kernel_rfl
  | 2, _ => by kernel_rfl
  | 3, _ => by kernel_rfl
  | 4, _ => by kernel_rfl
  | 5, _ => by kernel_rfl
  | 6, _ => by kernel_rfl
  | 7, _ => by kernel_rfl
  | 8, _ => by kernel_rfl
  | n + 9, h => by omega
theorem beB_getD (x n i : Nat) (h : i < n) : (beB x n)[i]? = some (UInt8.ofNat (x / 256 ^ (n - 1 - i))) := by
  unfold beB
  rw [List.getElem?_map, List.getElem?_range h, Option.map_some, Nat.pow_mul]
theorem high_set (x n i : Nat) (h : i < n) : ((List.replicate (i + 1) (0 : UInt8) ++ (beB x n).drop (i + 1)).map u8v).set i (u8v (UInt8.ofNat (x / 256 ^ (n - 1 - i)))) = (List.replicate i (0 : UInt8) ++ (beB x n).drop i).map u8v := by
  have h1 : (beB x n).drop i = UInt8.ofNat (x / 256 ^ (n - 1 - i)) :: (beB x n).drop (i + 1) := by
    rw [List.drop_eq_getElem_cons (by rw [beB_len]; exact h)]
    congr 1
    have := beB_getD x n i h
    rw [List.getElem?_eq_getElem (by rw [beB_len]; exact h)] at this
    exact Option.some.inj this
  rw [h1, List.replicate_succ', List.append_assoc, List.map_append, List.map_append, List.set_append_right _ _ (by simp), List.length_map, List.length_replicate, Nat.sub_self, List.map_append, List.map_cons]
  rfl
set_option maxHeartbeats 8000000 in
set_option maxRecDepth 20000 in
theorem rhigh (x n : Nat) (hx : x < 18446744073709551616) (hn : n ≤ 8) : Meets Tryz.prog 94 #[.int .u64 x, .int .i64 n] [] [] fun v L => ∃ g, v = .slice (some ⟨g, 0, none⟩) n n ∧ L = [ownA 5 1 (.slice (some ⟨g, 0, none⟩) n n) n ((beB x n).map u8v)] := by
  intro w B H
  have hrun := make_bytes w n hn
  obtain ⟨Z, hZ⟩ : ∃ Z, Z = (List.replicate n (0 : UInt8)).map u8v := ⟨_, rfl⟩
  rw [← hZ] at hrun
  have HZ := Lib.hid hZ
  clear hZ
  have H1 := H.alloc Z 5
  obtain ⟨g, hg⟩ : ∃ g, g = w.heap.size := ⟨_, rfl⟩
  rw [← hg] at H1
  have HR := Lib.hid hrun
  clear hrun
  go_enter Tryz.func94, Tryz.ntmps94
  go_upto_region 2 with (first | rw [HR.out] | fail)
  rw [← hg]
  clear hg
  refine wp_world (fun W => St w B _ _ W) H1 ?_
  intro w1 H2
  clear H1 HR
  rw [HZ.out] at H2
  go_wp2_with fail
  go_loopg [0, 6] n (fun gg b0 b6 wr => ∃ j : Nat, j ≤ n ∧ gg = j ∧ b6 = .int .i64 ((j : Int) - 1) ∧ b0 = .int .u64 ((x / 256 ^ (n - j) : Nat) : Int) ∧ Hid (St w B [blkA g ((List.replicate j (0 : UInt8) ++ (beB x n).drop j).map u8v) 5] [] wr))
  case atStart => exact ⟨n, Nat.le_refl _, rfl, rfl, by simp, Lib.hid (by rw [List.drop_of_length_le (by rw [beB_len]; exact Nat.le_refl _), List.append_nil]; exact H2)⟩
  case round =>
  obtain ⟨j, hj, hgj, rfl, rfl, HI⟩ := hrel
  clear H2 H
  have H3 := HI.out
  cases j with
  | zero =>
    have h0 : ¬ (((0 : Nat) : Int) - 1 ≥ 0) := by omega
    go_wp2_with fail
    exact bodyPost_ret (results_tmp rfl _ _ _) rfl (Back.mk ⟨g, rfl, rfl⟩ (St.toOwn H3 0 (n := n) (size := 1) rfl (by simp [beB_len]) (by unfold maxLen; omega)))
  | succ i =>
    have hi : ((i + 1 : Nat) : Int) - 1 = (i : Int) := by omega
    rw [hi]
    obtain ⟨BL, hbl⟩ : ∃ BL, BL = (List.replicate (i + 1) (0 : UInt8) ++ (beB x n).drop (i + 1)).map u8v := ⟨_, rfl⟩
    have hbi : BL[i]? = some (.int .u8 0) := by
      rw [hbl, List.getElem?_map, List.getElem?_append_left (by simp), List.getElem?_replicate, if_pos (by omega)]
      rfl
    rw [← hbl] at H3
    have hset := high_set x n i (by omega)
    rw [← hbl] at hset
    obtain ⟨y, hy⟩ : ∃ y, y = x / 256 ^ (n - 1 - i) := ⟨_, rfl⟩
    have hy2 : x / 256 ^ (n - (i + 1)) = y := by rw [hy, show n - (i + 1) = n - 1 - i by omega]
    have hy3 : x / 256 ^ (n - i) = y / 256 := by rw [hy, Nat.div_div_eq_div_mul, ← Nat.pow_succ, show (n - 1 - i).succ = n - i by omega]
    have hyb : y < 18446744073709551616 := by rw [hy]; exact Nat.lt_of_le_of_lt (Nat.div_le_self _ _) hx
    rw [← hy] at hset
    rw [hy2]
    have H4 := H3.set_ 0 i (u8v (UInt8.ofNat y))
    have HSET := Lib.hid hset
    have HY3 := Lib.hid hy3
    clear hset hy hy2 hy3 hbl hi HI
    have i0 : (0 : Int) ≤ (i : Int) := by omega
    have i1 : (i : Int) < (n : Int) := by omega
    have hu8 : u8v (UInt8.ofNat y) = .int .u8 ((y : Int) % 256) := by
      unfold u8v
      rw [UInt8.toNat_ofNat']
      congr 1
    rw [hu8] at H4 HSET
    obtain ⟨hc, hf⟩ := St.cells H3 0
    go_wp2_with fail
    go_roundg i
    case measure => omega
    case rel => exact ⟨i, by omega, rfl, by go_num, by rw [HY3.out]; go_num, Lib.hid (St.cast (by rw [← HSET.out]; rfl) H4)⟩
set_option maxHeartbeats 8000000 in
set_option maxRecDepth 20000 in
theorem rnum (a : Option Addr) (c : Nat) (l : List UInt8) (h8 : l.length ≤ 8) : Meets Tryz.prog 124 #[.slice a l.length c] [] [bytA (.slice a l.length c) l] fun v L => v = .int .u64 (numB l) ∧ L = [] := by
  intro w B H
  obtain ⟨n, hn⟩ : ∃ n, n = l.length := ⟨_, rfl⟩
  have hc : 0 < n → ∃ b off, a = some ⟨b, off, none⟩ ∧ ∀ j, j < n → w.cell? ⟨b, off + j, none⟩ = some (u8v (l.getD j 0)) := fun h => by rw [hn] at h ⊢; exact byt_cell (H.bytes 0) h
  rw [← hn] at h8 ⊢
  have HC := Lib.hid hc
  have HN := Lib.hid hn
  clear hc hn
  go_enter Tryz.func124, Tryz.ntmps124
  go_wp2_with fail
  go_loopg [3, 8] n (fun gg b3 b4 wr => ∃ j : Nat, j ≤ n ∧ gg = n - j ∧ b4 = .int .i64 j ∧ b3 = .int .u64 (numB (l.take j)) ∧ Hid (wr = w))
  case atStart => exact ⟨0, Nat.zero_le _, rfl, rfl, rfl, Lib.hid rfl⟩
  case round =>
  obtain ⟨j, hj, rfl, rfl, rfl, HWR⟩ := hrel
  have hw := HWR.out
  subst hw
  by_cases hlt : j < n
  · obtain ⟨b, off, rfl, hcel0⟩ := HC.out (by omega)
    have hcell := hcel0 j hlt
    clear hcel0
    have hst := numB_step l j (by rw [← HN.out]; exact hlt)
    have hb := numB_take l j (by rw [← HN.out]; omega)
    have hcc := (l.getD j 0).toNat_lt
    generalize (l.getD j 0) = cc at *
    unfold u8v at hcell
    generalize hx : numB (l.take j) = x at *
    have hx256 : x * 256 + 255 < 18446744073709551616 := by
      have : 256 ^ j ≤ 256 ^ 7 := Nat.pow_le_pow_right (by omega) (by omega)
      omega
    have HST := Lib.hid hst
    clear hst hb hx
    go_wp2_with fail
    go_roundg (n - (j + 1))
    case measure => omega
    case rel => exact ⟨j + 1, by omega, rfl, by go_num, by rw [HST.out]; go_num, Lib.hid rfl⟩
  · obtain rfl : j = n := by omega
    go_wp2_with fail
    go_ret
    exact Back.mk ⟨by rw [List.take_of_length_le (by rw [← HN.out]; exact Nat.le_refl _)]; rfl, rfl⟩ (by rw [HN.out]; exact H)
end Go.Proofs.YtjmocjcjiiopnaaGreat
end
