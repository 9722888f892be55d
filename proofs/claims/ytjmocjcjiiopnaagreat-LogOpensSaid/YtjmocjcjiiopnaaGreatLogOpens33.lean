/- Whether a log may be opened of a ring: what Open answers, in one form; a ring that came in. Conditions: the ring lies in memory. A log that is not there: what its methods answer; Ring of one that is; how many segments and sectors. Conditions: none. -/
import Derived.Test.YtjmocjcjiiopnaaGreatLogOpens30
import Derived.Test.YtjmocjcjiiopnaaGreatLogOpens32
import Derived.Test.YtjmocjcjiiopnaaGreatLogOpens24

section
set_option linter.unusedVariables false
set_option linter.unusedSimpArgs false
namespace Go.Proofs.YtjmocjcjiiopnaaGreat
open Go.RowKit Go.Ice Go.Oct Go.Dsk Go.Ring Go.Lg
/-- Segments that may be read. -/
def segsS (v : Value) (l : List Seg) : Asn := slA 3 v l.length (flat l.length 3 (Rg.segX l))
theorem slK_segs {w : World} {v : Value} {l : List Seg} (h : IsSlK w 3 l.length v (flat l.length 3 (Rg.segX l))) : Rg.SegsAt w v l :=
  h.rowAt fun i hi j hj => by
    rw [flat_get _ (mul_lt hi hj)]
    have h1 : (i * 3 + j) / 3 = i := by omega
    have h2 : (i * 3 + j) % 3 = j := by omega
    rw [h1, h2]
    rfl
theorem segs_getS {w0 w : World} {B : Nat → Prop} {M S : List Asn} {v : Value} {l : List Seg} (h : St w0 B M S w) (hm : segsS v l ∈ S) : Rg.SegsAt w v l := by
  obtain ⟨F, hF⟩ := h.getS hm
  exact slK_segs hF.2.2
theorem segs_share {w : World} {v : Value} {l : List Seg} (h : Rg.SegsAt w v l) : Shares [segsS v l] (fun _ => True) w := fun A hA => by
  cases List.mem_singleton.1 hA
  have hK : IsSlK w 3 l.length v (flat l.length 3 (Rg.segX l)) := RowAt.slK h (by decide)
  have hp : (segsS v l).p (fun b => flat l.length 3 (Rg.segX l) ≠ [] ∧ v.ownBlock = some b) w := ⟨fun _ => Iff.rfl, by decide, hK⟩
  exact ⟨_, hp, fun b hb => ⟨trivial, (segsS v l).inn _ w hp b hb⟩⟩
def openV (x : Sp) (sec : Int) (l : List Seg) : Nat := if checkB sec l = false then 180 else if sec ≠ x.sec ∨ (l.length : Int) ≠ x.seg then 2 else if openedP l = none then 0 else 181
/-- What Open makes. -/
def opnA (s p : Nat) (x : Sp) (t : Nat) (D : Dk) (l : List Seg) (e : Nat) (gl : Value) : Asn := if e = 0 then exA fun g : Nat => sepA [purA (gl = .pointer (some ⟨g, 0, none⟩)), logA g s p ⟨x, t, D, l, false⟩] else purA (gl = .pointer none)
theorem opnA.no {w0 w : World} {B : Nat → Prop} {M S : List Asn} {s p : Nat} {x : Sp} {t : Nat} {D : Dk} {l : List Seg} {e : Nat} (he : e ≠ 0) (h : St w0 B M S w) : St w0 B (opnA s p x t D l e (.pointer none) :: M) S w := by
  unfold opnA
  rw [if_neg he]
  exact h.addPur rfl
theorem opnA.yes {w0 w : World} {B : Nat → Prop} {M S : List Asn} {g s p : Nat} {x : Sp} {t : Nat} {D : Dk} {l : List Seg} (h : St w0 B (logA g s p ⟨x, t, D, l, false⟩ :: M) S w) : St w0 B (opnA s p x t D l 0 (.pointer (some ⟨g, 0, none⟩)) :: M) S w := by
  unfold opnA
  rw [if_pos rfl]
  exact St.close_ g (St.bind (L := [_, _]) (h.addPur rfl))
theorem opnA.open {w0 w : World} {B : Nat → Prop} {M S : List Asn} {s p : Nat} {x : Sp} {t : Nat} {D : Dk} {l : List Seg} {e : Nat} {gl : Value} (h : St w0 B (opnA s p x t D l e gl :: M) S w) : (e = 0 ∧ ∃ g, gl = .pointer (some ⟨g, 0, none⟩) ∧ St w0 B (logA g s p ⟨x, t, D, l, false⟩ :: M) S w) ∨ (e ≠ 0 ∧ gl = .pointer none ∧ St w0 B M S w) := by
  unfold opnA at h
  by_cases he : e = 0
  · rw [if_pos he] at h
    obtain ⟨g, h⟩ := h.open_
    obtain ⟨h1, h2⟩ := h.flat.pur
    exact .inl ⟨he, g, h1, h2⟩
  · rw [if_neg he] at h
    obtain ⟨h1, h2⟩ := h.pur
    exact .inr ⟨he, h1, h2⟩
theorem lopenK (s p : Nat) (x : Sp) (t : Nat) (D : Dk) (sec : Int) (v : Value) (l : List Seg) : Meets Tryz.prog 31 #[.pointer (some ⟨s, 0, none⟩), .agg #[.int .i64 sec, v]] [blkA s (stoC x t p) 102, dskA p D, segsA v l] [] fun u M => ∃ gl, u = .tuple #[gl, .int .i64 (openV x sec l)] ∧ M = [opnA s p x t D l (openV x sec l) gl] := by
  intro w B H
  cases hc : checkB sec l with
  | false =>
    have he : openV x sec l = 180 := by unfold openV; rw [if_pos hc]
    rw [he]
    refine ((lopen_ring s sec v l hc).call (L := [_]) (M := [_, _]) (St.pick H [2, 0, 1]) (by simp)).mono ?_
    rintro e w' ⟨_, _, rfl, ⟨rfl, rfl⟩, H'⟩
    exact Back.mk ⟨_, rfl, rfl⟩ (opnA.no (by decide) (St.pick H' []))
  | true =>
    by_cases h1 : sec ≠ x.sec ∨ (l.length : Int) ≠ x.seg
    · have he : openV x sec l = 2 := by unfold openV; rw [if_neg (by rw [hc]; decide), if_pos h1]
      rw [he]
      refine ((lopen_arg s p x t D sec v l hc h1).all H).mono ?_
      rintro e w' ⟨_, _, rfl, ⟨rfl, rfl⟩, H'⟩
      exact Back.mk ⟨_, rfl, rfl⟩ (opnA.no (by decide) H')
    · have hs : sec = x.sec := Classical.not_not.1 fun h => h1 (.inl h)
      have hg : (l.length : Int) = x.seg := Classical.not_not.1 fun h => h1 (.inr h)
      subst hs
      cases ho : openedP l with
      | none =>
        have he : openV x x.sec l = 0 := by unfold openV; rw [if_neg (by rw [hc]; decide), if_neg h1, if_pos ho]
        rw [he]
        refine ((lopen s p x t D v l hc hg ho).all H).mono ?_
        rintro e w' ⟨_, _, rfl, ⟨g, rfl, rfl⟩, H'⟩
        exact Back.mk ⟨_, rfl, rfl⟩ (opnA.yes H')
      | some i =>
        have he : openV x x.sec l = 181 := by unfold openV; rw [if_neg (by rw [hc]; decide), if_neg h1, if_neg (by rw [ho]; simp)]
        rw [he]
        refine ((lopen_state s p x t D v l hc hg i ho).all H).mono ?_
        rintro e w' ⟨_, _, rfl, ⟨rfl, rfl⟩, H'⟩
        exact Back.mk ⟨_, rfl, rfl⟩ (opnA.no (by decide) H')
end Go.Proofs.YtjmocjcjiiopnaaGreat
end

section
set_option linter.unusedVariables false
set_option linter.unusedSimpArgs false
namespace Go.Proofs.YtjmocjcjiiopnaaGreat
open Go.RowKit Go.Ice Go.Oct Go.Dsk Go.Ring Go.Lg
theorem bigAddr0 : Big Tryz.prog 64 3 := ⟨⟨_, Tryz.underlying64, rfl⟩, by kernel_rfl⟩
theorem bigScan0 : Big Tryz.prog 43 3 := ⟨⟨_, Tryz.underlying43, rfl⟩, by kernel_rfl⟩
theorem bigRec0 : Big Tryz.prog 62 6 := ⟨⟨_, Tryz.underlying62, rfl⟩, by kernel_rfl⟩
theorem bigRing0 : Big Tryz.prog 54 2 := ⟨⟨_, Tryz.underlying54, rfl⟩, by kernel_rfl⟩
def recZ : List Value := [.int .i64 0, .int .u32 0, .int .u32 0, .int .u64 0, .slice none 0 0, .slice none 0 0]
def addrZ : List Value := [.int .i64 0, .int .u64 0, .int .i64 0]
set_option maxHeartbeats 8000000 in
set_option maxRecDepth 20000 in
theorem append_nil : Meets Tryz.prog 16 #[.pointer none, .agg recZ.toArray] [] [] fun v L => v = .tuple #[.agg addrZ.toArray, .int .i64 1] ∧ L = [] := by
  intro w B H
  have H1 := (H.alloc recZ 62).alloc addrZ 64
  simp only [World.size_alloc] at H1
  unfold recZ addrZ at *
  go_enter Tryz.func16, Tryz.ntmps16
  go_upto_region 1 with fail
  refine wp_world (fun W => St w B _ _ W) H1 ?_
  intro w1 H2
  obtain ⟨hc, hf⟩ := St.cells H2 0
  have H3 := ((H2.set_ 0 0 (.int .i64 0)).set_ 0 1 (.int .u64 0)).set_ 0 2 (.int .i64 0)
  go_wp2_with fail
  exact bodyPost_ret (results_ct rfl rfl bigAddr0 (St.range H3 0)) rfl (Back.mk (L' := []) ⟨rfl, rfl⟩ (St.pick H3 []))
set_option maxHeartbeats 8000000 in
set_option maxRecDepth 20000 in
theorem read_nil : Meets Tryz.prog 21 #[.pointer none, .agg addrZ.toArray] [] [] fun v L => v = .tuple #[.agg recZ.toArray, .int .i64 1] ∧ L = [] := by
  intro w B H
  have H1 := (H.alloc addrZ 64).alloc recZ 62
  simp only [World.size_alloc] at H1
  unfold recZ addrZ at *
  go_enter Tryz.func21, Tryz.ntmps21
  go_upto_region 1 with fail
  refine wp_world (fun W => St w B _ _ W) H1 ?_
  intro w1 H2
  obtain ⟨hc, hf⟩ := St.cells H2 0
  have H3 := (((((H2.set_ 0 0 (.int .i64 0)).set_ 0 1 (.int .u32 0)).set_ 0 2 (.int .u32 0)).set_ 0 3 (.int .u64 0)).set_ 0 4 (.slice none 0 0)).set_ 0 5 (.slice none 0 0)
  go_wp2_with fail
  exact bodyPost_ret (results_ct rfl rfl bigRec0 (St.range H3 0)) rfl (Back.mk (L' := []) ⟨rfl, rfl⟩ (St.pick H3 []))
set_option maxHeartbeats 8000000 in
set_option maxRecDepth 20000 in
theorem scan_nil : Meets Tryz.prog 12 #[.pointer none, .int .i64 0] [] [] fun v L => v = .tuple #[.agg #[.int .u64 0, .int .i64 0, .slice none 0 0], .int .i64 1] ∧ L = [] := by
  intro w B H
  have H1 := H.alloc [.int .u64 0, .int .i64 0, .slice none 0 0] 43
  go_enter Tryz.func12, Tryz.ntmps12
  go_upto_region 1 with fail
  refine wp_world (fun W => St w B _ _ W) H1 ?_
  intro w1 H2
  obtain ⟨hc, hf⟩ := St.cells H2 0
  have H3 := ((H2.set_ 0 0 (.int .u64 0)).set_ 0 1 (.int .i64 0)).set_ 0 2 (.slice none 0 0)
  go_step3
  go_wp2_with fail
  rw [Exit.noGoto_ret]
  exact bodyPost_ret (results_ct rfl rfl bigScan0 (St.range H3 0)) rfl (Back.mk (L' := []) ⟨rfl, rfl⟩ (St.pick H3 []))
set_option maxHeartbeats 8000000 in
set_option maxRecDepth 20000 in
theorem sync_nil : Meets Tryz.prog 20 #[.pointer none] [] [] fun v L => v = .int .i64 1 ∧ L = [] := by
  intro w B H
  go_enter Tryz.func20, Tryz.ntmps20
  go_wp2_with fail
  exact bodyPost_ret (results_tmp rfl _ _ _) rfl (Back.mk (L' := []) ⟨rfl, rfl⟩ H)
set_option maxHeartbeats 8000000 in
set_option maxRecDepth 20000 in
theorem free_nil : Meets Tryz.prog 24 #[.pointer none, .int .i64 0] [] [] fun v L => v = .int .i64 1 ∧ L = [] := by
  intro w B H
  go_enter Tryz.func24, Tryz.ntmps24
  go_wp2_with fail
  exact bodyPost_ret (results_tmp rfl _ _ _) rfl (Back.mk (L' := []) ⟨rfl, rfl⟩ H)
set_option maxHeartbeats 8000000 in
set_option maxRecDepth 20000 in
theorem super_nil : Meets Tryz.prog 9 #[.pointer none] [] [] fun v L => v = .pointer none ∧ L = [] := by
  intro w B H
  go_enter Tryz.func9, Tryz.ntmps9
  go_wp2_with fail
  exact bodyPost_ret (results_tmp rfl _ _ _) rfl (Back.mk (L' := []) ⟨rfl, rfl⟩ H)
set_option maxHeartbeats 8000000 in
set_option maxRecDepth 20000 in
theorem broken_nil : Meets Tryz.prog 30 #[.pointer none] [] [] fun v L => v = .bool false ∧ L = [] := by
  intro w B H
  go_enter Tryz.func30, Tryz.ntmps30
  go_wp2_with fail
  exact bodyPost_ret (results_tmp rfl _ _ _) rfl (Back.mk (L' := []) ⟨rfl, rfl⟩ H)
set_option maxHeartbeats 8000000 in
set_option maxRecDepth 20000 in
theorem ring_nil : Meets Tryz.prog 29 #[.pointer none] [] [] fun v L => v = .agg #[.int .i64 0, .slice none 0 0] ∧ L = [] := by
  intro w B H
  have H1 := H.alloc [.int .i64 0, .slice none 0 0] 54
  go_enter Tryz.func29, Tryz.ntmps29
  go_upto_region 1 with fail
  refine wp_world (fun W => St w B _ _ W) H1 ?_
  intro w1 H2
  obtain ⟨hc, hf⟩ := St.cells H2 0
  have H3 := (H2.set_ 0 0 (.int .i64 0)).set_ 0 1 (.slice none 0 0)
  go_wp2_with fail
  exact bodyPost_ret (results_c rfl rfl bigRing0 (St.range H3 0)) rfl (Back.mk (L' := []) ⟨rfl, rfl⟩ (St.pick H3 []))
set_option maxHeartbeats 8000000 in
set_option maxRecDepth 20000 in
theorem sized0 (a b : Int) : Meets Tryz.prog 7 #[.int .i64 a, .int .i64 b] [] [] fun v L => (∃ n s : Nat, v = .tuple #[.int .i64 n, .int .i64 s] ∧ (4 ≤ n ∧ n ≤ 16) ∧ (24 ≤ s ∧ s ≤ 64)) ∧ L = [] := by
  intro w B H
  go_enter Tryz.func7, Tryz.ntmps7
  go_wp2_with fail
  all_goals refine bodyPost_ret (results_tmp2 rfl _ _ _) rfl (Back.mk (L' := []) ⟨?_, rfl⟩ H)
  all_goals first
    | exact ⟨4, 24, rfl, by decide, by decide⟩
    | (refine ⟨4, (24 + b % 41).toNat, ?_, by decide, by omega⟩
       show Value.tuple #[.int .i64 4, .int .i64 (24 + b % 41)] = _
       rw [Int.toNat_of_nonneg (by omega)]
       rfl)
    | (refine ⟨(4 + a % 13).toNat, 24, ?_, by omega, by decide⟩
       show Value.tuple #[.int .i64 (4 + a % 13), .int .i64 24] = _
       rw [Int.toNat_of_nonneg (by omega)]
       rfl)
    | (refine ⟨(4 + a % 13).toNat, (24 + b % 41).toNat, ?_, by omega, by omega⟩
       show Value.tuple #[.int .i64 (4 + a % 13), .int .i64 (24 + b % 41)] = _
       rw [Int.toNat_of_nonneg (by omega), Int.toNat_of_nonneg (by omega)])
/-- The ring of a log that is there. -/
theorem lring (g s p : Nat) (L : Lg) (hl : L.segs.length ≤ 1000) : Meets Tryz.prog 29 #[.pointer (some ⟨g, 0, none⟩)] [logA g s p L] [] fun v M => ∃ u, v = .agg #[.int .i64 L.x.sec, u] ∧ M = [logA g s p L, segsA u L.segs] := by
  intro w B H
  obtain ⟨av, cv, H1⟩ := logA.open H
  have H2 := H1.alloc [.int .i64 0, .slice none 0 0] 54
  obtain ⟨qb, hqb⟩ : ∃ qb, qb = w.heap.size := ⟨_, rfl⟩
  rw [← hqb] at H2
  unfold logL logC at H2
  go_enter Tryz.func29, Tryz.ntmps29
  go_upto_region 1 with fail
  rw [← hqb]
  clear hqb
  refine wp_world (fun W => St w B _ _ W) H2 ?_
  intro w1 H3
  obtain ⟨hc, hf⟩ := St.cells H3 1
  have H4 := H3.alloc [.int .i64 L.x.sec, .slice av L.segs.length cv] 54
  obtain ⟨rb, hrb⟩ : ∃ rb, rb = w1.heap.size := ⟨_, rfl⟩
  rw [← hrb] at H4
  go_upto_region 4 with fail
  rw [← hrb]
  clear hrb
  refine wp_world (fun W => St w B _ _ W) H4 ?_
  intro w2 H5
  clear H3 H4 hc hf
  obtain ⟨hc, hf⟩ := St.cells H5 0
  have HCL := Rg.clone w2 _ L.segs (segs_of H5 5 rfl) hl
  go_wp2_with fail
  refine HCL.mono ?_
  rintro e w3 ⟨u, rfl, ho, hb⟩
  obtain ⟨a7, c7, rfl, _⟩ := own_form ho
  have H6 := St.newSegs H5 hb ho
  clear H5 HCL hb hc hf
  obtain ⟨hc, hf⟩ := St.cells H6 1
  have H7 := H6.set_ 1 1 (.slice a7 L.segs.length c7)
  go_upto_region 5 with fail
  refine wp_world (fun W => St w B _ _ W) H7 ?_
  intro w4 H8
  clear H6 H7 hc hf
  obtain ⟨hc, hf⟩ := St.cells H8 1
  obtain ⟨hc2, hf2⟩ := St.cells H8 2
  have H9 := (H8.set_ 2 0 (.int .i64 L.x.sec)).set_ 2 1 (.slice a7 L.segs.length c7)
  go_wp2_with fail
  exact bodyPost_ret (results_c rfl rfl bigRing0 (St.range H9 2)) rfl (Back.mk ⟨_, rfl, rfl⟩ (logA.close (L := L) (v := .slice av L.segs.length cv) (St.pick H9 [3, 4, 5, 6, 0])))
end Go.Proofs.YtjmocjcjiiopnaaGreat
end
