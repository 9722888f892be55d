/- The document's ring: Opened, Copy, Right, Same; a ring as an argument. Conditions: the segments lie in memory. -/
import Derived.Test.YtjmocjcjiiopnaaGreatLogOpens20
import Derived.Test.YtjmocjcjiiopnaaGreatLogOpens31

section
set_option linter.unusedVariables false
set_option linter.unusedSimpArgs false
namespace Go.Proofs.YtjmocjcjiiopnaaGreat.Rg
open Go.RowKit Go.Ice Go.Ring Go.ChangeShapes Go.WideShapes
theorem sized42 (w : World) (n sec : Int) : Calls Tryz.prog 75 #[.int .i64 n, .int .i64 sec] w fun e w' => e = .returned (.bool (sizedI n sec)) ∧ w' = w := by
  obtain ⟨bb, hbb⟩ : ∃ bb, bb = sizedI n sec := ⟨_, rfl⟩
  rw [← hbb]
  unfold sizedI at hbb
  go_enter Tryz.func75, Tryz.ntmps75
  by_cases h1 : 4 ≤ n
  · by_cases h2 : n ≤ 16
    · by_cases h3 : 24 ≤ sec
      · by_cases h4 : sec ≤ 64
        · have HX := Lib.hid (show bb = true by rw [hbb]; simp; omega)
          clear hbb
          go_wp2_with fail
          go_ret
          exact ⟨by rw [HX.out]; rfl, rfl⟩
        · have HX := Lib.hid (show bb = false by rw [hbb]; simp; omega)
          clear hbb
          go_wp2_with fail
          go_ret
          exact ⟨by rw [HX.out]; rfl, rfl⟩
      · have HX := Lib.hid (show bb = false by rw [hbb]; simp; omega)
        clear hbb
        go_wp2_with fail
        go_ret
        exact ⟨by rw [HX.out]; rfl, rfl⟩
    · have HX := Lib.hid (show bb = false by rw [hbb]; simp; omega)
      clear hbb
      go_wp2_with fail
      go_ret
      exact ⟨by rw [HX.out]; rfl, rfl⟩
  · have HX := Lib.hid (show bb = false by rw [hbb]; simp; omega)
    clear hbb
    go_wp2_with fail
    go_ret
    exact ⟨by rw [HX.out]; rfl, rfl⟩


def refI (o : Option Nat) : Int := match o with | none => -1 | some i => i

theorem find_range {n : Nat} {p : Nat → Bool} {k : Nat} (hk : k < n) (h1 : p k = true) (h2 : ∀ j, j < k → p j = false) : (List.range n).find? p = some k := by
  have := find_map_range (f := id) hk h1 h2
  simpa using this
theorem find_range_none {n : Nat} {p : Nat → Bool} (h : ∀ j, j < n → p j = false) : (List.range n).find? p = none := by
  have := find_map_none (n := n) (f := id) h
  simpa using this

/-- What stays in memory through a loop over a ring's segments. -/
structure LoopR (w : World) (B : Nat) (sec : Int) (v : Value) (l : List Seg) (W : World) : Prop where
  kp : Kp w [(B, .cells #[.int .i64 sec, v] 54)] W
  segs : SegsAt W v l
theorem LoopR.alloc {w W : World} {B : Nat} {sec : Int} {v : Value} {l : List Seg} (h : LoopR w B sec v l W) (o : Obj) : LoopR w B sec v l (W.alloc o) :=
  ⟨h.kp.step ((Below.refl _ W).alloc (Nat.le_refl _) o), RowAt.below h.segs ((Below.refl _ W).alloc (Nat.le_refl _) o) (Nat.le_refl _)⟩
theorem LoopR.drewN {w W : World} {B : Nat} {sec : Int} {v : Value} {l : List Seg} (h : LoopR w B sec v l W) (n : Nat) : LoopR w B sec v l (W.drewN n) := ⟨h.kp.drewN n, h.segs⟩

/-- A round's segment: its cells, and the copy of it that the round makes. -/
theorem LoopR.at {w W : World} {B : Nat} {sec : Int} {bs off cap n : Nat} {l : List Seg} (h : LoopR w B sec (.slice (some ⟨bs, off, none⟩) n cap) l W) (hn : n = l.length) {i : Nat} (hi : i < n) :
    bs < W.heap.size ∧ n ≤ cap ∧ cap ≤ maxLen ∧ W.cell? ⟨bs, off + i * 3, none⟩ = some (.int .i64 (at' l i).st) ∧ W.cell? ⟨bs, off + i * 3 + 1, none⟩ = some (.int .u64 (at' l i).gen) ∧ W.cell? ⟨bs, off + i * 3 + 2, none⟩ = some (.int .i64 (at' l i).used) := by
  obtain ⟨b', o', c', e, h1, h2, h3, h4⟩ := h.segs.cell (by omega)
  injection e with e1 e2 e3
  injection e1 with e1
  injection e1 with e4 e5
  subst e4 e5 e3
  obtain ⟨q0, q1, q2⟩ := h4 i (by omega)
  exact ⟨h3, by omega, h2, q0, q1, q2⟩

def segO (s : Seg) : Obj := .cells #[.int .i64 s.st, .int .u64 s.gen, .int .i64 s.used] 135
theorem LoopR.copy {w W : World} {B : Nat} {sec : Int} {v : Value} {l : List Seg} (h : LoopR w B sec v l W) (s : Seg) : LoopR w B sec v l (W.alloc (segO s)) ∧ (W.alloc (segO s)).heap[W.heap.size]? = some (segO s) :=
  ⟨h.alloc _, heap_alloc_new W _⟩

set_option maxHeartbeats 4000000 in
theorem openedRef (w : World) (sec : Int) (v : Value) (l : List Seg) (h : SegsAt w v l) :
    Calls Tryz.prog 34 #[ringV sec v] w fun e w' => e = .returned (.int .i64 (refI (openedR l))) ∧ Below w.heap.size w w' := by
  obtain ⟨B, W0, HB, HW, HK, HZ⟩ := boxed1 w #[.int .i64 sec, v] 54
  have HL0 : Hid (LoopR w B sec v l W0) := ⟨HK.out, RowAt.below h HK.out.below (Nat.le_refl _)⟩
  have b1 : W0.cell? ⟨B, 1, none⟩ = some v := blk_cell HK.out.b0 1
  obtain ⟨a, cap, rfl, hm⟩ := h.form
  obtain ⟨n, hn⟩ : ∃ n, n = l.length := ⟨_, rfl⟩
  rw [← hn] at hm b1 HL0 HW ⊢
  have HN := Lib.hid hn
  unfold maxLen at hm
  clear h HK hn
  unfold ringV
  go_enter Tryz.func34, Tryz.ntmps34
  go_upto_region 1 with fail
  rw [HB.out, HW.out]
  go_wp2_with fail
  clear b1
  go_loopg [3, 4, 8] n (fun g iv pv kv wr => ∃ k : Nat, g = n - k ∧ k ≤ n ∧ kv = .int .i64 k ∧ Hid (LoopR w B sec (.slice a n cap) l wr ∧ ∀ j, j < k → openB l j = false))
  case atStart => exact ⟨0, rfl, by omega, rfl, HL0.out, fun j hj => by omega⟩
  case round =>
    clear HL0
    obtain ⟨k, rfl, hk, rfl, HS⟩ := hrel
    by_cases hlt : k < n
    · obtain ⟨bs, off, cap', e, _⟩ := HS.out.1.segs.cell (by have := HN.out; omega)
      injection e with e1 e2 e3
      subst e1 e3
      clear e2
      obtain ⟨h3, h1, h2, q0, q1, q2⟩ := HS.out.1.at HN.out hlt
      go_upto_region 4 with fail
      obtain ⟨Wa, hWa⟩ : ∃ Wa, Wa = wr.alloc (segO (at' l k)) := ⟨_, rfl⟩
      obtain ⟨hla, hca⟩ := HS.out.1.copy (at' l k)
      rw [← hWa] at hla hca
      have HLA := Lib.hid hla
      unfold segO at hWa hca
      rw [← hWa]
      have a0 : Wa.cell? ⟨wr.heap.size, 0, none⟩ = some (.int .i64 (at' l k).st) := blk_cell hca 0
      have HJ := Lib.hid HS.out.2
      clear hla hca hWa q0 q1 q2 HS
      by_cases hst : (at' l k).st = 1
      · have HF := Lib.hid (show openedR l = some k from find_range (by have := HN.out; omega) (by simp [openB, hst]) HJ.out)
        rw [hst] at a0 ⊢
        go_wp2_with fail
        go_ret
        exact ⟨by rw [HF.out]; rfl, HLA.out.kp.below⟩
      · have s0 : ((at' l k).st == 1) = false := by simpa using hst
        have HJ2 : Hid (∀ j, j < k + 1 → openB l j = false) := fun j hj => by
          rcases Nat.lt_succ_iff_lt_or_eq.1 hj with h | rfl
          · exact HJ.out j h
          · simp [openB, hst]
        generalize (at' l k).st = st at *
        go_wp2_with fail
        go_roundg (n - (k + 1))
        case measure => omega
        case rel => exact ⟨k + 1, rfl, by omega, by go_num, HLA.out, HJ2.out⟩
    · obtain rfl : k = n := by omega
      have HF := Lib.hid (show openedR l = none from find_range_none (by rw [← HN.out]; exact HS.out.2))
      go_wp2_with fail
      go_ret
      exact ⟨by rw [HF.out]; rfl, HS.out.1.kp.below⟩


set_option maxHeartbeats 4000000 in
theorem copy (w : World) (sec : Int) (v : Value) (l : List Seg) (h : SegsAt w v l) (hl : l.length * 24 ≤ 140737488355328) :
    Calls Tryz.prog 32 #[ringV sec v] w fun e w' => ∃ u, e = .returned (ringV sec u) ∧ OwnSegs w' w.heap.size u l ∧ Below w.heap.size w w' := by
  obtain ⟨B, C, W0, HB, HC, HW, HK, HZ⟩ := boxed2 w #[.int .i64 sec, v] 54 #[.int .i64 0, .slice none 0 0] 54
  obtain ⟨W1, hW1⟩ : ∃ W1, W1 = W0.alloc (.cells #[] 135) := ⟨_, rfl⟩
  have hb1 : Below W0.heap.size W0 W1 := by rw [hW1]; exact (Below.refl _ W0).alloc (Nat.le_refl _) _
  have HK1 := Lib.hid (HK.out.step hb1)
  have hR : SegsAt W1 v l := RowAt.below h HK1.out.below (Nat.le_refl _)
  have hown : W1.ownsRow W0.heap.size 135 3 (.slice (some ⟨W0.heap.size, 0, none⟩) 0 0) 0 [] := by rw [hW1]; exact World.ownsRow_made W0 #[] 0 (Nat.le_refl _) (by decide) rfl
  obtain ⟨u, W2, hrun, ho, hg, _⟩ := app_at (P := Tryz.prog) (ty := 52) elemSeg hown (hR.slK (by decide)) (fun x hx => by
    obtain ⟨i, j, _, _, rfl⟩ := flat_mem hx
    exact segCell_one _ _) (by omega) (by unfold maxLen; omega) hb1.size
  have hb2 : Below W0.heap.size W1 W2 := (Below.refl _ W1).grown hg hb1.size (fun k hk => (hown.lt k hk).1)
  have HK2 := Lib.hid (HK.out.step (hb1.trans hb2))
  rw [List.nil_append, Nat.zero_add] at ho
  have HO : Hid (OwnSegs W2 W0.heap.size u l) := ho
  obtain ⟨au, nu, cu, rfl⟩ := own_sl HO.out
  have HRUN := Lib.hid hrun
  have b1 : (W0.alloc (.cells #[] 135)).cell? ⟨B, 1, none⟩ = some v := by rw [← hW1]; exact blk_cell HK1.out.b0 1
  have d0 : W2.cell? ⟨B, 0, none⟩ = some (.int .i64 sec) := blk_cell HK2.out.b0 0
  have d1 : W2.cell? ⟨B, 1, none⟩ = some v := blk_cell HK2.out.b0 1
  have fd1 := fun r => blk_frozen HK2.out.b0 r
  have e0 : W2.cell? ⟨C, 0, none⟩ = some (.int .i64 0) := blk_cell HK2.out.b1 0
  have e1 : W2.cell? ⟨C, 1, none⟩ = some (.slice none 0 0) := blk_cell HK2.out.b1 1
  have fe0 := fun r => blk_frozen HK2.out.b1 r
  have HW1 := Lib.hid hW1.symm
  obtain ⟨a0, c0, rfl, _⟩ := h.form
  clear h hl hW1 hb1 hR hown hrun ho hg hb2
  have hBC : B ≠ C := by have := HB.out; have := HC.out; omega
  unfold ringV
  go_enter Tryz.func32, Tryz.ntmps32
  go_upto_region 1 with fail
  rw [HC.out, HB.out, HW.out]
  go_wp2_with (at_builtin; rw [HW1.out]; refine wpList_append_eq rfl _ _ 52 rfl rfl rfl HRUN.out ?_)
  obtain ⟨r0, r1⟩ := res_pair (blk_set HK2.out.b1 (p := ⟨B, 1, none⟩) (Ne.symm hBC) (.slice au nu cu)) (.int .i64 sec) (.slice au nu cu)
  have hz := HZ.out
  have hb := HB.out
  have hc := HC.out
  refine bodyPost_ret (v := .agg #[.int .i64 sec, .slice au nu cu]) (by simp [results, Tryz.f32, go_sem, r0, r1]) rfl ⟨_, rfl, ?_, ?_⟩
  · exact own_base (own_set (own_set (own_set HO.out (by show B < _; omega) _) (by show C < _; omega) _) (by show C < _; omega) _) (by omega)
  · exact below_two (HK2.out.below.setCell (by show _ ≤ B; omega) _) (by omega) _ _


theorem sizedI_nat (n : Nat) (sec : Int) : sizedI n sec = sizedB n sec := by
  unfold sizedI sizedB
  congr 1
  rw [decide_eq_decide]
  omega

set_option maxRecDepth 100000 in
set_option maxHeartbeats 8000000 in
theorem rightRef (w : World) (sec : Int) (v : Value) (l : List Seg) (h : SegsAt w v l) :
    Calls Tryz.prog 33 #[ringV sec v] w fun e w' => e = .returned (.bool (rightB sec l)) ∧ Below w.heap.size w w' := by
  obtain ⟨B, W0, HB, HW, HK, HZ⟩ := boxed1 w #[.int .i64 sec, v] 54
  have HL0 : Hid (LoopR w B sec v l W0) := ⟨HK.out, RowAt.below h HK.out.below (Nat.le_refl _)⟩
  have b0 : W0.cell? ⟨B, 0, none⟩ = some (.int .i64 sec) := blk_cell HK.out.b0 0
  have b1 : W0.cell? ⟨B, 1, none⟩ = some v := blk_cell HK.out.b0 1
  obtain ⟨a, cap, rfl, hm⟩ := h.form
  have HSZ := Lib.hid (sized42 W0 l.length sec)
  rw [sizedI_nat] at HSZ
  obtain ⟨n, hn⟩ : ∃ n, n = l.length := ⟨_, rfl⟩
  obtain ⟨sb, hsb⟩ : ∃ b, b = sizedB l.length sec := ⟨_, rfl⟩
  rw [← hsb] at HSZ
  rw [← hn] at hm b1 HL0 HW HSZ ⊢
  have HN := Lib.hid hn
  have HSB := Lib.hid hsb
  unfold maxLen at hm
  clear h HK hn hsb
  unfold ringV
  go_enter Tryz.func33, Tryz.ntmps33
  go_upto_region 1 with fail
  rw [HB.out, HW.out]
  go_wp2_with fail
  refine HSZ.out.mono ?_
  rintro e w1 ⟨rfl, rfl⟩
  cases sb with
  | false =>
    have HF := Lib.hid (show rightB sec l = false by unfold rightB; rw [← HSB.out]; rfl)
    go_wp2_with fail
    go_ret
    exact ⟨by rw [HF.out]; rfl, HL0.out.kp.below⟩
  | true =>
  have HBAD0 : Hid (∀ k, k < n → rightSeg sec l k (at' l k) = false → rightB sec l = false) := fun k hk hb => by
    unfold rightB
    rw [Bool.and_eq_false_iff]; right
    rw [List.all_eq_false]
    exact ⟨k, List.mem_range.2 (by rw [← HN.out]; exact hk), by rw [hb]; simp⟩
  go_wp2_with fail
  clear b0 b1
  go_loopg [3, 4, 17] n (fun g iv pv kv wr => ∃ k : Nat, g = n - k ∧ k ≤ n ∧ kv = .int .i64 k ∧ Hid (LoopR w B sec (.slice a n cap) l wr) ∧ Hid (∀ j, j < k → rightSeg sec l j (at' l j) = true))
  case atStart => exact ⟨0, rfl, by omega, rfl, HL0.out, fun j hj => by omega⟩
  case round =>
    clear HL0
    obtain ⟨k, rfl, hk, rfl, HS, HJ⟩ := hrel
    by_cases hlt : k < n
    · obtain ⟨bs, off, cap', e, _⟩ := HS.out.segs.cell (by have := HN.out; omega)
      injection e with e1 e2 e3
      subst e1 e3
      clear e2
      obtain ⟨h3, h1, h2, q0, q1, q2⟩ := HS.out.at HN.out hlt
      go_upto_region 6 with fail
      obtain ⟨P, hP⟩ : ∃ P, P = wr.heap.size := ⟨_, rfl⟩
      obtain ⟨Wa, hWa⟩ : ∃ Wa, Wa = wr.alloc (segO (at' l k)) := ⟨_, rfl⟩
      obtain ⟨hla, hca⟩ := HS.out.copy (at' l k)
      rw [← hWa, ← hP] at hca
      rw [← hWa] at hla
      have HLA := Lib.hid hla
      unfold segO at hWa hca
      rw [← hWa, ← hP]
      have HCA := Lib.hid hca
      have HBAD := Lib.hid (HBAD0.out k hlt)
      have HGOOD : Hid (rightSeg sec l k (at' l k) = true → ∀ j, j < k + 1 → rightSeg sec l j (at' l j) = true) := fun h j hj => by
        rcases Nat.lt_succ_iff_lt_or_eq.1 hj with h2 | rfl
        · exact HJ.out j h2
        · exact h
      obtain ⟨s, hs⟩ : ∃ s, s = at' l k := ⟨_, rfl⟩
      rw [← hs] at hca HBAD HCA HGOOD ⊢
      clear hla hWa hP q0 q1 q2 HS hs h3 h1 h2
      obtain ⟨st, gn, us⟩ := s
      dsimp only at hca HCA ⊢
      have a0 : Wa.cell? ⟨P, 0, none⟩ = some (.int .i64 st) := blk_cell hca 0
      have a1 : Wa.cell? ⟨P, 1, none⟩ = some (.int .u64 gn) := blk_cell hca 1
      have a2 : Wa.cell? ⟨P, 2, none⟩ = some (.int .i64 us) := blk_cell hca 2
      clear hca
      by_cases hst : st = 0
      · subst hst
        by_cases hg : gn = 0
        · subst hg
          by_cases hus : us = 0
          · subst hus
            have HGN := Lib.hid (HGOOD.out (by simp [rightSeg]))
            go_wp2_with fail
            go_roundg (n - (k + 1))
            case measure => omega
            case rel => exact ⟨k + 1, rfl, by omega, by go_num, HLA.out, HGN.out⟩
          · have u1 : (us != 0) = true := by simpa using hus
            have HBD := Lib.hid (HBAD.out (by simp [rightSeg, hus]))
            go_wp2_with fail
            go_ret
            exact ⟨by rw [HBD.out]; rfl, HLA.out.kp.below⟩
        · have u1 : ((gn : Int) != 0) = true := by simpa using hg
          have HBD := Lib.hid (HBAD.out (by simp [rightSeg, hg]))
          go_wp2_with fail
          go_ret
          exact ⟨by rw [HBD.out]; rfl, HLA.out.kp.below⟩
      · have s0 : (st == 0) = false := by simpa using hst
        by_cases hst1 : st = 1
        · subst hst1
          clear hst s0
          by_cases hg : gn = 0
          · subst hg
            have HBD := Lib.hid (HBAD.out (by simp [rightSeg]))
            go_wp2_with fail
            go_ret
            exact ⟨by rw [HBD.out]; rfl, HLA.out.kp.below⟩
          · have hg0 : ((gn : Int) == 0) = false := by simpa using hg
            by_cases hu1 : us < 1
            · have HBD := Lib.hid (HBAD.out (by simp [rightSeg]; omega))
              go_wp2_with fail
              go_ret
              exact ⟨by rw [HBD.out]; rfl, HLA.out.kp.below⟩
            · by_cases hu2 : sec < us
              · have HBD := Lib.hid (HBAD.out (by simp [rightSeg]; omega))
                have x0 : Wa.cell? ⟨B, 0, none⟩ = some (.int .i64 sec) := blk_cell HLA.out.kp.b0 0
                go_wp2_with fail
                go_ret
                exact ⟨by rw [HBD.out]; rfl, HLA.out.kp.below⟩
              · have x0 : Wa.cell? ⟨B, 0, none⟩ = some (.int .i64 sec) := blk_cell HLA.out.kp.b0 0
                have x1 : Wa.cell? ⟨B, 1, none⟩ = some (.slice (some ⟨bs, off, none⟩) n cap) := blk_cell HLA.out.kp.b0 1
                have HRS : Hid (rightSeg sec l k ⟨1, gn, us⟩ = (List.range l.length).all fun j => (decide (j = k) || decide (gen l j ≠ gn)) && (decide ((1 : Int) ≠ 1) || decide (gen l j ≤ gn))) := by
                  show _ = _
                  unfold rightSeg
                  simp [hg, show 1 ≤ us from by omega, show us ≤ sec from by omega]
                have HLL : Hid (LoopR w B sec (.slice (some ⟨bs, off, none⟩) n cap) l Wa ∧ Wa.heap[P]? = some (.cells #[.int .i64 1, .int .u64 gn, .int .i64 us] 135 (0, 0))) := ⟨HLA.out, HCA.out⟩
                go_wp2_with fail
                clear x0 x1 a0 a1 a2
                go_loopg [5, 6, 55] n (fun g iv pv jv wj => ∃ j : Nat, g = n - j ∧ j ≤ n ∧ jv = .int .i64 j ∧ Hid ((LoopR w B sec (.slice (some ⟨bs, off, none⟩) n cap) l wj ∧ wj.heap[P]? = some (.cells #[.int .i64 1, .int .u64 gn, .int .i64 us] 135 (0, 0))) ∧ ∀ m, m < j → ((decide (m = k) || decide (gen l m ≠ gn)) && (decide ((1 : Int) ≠ 1) || decide (gen l m ≤ gn))) = true))
                case atStart => exact ⟨0, rfl, by omega, rfl, HLL.out, fun m hm => by omega⟩
                case round =>
                  clear HLL
                  obtain ⟨j, rfl, hj, rfl, HT⟩ := hrel
                  by_cases hltj : j < n
                  · obtain ⟨h3, h1, h2, q0, q1, q2⟩ := HT.out.1.1.at HN.out hltj
                    go_upto_region 18 with fail
                    obtain ⟨Wb, hWb⟩ : ∃ Wb, Wb = wr.alloc (segO (at' l j)) := ⟨_, rfl⟩
                    obtain ⟨hla, hca⟩ := HT.out.1.1.copy (at' l j)
                    have hcp := keep_alloc HT.out.1.2 (segO (at' l j))
                    rw [← hWb] at hla hca hcp
                    have HLB := Lib.hid hla
                    have HCB := Lib.hid hcp
                    unfold segO at hWb hca
                    rw [← hWb]
                    have t1 : Wb.cell? ⟨wr.heap.size, 1, none⟩ = some (.int .u64 (at' l j).gen) := blk_cell hca 1
                    have s0 : Wb.cell? ⟨P, 0, none⟩ = some (.int .i64 1) := blk_cell hcp 0
                    have s1 : Wb.cell? ⟨P, 1, none⟩ = some (.int .u64 gn) := blk_cell hcp 1
                    have HTJ := Lib.hid HT.out.2
                    have hgj : gen l j = (at' l j).gen := rfl
                    have HGJ := Lib.hid hgj
                    have hjl : j < l.length := by rw [← HN.out]; exact hltj
                    have HBB : Hid (((decide (j = k) || decide (gen l j ≠ gn)) && (decide ((1 : Int) ≠ 1) || decide (gen l j ≤ gn))) = false → rightB sec l = false) := fun h => HBAD.out (by
                      rw [HRS.out, List.all_eq_false]
                      exact ⟨j, List.mem_range.2 hjl, by rw [h]; simp⟩)
                    have HGO : Hid (((decide (j = k) || decide (gen l j ≠ gn)) && (decide ((1 : Int) ≠ 1) || decide (gen l j ≤ gn))) = true → ∀ m, m < j + 1 → ((decide (m = k) || decide (gen l m ≠ gn)) && (decide ((1 : Int) ≠ 1) || decide (gen l m ≤ gn))) = true) := fun h m hm => by
                      rcases Nat.lt_succ_iff_lt_or_eq.1 hm with h2 | rfl
                      · exact HTJ.out m h2
                      · exact h
                    rw [HGJ.out] at HBB HGO
                    clear hla hca hcp hWb q0 q1 q2 HT hgj hjl
                    generalize (at' l j).gen = gj at *
                    by_cases hjk : j = k
                    · subst hjk
                      have k0 : ((j : Int) != (j : Int)) = false := by simp
                      by_cases hgt : gn < gj
                      · have HBD := Lib.hid (HBB.out (by simp; omega))
                        go_wp2_with fail
                        go_ret
                        exact ⟨by rw [HBD.out]; rfl, HLB.out.kp.below⟩
                      · have HGN := Lib.hid (HGO.out (by simp; try omega))
                        go_wp2_with fail
                        go_roundg (n - (j + 1))
                        case measure => omega
                        case rel => exact ⟨j + 1, rfl, by omega, by go_num, ⟨HLB.out, HCB.out⟩, HGN.out⟩
                    · have k0 : ((j : Int) != (k : Int)) = true := by simp; omega
                      by_cases heq : gj = gn
                      · subst heq
                        have HBD := Lib.hid (HBB.out (by simp [hjk]))
                        have k1 : ((gj : Int) == (gj : Int)) = true := by simp
                        go_wp2_with fail
                        go_ret
                        exact ⟨by rw [HBD.out]; rfl, HLB.out.kp.below⟩
                      · have k1 : ((gj : Int) == (gn : Int)) = false := by simp; omega
                        by_cases hgt : gn < gj
                        · have HBD := Lib.hid (HBB.out (by simp; omega))
                          go_wp2_with fail
                          go_ret
                          exact ⟨by rw [HBD.out]; rfl, HLB.out.kp.below⟩
                        · have HGN := Lib.hid (HGO.out (by simp [heq]; try omega))
                          go_wp2_with fail
                          go_roundg (n - (j + 1))
                          case measure => omega
                          case rel => exact ⟨j + 1, rfl, by omega, by go_num, ⟨HLB.out, HCB.out⟩, HGN.out⟩
                  · obtain rfl : j = n := by omega
                    have HGN := Lib.hid (HGOOD.out (by rw [HRS.out, List.all_eq_true]; intro m hm; exact HT.out.2 m (by rw [List.mem_range, ← HN.out] at hm; exact hm)))
                    have HLT : Hid (LoopR w B sec (.slice (some ⟨bs, off, none⟩) j cap) l wr) := HT.out.1.1
                    clear HT
                    go_wp2_with fail
                    go_roundg (j - (k + 1))
                    case measure => omega
                    case rel => exact ⟨k + 1, rfl, by omega, by go_num, HLT.out, HGN.out⟩
        · by_cases hst2 : st = 2
          · subst hst2
            clear hst s0 hst1
            by_cases hg : gn = 0
            · subst hg
              have HBD := Lib.hid (HBAD.out (by simp [rightSeg]))
              go_wp2_with fail
              go_ret
              exact ⟨by rw [HBD.out]; rfl, HLA.out.kp.below⟩
            · have hg0 : ((gn : Int) == 0) = false := by simpa using hg
              by_cases hu1 : us < 1
              · have HBD := Lib.hid (HBAD.out (by simp [rightSeg]; omega))
                go_wp2_with fail
                go_ret
                exact ⟨by rw [HBD.out]; rfl, HLA.out.kp.below⟩
              · by_cases hu2 : sec < us
                · have HBD := Lib.hid (HBAD.out (by simp [rightSeg]; omega))
                  have x0 : Wa.cell? ⟨B, 0, none⟩ = some (.int .i64 sec) := blk_cell HLA.out.kp.b0 0
                  go_wp2_with fail
                  go_ret
                  exact ⟨by rw [HBD.out]; rfl, HLA.out.kp.below⟩
                · have x0 : Wa.cell? ⟨B, 0, none⟩ = some (.int .i64 sec) := blk_cell HLA.out.kp.b0 0
                  have x1 : Wa.cell? ⟨B, 1, none⟩ = some (.slice (some ⟨bs, off, none⟩) n cap) := blk_cell HLA.out.kp.b0 1
                  have HRS : Hid (rightSeg sec l k ⟨2, gn, us⟩ = (List.range l.length).all fun j => (decide (j = k) || decide (gen l j ≠ gn)) && (decide ((2 : Int) ≠ 1) || decide (gen l j ≤ gn))) := by
                    show _ = _
                    unfold rightSeg
                    simp [hg, show 1 ≤ us from by omega, show us ≤ sec from by omega]
                  have HLL : Hid (LoopR w B sec (.slice (some ⟨bs, off, none⟩) n cap) l Wa ∧ Wa.heap[P]? = some (.cells #[.int .i64 2, .int .u64 gn, .int .i64 us] 135 (0, 0))) := ⟨HLA.out, HCA.out⟩
                  go_wp2_with fail
                  clear x0 x1 a0 a1 a2
                  go_loopg [5, 6, 55] n (fun g iv pv jv wj => ∃ j : Nat, g = n - j ∧ j ≤ n ∧ jv = .int .i64 j ∧ Hid ((LoopR w B sec (.slice (some ⟨bs, off, none⟩) n cap) l wj ∧ wj.heap[P]? = some (.cells #[.int .i64 2, .int .u64 gn, .int .i64 us] 135 (0, 0))) ∧ ∀ m, m < j → ((decide (m = k) || decide (gen l m ≠ gn)) && (decide ((2 : Int) ≠ 1) || decide (gen l m ≤ gn))) = true))
                  case atStart => exact ⟨0, rfl, by omega, rfl, HLL.out, fun m hm => by omega⟩
                  case round =>
                    clear HLL
                    obtain ⟨j, rfl, hj, rfl, HT⟩ := hrel
                    by_cases hltj : j < n
                    · obtain ⟨h3, h1, h2, q0, q1, q2⟩ := HT.out.1.1.at HN.out hltj
                      go_upto_region 18 with fail
                      obtain ⟨Wb, hWb⟩ : ∃ Wb, Wb = wr.alloc (segO (at' l j)) := ⟨_, rfl⟩
                      obtain ⟨hla, hca⟩ := HT.out.1.1.copy (at' l j)
                      have hcp := keep_alloc HT.out.1.2 (segO (at' l j))
                      rw [← hWb] at hla hca hcp
                      have HLB := Lib.hid hla
                      have HCB := Lib.hid hcp
                      unfold segO at hWb hca
                      rw [← hWb]
                      have t1 : Wb.cell? ⟨wr.heap.size, 1, none⟩ = some (.int .u64 (at' l j).gen) := blk_cell hca 1
                      have s0 : Wb.cell? ⟨P, 0, none⟩ = some (.int .i64 2) := blk_cell hcp 0
                      have s1 : Wb.cell? ⟨P, 1, none⟩ = some (.int .u64 gn) := blk_cell hcp 1
                      have HTJ := Lib.hid HT.out.2
                      have hgj : gen l j = (at' l j).gen := rfl
                      have HGJ := Lib.hid hgj
                      have hjl : j < l.length := by rw [← HN.out]; exact hltj
                      have HBB : Hid (((decide (j = k) || decide (gen l j ≠ gn)) && (decide ((2 : Int) ≠ 1) || decide (gen l j ≤ gn))) = false → rightB sec l = false) := fun h => HBAD.out (by
                        rw [HRS.out, List.all_eq_false]
                        exact ⟨j, List.mem_range.2 hjl, by rw [h]; simp⟩)
                      have HGO : Hid (((decide (j = k) || decide (gen l j ≠ gn)) && (decide ((2 : Int) ≠ 1) || decide (gen l j ≤ gn))) = true → ∀ m, m < j + 1 → ((decide (m = k) || decide (gen l m ≠ gn)) && (decide ((2 : Int) ≠ 1) || decide (gen l m ≤ gn))) = true) := fun h m hm => by
                        rcases Nat.lt_succ_iff_lt_or_eq.1 hm with h2 | rfl
                        · exact HTJ.out m h2
                        · exact h
                      rw [HGJ.out] at HBB HGO
                      clear hla hca hcp hWb q0 q1 q2 HT hgj hjl
                      generalize (at' l j).gen = gj at *
                      by_cases hjk : j = k
                      · subst hjk
                        have k0 : ((j : Int) != (j : Int)) = false := by simp
                        by_cases hgt : gn < gj
                        · have HGN := Lib.hid (HGO.out (by simp))
                          go_wp2_with fail
                          go_roundg (n - (j + 1))
                          case measure => omega
                          case rel => exact ⟨j + 1, rfl, by omega, by go_num, ⟨HLB.out, HCB.out⟩, HGN.out⟩
                        · have HGN := Lib.hid (HGO.out (by simp; try omega))
                          go_wp2_with fail
                          go_roundg (n - (j + 1))
                          case measure => omega
                          case rel => exact ⟨j + 1, rfl, by omega, by go_num, ⟨HLB.out, HCB.out⟩, HGN.out⟩
                      · have k0 : ((j : Int) != (k : Int)) = true := by simp; omega
                        by_cases heq : gj = gn
                        · subst heq
                          have HBD := Lib.hid (HBB.out (by simp [hjk]))
                          have k1 : ((gj : Int) == (gj : Int)) = true := by simp
                          go_wp2_with fail
                          go_ret
                          exact ⟨by rw [HBD.out]; rfl, HLB.out.kp.below⟩
                        · have k1 : ((gj : Int) == (gn : Int)) = false := by simp; omega
                          by_cases hgt : gn < gj
                          · have HGN := Lib.hid (HGO.out (by simp [heq]))
                            go_wp2_with fail
                            go_roundg (n - (j + 1))
                            case measure => omega
                            case rel => exact ⟨j + 1, rfl, by omega, by go_num, ⟨HLB.out, HCB.out⟩, HGN.out⟩
                          · have HGN := Lib.hid (HGO.out (by simp [heq]; try omega))
                            go_wp2_with fail
                            go_roundg (n - (j + 1))
                            case measure => omega
                            case rel => exact ⟨j + 1, rfl, by omega, by go_num, ⟨HLB.out, HCB.out⟩, HGN.out⟩
                    · obtain rfl : j = n := by omega
                      have HGN := Lib.hid (HGOOD.out (by rw [HRS.out, List.all_eq_true]; intro m hm; exact HT.out.2 m (by rw [List.mem_range, ← HN.out] at hm; exact hm)))
                      have HLT : Hid (LoopR w B sec (.slice (some ⟨bs, off, none⟩) j cap) l wr) := HT.out.1.1
                      clear HT
                      go_wp2_with fail
                      go_roundg (j - (k + 1))
                      case measure => omega
                      case rel => exact ⟨k + 1, rfl, by omega, by go_num, HLT.out, HGN.out⟩
          · have s1 : (st == 1) = false := by simpa using hst1
            have s2 : (st == 2) = false := by simpa using hst2
            have HBD := Lib.hid (HBAD.out (by simp [rightSeg, hst, hst1, hst2]))
            go_wp2_with fail
            go_ret
            exact ⟨by rw [HBD.out]; rfl, HLA.out.kp.below⟩
    · obtain rfl : k = n := by omega
      have HF := Lib.hid (show rightB sec l = true by
        unfold rightB
        rw [← HSB.out, Bool.true_and, List.all_eq_true]
        intro j hj
        exact HJ.out j (by rw [List.mem_range, ← HN.out] at hj; exact hj))
      go_wp2_with fail
      go_ret
      exact ⟨by rw [HF.out]; rfl, HS.out.kp.below⟩

theorem segs_eq {a b : List Seg} (h : a.length = b.length) : a = b ↔ ∀ i, i < a.length → at' a i = at' b i := by
  constructor
  · rintro rfl i _; rfl
  · intro hi
    refine List.ext_getElem h fun i h1 h2 => ?_
    have := hi i h1
    unfold at' at this
    rwa [List.getD_eq_getElem?_getD, List.getD_eq_getElem?_getD, List.getElem?_eq_getElem h1, List.getElem?_eq_getElem h2] at this

def sameB (sa sb : Int) (la lb : List Seg) : Bool := decide (sa = sb ∧ la = lb)


set_option maxHeartbeats 4000000 in
theorem sameRg (w : World) (sa sb : Int) (va vb : Value) (la lb : List Seg) (ha : SegsAt w va la) (hb : SegsAt w vb lb) :
    Calls Tryz.prog 28 #[ringV sa va, ringV sb vb] w fun e w' => e = .returned (.bool (sameB sa sb la lb)) ∧ Below w.heap.size w w' := by
  obtain ⟨B, C, W0, HB, HC, HW, HK, HZ⟩ := boxed2 w #[.int .i64 sa, va] 54 #[.int .i64 sb, vb] 54
  have HAA : Hid (SegsAt W0 va la) := RowAt.below ha HK.out.below (Nat.le_refl _)
  have HBB : Hid (SegsAt W0 vb lb) := RowAt.below hb HK.out.below (Nat.le_refl _)
  obtain ⟨a, ca, rfl, hma⟩ := ha.form
  obtain ⟨b, cb, rfl, hmb⟩ := hb.form
  unfold maxLen at hma hmb
  have b0 : W0.cell? ⟨B, 0, none⟩ = some (.int .i64 sa) := blk_cell HK.out.b0 0
  have b1 : W0.cell? ⟨B, 1, none⟩ = some (.slice a la.length ca) := blk_cell HK.out.b0 1
  have c0 : W0.cell? ⟨C, 0, none⟩ = some (.int .i64 sb) := blk_cell HK.out.b1 0
  have c1 : W0.cell? ⟨C, 1, none⟩ = some (.slice b lb.length cb) := blk_cell HK.out.b1 1
  clear ha hb
  unfold ringV
  by_cases hs : sa = sb
  · subst hs
    have hseq : (sa != sa) = false := by simp
    by_cases hl : la.length = lb.length
    · have HE := Lib.hid (segs_eq hl)
      have HLL := Lib.hid hl
      rw [← hl] at hmb c1 HK HW ⊢
      obtain ⟨n, hn⟩ : ∃ n, n = la.length := ⟨_, rfl⟩
      rw [← hn] at hma hmb b1 c1 HK HW ⊢
      have HN := Lib.hid hn
      clear hn hl
      have hne : ((n : Int) != (n : Int)) = false := by simp
      go_enter Tryz.func28, Tryz.ntmps28
      go_upto_region 1 with fail
      rw [HC.out, HB.out, HW.out]
      go_wp2_with fail
      go_loopg [5, 23] n (fun g iv kv wr => ∃ k : Nat, g = n - k ∧ k ≤ n ∧ kv = .int .i64 k ∧ Hid (Below w.heap.size w wr ∧ Below W0.heap.size W0 wr ∧ ∀ i, i < k → at' la i = at' lb i))
      case atStart => exact ⟨0, rfl, by omega, rfl, HK.out.below, Below.refl _ _, fun i hi => by omega⟩
      case round =>
        clear b0 b1 c0 c1
        obtain ⟨k, rfl, hk, rfl, HJ⟩ := hrel
        by_cases hlt : k < n
        · obtain ⟨bs, off, cap, e1, h1, h2, h3, h4⟩ := SegsAt.cell (show SegsAt wr _ la from RowAt.below HAA.out HJ.out.2.1 (Nat.le_refl _)) (by have := HN.out; omega)
          obtain ⟨bs', off', cap', e1', h1', h2', h3', h4'⟩ := SegsAt.cell (show SegsAt wr _ lb from RowAt.below HBB.out HJ.out.2.1 (Nat.le_refl _)) (by have := HN.out; have := HLL.out; omega)
          obtain ⟨q0, q1, q2⟩ := h4 k (by have := HN.out; omega)
          obtain ⟨p0, p1, p2⟩ := h4' k (by have := HN.out; have := HLL.out; omega)
          have b1 : wr.cell? ⟨B, 1, none⟩ = some (.slice a n ca) := blk_cell (HK.out.step HJ.out.2.1).b0 1
          have c1 : wr.cell? ⟨C, 1, none⟩ = some (.slice b n cb) := blk_cell (HK.out.step HJ.out.2.1).b1 1
          injection e1 with x1 x2 x3
          injection e1' with y1 y2 y3
          subst x1 x3 y1 y3
          clear h4 h4'
          rw [← HN.out] at h1
          unfold maxLen at h2 h2'
          obtain ⟨sa', hsa⟩ : ∃ s, s = at' la k := ⟨_, rfl⟩
          obtain ⟨sb', hsb⟩ : ∃ s, s = at' lb k := ⟨_, rfl⟩
          rw [← hsa] at q0 q1 q2
          rw [← hsb] at p0 p1 p2
          have HSA := Lib.hid hsa
          have HSB := Lib.hid hsb
          have HJB : Hid (Below w.heap.size w wr) := HJ.out.1
          obtain ⟨a1, a2, a3⟩ := sa'
          obtain ⟨b1, b2, b3⟩ := sb'
          dsimp only at q0 q1 q2 p0 p1 p2
          clear hsa hsb
          by_cases d1 : a1 = b1
          · by_cases d2 : a2 = b2
            · by_cases d3 : a3 = b3
              · subst d1 d2 d3
                go_upto_region 6 with fail
                go_quiet (fail)
                go_wp2_with fail
                go_roundg (n - (k + 1))
                case measure => omega
                case rel => exact ⟨k + 1, rfl, by omega, by go_num, HJ.out.1.trans ((drewN_below wr nq).mono HJB.out.size), HJ.out.2.1.trans ((drewN_below wr nq).mono HJ.out.2.1.size), fun i hi => by
                  rcases Nat.lt_succ_iff_lt_or_eq.1 hi with h | rfl
                  · exact HJ.out.2.2 i h
                  · rw [← HSA.out, ← HSB.out]⟩
              · subst d1 d2
                have HNE := Lib.hid (show la ≠ lb from fun h => by have h2 := HE.out.1 h k (by have := HN.out; omega); rw [← HSA.out, ← HSB.out] at h2; simp at h2; omega)
                clear HE HJ
                go_upto_region 6 with fail
                go_quiet (fail)
                go_wp2_with fail
                go_ret
                exact ⟨by unfold sameB; rw [decide_eq_false (fun h => HNE.out h.2)]; rfl, by exact (HJB.out).trans ((drewN_below wr nq).mono HJB.out.size)⟩
            · subst d1
              have d2' : ((a2 : Int) = (b2 : Int)) = False := by simp; omega
              have HNE := Lib.hid (show la ≠ lb from fun h => by have h2 := HE.out.1 h k (by have := HN.out; omega); rw [← HSA.out, ← HSB.out] at h2; simp at h2; omega)
              clear HE HJ
              go_upto_region 6 with fail
              go_quiet (fail)
              go_wp2_with fail
              go_ret
              exact ⟨by unfold sameB; rw [decide_eq_false (fun h => HNE.out h.2)]; rfl, by exact (HJB.out).trans ((drewN_below wr nq).mono HJB.out.size)⟩
          · have HNE := Lib.hid (show la ≠ lb from fun h => by have h2 := HE.out.1 h k (by have := HN.out; omega); rw [← HSA.out, ← HSB.out] at h2; simp at h2; omega)
            clear HE HJ
            go_upto_region 6 with fail
            go_quiet (fail)
            go_wp2_with fail
            go_ret
            exact ⟨by unfold sameB; rw [decide_eq_false (fun h => HNE.out h.2)]; rfl, by exact (HJB.out).trans ((drewN_below wr nq).mono HJB.out.size)⟩
        · obtain rfl : k = n := by omega
          have HEQ := Lib.hid (show la = lb from HE.out.2 (by rw [← HN.out]; exact HJ.out.2.2))
          have b1 : wr.cell? ⟨B, 1, none⟩ = some (.slice a k ca) := blk_cell (HK.out.step HJ.out.2.1).b0 1
          go_wp2_with fail
          go_ret
          exact ⟨by unfold sameB; rw [decide_eq_true ⟨rfl, HEQ.out⟩]; rfl, HJ.out.1⟩
    · have HNE := Lib.hid (show sameB sa sa la lb = false from decide_eq_false fun h => hl (by rw [h.2]))
      have hne : ((la.length : Int) == (lb.length : Int)) = false := by simp; omega
      have hne2 : ((la.length : Int) != (lb.length : Int)) = true := by simp; omega
      generalize la.length = na at *
      generalize lb.length = nb at *
      go_enter Tryz.func28, Tryz.ntmps28
      go_upto_region 1 with fail
      rw [HC.out, HB.out, HW.out]
      go_wp2_with fail
      go_ret
      exact ⟨by rw [HNE.out]; rfl, HK.out.below⟩
  · have HNE := Lib.hid (show sameB sa sb la lb = false from decide_eq_false fun h => hs h.1)
    have hne2 : (sa != sb) = true := by simpa using hs
    generalize la.length = na at *
    generalize lb.length = nb at *
    go_enter Tryz.func28, Tryz.ntmps28
    go_upto_region 1 with fail
    rw [HC.out, HB.out, HW.out]
    go_wp2_with fail
    go_ret
    exact ⟨by rw [HNE.out]; rfl, HK.out.below⟩

set_option maxRecDepth 100000 in
/-- A ring that came in. -/
theorem open_ring {H : Type} {enc : TypeId × Value → H} {w : World} {base b0 : Nat} {spare : Nat → Bool} {held : Bool} {v : Value} {dd : DataW H} {ps : List MemPlace} {r : Reach}
    (hv : Value.okWide Tryz.prog w r b0 54 v) (h : DataW.Trod enc Tryz.prog w base spare held 54 v dd ps) : ∃ sec u l, v = ringV sec u ∧ SegsAt w u l := by
  obtain ⟨cs, rfl, hl, hc⟩ := open_flat (fs := _) (show Tryz.prog.underlying 54 = some (.struct _) from Tryz.underlying54) 5 [3, 52] (by kernel_rfl) (by kernel_rfl) hv h
  obtain ⟨u0, h0, l0⟩ := hc 0 3 rfl
  obtain ⟨u1, h1, l1⟩ := hc 1 52 rfl
  obtain ⟨sec, rfl, _⟩ := l0.int Tryz.underlying3
  have hcs : cs = [.int .i64 sec, u1] := by
    match cs, hl with
    | [a, b], _ => simp at h0 h1; rw [h0, h1]
  subst hcs
  have key := l1.structs Tryz.underlying52 5 [3, 40, 3] (by kernel_rfl) (by kernel_rfl) (by decide)
  rcases key with rfl | ⟨x, len, cap, rfl, k1, k2, k3⟩
  · exact ⟨sec, _, [], rfl, .inl ⟨rfl, .inl rfl⟩⟩
  · rcases Nat.eq_zero_or_pos len with rfl | hpos
    · exact ⟨sec, _, [], rfl, .inl ⟨rfl, .inr ⟨_, _, rfl⟩⟩⟩
    · obtain ⟨b, off, rfl, hb, hcell⟩ := k3 hpos
      have hseg : ∀ i, ∃ s : Seg, i < len → ∀ j, j < 3 → w.cell? ⟨b, off + (i * 3 + j), none⟩ = some (segCell s j) := fun i => by
        by_cases hi : i < len
        · obtain ⟨v0, c0, m0⟩ := hcell i hi 0 3 rfl
          obtain ⟨v1, c1, m1⟩ := hcell i hi 1 40 rfl
          obtain ⟨v2, c2, m2⟩ := hcell i hi 2 3 rfl
          obtain ⟨n0, rfl, _⟩ := m0.int Tryz.underlying3
          obtain ⟨n1, rfl, hw⟩ := m1.int Tryz.underlying40
          obtain ⟨n2, rfl, _⟩ := m2.int Tryz.underlying3
          have hw0 : 0 ≤ n1 := by
            exact (bounds_u64 hw).1
          refine ⟨⟨n0, n1.toNat, n2⟩, fun _ j hj => ?_⟩
          rcases (show j = 0 ∨ j = 1 ∨ j = 2 by omega) with rfl | rfl | rfl
          · exact c0
          · rw [show (segCell ⟨n0, n1.toNat, n2⟩ 1) = .int .u64 n1 from by show Value.int .u64 ((n1.toNat : Nat) : Int) = _; rw [Int.toNat_of_nonneg hw0]]; exact c1
          · exact c2
        · exact ⟨default, fun h => absurd h hi⟩
      obtain ⟨f, hf⟩ : ∃ f : Nat → Seg, ∀ i, i < len → ∀ j, j < 3 → w.cell? ⟨b, off + (i * 3 + j), none⟩ = some (segCell (f i) j) := ⟨fun i => (hseg i).choose, fun i => (hseg i).choose_spec⟩
      refine ⟨sec, _, (List.range len).map f, rfl, .inr ⟨by simpa using hpos, b, off, cap, by simp, by simpa using k1, k2, hb, fun i hi j hj => ?_⟩⟩
      have hi' : i < len := by simpa using hi
      rw [hf i hi' j hj]
      show some (segCell (f i) j) = some (segCell (((List.range len).map f).getD i default) j)
      rw [List.getD_eq_getElem?_getD, List.getElem?_map, List.getElem?_range hi']
      rfl
end Go.Proofs.YtjmocjcjiiopnaaGreat.Rg
end
