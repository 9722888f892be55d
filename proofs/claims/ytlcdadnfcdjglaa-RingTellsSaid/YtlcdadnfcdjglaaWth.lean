/- The document's ring: one segment replaced in a copy; Left, Next, Free. Conditions: the segments lie in memory; at most a thousand. -/
import Derived.Test.YtlcdadnfcdjglaaRgt
import Derived.Test.YtlcdadnfcdjglaaNewsW
set_option linter.unusedVariables false
set_option linter.unusedSimpArgs false
namespace Go.Proofs.Ytlcdadnfcdjglaa
open Go.RowKit Go.Ice Go.Ring

def segV (x : Seg) : Value := .agg #[.int .i64 x.st, .int .u64 x.gen, .int .i64 x.used]

set_option maxHeartbeats 4000000 in
theorem withd (w : World) (sec : Int) (v : Value) (l : List Seg) (i : Nat) (x : Seg) (h : SegsAt w v l) (hl : l.length ≤ 1000) (hi : i < l.length) :
    Calls Try.prog 52 #[ringV sec v, .int .i64 i, segV x] w fun e w' => ∃ u, e = .returned (ringV sec u) ∧ OwnSegs w' w.heap.size u (l.set i x) ∧ Below w.heap.size w w' := by
  obtain ⟨B, D, C, W0, HB, HD, HC, HW, HK, HZ⟩ := boxed3 w #[.int .i64 sec, v] 25 #[.int .i64 x.st, .int .u64 x.gen, .int .i64 x.used] 46 #[.int .i64 0, .slice none 0 0] 25
  have HR : Hid (SegsAt W0 v l) := RowAt.below h HK.out.below (Nat.le_refl _)
  have HCP := Lib.hid (copy W0 sec v l HR.out hl)
  have HI := Lib.hid hi
  have b0 : W0.cell? ⟨B, 0, none⟩ = some (.int .i64 sec) := blk_cell HK.out.b0 0
  have b1 : W0.cell? ⟨B, 1, none⟩ = some v := blk_cell HK.out.b0 1
  clear h hl hi
  unfold ringV segV at *
  go_enter Try.func52, Try.ntmps52
  go_upto_region 1 with fail
  rw [HC.out, HD.out, HB.out, HW.out]
  go_wp2_with fail
  refine HCP.out.mono ?_
  rintro e w2 ⟨u, rfl, ho, hb⟩
  obtain ⟨g, cap, cur, rfl, hg1, hg2, hg3, hg4, hg5, hg6⟩ := own_nonempty ho (by have := HI.out; omega)
  have HK2 := Lib.hid (HK.out.step hb)
  have b0' : w2.cell? ⟨B, 0, none⟩ = some (.int .i64 sec) := blk_cell HK2.out.b0 0
  have b1' : w2.cell? ⟨B, 1, none⟩ = some v := blk_cell HK2.out.b0 1
  have fb1' := fun r => blk_frozen HK2.out.b0 r
  have hdis : B ≠ D ∧ B ≠ C ∧ D ≠ C ∧ g ≠ B ∧ g ≠ D ∧ g ≠ C ∧ C < g ∧ w.heap.size ≤ B ∧ w.heap.size ≤ C := by
    have h1 := HB.out; have h2 := HC.out; have h3 := HD.out; have h4 := HZ.out; omega
  have HDIS := Lib.hid hdis
  have HG : Hid (w2.heap[g]? = some (.cells cur 46 (0, 0)) ∧ l.length ≤ cap ∧ cap ≤ maxLen ∧ cur.size = cap * 3 ∧ ∀ i, i < l.length → ∀ j, j < 3 → cur[i * 3 + j]? = some (segX l i j)) := ⟨hg2, hg3, hg4, hg5, hg6⟩
  clear ho hb b0 b1 HCP hg1 hg2 hg3 hg4 hg5 hg6 hdis
  go_upto_region 2 with fail
  obtain ⟨W3, hW3⟩ : ∃ W3, W3 = (w2.setCell ⟨B, 0, none⟩ (.int .i64 sec)).setCell ⟨B, 1, none⟩ (.slice (some ⟨g, 0, none⟩) l.length cap) := ⟨_, rfl⟩
  have HK3 : Hid (Kp w [(B, .cells #[.int .i64 sec, .slice (some ⟨g, 0, none⟩) l.length cap] 25), (D, .cells #[.int .i64 x.st, .int .u64 x.gen, .int .i64 x.used] 46), (C, .cells #[.int .i64 0, .slice none 0 0] 25)] W3) := by
    show Kp _ _ _
    have hd := HDIS.out
    have := (HK2.out.set0 (k := 0) hd.2.2.2.2.2.2.2.1 (fun p hp => by
      simp only [List.mem_cons, List.mem_nil_iff, or_false] at hp
      rcases hp with rfl | rfl
      · exact Ne.symm hd.1
      · exact Ne.symm hd.2.1) (.int .i64 sec)).set0 (k := 1) hd.2.2.2.2.2.2.2.1 (fun p hp => by
      simp only [List.mem_cons, List.mem_nil_iff, or_false] at hp
      rcases hp with rfl | rfl
      · exact Ne.symm hd.1
      · exact Ne.symm hd.2.1) (.slice (some ⟨g, 0, none⟩) l.length cap)
    rw [hW3]
    simpa using this
  have HG3 : Hid (W3.heap[g]? = some (.cells cur 46 (0, 0))) := by show _ = _; rw [hW3]; exact blk_set (blk_set HG.out.1 HDIS.out.2.2.2.1 _) HDIS.out.2.2.2.1 _
  rw [← hW3]
  have c1 : W3.cell? ⟨B, 1, none⟩ = some (.slice (some ⟨g, 0, none⟩) l.length cap) := blk_cell HK3.out.b0 1
  have d0 : W3.cell? ⟨D, 0, none⟩ = some (.int .i64 x.st) := blk_cell HK3.out.b1 0
  have d1 : W3.cell? ⟨D, 1, none⟩ = some (.int .u64 x.gen) := blk_cell HK3.out.b1 1
  have d2 : W3.cell? ⟨D, 2, none⟩ = some (.int .i64 x.used) := blk_cell HK3.out.b1 2
  have hk3 : i * 3 + 3 ≤ cur.size := by have := HI.out; have := HG.out.2.1; have := HG.out.2.2.2.1; omega
  obtain ⟨y0, g0⟩ : ∃ y, W3.cell? ⟨g, i * 3, none⟩ = some y := ⟨cur[i * 3]'(by omega), by have := HG3.out; simp [World.cell?, this]⟩
  obtain ⟨y1, g1⟩ : ∃ y, W3.cell? ⟨g, i * 3 + 1, none⟩ = some y := ⟨cur[i * 3 + 1]'(by omega), by have := HG3.out; simp [World.cell?, this]⟩
  obtain ⟨y2, g2⟩ : ∃ y, W3.cell? ⟨g, i * 3 + 2, none⟩ = some y := ⟨cur[i * 3 + 2]'(by omega), by have := HG3.out; simp [World.cell?, this]⟩
  have fg := fun r => blk_frozen HG3.out r
  have hil := HI.out
  have HT := Lib.hid (turned_three hk3 x)
  clear hW3 b0' b1' fb1' HK2 hk3
  generalize hn : l.length = n at *
  have HN := Lib.hid hn
  clear hn
  go_upto_region 3 with fail
  obtain ⟨W4, hW4⟩ : ∃ W4, W4 = ((W3.setCell ⟨g, i * 3, none⟩ (.int .i64 x.st)).setCell ⟨g, i * 3 + 1, none⟩ (.int .u64 x.gen)).setCell ⟨g, i * 3 + 2, none⟩ (.int .i64 x.used) := ⟨_, rfl⟩
  have hf : Frm (fun k => k = g) W3 W4 := by rw [hW4]; exact ((frm_set _ _ _ _).trans (frm_set _ _ _ _)).trans (frm_set _ _ _ _)
  have hg' : W4.heap[g]? = some (.cells (((cur.setIfInBounds (i * 3) (.int .i64 x.st)).setIfInBounds (i * 3 + 1) (.int .u64 x.gen)).setIfInBounds (i * 3 + 2) (.int .i64 x.used)) 46 (0, 0)) := by rw [hW4]; exact set_heap (set_heap (set_heap HG3.out _ _) _ _) _ _
  rw [← hW4]
  have HK4 : Hid (Kp w [(B, .cells #[.int .i64 sec, .slice (some ⟨g, 0, none⟩) n cap] 25), (D, .cells #[.int .i64 x.st, .int .u64 x.gen, .int .i64 x.used] 46), (C, .cells #[.int .i64 0, .slice none 0 0] 25)] W4) :=
    HK3.out.frm hf (fun k hk e => by have := HDIS.out; omega) (fun p hp => by
      have hd := HDIS.out
      simp only [List.mem_cons, List.mem_nil_iff, or_false] at hp
      rcases hp with rfl | rfl | rfl
      · exact fun e => hd.2.2.2.1 e.symm
      · exact fun e => hd.2.2.2.2.1 e.symm
      · exact fun e => hd.2.2.2.2.2.1 e.symm)
  have HO4 : Hid (OwnSegs W4 (C + 1) (.slice (some ⟨g, 0, none⟩) n cap) (l.set i x)) := by
    show World.ownsRow _ _ _ _ _ _ _
    rw [List.length_set, HN.out]
    obtain ⟨q2, q3, q4, q5, q6⟩ := HG.out
    have ht := HT.out
    refine own_of_cells (by decide) (by have := HDIS.out; omega) hg' q3 q4 (by rw [ht.size]; exact q5) fun a ha j hj => ?_
    unfold segX
    rw [at_set (by rw [HN.out]; exact hil)]
    by_cases e : a = i
    · subst e; rw [if_pos rfl]; exact ht.new j hj
    · rw [if_neg e, ht.old _ (by rcases Nat.lt_or_gt_of_ne e with h | h <;> omega)]; exact q6 a ha j hj
  have k0 : W4.cell? ⟨B, 0, none⟩ = some (.int .i64 sec) := blk_cell HK4.out.b0 0
  have k1 : W4.cell? ⟨B, 1, none⟩ = some (.slice (some ⟨g, 0, none⟩) n cap) := blk_cell HK4.out.b0 1
  have e0 : W4.cell? ⟨C, 0, none⟩ = some (.int .i64 0) := blk_cell HK4.out.b2 0
  have e1 : W4.cell? ⟨C, 1, none⟩ = some (.slice none 0 0) := blk_cell HK4.out.b2 1
  have fe0 := fun r => blk_frozen HK4.out.b2 r
  clear hg' hf hW4 c1 d0 d1 d2 g0 g1 g2 fg HG HG3 HK3 HT
  go_wp2_with fail
  obtain ⟨r0, r1⟩ := res_pair HK4.out.b2 (.int .i64 sec) (.slice (some ⟨g, 0, none⟩) n cap)
  refine bodyPost_ret (v := .agg #[.int .i64 sec, .slice (some ⟨g, 0, none⟩) n cap]) (by simp [results, Try.f52, go_sem, r0, r1]) rfl ⟨_, rfl, ?_, ?_⟩
  · exact own_base (own_set (own_set HO4.out (Nat.lt_succ_self C) _) (Nat.lt_succ_self C) _) (by have := HDIS.out; omega)
  · exact below_two HK4.out.below HDIS.out.2.2.2.2.2.2.2.2 _ _
end Go.Proofs.Ytlcdadnfcdjglaa
