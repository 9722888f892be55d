/- The document's index: Add. Conditions: at most 1024 entries. -/
import Derived.Test.YtccgdfamjohmgaaRefA
import Derived.Test.YtccgdfamjohmgaaAll
import Derived.Maps.AppendAt
set_option linter.unusedVariables false
namespace Go.Proofs.Ytccgdfamjohmgaa
open Go.RowKit Go.Ice

/-- An append to a row of one's own: of whatever slice of n elements; where the new row lies. -/
theorem app_at {P : Program} {t ty e size bytes : Nat} {z : Value} (E : Elem P t e size bytes z) {w : World} {base : Nat} {v x : Value} {n m : Nat} {xs news : List Value}
    (hown : w.ownsRow base e size v n xs) (hx : IsSlK w size m x news) (h1 : ∀ u ∈ news, u.oneCell' = true) (hroom : (n + m) * bytes ≤ 140737488355328) (h63 : n + m ≤ maxLen) (hbase : base ≤ w.heap.size) :
    ∃ v' w', (Builtin.append_ #[t, t] ty #[v, x]).run P w = .ok v' w' ∧ w'.ownsRow base e size v' (n + m) (xs ++ news) ∧ w.grownBy w' v.ownBlock ∧ (v'.ownBlock = v.ownBlock ∨ v'.ownBlock = some w.heap.size) := by
  obtain ⟨ht, ⟨i, hi, hz, hs, hb⟩, hzs, hsz⟩ := E
  obtain ⟨hl, ⟨rfl, rfl | ⟨a, c, rfl⟩⟩ | ⟨h0, b, off, cap, rfl, g1, g2, g3, g4⟩⟩ := hx
  · obtain rfl : news = [] := List.length_eq_zero_iff.1 (by rw [hl, Nat.zero_mul])
    exact ⟨v, w, run_append_owned_none w base t ty e i size ht hi v n xs hown, by simpa using hown, World.grownBy.refl w _, .inl rfl⟩
  · obtain rfl : news = [] := List.length_eq_zero_iff.1 (by rw [hl, Nat.zero_mul])
    obtain ⟨v', w', hr, h2, h3, h4, h5⟩ := run_append_own_at (P := P) w base t ty e i z size bytes ht hi hz hs hb hzs hsz v n xs hown a 0 c [] (by simp) (fun j u hu => by simp at hu) (by simp) h63 hroom hbase
    exact ⟨v', w', hr, h2, h3, h5⟩
  · obtain ⟨v', w', hr, h2, h3, h4, h5⟩ := run_append_own_at (P := P) w base t ty e i z size bytes ht hi hz hs hb hzs hsz v n xs hown ⟨b, off, none⟩ m cap news hl (fun j u hu => by
      have hj : j < news.length := by
        rcases Nat.lt_or_ge j news.length with h | h
        · exact h
        · rw [List.getElem?_eq_none h] at hu; cases hu
      rw [show (⟨b, off, none⟩ : Addr).add j = ⟨b, off + j, none⟩ from Addr.add_lit _ _ _, g4 j hj, hu]) h1 h63 hroom hbase
    exact ⟨v', w', hr, h2, h3, h5⟩

theorem entCells_one (A : List (Nat × Adr)) : ∀ u ∈ entCells A, u.oneCell' = true := by
  intro u hu
  unfold entCells at hu
  obtain ⟨e, _, h⟩ := List.mem_flatMap.1 hu
  simp only [List.mem_cons, List.mem_nil_iff, or_false] at h
  rcases h with rfl | rfl | rfl | rfl <;> rfl
theorem EntAt.isSlK {w : World} {v : Value} {A : List (Nat × Adr)} (h : EntAt w v A) : IsSlK w 4 A.length v (entCells A) := by
  refine ⟨entCells_length A, ?_⟩
  rcases h with h | ⟨h0, b, off, cap, hv, h1, h2, h3, h4⟩
  · exact .inl h
  · refine .inr ⟨h0, b, off, cap, hv, h1, h2, h3, fun j hj => ?_⟩
    rw [entCells_length] at hj
    have h5 := h4 (j / 4) (by omega) (j % 4) (by omega)
    rw [show j / 4 * 4 + j % 4 = j from by omega] at h5
    have h6 := entCells_get A (j / 4) (by omega) (j % 4) (by omega)
    rw [show j / 4 * 4 + j % 4 = j from by omega] at h6
    rw [h5, h6]

/-- What the region of Add does, whatever the order. -/
structure AddI (w0 : World) (N : Nat) (vE : Value) (A : List (Nat × Adr)) (e : Nat × Adr) (done : Nat → Bool) (g25 g30 : Nat) (v28 v31 : Value) (w : World) : Prop where
  bel : Below w0.heap.size w0 w
  b1 : w.heap[w0.heap.size]? = some (.cells #[.int .i64 N, if done 8 then v31 else vE] 46 (0, 0))
  b2 : w.heap[w0.heap.size + 2]? = some (.cells #[.int .i64 0, .slice none 0 0] 46 (0, 0))
  b3 : w.heap[w0.heap.size + 3]? = some (.cells #[.int .u32 e.1, .int .i64 e.2.seg, .int .u64 e.2.gen, .int .i64 e.2.sec] 52 (0, 0))
  s25 : done 0 = true → done 3 = false → w.ownsRow (w0.heap.size + 4) 52 4 (.slice (some ⟨g25, 0, none⟩) 0 0) 0 []
  s28 : done 3 = true → done 6 = false → w.ownsRow (w0.heap.size + 4) 52 4 v28 A.length (entCells A)
  s30 : done 5 = true → done 6 = false → w.heap[g30]? = some (.cells #[.int .u32 e.1, .int .i64 e.2.seg, .int .u64 e.2.gen, .int .i64 e.2.sec] 52 (0, 0)) ∧ (done 0 = true → done 3 = false → g25 ≠ g30) ∧ (done 3 = true → v28.ownBlock ≠ some g30)
  s31 : done 6 = true → w.ownsRow (w0.heap.size + 4) 52 4 v31 (A.length + 1) (entCells (A ++ [e]))

section
variable {w0 w : World} {N : Nat} {vE : Value} {A : List (Nat × Adr)} {e : Nat × Adr} {done : Nat → Bool} {g25 g30 : Nat} {v28 v31 : Value}
theorem AddI.lt (h : AddI w0 N vE A e done g25 g30 v28 v31 w) : w0.heap.size + 4 ≤ w.heap.size := (Array.getElem?_eq_some_iff.1 h.b3).1
theorem AddI.quiet (h : AddI w0 N vE A e done g25 g30 v28 v31 w) (i : Nat) (hi : i ∉ [0, 3, 5, 6, 8]) : AddI w0 N vE A e (fun k => decide (k = i) || done k) g25 g30 v28 v31 w := by
  have q : ∀ k ∈ [0, 3, 5, 6, 8], (decide (k = i) || done k) = done k := fun k hk => by
    have : k ≠ i := fun e => hi (e ▸ hk)
    simp [this]
  obtain ⟨h1, h2, h3, h4, h5, h6, h7, h8⟩ := h
  constructor
  all_goals (try simp only [q 0 (by decide), q 3 (by decide), q 5 (by decide), q 6 (by decide), q 8 (by decide)])
  all_goals assumption
theorem AddI.step0 (h : AddI w0 N vE A e done g25 g30 v28 v31 w) (q : done 3 = false) : AddI w0 N vE A e (fun k => decide (k = 0) || done k) w.heap.size g30 v28 v31 (w.alloc (.cells #[] 52)) := by
  have hlt := h.lt
  obtain ⟨h1, h2, h3, h4, h5, h6, h7, h8⟩ := h
  have ho : ∀ k, k < w.heap.size → (w.alloc (.cells #[] 52)).heap[k]? = w.heap[k]? := fun k hk => Below.heap_alloc w _ k hk
  refine ⟨h1.alloc h1.size _, ?_, ?_, ?_, ?_, ?_, ?_, ?_⟩
  · rw [ho _ (by omega)]; simpa using h2
  · rw [ho _ (by omega)]; simpa using h3
  · rw [ho _ (by omega)]; simpa using h4
  · intro _ _; exact World.ownsRow_made w #[] 0 (by omega) (by decide) rfl
  · intro p; simp [q] at p
  · intro p q'
    obtain ⟨k1, k2, k3⟩ := h7 (by simpa using p) (by simpa using q')
    have hg := (Array.getElem?_eq_some_iff.1 k1).1
    exact ⟨by rw [ho _ hg]; exact k1, fun _ _ => by omega, fun p => by simp [q] at p⟩
  · intro p; exact (h8 (by simpa using p)).alloc _
theorem AddI.step5 (h : AddI w0 N vE A e done g25 g30 v28 v31 w) (q : done 6 = false) : AddI w0 N vE A e (fun k => decide (k = 5) || done k) g25 w.heap.size v28 v31 (w.alloc (.cells #[.int .u32 e.1, .int .i64 e.2.seg, .int .u64 e.2.gen, .int .i64 e.2.sec] 52)) := by
  have hlt := h.lt
  obtain ⟨h1, h2, h3, h4, h5, h6, h7, h8⟩ := h
  have ho : ∀ k, k < w.heap.size → (w.alloc (.cells #[.int .u32 e.1, .int .i64 e.2.seg, .int .u64 e.2.gen, .int .i64 e.2.sec] 52)).heap[k]? = w.heap[k]? := fun k hk => Below.heap_alloc w _ k hk
  refine ⟨h1.alloc h1.size _, ?_, ?_, ?_, ?_, ?_, ?_, ?_⟩
  · rw [ho _ (by omega)]; simpa using h2
  · rw [ho _ (by omega)]; simpa using h3
  · rw [ho _ (by omega)]; simpa using h4
  · intro p q'; exact (h5 (by simpa using p) (by simpa using q')).alloc _
  · intro p q'; exact (h6 (by simpa using p) (by simpa using q')).alloc _
  · intro p q'
    refine ⟨heap_alloc_new w _, fun p0 p3 => ?_, fun p3 hv => ?_⟩
    · have := ((h5 (by simpa using p0) (by simpa using p3)).lt g25 rfl).2; omega
    · have := ((h6 (by simpa using p3) q).lt _ hv).2; omega
  · intro p; exact (h8 (by simpa using p)).alloc _
theorem AddI.step3 (h : AddI w0 N vE A e done g25 g30 v28 v31 w) (hE : EntAt w0 vE A) (hA : A.length ≤ 1024) (hd : done 3 = false) (p0 : done 0 = true) (q : done 6 = false) :
    ∃ v W, (Builtin.append_ #[44, 44] 44 #[.slice (some ⟨g25, 0, none⟩) 0 0, vE]).run Try.prog w = .ok v W ∧ AddI w0 N vE A e (fun k => decide (k = 3) || done k) g25 g30 v v31 W := by
  have hlt := h.lt
  obtain ⟨h1, h2, h3, h4, h5, h6, h7, h8⟩ := h
  have hown := h5 p0 hd
  have hlo := hown.lt g25 rfl
  obtain ⟨v, W, hr, ho, hg, hwh⟩ := app_at (P := Try.prog) (ty := 44) elemEnt hown (EntAt.isSlK (show EntAt w vE A from hE.below h1 (Nat.le_refl _))) (entCells_one A) (by omega) (by unfold maxLen; omega) hlt
  have hgk : ∀ k, k < w.heap.size → k ≠ g25 → W.heap[k]? = w.heap[k]? := fun k hk hk2 => hg.block k hk (fun e => by injection e with e; exact hk2 e)
  rw [Nat.zero_add] at ho
  refine ⟨v, W, hr, h1.grown hg h1.size (fun k hk => by injection hk with hk; simp only at hk; omega), ?_, ?_, ?_, ?_, ?_, ?_, ?_⟩
  · rw [hgk _ (by omega) (by omega)]; simpa using h2
  · rw [hgk _ (by omega) (by omega)]; simpa using h3
  · rw [hgk _ (by omega) (by omega)]; simpa using h4
  · intro _ q'; simp at q'
  · intro _ _; exact ho
  · intro p q'
    obtain ⟨k1, k2, k3⟩ := h7 (by simpa using p) (by simpa using q')
    have hlt30 := (Array.getElem?_eq_some_iff.1 k1).1
    have hne := k2 p0 hd
    refine ⟨by rw [hgk _ hlt30 (Ne.symm hne)]; exact k1, fun _ q => by simp at q, fun _ hv => ?_⟩
    rcases hwh with e1 | e1
    · rw [e1] at hv; injection hv with hv; exact hne hv
    · rw [e1] at hv; injection hv with hv; omega
  · intro p; simp [q] at p
theorem AddI.step6 (h : AddI w0 N vE A e done g25 g30 v28 v31 w) (hA : A.length ≤ 1024) (hd : done 6 = false) (p3 : done 3 = true) (p5 : done 5 = true) (q8 : done 8 = false) :
    ∃ v W, (Builtin.append_ #[44, 44] 44 #[v28, .slice (some ⟨g30, 0, none⟩) 1 1]).run Try.prog w = .ok v W ∧ AddI w0 N vE A e (fun k => decide (k = 6) || done k) g25 g30 v28 v W := by
  have hlt := h.lt
  obtain ⟨h1, h2, h3, h4, h5, h6, h7, h8⟩ := h
  have hown := h6 p3 hd
  obtain ⟨k1, k2, k3⟩ := h7 p5 hd
  have hsl : IsSlK w 4 1 (.slice (some ⟨g30, 0, none⟩) 1 1) [.int .u32 e.1, .int .i64 e.2.seg, .int .u64 e.2.gen, .int .i64 e.2.sec] :=
    ⟨rfl, .inr ⟨by decide, g30, 0, 1, rfl, by decide, by decide, (Array.getElem?_eq_some_iff.1 k1).1, fun j hj => by rw [Nat.zero_add, blk_cell k1]; simp⟩⟩
  obtain ⟨v, W, hr, ho, hg, hwh⟩ := app_at (P := Try.prog) (ty := 44) elemEnt hown hsl (fun u hu => by
    simp only [List.mem_cons, List.mem_nil_iff, or_false] at hu
    rcases hu with rfl | rfl | rfl | rfl <;> rfl) (by omega) (by unfold maxLen; omega) hlt
  have hgk : ∀ k, k < w0.heap.size + 4 → W.heap[k]? = w.heap[k]? := fun k hk => hg.block k (by omega) (fun e => by have := (hown.lt k e.symm).1; omega)
  refine ⟨v, W, hr, h1.grown hg h1.size (fun k hk => by have := (hown.lt k hk).1; omega), ?_, ?_, ?_, ?_, ?_, ?_, ?_⟩
  · rw [hgk _ (by omega)]; simpa [q8] using h2
  · rw [hgk _ (by omega)]; simpa using h3
  · rw [hgk _ (by omega)]; simpa using h4
  · intro _ q'; simp [p3] at q'
  · intro _ q'; simp at q'
  · intro _ q'; simp at q'
  · intro _; rw [entCells_snoc]; exact ho
theorem AddI.step8 (h : AddI w0 N vE A e done g25 g30 v28 v31 w) (p6 : done 6 = true) : AddI w0 N vE A e (fun k => decide (k = 8) || done k) g25 g30 v28 v31 (w.setCell ⟨w0.heap.size, 1, none⟩ v31) := by
  have hlt := h.lt
  obtain ⟨h1, h2, h3, h4, h5, h6, h7, h8⟩ := h
  refine ⟨h1.setCell (by simp) _, ?_, ?_, ?_, ?_, ?_, ?_, ?_⟩
  · simp [World.setCell, Array.getElem?_modify, h2]
  · exact blk_set h3 (by simp) _
  · exact blk_set h4 (by simp) _
  · intro p q'; exact own_set (h5 (by simpa using p) (by simpa using q')) (by simp) _
  · intro p q'; simp [p6] at q'
  · intro p q'; simp [p6] at q'
  · intro p; exact own_set (h8 p6) (by simp) _
end

set_option maxRecDepth 100000 in
set_option maxHeartbeats 8000000 in
theorem add_ref (w : World) (N : Nat) (v : Value) (A : List (Nat × Adr)) (f : Nat) (ad : Adr) (h : EntAt w v A) (hA : A.length ≤ 1024) (hN : N ≤ 1024) :
    Calls Try.prog 26 #[.agg #[.int .i64 N, v], .int .u32 f, adrV ad] w (RefPost w N v (addA A N f ad).2 (addA A N f ad).1) := by
  obtain ⟨a, cap, rfl, hm⟩ := RowAt.form h
  obtain ⟨W0, hW0, hB0, hsz, hb1, hb2, hb3⟩ := four w N (.slice a A.length cap) f ad
  have hHS := fun (W : World) (hW : Below w.heap.size w W) => has_ref W N (.slice a A.length cap) A (f, ad) (h.below hW (Nat.le_refl _))
  have HHS := Lib.hid hHS
  have HH := Lib.hid h
  have HB := Lib.hid hB0
  have HW := Lib.hid hW0.symm
  have HSZ := Lib.hid hsz
  have HB1 := Lib.hid hb1
  have HB2 := Lib.hid hb2
  have HB3 := Lib.hid hb3
  clear hW0 hsz h hB0 hb1 hb2 hb3 hHS
  have q0 : W0.cell? ⟨w.heap.size, 0, none⟩ = some (.int .i64 N) := blk_cell HB1.out 0
  have q1 : W0.cell? ⟨w.heap.size, 1, none⟩ = some (.slice a A.length cap) := blk_cell HB1.out 1
  have q2 : W0.cell? ⟨w.heap.size + 3, 0, none⟩ = some (.int .u32 f) := blk_cell HB3.out 0
  have q3 : W0.cell? ⟨w.heap.size + 3, 1, none⟩ = some (.int .i64 ad.seg) := blk_cell HB3.out 1
  have q4 : W0.cell? ⟨w.heap.size + 3, 2, none⟩ = some (.int .u64 ad.gen) := blk_cell HB3.out 2
  have q5 : W0.cell? ⟨w.heap.size + 3, 3, none⟩ = some (.int .i64 ad.sec) := blk_cell HB3.out 3
  unfold adrV
  have HADD : Hid ((f, ad) ∈ A ∧ addA A N f ad = (5, A) ∨ (f, ad) ∉ A ∧ A.length = N ∧ addA A N f ad = (6, A) ∨ (f, ad) ∉ A ∧ A.length ≠ N ∧ addA A N f ad = (0, A ++ [(f, ad)])) := by
    show _ ∨ _
    unfold addA
    by_cases h1 : (f, ad) ∈ A
    · exact .inl ⟨h1, by rw [if_pos h1]⟩
    · by_cases h2 : A.length = N
      · exact .inr (.inl ⟨h1, h2, by rw [if_neg h1, if_pos h2]⟩)
      · exact .inr (.inr ⟨h1, h2, by rw [if_neg h1, if_neg h2]⟩)
  rcases HADD.out with ⟨h1, h2⟩ | ⟨h1, hl, h2⟩ | ⟨h1, hl, h2⟩
  · have HR := Lib.hid h2
    have hD : decide ((f, ad) ∈ A) = true := decide_eq_true h1
    rw [hD] at HHS
    clear h1 h2 hD HADD
    obtain ⟨n, hn⟩ : ∃ n, n = A.length := ⟨_, rfl⟩
    rw [← hn] at hm HW HB1 hA q1 HHS
    have HN := Lib.hid hn
    clear hn hm
    rw [← HN.out]
    go_enter Try.func26, Try.ntmps26
    go_upto_region 2 with fail
    rw [HW.out]
    go_wp2_with fail
    refine (HHS.out _ HB.out).mono ?_
    rintro e w1 ⟨rfl, hb⟩
    have HBW : Hid (Below w.heap.size w w1) := HB.out.trans (hb.mono HB.out.size)
    have k1 := blk_below HB1.out hb (by rw [HSZ.out]; omega)
    have k2 := blk_below HB2.out hb (by rw [HSZ.out]; omega)
    have k3 := blk_below HB3.out hb (by rw [HSZ.out]; omega)
    clear hb q0 q1 q2 q3 q4 q5
    have q0 : w1.cell? ⟨w.heap.size, 0, none⟩ = some (.int .i64 N) := blk_cell k1 0
    have q1 : w1.cell? ⟨w.heap.size, 1, none⟩ = some (.slice a n cap) := blk_cell k1 1
    have q3 : w1.cell? ⟨w.heap.size + 2, 0, none⟩ = some (.int .i64 0) := blk_cell k2 0
    have q4 : w1.cell? ⟨w.heap.size + 2, 1, none⟩ = some (.slice none 0 0) := blk_cell k2 1
    have q5 : w1.frozen? ⟨w.heap.size + 2, 0, none⟩ = false := blk_frozen k2 0
    have q6 : w1.frozen? ⟨w.heap.size + 2, 1, none⟩ = false := blk_frozen k2 1
    have K1 := Lib.hid k1
    have K2 := Lib.hid k2
    have K3 := Lib.hid k3
    clear k1 k2 k3
    go_wp2_with fail
    obtain ⟨r0, r1⟩ := res_cells (b' := 0) (v0 := .int .i64 N) (v1 := .slice a n cap) K2.out
    have HBF : Hid (Below w.heap.size w ((w1.setCell ⟨w.heap.size + 2, 0, none⟩ (.int .i64 N)).setCell ⟨w.heap.size + 2, 1, none⟩ (.slice a n cap))) := (HBW.out.setCell (by simp) _).setCell (by simp) _
    refine bodyPost_ret (v := .tuple #[.agg #[.int .i64 N, .slice a n cap], .int .i64 5]) (by simp [results, Try.f26, go_sem, r0, r1]) rfl ⟨.slice a n cap, by rw [HR.out], ?_, .inl (by rw [HN.out]), HBF.out⟩
    rw [HR.out]
    have h5 : EntAt _ (.slice a A.length cap) A := RowAt.below HH.out HBF.out (Nat.le_refl _)
    rw [← HN.out] at h5
    exact h5
  · have HR := Lib.hid h2
    have hD : decide ((f, ad) ∈ A) = false := decide_eq_false h1
    rw [hD] at HHS
    clear h1 h2 hD HADD
    have hlN : ((A.length : Int) == (N : Int)) = true := beq_iff_eq.2 (by omega)
    clear hl
    obtain ⟨n, hn⟩ : ∃ n, n = A.length := ⟨_, rfl⟩
    rw [← hn] at hm HW HB1 hA q1 HHS hlN
    have HN := Lib.hid hn
    clear hn hm
    rw [← HN.out]
    go_enter Try.func26, Try.ntmps26
    go_upto_region 2 with fail
    rw [HW.out]
    go_wp2_with fail
    refine (HHS.out _ HB.out).mono ?_
    rintro e w1 ⟨rfl, hb⟩
    have HBW : Hid (Below w.heap.size w w1) := HB.out.trans (hb.mono HB.out.size)
    have k1 := blk_below HB1.out hb (by rw [HSZ.out]; omega)
    have k2 := blk_below HB2.out hb (by rw [HSZ.out]; omega)
    have k3 := blk_below HB3.out hb (by rw [HSZ.out]; omega)
    clear hb q0 q1 q2 q3 q4 q5
    have q0 : w1.cell? ⟨w.heap.size, 0, none⟩ = some (.int .i64 N) := blk_cell k1 0
    have q1 : w1.cell? ⟨w.heap.size, 1, none⟩ = some (.slice a n cap) := blk_cell k1 1
    have q3 : w1.cell? ⟨w.heap.size + 2, 0, none⟩ = some (.int .i64 0) := blk_cell k2 0
    have q4 : w1.cell? ⟨w.heap.size + 2, 1, none⟩ = some (.slice none 0 0) := blk_cell k2 1
    have q5 : w1.frozen? ⟨w.heap.size + 2, 0, none⟩ = false := blk_frozen k2 0
    have q6 : w1.frozen? ⟨w.heap.size + 2, 1, none⟩ = false := blk_frozen k2 1
    have K1 := Lib.hid k1
    have K2 := Lib.hid k2
    have K3 := Lib.hid k3
    clear k1 k2 k3
    go_wp2_with fail
    obtain ⟨r0, r1⟩ := res_cells (b' := 0) (v0 := .int .i64 N) (v1 := .slice a n cap) K2.out
    have HBF : Hid (Below w.heap.size w ((w1.setCell ⟨w.heap.size + 2, 0, none⟩ (.int .i64 N)).setCell ⟨w.heap.size + 2, 1, none⟩ (.slice a n cap))) := (HBW.out.setCell (by simp) _).setCell (by simp) _
    refine bodyPost_ret (v := .tuple #[.agg #[.int .i64 N, .slice a n cap], .int .i64 6]) (by simp [results, Try.f26, go_sem, r0, r1]) rfl ⟨.slice a n cap, by rw [HR.out], ?_, .inl (by rw [HN.out]), HBF.out⟩
    rw [HR.out]
    have h5 : EntAt _ (.slice a A.length cap) A := RowAt.below HH.out HBF.out (Nat.le_refl _)
    rw [← HN.out] at h5
    exact h5
  · have HR := Lib.hid h2
    have hD : decide ((f, ad) ∈ A) = false := decide_eq_false h1
    rw [hD] at HHS
    clear h1 h2 hD HADD
    have hlN : ((A.length : Int) == (N : Int)) = false := beq_eq_false_iff_ne.2 (by omega)
    clear hl
    obtain ⟨n, hn⟩ : ∃ n, n = A.length := ⟨_, rfl⟩
    have HA := Lib.hid hA
    rw [← hn] at hm HW HB1 hA q1 HHS hlN
    have HN := Lib.hid hn
    clear hn hm
    rw [← HN.out]
    go_enter Try.func26, Try.ntmps26
    go_upto_region 2 with fail
    rw [HW.out]
    go_wp2_with fail
    refine (HHS.out _ HB.out).mono ?_
    rintro e w1 ⟨rfl, hb⟩
    have HBW : Hid (Below w.heap.size w w1) := HB.out.trans (hb.mono HB.out.size)
    have k1 := blk_below HB1.out hb (by rw [HSZ.out]; omega)
    have k2 := blk_below HB2.out hb (by rw [HSZ.out]; omega)
    have k3 := blk_below HB3.out hb (by rw [HSZ.out]; omega)
    clear hb q0 q1 q2 q3 q4 q5
    have q0 : w1.cell? ⟨w.heap.size, 0, none⟩ = some (.int .i64 N) := blk_cell k1 0
    have q1 : w1.cell? ⟨w.heap.size, 1, none⟩ = some (.slice a n cap) := blk_cell k1 1
    have q3 : w1.cell? ⟨w.heap.size + 2, 0, none⟩ = some (.int .i64 0) := blk_cell k2 0
    have q4 : w1.cell? ⟨w.heap.size + 2, 1, none⟩ = some (.slice none 0 0) := blk_cell k2 1
    have q5 : w1.frozen? ⟨w.heap.size + 2, 0, none⟩ = false := blk_frozen k2 0
    have q6 : w1.frozen? ⟨w.heap.size + 2, 1, none⟩ = false := blk_frozen k2 1
    have K1 := Lib.hid k1
    have K2 := Lib.hid k2
    have K3 := Lib.hid k3
    clear k1 k2 k3
    have HK1 : Hid (w1.heap[w.heap.size]? = some (.cells #[.int .i64 N, .slice a A.length cap] 46 (0, 0))) := by rw [← HN.out]; exact K1.out
    go_upto_region 6 with fail
    clear q0 q1 q3 q4 q5 q6
    -- REGION
    refine wp_region_inv (by kernel_rfl) (hord_of (by kernel_rfl)) (fun done ac W => ∃ (g25 g30 : Nat) (v28 v31 : Value), ac = { tmps := #[.agg #[.int .i64 N, .slice a n cap], .int .u32 f, .agg #[.int .i64 ad.seg, .int .u64 ad.gen, .int .i64 ad.sec], (.pointer (some ⟨w.heap.size, 0, none⟩)), undef, .pointer (some ⟨w.heap.size + 1, 0, none⟩), .pointer (some ⟨w.heap.size + 1 + 1, 0, none⟩), .int .i64 0, (.pointer (some ⟨w.heap.size + 1 + 1 + 1, 0, none⟩)), .int .u32 f, .agg #[.int .i64 ad.seg, .int .u64 ad.gen, .int .i64 ad.sec], .agg #[.int .u32 f, .int .i64 ad.seg, .int .u64 ad.gen, .int .i64 ad.sec], .bool false, .agg #[.int .i64 N, .slice a n cap], .agg #[.int .u32 f, .int .i64 ad.seg, .int .u64 ad.gen, .int .i64 ad.sec], .bool false, undef, .bool false, .pointer (some ⟨w.heap.size, 1, none⟩), .slice a n cap, .int .i64 n, .pointer (some ⟨w.heap.size, 0, none⟩), .int .i64 N, .bool false, undef, if done 0 then (.slice (some ⟨g25, 0, none⟩) 0 0) else undef, if done 1 then (.pointer (some ⟨w.heap.size, 1, none⟩)) else undef, if done 2 then (.slice a n cap) else undef, if done 3 then v28 else undef, if done 4 then (.agg #[.int .u32 f, .int .i64 ad.seg, .int .u64 ad.gen, .int .i64 ad.sec]) else undef, if done 5 then (.slice (some ⟨g30, 0, none⟩) 1 1) else undef, if done 6 then v31 else undef, if done 7 then (.pointer (some ⟨w.heap.size, 1, none⟩)) else undef, undef], defers := [] } ∧ AddI w N (.slice a A.length cap) A (f, ad) done g25 g30 v28 v31 W) ?_ ?_ ?_
    · exact ⟨0, 0, undef, undef, by simp, ⟨HBW.out.drew, HK1.out, K2.out, K3.out, (fun h => by cases h), (fun h => by cases h), (fun h => by cases h), (fun h => by cases h)⟩⟩
    · intro done ac W j o ho hd hdep hcl ⟨g25, g30, v28, v31, hlit, hI⟩
      have hj : j < 9 := (Array.getElem?_eq_some_iff.1 ho).1
      have hb30 := blk_cell hI.b3 0
      have hb31 := blk_cell hI.b3 1
      have hb32 := blk_cell hI.b3 2
      have hb33 := blk_cell hI.b3 3
      simp only [List.getElem?_toArray, List.getElem?_cons_zero, List.getElem?_cons_succ] at hb30 hb31 hb32 hb33
      subst hlit
      obtain rfl | rfl | rfl | rfl | rfl | rfl | rfl | rfl | rfl : j = 0 ∨ j = 1 ∨ j = 2 ∨ j = 3 ∨ j = 4 ∨ j = 5 ∨ j = 6 ∨ j = 7 ∨ j = 8 := by omega
      · have q3 : done 3 = false := by
          cases h : done 3 with
          | false => rfl
          | true =>
            have h0 := hcl 3 _ rfl h ⟨0, .data⟩ (by simp) rfl
            rw [hd] at h0; cases h0
        refine wpOp_val ho (by cases ho; rfl) (w' := W.alloc (.cells #[] 52)) (v := .slice (some ⟨W.heap.size, 0, none⟩) 0 0) (by cases ho; simp [execOp, go_sem]) ?_
        cases ho
        exact ⟨W.heap.size, g30, v28, v31, by simp [Act.put, q3], hI.step0 q3⟩
      · refine wpOp_val ho (by cases ho; rfl) (w' := W) (v := (.pointer (some ⟨w.heap.size, 1, none⟩))) (by cases ho; simp [execOp, go_sem]) ?_
        cases ho
        exact ⟨g25, g30, v28, v31, by simp [Act.put], hI.quiet 1 (by decide)⟩
      · have p1 : done 1 = true := by cases ho; exact hdep ⟨1, .data⟩ (by simp) rfl
        have q8 : done 8 = false := by
          cases h : done 8 with
          | false => rfl
          | true =>
            have h0 := hcl 8 _ rfl h ⟨6, .data⟩ (by simp) rfl
            have h1 := hcl 6 _ rfl h0 ⟨3, .data⟩ (by simp) rfl
            have h2 := hcl 3 _ rfl h1 ⟨2, .data⟩ (by simp) rfl
            rw [hd] at h2; cases h2
        have q27 : W.cell? ⟨w.heap.size, 1, none⟩ = some (.slice a n cap) := by
          have h1 := blk_cell hI.b1 1
          rw [q8] at h1
          rw [HN.out]; simpa using h1
        refine wpOp_val ho (by cases ho; rfl) (w' := W) (v := .slice a n cap) (by cases ho; simp [execOp, go_sem, p1, q27]) ?_
        cases ho
        exact ⟨g25, g30, v28, v31, by simp [Act.put], hI.quiet 2 (by decide)⟩
      · have p0 : done 0 = true := by cases ho; exact hdep ⟨0, .data⟩ (by simp) rfl
        have p2 : done 2 = true := by cases ho; exact hdep ⟨2, .data⟩ (by simp) rfl
        have q6 : done 6 = false := by
          cases h : done 6 with
          | false => rfl
          | true =>
            have h0 := hcl 6 _ rfl h ⟨3, .data⟩ (by simp) rfl
            rw [hd] at h0; cases h0
        obtain ⟨v, W', hrun, hI'⟩ := hI.step3 HH.out HA.out hd p0 q6
        rw [← HN.out] at hrun
        refine wpOp_append ho (by cases ho; rfl) (.tmp 25) (.tmp 27) 44 (by cases ho; rfl) (by simp [Act.eval, p0, p2]; rfl) (by simp [Act.eval, p0, p2]; rfl) (by cases ho; exact hrun) ?_
        cases ho
        exact ⟨g25, g30, v, v31, by simp [Act.put, q6], hI'⟩
      · refine wpOp_val ho (by cases ho; rfl) (w' := W) (v := (.agg #[.int .u32 f, .int .i64 ad.seg, .int .u64 ad.gen, .int .i64 ad.sec])) (by cases ho; simp [execOp, go_sem, hb30, hb31, hb32, hb33]) ?_
        cases ho
        exact ⟨g25, g30, v28, v31, by simp [Act.put], hI.quiet 4 (by decide)⟩
      · have p4 : done 4 = true := by cases ho; exact hdep ⟨4, .data⟩ (by simp) rfl
        have q6 : done 6 = false := by
          cases h : done 6 with
          | false => rfl
          | true =>
            have h0 := hcl 6 _ rfl h ⟨5, .data⟩ (by simp) rfl
            rw [hd] at h0; cases h0
        refine wpOp_val ho (by cases ho; rfl) (w' := W.alloc (.cells #[.int .u32 f, .int .i64 ad.seg, .int .u64 ad.gen, .int .i64 ad.sec] 52)) (v := .slice (some ⟨W.heap.size, 0, none⟩) 1 1) (by cases ho; simp [execOp, go_sem, p4]) ?_
        cases ho
        exact ⟨g25, W.heap.size, v28, v31, by simp [Act.put, q6], hI.step5 q6⟩
      · have p3 : done 3 = true := by cases ho; exact hdep ⟨3, .data⟩ (by simp) rfl
        have p5 : done 5 = true := by cases ho; exact hdep ⟨5, .data⟩ (by simp) rfl
        have q8 : done 8 = false := by
          cases h : done 8 with
          | false => rfl
          | true =>
            have h0 := hcl 8 _ rfl h ⟨6, .data⟩ (by simp) rfl
            rw [hd] at h0; cases h0
        obtain ⟨v, W', hrun, hI'⟩ := hI.step6 HA.out hd p3 p5 q8
        refine wpOp_append ho (by cases ho; rfl) (.tmp 28) (.tmp 30) 44 (by cases ho; rfl) (by simp [Act.eval, p3, p5]; rfl) (by simp [Act.eval, p3, p5]; rfl) (by cases ho; exact hrun) ?_
        cases ho
        exact ⟨g25, g30, v28, v, by simp [Act.put], hI'⟩
      · refine wpOp_val ho (by cases ho; rfl) (w' := W) (v := (.pointer (some ⟨w.heap.size, 1, none⟩))) (by cases ho; simp [execOp, go_sem]) ?_
        cases ho
        exact ⟨g25, g30, v28, v31, by simp [Act.put], hI.quiet 7 (by decide)⟩
      · have p6 : done 6 = true := by cases ho; exact hdep ⟨6, .data⟩ (by simp) rfl
        have p7 : done 7 = true := by cases ho; exact hdep ⟨7, .data⟩ (by simp) rfl
        have hc : ∃ u, W.cell? ⟨w.heap.size, 1, none⟩ = some u := ⟨_, by simp [World.cell?, hI.b1]; rfl⟩
        obtain ⟨u, hc⟩ := hc
        have hfz : W.frozen? ⟨w.heap.size, 1, none⟩ = false := blk_frozen hI.b1 1
        obtain ⟨a1, cap1, hv1, _⟩ := own_form (hI.s31 p6)
        subst hv1
        refine wpOp_skip ho (by cases ho; rfl) (w' := W.setCell ⟨w.heap.size, 1, none⟩ (.slice a1 (A.length + 1) cap1)) (by cases ho; simp [execOp, go_sem, p6, p7, stored, hc, hfz]) ?_
        cases ho
        exact ⟨g25, g30, v28, .slice a1 (A.length + 1) cap1, by simp [Act.put], hI.step8 p6⟩
    · rintro done ac W hall ⟨g25, g30, v28, v31, rfl, hI⟩
      have hl := hall
      clear hall
      have e0 := hl 0 (by decide)
      have e1 := hl 1 (by decide)
      have e2 := hl 2 (by decide)
      have e3 := hl 3 (by decide)
      have e4 := hl 4 (by decide)
      have e5 := hl 5 (by decide)
      have e6 := hl 6 (by decide)
      have e7 := hl 7 (by decide)
      have e8 := hl 8 (by decide)
      have hown := hI.s31 e6
      have hbel := hI.bel
      have k1 := hI.b1
      have k2 := hI.b2
      rw [e8] at k1
      simp only [if_true] at k1
      simp only [e0, e1, e2, e3, e4, e5, e6, e7, if_true]
      clear e0 e1 e2 e3 e4 e5 e6 e7 e8 hl hI
      obtain ⟨a6, cap6, rfl, hm6⟩ := own_form hown
      have q0 : W.cell? ⟨w.heap.size, 0, none⟩ = some (.int .i64 N) := blk_cell k1 0
      have q1 : W.cell? ⟨w.heap.size, 1, none⟩ = some (.slice a6 (A.length + 1) cap6) := blk_cell k1 1
      have q3 : W.cell? ⟨w.heap.size + 2, 0, none⟩ = some (.int .i64 0) := blk_cell k2 0
      have q4 : W.cell? ⟨w.heap.size + 2, 1, none⟩ = some (.slice none 0 0) := blk_cell k2 1
      have q5 : W.frozen? ⟨w.heap.size + 2, 0, none⟩ = false := blk_frozen k2 0
      have q6 : W.frozen? ⟨w.heap.size + 2, 1, none⟩ = false := blk_frozen k2 1
      have HO := Lib.hid hown
      have HBL := Lib.hid hbel
      have HK2 := Lib.hid k2
      clear k1 k2 hown hbel
      go_wp2_with fail
      obtain ⟨r0, r1⟩ := res_cells (b' := 0) (v0 := .int .i64 N) (v1 := .slice a6 (A.length + 1) cap6) HK2.out
      refine bodyPost_ret (v := .tuple #[.agg #[.int .i64 N, .slice a6 (A.length + 1) cap6], .int .i64 0]) (by simp [results, Try.f26, go_sem, r0, r1]) rfl ⟨.slice a6 (A.length + 1) cap6, by rw [HR.out], ?_, .inr (fun b hb => by have := (HO.out.lt b hb).1; omega), ?_⟩
      · rw [HR.out]
        refine entAt_of_own (base := w.heap.size + 4) (e := 52) ?_
        rw [List.length_append]
        exact own_set (own_set HO.out (by simp) _) (by simp) _
      · exact (HBL.out.setCell (by simp; omega) _).setCell (by simp; omega) _
    -- END
end Go.Proofs.Ytccgdfamjohmgaa
