/- The document's index: Remove, Drop, Add. Conditions: at most 1024 entries. -/
import Derived.Test.YtccgdfamjohmgaaRefF
import Derived.Laws.ResultCell
set_option linter.unusedVariables false
namespace Go.Proofs.Ytccgdfamjohmgaa
open Go.RowKit Go.Ice

theorem elemEnt : Elem Try.prog 44 52 4 32 (.agg #[.int .u32 0, .int .i64 0, .int .u64 0, .int .i64 0]) :=
  ⟨Try.underlying44, by
    obtain ⟨i0, hi, hz0, hz1, hz2⟩ := info_parts (show (Try.prog.info? 52).map (fun i => (i.zero, i.size, i.bytes)) = some (some (.agg #[.int .u32 0, .int .i64 0, .int .u64 0, .int .i64 0]), 4, 32) by kernel_rfl)
    exact ⟨i0, hi, hz0, hz1, hz2⟩, rfl, by decide⟩

/-- A block of cells that was made. -/
theorem blk_cell {w : World} {b : Nat} {cs : Array Value} {e : TypeId} (h : w.heap[b]? = some (.cells cs e (0, 0))) (r : Nat) : w.cell? ⟨b, r, none⟩ = cs[r]? := by simp [World.cell?, h]
theorem blk_frozen {w : World} {b : Nat} {cs : Array Value} {e : TypeId} (h : w.heap[b]? = some (.cells cs e (0, 0))) (r : Nat) : w.frozen? ⟨b, r, none⟩ = false := by simp [World.frozen?, h]
theorem blk_below {w w' : World} {b n : Nat} {o : Obj} (h : w.heap[b]? = some o) (hb : Below n w w') (hn : b < n) : w'.heap[b]? = some o := (hb.block b hn).trans h

/-- The block of a result of two cells, written over; another block too. -/
theorem res_cells {w : World} {b b' : Nat} {c0 c1 v0 v1 : Value} {e : TypeId} (h : w.heap[b]? = some (.cells #[c0, c1] e (0, 0))) :
    ((w.setCell ⟨b, 0, none⟩ v0).setCell ⟨b, 1, none⟩ v1).cell? ⟨b, 0, none⟩ = some v0 ∧ ((w.setCell ⟨b, 0, none⟩ v0).setCell ⟨b, 1, none⟩ v1).cell? ⟨b, 1, none⟩ = some v1 := by
  simp [World.cell?, World.setCell, Array.getElem?_modify, h]
theorem blk_set {w : World} {b : Nat} {o : Obj} (h : w.heap[b]? = some o) {p : Addr} (hp : b ≠ p.block) (u : Value) : (w.setCell p u).heap[b]? = some o := (Below.heap_setCell w p u b hp).trans h

/-- What a function of the document's index hands back: the index, an error's number. -/
def RefPost (w : World) (s : Int) (v0 : Value) (A : List (Nat × Adr)) (n : Int) (e : Ending) (w' : World) : Prop := ∃ v, e = .returned (.tuple #[.agg #[.int .i64 s, v], .int .i64 n]) ∧ EntAt w' v A ∧ (v = v0 ∨ ∀ b, v.ownBlock = some b → w.heap.size ≤ b) ∧ Below w.heap.size w w'

/-- One entry more at the end of a row. -/
theorem app_ent (wr : World) {base : Nat} {v : Value} {ds : List (Nat × Adr)} (x : Nat × Adr) (hown : wr.ownsRow base 52 4 v ds.length (entCells ds)) (hn : ds.length ≤ 2048) (hb : base ≤ wr.heap.size) :
    ∃ v' w2, (Builtin.append_ #[44, 44] 44 #[v, .slice (some ⟨wr.heap.size, 0, none⟩) 1 1]).run Try.prog (wr.alloc (.cells #[.int .u32 x.1, .int .i64 x.2.seg, .int .u64 x.2.gen, .int .i64 x.2.sec] 52)) = .ok v' w2 ∧
      w2.ownsRow base 52 4 v' (ds ++ [x]).length (entCells (ds ++ [x])) ∧ ∀ {w0 : World} {n : Nat}, Below n w0 wr → n ≤ base → n ≤ w0.heap.size → Below n w0 w2 := by
  obtain ⟨i0, hi0, hz0, hz1, hz2⟩ := elemEnt.hi
  obtain ⟨v', w2, hrun, hown2, hg2, _⟩ := run_append_own (P := Try.prog) (wr.alloc (.cells #[.int .u32 x.1, .int .i64 x.2.seg, .int .u64 x.2.gen, .int .i64 x.2.sec] 52)) base 44 44 52 i0 _ 4 32 Try.underlying44 hi0 hz0 hz1 hz2 rfl (by decide) _ ds.length (entCells ds) (hown.alloc _)
    ⟨wr.heap.size, 0, none⟩ 1 1 [.int .u32 x.1, .int .i64 x.2.seg, .int .u64 x.2.gen, .int .i64 x.2.sec] rfl (fun j u hu => by
      rw [show (⟨wr.heap.size, 0, none⟩ : Addr).add j = ⟨wr.heap.size, j, none⟩ from by rw [Addr.add_lit, Nat.zero_add], World.cell?_alloc_mark]; simpa using hu) (by
      intro u hu
      simp only [List.mem_cons, List.mem_nil_iff, or_false] at hu
      rcases hu with rfl | rfl | rfl | rfl <;> rfl) (by unfold maxLen; omega) (by omega) (by simp; omega)
  refine ⟨v', w2, hrun, by rw [entCells_snoc, List.length_append]; exact hown2, fun {w0 n} hB hn0 hn1 => ?_⟩
  exact (hB.alloc (Nat.le_trans hn1 hB.size) _).grown hg2 (by have := hB.size; simp; omega) (fun q hq => by have := (hown.lt q hq).1; omega)

theorem take_snocA (A : List (Nat × Adr)) (i : Nat) (h : i < A.length) : A.take (i + 1) = A.take i ++ [A.getD i default] := by
  rw [List.take_succ_eq_append_getElem h, List.getD_eq_getElem?_getD, List.getElem?_eq_getElem h]; rfl
theorem filter_take_succ (A : List (Nat × Adr)) (p : Nat × Adr → Bool) (i : Nat) (h : i < A.length) : (A.take (i + 1)).filter p = (A.take i).filter p ++ (if p (A.getD i default) then [A.getD i default] else []) := by
  rw [take_snocA A i h, List.filter_append]
  congr 1
  cases hp : p (A.getD i default)
  · rw [List.filter_cons_of_neg (by rw [hp]; simp)]; rfl
  · rw [List.filter_cons_of_pos hp]; rfl


theorem own_set {w : World} {base e size n : Nat} {v : Value} {xs : List Value} (h : w.ownsRow base e size v n xs) {p : Addr} (hp : p.block < base) (u : Value) : (w.setCell p u).ownsRow base e size v n xs :=
  h.kept (row := some p.block) ⟨rfl, rfl, rfl, by simp [World.setCell], fun k _ hne => Below.heap_setCell _ _ _ _ (fun e => hne (by rw [e]))⟩ (by
    cases hv : v.ownBlock with
    | none => exact .inl rfl
    | some g => right; intro e; have := (h.lt g hv).1; injection e with e; omega)
theorem own_form {w : World} {base e size n : Nat} {v : Value} {xs : List Value} (h : w.ownsRow base e size v n xs) : ∃ a cap, v = .slice a n cap ∧ n ≤ maxLen := by
  rcases h.2 with ⟨rfl, rfl⟩ | ⟨g', cap, cur, rfl, _, _, h1, h2, _⟩
  · exact ⟨_, _, rfl, by decide⟩
  · exact ⟨_, _, rfl, by omega⟩

set_option maxRecDepth 100000 in
set_option maxHeartbeats 4000000 in
theorem drop_ref (w : World) (s : Int) (v : Value) (A : List (Nat × Adr)) (g : Int) (h : EntAt w v A) (hA : A.length ≤ 1024) :
    Calls Try.prog 28 #[.agg #[.int .i64 s, v], .int .u64 g] w (RefPost w s v (A.filter (keepA g)) ((A.length - (A.filter (keepA g)).length : Nat) : Int)) := by
  obtain ⟨a, cap, rfl, hm⟩ := RowAt.form h
  obtain ⟨W0, hW0⟩ : ∃ W0, W0 = (w.alloc (.cells #[.int .i64 s, .slice a A.length cap] 46)).alloc (.cells #[.int .i64 0, .slice none 0 0] 46) := ⟨_, rfl⟩
  have hB0 : Below w.heap.size w W0 := by rw [hW0]; exact ((Below.refl _ w).alloc (Nat.le_refl _) _).alloc (by simp) _
  have hsz : W0.heap.size = w.heap.size + 2 := by rw [hW0]; simp
  have hb1 : W0.heap[w.heap.size]? = some (.cells #[.int .i64 s, .slice a A.length cap] 46 (0, 0)) := by rw [hW0, Below.heap_alloc _ _ _ (by simp)]; exact heap_alloc_new w _
  have hb2 : W0.heap[w.heap.size + 1]? = some (.cells #[.int .i64 0, .slice none 0 0] 46 (0, 0)) := by
    have := heap_alloc_new (w.alloc (.cells #[.int .i64 s, .slice a A.length cap] 46)) (.cells #[.int .i64 0, .slice none 0 0] 46)
    rw [World.size_alloc] at this
    rw [hW0]; exact this
  have hlen : (A.filter (keepA g)).length ≤ A.length := List.length_filter_le _ _
  have HH := Lib.hid h
  have HB := Lib.hid hB0
  have HW := Lib.hid hW0.symm
  have HSZ := Lib.hid hsz
  have HB1 := Lib.hid hb1
  have HB2 := Lib.hid hb2
  clear hW0 hsz h hB0 hb1 hb2
  obtain ⟨n, hn⟩ : ∃ n, n = A.length := ⟨_, rfl⟩
  rw [← hn] at hm HW HB1 hA hlen
  have HN := Lib.hid hn
  have HP : Hid (∀ e w', RefPost w s (.slice a n cap) (A.filter (keepA g)) ((n - (A.filter (keepA g)).length : Nat) : Int) e w' → RefPost w s (.slice a A.length cap) (A.filter (keepA g)) ((A.length - (A.filter (keepA g)).length : Nat) : Int) e w') := fun e w' h => by rw [hn] at h; exact h
  clear hn hm
  refine Calls.mono ?_ HP.out
  rw [← HN.out]
  go_enter Try.func28, Try.ntmps28
  go_wp2_with fail
  rw [HW.out]
  have q : W0.cell? ⟨w.heap.size, 1, none⟩ = some (.slice a n cap) := blk_cell HB1.out 1
  go_wp2_with fail
  go_loopg [6, 8, 13] n (fun g6 ov pv iv wr => ∃ i : Nat, g6 = n - i ∧ i ≤ n ∧ iv = .int .i64 i ∧ Hid (Below W0.heap.size W0 wr) ∧ wr.ownsRow (w.heap.size + 2) 52 4 ov ((A.take i).filter (keepA g)).length (entCells ((A.take i).filter (keepA g))))
  case atStart => exact ⟨0, rfl, by omega, rfl, Below.refl _ _, World.ownsRow_nil _ _ _ _⟩
  case round =>
    clear q
    obtain ⟨i, rfl, hi, rfl, HBr, hown⟩ := hrel
    have hsz' : w.heap.size + 2 ≤ wr.heap.size := by have := HBr.out.size; rw [HSZ.out] at this; exact this
    have HBW : Hid (Below w.heap.size w wr) := HB.out.trans (HBr.out.mono HB.out.size)
    by_cases hlt : i < n
    · have hjA : i < A.length := by rw [← HN.out]; omega
      obtain ⟨b, off, cap', hsl, g1, g2, g3, hc⟩ := HH.out.at (by omega)
      obtain ⟨rfl, rfl⟩ : a = some ⟨b, off, none⟩ ∧ cap = cap' := by cases hsl; exact ⟨rfl, rfl⟩
      obtain ⟨c0, c1, c2, c3⟩ := hc i hjA wr HBW.out
      have hfd := filter_take_succ A (keepA g) i hjA
      have hln : ((A.take i).filter (keepA g)).length ≤ 1024 := by have := List.length_filter_le (keepA g) (A.take i); rw [List.length_take] at this; omega
      clear hc hsl
      obtain ⟨x, hx⟩ : ∃ x, x = A.getD i default := ⟨_, rfl⟩
      rw [← hx] at c0 c1 c2 c3 hfd
      clear hx
      by_cases hk : x.2.gen = g
      · have hne : (x.2.gen != g) = false := by simp [hk]
        rw [show keepA g x = false from by simp [keepA, hk]] at hfd
        simp only [Bool.false_eq_true, if_false, List.append_nil] at hfd
        have HFD := Lib.hid hfd
        have HO := Lib.hid (hown.alloc (.cells #[.int .u32 x.1, .int .i64 x.2.seg, .int .u64 x.2.gen, .int .i64 x.2.sec] 52))
        have HB3 := Lib.hid (HBr.out.alloc HBr.out.size (.cells #[.int .u32 x.1, .int .i64 x.2.seg, .int .u64 x.2.gen, .int .i64 x.2.sec] 52))
        clear hfd hown hk
        go_wp2_with fail
        go_roundg (n - (i + 1))
        case measure => omega
        case rel => exact ⟨i + 1, rfl, by omega, by go_num, HB3.out, by rw [HFD.out]; exact HO.out⟩
      · have hne : (x.2.gen != g) = true := by simp [hk]
        rw [show keepA g x = true from by simp [keepA, hk]] at hfd
        simp only [if_true] at hfd
        have HFD := Lib.hid hfd
        obtain ⟨v', w2, hrun, hown2, hbel⟩ := app_ent (wr.alloc (.cells #[.int .u32 x.1, .int .i64 x.2.seg, .int .u64 x.2.gen, .int .i64 x.2.sec] 52)) x (hown.alloc _) (by omega) (by simp; omega)
        have HB3 := Lib.hid (hbel (HBr.out.alloc HBr.out.size _) (by rw [HSZ.out]; exact Nat.le_refl _) (Nat.le_refl _))
        have HRUN := Lib.hid hrun
        rw [← HFD.out] at hown2
        have HO2 := Lib.hid hown2
        clear hfd hown hk hrun hown2 hbel
        rw [World.size_alloc] at HRUN
        go_wp2_with (at_builtin; refine wpList_append_eq rfl _ _ 44 rfl rfl rfl HRUN.out ?_)
        go_roundg (n - (i + 1))
        case measure => omega
        case rel => exact ⟨i + 1, rfl, by omega, by go_num, HB3.out, HO2.out⟩
    · obtain rfl : i = n := by omega
      rw [show A.take i = A from by rw [HN.out, List.take_length]] at hown
      obtain ⟨a6, cap6, rfl, hm6⟩ := own_form hown
      have k1 := blk_below HB1.out HBr.out (by rw [HSZ.out]; omega)
      have k2 := blk_below HB2.out HBr.out (by rw [HSZ.out]; omega)
      have q0 : wr.cell? ⟨w.heap.size, 0, none⟩ = some (.int .i64 s) := blk_cell k1 0
      have q1 : wr.cell? ⟨w.heap.size, 1, none⟩ = some (.slice a i cap) := blk_cell k1 1
      have q2 : wr.frozen? ⟨w.heap.size, 1, none⟩ = false := blk_frozen k1 1
      have q3 : wr.cell? ⟨w.heap.size + 1, 0, none⟩ = some (.int .i64 0) := blk_cell k2 0
      have q4 : wr.cell? ⟨w.heap.size + 1, 1, none⟩ = some (.slice none 0 0) := blk_cell k2 1
      have q5 : wr.frozen? ⟨w.heap.size + 1, 0, none⟩ = false := blk_frozen k2 0
      have q6 : wr.frozen? ⟨w.heap.size + 1, 1, none⟩ = false := blk_frozen k2 1
      have HO := Lib.hid hown
      have HK2 := Lib.hid k2
      have hsub : ((i : Int) - ((A.filter (keepA g)).length : Int)) = ((i - (A.filter (keepA g)).length : Nat) : Int) := by omega
      have HSUB := Lib.hid hsub
      clear hown k1 k2 hsub
      generalize hk6 : (A.filter (keepA g)).length = k6 at *
      have HK6 := Lib.hid hk6
      clear hk6
      go_wp2_with fail
      obtain ⟨r0, r1⟩ := res_cells (b' := 0) (v0 := .int .i64 s) (v1 := .slice a6 k6 cap6) (blk_set HK2.out (p := ⟨w.heap.size, 1, none⟩) (by simp) (.slice a6 k6 cap6))
      refine bodyPost_ret (v := .tuple #[.agg #[.int .i64 s, .slice a6 k6 cap6], .int .i64 ((i : Int) - (k6 : Int))]) (by simp [results, Try.f28, go_sem, r0, r1]) rfl ⟨_, by rw [HSUB.out], ?_, .inr (fun b hb => by have := (HO.out.lt b hb).1; omega), ?_⟩
      · refine entAt_of_own (base := w.heap.size + 2) (e := 52) ?_
        rw [HK6.out]
        exact own_set (own_set (own_set HO.out (by simp) _) (by simp) _) (by simp) _
      · exact ((HBW.out.setCell (by simp) _).setCell (by simp) _).setCell (by simp) _

/-- The four blocks that Remove and Add make first. -/
theorem four (w : World) (s : Int) (v : Value) (f : Nat) (a : Adr) : ∃ W0, W0 = (((w.alloc (.cells #[.int .i64 s, v] 46)).alloc (.cells #[.int .i64 a.seg, .int .u64 a.gen, .int .i64 a.sec] 32)).alloc (.cells #[.int .i64 0, .slice none 0 0] 46)).alloc (.cells #[.int .u32 f, .int .i64 a.seg, .int .u64 a.gen, .int .i64 a.sec] 52) ∧
    Below w.heap.size w W0 ∧ W0.heap.size = w.heap.size + 4 ∧ W0.heap[w.heap.size]? = some (.cells #[.int .i64 s, v] 46 (0, 0)) ∧ W0.heap[w.heap.size + 2]? = some (.cells #[.int .i64 0, .slice none 0 0] 46 (0, 0)) ∧
      W0.heap[w.heap.size + 3]? = some (.cells #[.int .u32 f, .int .i64 a.seg, .int .u64 a.gen, .int .i64 a.sec] 52 (0, 0)) := by
  refine ⟨_, rfl, ?_, ?_, ?_, ?_, ?_⟩
  · exact ((((Below.refl _ w).alloc (Nat.le_refl _) _).alloc (by simp) _).alloc (by simp; omega) _).alloc (by simp; omega) _
  · simp
  · rw [Below.heap_alloc _ _ _ (by simp; omega), Below.heap_alloc _ _ _ (by simp; omega), Below.heap_alloc _ _ _ (by simp)]; exact heap_alloc_new w _
  · rw [Below.heap_alloc _ _ _ (by simp)]
    have := heap_alloc_new ((w.alloc (.cells #[.int .i64 s, v] 46)).alloc (.cells #[.int .i64 a.seg, .int .u64 a.gen, .int .i64 a.sec] 32)) (.cells #[.int .i64 0, .slice none 0 0] 46)
    rw [World.size_alloc, World.size_alloc] at this
    exact this
  · have := heap_alloc_new (((w.alloc (.cells #[.int .i64 s, v] 46)).alloc (.cells #[.int .i64 a.seg, .int .u64 a.gen, .int .i64 a.sec] 32)).alloc (.cells #[.int .i64 0, .slice none 0 0] 46)) (.cells #[.int .u32 f, .int .i64 a.seg, .int .u64 a.gen, .int .i64 a.sec] 52)
    rw [World.size_alloc, World.size_alloc, World.size_alloc] at this
    exact this

def neA (e : Nat × Adr) (x : Nat × Adr) : Bool := !decide (x = e)

set_option maxRecDepth 100000 in
set_option maxHeartbeats 8000000 in
theorem remove_ref (w : World) (s : Int) (v : Value) (A : List (Nat × Adr)) (f : Nat) (ad : Adr) (h : EntAt w v A) (hA : A.length ≤ 1024) :
    Calls Try.prog 27 #[.agg #[.int .i64 s, v], .int .u32 f, adrV ad] w (RefPost w s v (remA A f ad).2 (if (f, ad) ∈ A then 0 else 4)) := by
  obtain ⟨a, cap, rfl, hm⟩ := RowAt.form h
  obtain ⟨W0, hW0, hB0, hsz, hb1, hb2, hb3⟩ := four w s (.slice a A.length cap) f ad
  have hHS := fun (W : World) (hW : Below w.heap.size w W) => has_ref W s (.slice a A.length cap) A (f, ad) (h.below hW (Nat.le_refl _))
  have HHS := Lib.hid hHS
  have HH := Lib.hid h
  have HB := Lib.hid hB0
  have HW := Lib.hid hW0.symm
  have HSZ := Lib.hid hsz
  have HB1 := Lib.hid hb1
  have HB2 := Lib.hid hb2
  have HB3 := Lib.hid hb3
  clear hW0 hsz h hB0 hb1 hb2 hb3 hHS
  have q0 : W0.cell? ⟨w.heap.size, 0, none⟩ = some (.int .i64 s) := blk_cell HB1.out 0
  have q1 : W0.cell? ⟨w.heap.size, 1, none⟩ = some (.slice a A.length cap) := blk_cell HB1.out 1
  have q2 : W0.cell? ⟨w.heap.size + 3, 0, none⟩ = some (.int .u32 f) := blk_cell HB3.out 0
  have q3 : W0.cell? ⟨w.heap.size + 3, 1, none⟩ = some (.int .i64 ad.seg) := blk_cell HB3.out 1
  have q4 : W0.cell? ⟨w.heap.size + 3, 2, none⟩ = some (.int .u64 ad.gen) := blk_cell HB3.out 2
  have q5 : W0.cell? ⟨w.heap.size + 3, 3, none⟩ = some (.int .i64 ad.sec) := blk_cell HB3.out 3
  unfold adrV
  by_cases hmem : (f, ad) ∈ A
  · rw [if_pos hmem]
    have HR : Hid ((remA A f ad).2 = A.filter (neA (f, ad))) := by show _ = _; unfold remA; rw [if_pos hmem]; rfl
    have hD : decide ((f, ad) ∈ A) = true := decide_eq_true hmem
    rw [hD] at HHS
    clear hmem hD
    obtain ⟨n, hn⟩ : ∃ n, n = A.length := ⟨_, rfl⟩
    rw [← hn] at hm HW HB1 hA q1 HHS
    have HN := Lib.hid hn
    clear hn hm
    rw [← HN.out]
    go_enter Try.func27, Try.ntmps27
    go_upto_region 2 with fail
    rw [HW.out]
    go_wp2_with fail
    refine (HHS.out _ HB.out).mono ?_
    rintro e w1 ⟨rfl, hb⟩
    have q : w1.cell? ⟨w.heap.size, 1, none⟩ = some (.slice a n cap) := (hb.cell (p := ⟨w.heap.size, 1, none⟩) (by rw [HSZ.out]; simp)).trans q1
    have HBR := Lib.hid hb
    clear hb q0 q1 q2 q3 q4 q5
    go_wp2_with fail
    clear q
    go_loopg [9, 11, 23] n (fun g6 ov pv iv wr => ∃ i : Nat, g6 = n - i ∧ i ≤ n ∧ iv = .int .i64 i ∧ Hid (Below W0.heap.size W0 wr) ∧ wr.ownsRow (w.heap.size + 4) 52 4 ov ((A.take i).filter (neA (f, ad))).length (entCells ((A.take i).filter (neA (f, ad)))))
    case atStart => exact ⟨0, rfl, by omega, rfl, HBR.out, World.ownsRow_nil _ _ _ _⟩
    case round =>
      clear HBR
      obtain ⟨i, rfl, hi, rfl, HBr, hown⟩ := hrel
      have hsz' : w.heap.size + 4 ≤ wr.heap.size := by have := HBr.out.size; rw [HSZ.out] at this; exact this
      have HBW : Hid (Below w.heap.size w wr) := HB.out.trans (HBr.out.mono HB.out.size)
      by_cases hlt : i < n
      · have hjA : i < A.length := by rw [← HN.out]; omega
        obtain ⟨b, off, cap', hsl, g1, g2, g3, hc⟩ := HH.out.at (by omega)
        obtain ⟨rfl, rfl⟩ : a = some ⟨b, off, none⟩ ∧ cap = cap' := by cases hsl; exact ⟨rfl, rfl⟩
        obtain ⟨c0, c1, c2, c3⟩ := hc i hjA wr HBW.out
        have hfd := filter_take_succ A (neA (f, ad)) i hjA
        have hln : ((A.take i).filter (neA (f, ad))).length ≤ 1024 := by have := List.length_filter_le (neA (f, ad)) (A.take i); rw [List.length_take] at this; omega
        clear hc hsl
        obtain ⟨x, hx⟩ : ∃ x, x = A.getD i default := ⟨_, rfl⟩
        rw [← hx] at c0 c1 c2 c3 hfd
        clear hx
        have HB3' := Lib.hid (HBr.out.alloc HBr.out.size (.cells #[.int .u32 x.1, .int .i64 x.2.seg, .int .u64 x.2.gen, .int .i64 x.2.sec] 52))
        have k3 := blk_below HB3.out HB3'.out (by rw [HSZ.out]; omega)
        have q2 := blk_cell k3 0
        have q3 := blk_cell k3 1
        have q4 := blk_cell k3 2
        have q5 := blk_cell k3 3
        simp only [List.getElem?_toArray, List.getElem?_cons_zero, List.getElem?_cons_succ] at q2 q3 q4 q5
        clear k3
        rcases entTest x (f, ad) with ⟨he, t1, h⟩ | ⟨he, h⟩
        · rcases h with ⟨_, t2, t3, t4⟩ | ⟨h, _⟩
          · rw [show neA (f, ad) x = false from by unfold neA; rw [he]; rfl] at hfd
            simp only [Bool.false_eq_true, if_false, List.append_nil] at hfd
            have HFD := Lib.hid hfd
            have HO := Lib.hid (hown.alloc (.cells #[.int .u32 x.1, .int .i64 x.2.seg, .int .u64 x.2.gen, .int .i64 x.2.sec] 52))
            simp only at t1 t2 t3 t4
            clear hfd hown he
            go_wp2_with fail
            go_roundg (n - (i + 1))
            case measure => omega
            case rel => exact ⟨i + 1, rfl, by omega, by go_num, HB3'.out, by rw [HFD.out]; exact HO.out⟩
          · cases h
        · rw [show neA (f, ad) x = true from by unfold neA; rw [he]; rfl] at hfd
          simp only [if_true] at hfd
          have HFD := Lib.hid hfd
          obtain ⟨v', w2, hrun, hown2, hbel⟩ := app_ent (wr.alloc (.cells #[.int .u32 x.1, .int .i64 x.2.seg, .int .u64 x.2.gen, .int .i64 x.2.sec] 52)) x (hown.alloc _) (by omega) (by simp; omega)
          have HB4 := Lib.hid (hbel HB3'.out (by rw [HSZ.out]; exact Nat.le_refl _) (Nat.le_refl _))
          have HRUN := Lib.hid hrun
          rw [← HFD.out] at hown2
          have HO2 := Lib.hid hown2
          clear hfd hown hrun hown2 hbel he
          rw [World.size_alloc] at HRUN
          rcases h with t1 | ⟨t1, ⟨h, _⟩ | ⟨_, t2 | ⟨t2, t3 | ⟨t3, t4⟩⟩⟩⟩
          rotate_left
          · cases h
          all_goals
            simp only at t1
            try simp only at t2
            try simp only at t3
            try simp only at t4
            go_wp2_with (at_builtin; refine wpList_append_eq rfl _ _ 44 rfl rfl rfl HRUN.out ?_)
            go_roundg (n - (i + 1))
            case measure => omega
            case rel => exact ⟨i + 1, rfl, by omega, by go_num, HB4.out, HO2.out⟩
      · obtain rfl : i = n := by omega
        rw [show A.take i = A from by rw [HN.out, List.take_length]] at hown
        obtain ⟨a6, cap6, rfl, hm6⟩ := own_form hown
        have k1 := blk_below HB1.out HBr.out (by rw [HSZ.out]; omega)
        have k2 := blk_below HB2.out HBr.out (by rw [HSZ.out]; omega)
        have q0 : wr.cell? ⟨w.heap.size, 0, none⟩ = some (.int .i64 s) := blk_cell k1 0
        have q1 : wr.cell? ⟨w.heap.size, 1, none⟩ = some (.slice a i cap) := blk_cell k1 1
        have q2 : wr.frozen? ⟨w.heap.size, 1, none⟩ = false := blk_frozen k1 1
        have q3 : wr.cell? ⟨w.heap.size + 2, 0, none⟩ = some (.int .i64 0) := blk_cell k2 0
        have q4 : wr.cell? ⟨w.heap.size + 2, 1, none⟩ = some (.slice none 0 0) := blk_cell k2 1
        have q5 : wr.frozen? ⟨w.heap.size + 2, 0, none⟩ = false := blk_frozen k2 0
        have q6 : wr.frozen? ⟨w.heap.size + 2, 1, none⟩ = false := blk_frozen k2 1
        have HO := Lib.hid hown
        have HK2 := Lib.hid k2
        clear hown k1 k2
        generalize hk6 : (A.filter (neA (f, ad))).length = k6 at *
        have HK6 := Lib.hid hk6
        clear hk6
        go_wp2_with fail
        obtain ⟨r0, r1⟩ := res_cells (b' := 0) (v0 := .int .i64 s) (v1 := .slice a6 k6 cap6) (blk_set HK2.out (p := ⟨w.heap.size, 1, none⟩) (by simp) (.slice a6 k6 cap6))
        refine bodyPost_ret (v := .tuple #[.agg #[.int .i64 s, .slice a6 k6 cap6], .int .i64 0]) (by simp [results, Try.f27, go_sem, r0, r1]) rfl ⟨_, rfl, ?_, .inr (fun b hb => by have := (HO.out.lt b hb).1; omega), ?_⟩
        · rw [HR.out]
          refine entAt_of_own (base := w.heap.size + 4) (e := 52) ?_
          rw [HK6.out]
          exact own_set (own_set (own_set HO.out (by simp) _) (by simp) _) (by simp) _
        · exact ((HBW.out.setCell (by simp) _).setCell (by simp; omega) _).setCell (by simp; omega) _
  · rw [if_neg hmem]
    have HR : Hid ((remA A f ad).2 = A) := by show _ = _; unfold remA; rw [if_neg hmem]
    have hD : decide ((f, ad) ∈ A) = false := decide_eq_false hmem
    rw [hD] at HHS
    clear hmem hD
    obtain ⟨n, hn⟩ : ∃ n, n = A.length := ⟨_, rfl⟩
    rw [← hn] at hm HW HB1 hA q1 HHS
    have HN := Lib.hid hn
    clear hn hm
    rw [← HN.out]
    go_enter Try.func27, Try.ntmps27
    go_upto_region 2 with fail
    rw [HW.out]
    go_wp2_with fail
    refine (HHS.out _ HB.out).mono ?_
    rintro e w1 ⟨rfl, hb⟩
    have HBR := Lib.hid hb
    have HBW : Hid (Below w.heap.size w w1) := HB.out.trans (hb.mono HB.out.size)
    have k1 := blk_below HB1.out hb (by rw [HSZ.out]; omega)
    have k2 := blk_below HB2.out hb (by rw [HSZ.out]; omega)
    clear hb q0 q1 q2 q3 q4 q5
    have q0 : w1.cell? ⟨w.heap.size, 0, none⟩ = some (.int .i64 s) := blk_cell k1 0
    have q1 : w1.cell? ⟨w.heap.size, 1, none⟩ = some (.slice a n cap) := blk_cell k1 1
    have q3 : w1.cell? ⟨w.heap.size + 2, 0, none⟩ = some (.int .i64 0) := blk_cell k2 0
    have q4 : w1.cell? ⟨w.heap.size + 2, 1, none⟩ = some (.slice none 0 0) := blk_cell k2 1
    have q5 : w1.frozen? ⟨w.heap.size + 2, 0, none⟩ = false := blk_frozen k2 0
    have q6 : w1.frozen? ⟨w.heap.size + 2, 1, none⟩ = false := blk_frozen k2 1
    have HK2 := Lib.hid k2
    clear k1 k2
    go_wp2_with fail
    obtain ⟨r0, r1⟩ := res_cells (b' := 0) (v0 := .int .i64 s) (v1 := .slice a n cap) HK2.out
    have HBF : Hid (Below w.heap.size w ((w1.setCell ⟨w.heap.size + 2, 0, none⟩ (.int .i64 s)).setCell ⟨w.heap.size + 2, 1, none⟩ (.slice a n cap))) := (HBW.out.setCell (by simp) _).setCell (by simp) _
    refine bodyPost_ret (v := .tuple #[.agg #[.int .i64 s, .slice a n cap], .int .i64 4]) (by simp [results, Try.f27, go_sem, r0, r1]) rfl ⟨_, rfl, ?_, .inl (by rw [HN.out]), HBF.out⟩
    rw [HR.out]
    have h5 : EntAt _ (.slice a A.length cap) A := RowAt.below HH.out HBF.out (Nat.le_refl _)
    rw [← HN.out] at h5
    exact h5
end Go.Proofs.Ytccgdfamjohmgaa
