/- Clone of segments, turn, Left, opened, Next. Conditions: the segments lie in memory. -/
import Derived.Test.YtjmocjcjiiopnaaGreatLogScans18
import Derived.Test.YtjmocjcjiiopnaaGreatLogScans01
import Derived.Lib.SliceRun

section
set_option linter.unusedVariables false
set_option linter.unusedSimpArgs false
namespace Go.Proofs.YtjmocjcjiiopnaaGreat.Rg
open Go.RowKit Go.Ice Go.Ring

theorem elemSeg : Elem Tryz.prog 52 135 3 24 (.agg #[.int .i64 0, .int .u64 0, .int .i64 0]) :=
  ⟨Tryz.underlying52, by
    obtain ⟨i0, hi, hz0, hz1, hz2⟩ := info_parts (show (Tryz.prog.info? 135).map (fun i => (i.zero, i.size, i.bytes)) = some (some (.agg #[.int .i64 0, .int .u64 0, .int .i64 0]), 3, 24) by kernel_rfl)
    exact ⟨i0, hi, hz0, hz1, hz2⟩, rfl, by decide⟩

def segX (l : List Seg) (i j : Nat) : Value := segCell (at' l i) j
theorem segCell_one (s : Seg) (j : Nat) : (segCell s j).oneCell' = true := by
  unfold segCell
  split <;> rfl

theorem slice_nil_eq (w : World) (a : Option Addr) (n c : Nat) : (binOp .eql 52 (.slice a n c) (.slice none 0 0)).run Tryz.prog w = .ok (.bool a.isNone) w := Lib.run_eql_slice_nil w 52 135 a n c 0 0 Tryz.underlying52

set_option maxHeartbeats 2000000 in
theorem clone (w : World) (v : Value) (l : List Seg) (h : SegsAt w v l) (hl : l.length ≤ 1000) :
    Calls Tryz.prog 73 #[v] w fun e w' => ∃ u, e = .returned u ∧ w'.ownsRow w.heap.size 135 3 u l.length (flat l.length 3 (segX l)) ∧ Below w.heap.size w w' := by
  have hs := h.slK (by decide)
  obtain ⟨a, cap, rfl, hm⟩ := h.form
  cases a with
  | none =>
    have hl0 : l.length = 0 := by
      rcases h with ⟨h0, _⟩ | ⟨_, b, off, cap, hv, _⟩
      · exact h0
      · cases hv
    have hn := slice_nil_eq w none l.length cap
    have HH : Hid (w.ownsRow w.heap.size 135 3 (.slice none 0 0) l.length (flat l.length 3 (segX l))) := ⟨flat_len _ _ _, .inl ⟨rfl, hl0⟩⟩
    clear hl0 h hs hl
    go_enter Tryz.func73, Tryz.ntmps73
    go_wp2_with fail
    go_ret
    exact ⟨_, rfl, HH.out, Below.refl _ _⟩
  | some a =>
    have hn := slice_nil_eq w (some a) l.length cap
    obtain ⟨W0, hW0⟩ : ∃ W0, W0 = w.alloc (.cells #[] 135) := ⟨_, rfl⟩
    have hb0 : Below w.heap.size w W0 := by rw [hW0]; exact (Below.refl _ w).alloc (Nat.le_refl _) _
    have hown : W0.ownsRow w.heap.size 135 3 (.slice (some ⟨w.heap.size, 0, none⟩) 0 0) 0 [] := by rw [hW0]; exact World.ownsRow_made w #[] 0 (Nat.le_refl _) (by decide) rfl
    have hs0 : IsSlK W0 3 l.length (.slice (some a) l.length cap) (flat l.length 3 (segX l)) := hs.below hb0 (Nat.le_refl _)
    obtain ⟨u, W1, hrun, ho, hg, _⟩ := app_at (P := Tryz.prog) (ty := 52) elemSeg hown hs0 (fun x hx => by
      obtain ⟨i, j, _, _, rfl⟩ := flat_mem hx
      exact segCell_one _ _) (by omega) (by unfold maxLen; omega) hb0.size
    have hb1 : Below w.heap.size w W1 := hb0.trans ((Below.refl _ W0).grown hg hb0.size (fun k hk => (hown.lt k hk).1))
    rw [List.nil_append, Nat.zero_add] at ho
    have HRUN := Lib.hid hrun
    have HO := Lib.hid ho
    have HB := Lib.hid hb1
    have HW := Lib.hid hW0.symm
    clear hrun ho hb1 hb0 hown hs0 hs hg h hW0
    go_enter Tryz.func73, Tryz.ntmps73
    go_wp2_with (at_builtin; rw [HW.out]; refine wpList_append_eq rfl _ _ 52 rfl rfl rfl HRUN.out ?_)
    go_ret
    exact ⟨_, rfl, HO.out, HB.out⟩

/-- Three cells of a block are turned into a segment's. -/
structure Turned (cur cur' : Array Value) (k : Nat) (x : Seg) : Prop where
  size : cur'.size = cur.size
  new : ∀ j, j < 3 → cur'[k + j]? = some (segCell x j)
  old : ∀ m, m < k ∨ k + 3 ≤ m → cur'[m]? = cur[m]?

theorem turned_three {cur : Array Value} {k : Nat} (hk : k + 3 ≤ cur.size) (x : Seg) : Turned cur (((cur.setIfInBounds k (.int .i64 x.st)).setIfInBounds (k + 1) (.int .u64 x.gen)).setIfInBounds (k + 2) (.int .i64 x.used)) k x := by
  refine ⟨by simp, fun j hj => ?_, fun m hm => ?_⟩
  · match j, hj with
    | 0, _ => simp [Array.getElem?_setIfInBounds, segCell]; omega
    | 1, _ => simp [Array.getElem?_setIfInBounds, segCell]; omega
    | 2, _ => simp [Array.getElem?_setIfInBounds, segCell]; omega
  · rw [Array.getElem?_setIfInBounds, if_neg (by omega), Array.getElem?_setIfInBounds, if_neg (by omega), Array.getElem?_setIfInBounds, if_neg (by omega)]

theorem turned_one {cur : Array Value} {k : Nat} (hk : k + 3 ≤ cur.size) (s : Seg) (hs : ∀ j, j < 3 → cur[k + j]? = some (segCell s j)) (j : Nat) (hj : j < 3) (x : Seg) (hx : ∀ i, i < 3 → i ≠ j → segCell x i = segCell s i) :
    Turned cur (cur.setIfInBounds (k + j) (segCell x j)) k x := by
  refine ⟨by simp, fun i hi => ?_, fun m hm => ?_⟩
  · rw [Array.getElem?_setIfInBounds]
    by_cases e : i = j
    · subst e; simp; omega
    · rw [if_neg (by omega), hs i hi, hx i hi e]
  · rw [Array.getElem?_setIfInBounds, if_neg (by omega)]

theorem set_heap {w : World} {g : Nat} {cur : Array Value} {e : TypeId} (h : w.heap[g]? = some (.cells cur e (0, 0))) (k : Nat) (v : Value) : (w.setCell ⟨g, k, none⟩ v).heap[g]? = some (.cells (cur.setIfInBounds k v) e (0, 0)) := by
  simp [World.setCell, Array.getElem?_modify, h]

theorem frm_set (w : World) (g k : Nat) (v : Value) : Frm (· = g) w (w.setCell ⟨g, k, none⟩ v) := Frm.setCell (Frm.refl (fun x => x = g) w) (p := ⟨g, k, none⟩) (.inl rfl) v

/-- What a turn does to a segment's three cells. -/
def Turns (W : World) (K : FuncId) (caps : Array Value) (g k : Nat) (cur : Array Value) (x : Seg) : Prop :=
  Calls Tryz.prog K (#[.pointer (some ⟨g, k, none⟩)] ++ caps) W fun e w' => e = .returned (.tuple #[]) ∧ ∃ cur', w'.heap[g]? = some (.cells cur' 135 (0, 0)) ∧ Turned cur cur' k x ∧ Frm (· = g) W w'

theorem turn_open (W : World) (g k : Nat) (cur : Array Value) (hg : W.heap[g]? = some (.cells cur 135 (0, 0))) (hk : k + 3 ≤ cur.size) (c gn : Nat) (hc : W.cell? ⟨c, 0, none⟩ = some (.int .u64 gn)) :
    Turns W 131 #[.pointer (some ⟨c, 0, none⟩)] g k cur ⟨1, gn, 1⟩ := by
  have HT := Lib.hid (turned_three hk ⟨1, gn, 1⟩)
  have HG := Lib.hid hg
  obtain ⟨y0, c0⟩ : ∃ y, W.cell? ⟨g, k, none⟩ = some y := ⟨cur[k]'(by omega), by simp [World.cell?, hg]⟩
  obtain ⟨y1, c1⟩ : ∃ y, W.cell? ⟨g, k + 1, none⟩ = some y := ⟨cur[k + 1]'(by omega), by simp [World.cell?, hg]⟩
  obtain ⟨y2, c2⟩ : ∃ y, W.cell? ⟨g, k + 2, none⟩ = some y := ⟨cur[k + 2]'(by omega), by simp [World.cell?, hg]⟩
  have f0 := fun r => blk_frozen hg r
  clear hg hk
  unfold Turns
  show Calls Tryz.prog 131 #[.pointer (some ⟨g, k, none⟩), .pointer (some ⟨c, 0, none⟩)] W _
  go_enter Tryz.func131, Tryz.ntmps131
  go_wp2_with fail
  go_end0
  exact ⟨rfl, _, set_heap (set_heap (set_heap HG.out _ _) _ _) _ _, HT.out, ((frm_set _ _ _ _).trans (frm_set _ _ _ _)).trans (frm_set _ _ _ _)⟩

theorem turn_free (W : World) (g k : Nat) (cur : Array Value) (hg : W.heap[g]? = some (.cells cur 135 (0, 0))) (hk : k + 3 ≤ cur.size) :
    Turns W 115 #[] g k cur ⟨0, 0, 0⟩ := by
  have HT := Lib.hid (turned_three hk ⟨0, 0, 0⟩)
  have HG := Lib.hid hg
  obtain ⟨y0, c0⟩ : ∃ y, W.cell? ⟨g, k, none⟩ = some y := ⟨cur[k]'(by omega), by simp [World.cell?, hg]⟩
  obtain ⟨y1, c1⟩ : ∃ y, W.cell? ⟨g, k + 1, none⟩ = some y := ⟨cur[k + 1]'(by omega), by simp [World.cell?, hg]⟩
  obtain ⟨y2, c2⟩ : ∃ y, W.cell? ⟨g, k + 2, none⟩ = some y := ⟨cur[k + 2]'(by omega), by simp [World.cell?, hg]⟩
  have f0 := fun r => blk_frozen hg r
  clear hg hk
  unfold Turns
  show Calls Tryz.prog 115 #[.pointer (some ⟨g, k, none⟩)] W _
  go_enter Tryz.func115, Tryz.ntmps115
  go_wp2_with fail
  go_end0
  exact ⟨rfl, _, set_heap (set_heap (set_heap HG.out _ _) _ _) _ _, HT.out, ((frm_set _ _ _ _).trans (frm_set _ _ _ _)).trans (frm_set _ _ _ _)⟩

theorem turn_seal (W : World) (g k : Nat) (cur : Array Value) (hg : W.heap[g]? = some (.cells cur 135 (0, 0))) (hk : k + 3 ≤ cur.size) (s : Seg) (hs : ∀ j, j < 3 → cur[k + j]? = some (segCell s j)) :
    Turns W 129 #[] g k cur ⟨2, s.gen, s.used⟩ := by
  have HT := Lib.hid (turned_one hk s hs 0 (by decide) ⟨2, s.gen, s.used⟩ (fun i h1 h2 => by
    rcases (show i = 1 ∨ i = 2 by omega) with rfl | rfl <;> rfl))
  have HG := Lib.hid hg
  obtain ⟨y0, c0⟩ : ∃ y, W.cell? ⟨g, k, none⟩ = some y := ⟨cur[k]'(by omega), by simp [World.cell?, hg]⟩
  have f0 := fun r => blk_frozen hg r
  clear hg hk hs
  unfold Turns
  show Calls Tryz.prog 129 #[.pointer (some ⟨g, k, none⟩)] W _
  go_enter Tryz.func129, Tryz.ntmps129
  go_wp2_with fail
  go_end0
  exact ⟨rfl, _, set_heap HG.out _ _, HT.out, frm_set _ _ _ _⟩

theorem turn_use (W : World) (g k : Nat) (cur : Array Value) (hg : W.heap[g]? = some (.cells cur 135 (0, 0))) (hk : k + 3 ≤ cur.size) (s : Seg) (hs : ∀ j, j < 3 → cur[k + j]? = some (segCell s j)) (c : Nat) (n : Int) (hc : W.cell? ⟨c, 0, none⟩ = some (.int .i64 n))
    (hn : 0 ≤ n ∧ n ≤ 64) (hu : 0 ≤ s.used ∧ s.used ≤ 64) :
    Turns W 108 #[.pointer (some ⟨c, 0, none⟩)] g k cur ⟨s.st, s.gen, s.used + n⟩ := by
  have HT := Lib.hid (turned_one hk s hs 2 (by decide) ⟨s.st, s.gen, s.used + n⟩ (fun i h1 h2 => by
    rcases (show i = 0 ∨ i = 1 by omega) with rfl | rfl <;> rfl))
  have HG := Lib.hid hg
  have c0 : W.cell? ⟨g, k + 2, none⟩ = some (.int .i64 s.used) := by have := hs 2 (by decide); rw [show segCell s 2 = .int .i64 s.used from rfl] at this; simpa [World.cell?, hg] using this
  have f0 := fun r => blk_frozen hg r
  clear hg hk hs
  generalize s.used = u at *
  obtain ⟨hn1, hn2⟩ := hn
  obtain ⟨hu1, hu2⟩ := hu
  unfold Turns
  show Calls Tryz.prog 108 #[.pointer (some ⟨g, k, none⟩), .pointer (some ⟨c, 0, none⟩)] W _
  go_enter Tryz.func108, Tryz.ntmps108
  go_region
  all_goals
    go_end0
    exact ⟨rfl, _, set_heap HG.out _ _, HT.out, (frm_set _ _ _ _).drew⟩

/-- A ring as a result: its segments lie in memory of the call's own. -/
def OwnSegs (w : World) (base : Nat) (v : Value) (l : List Seg) : Prop := w.ownsRow base 135 3 v l.length (flat l.length 3 (segX l))
theorem OwnSegs.segs {w : World} {base : Nat} {v : Value} {l : List Seg} (h : OwnSegs w base v l) : SegsAt w v l := own_rowAt h


set_option maxHeartbeats 4000000 in
theorem turnd (w : World) (sec : Int) (v : Value) (l : List Seg) (i : Nat) (K : FuncId) (caps : Array Value) (x : Seg) (h : SegsAt w v l) (hl : l.length ≤ 1000) (hi : i < l.length) (hcf : ∀ (args : Array Value) (w : World), (callFunc K args).run Tryz.prog w = .ok (.enter K args) w)
    (hK : ∀ (W : World) (g : Nat) (cur : Array Value), Below w.heap.size w W → w.heap.size ≤ g → W.heap[g]? = some (.cells cur 135 (0, 0)) → i * 3 + 3 ≤ cur.size → (∀ j, j < 3 → cur[i * 3 + j]? = some (segCell (at' l i) j)) → Turns W K caps g (i * 3) cur x) :
    Calls Tryz.prog 107 #[ringV sec v, .int .i64 i, .func (.func K) #[] caps] w fun e w' => ∃ u, e = .returned (ringV sec u) ∧ OwnSegs w' w.heap.size u (l.set i x) ∧ Below w.heap.size w w' := by
  obtain ⟨B, W0, hB, hW0, HB, HBX, HBL, HSZ⟩ := boxed w #[.int .i64 sec, v] 54
  obtain ⟨C, W1, hC, hW1, HC, HCX, HCL, HCZ⟩ := boxed W0 #[.int .i64 0, .slice none 0 0] 54
  have HC1 : Hid (w.heap.size + 1 = C) := by show _ = _; rw [hC, HSZ.out, hB]
  have HBX1 : Hid (W1.heap[B]? = some (.cells #[.int .i64 sec, v] 54 (0, 0))) := hid_keep HBX (by rw [← hC]; exact HCL.out)
  have HBL1 : Hid (Below B w W1) := hid_step HBL (by rw [← hC]; exact HCL.out) HB
  have HR : Hid (SegsAt W1 v l) := RowAt.below h HBL1.out (by omega)
  have HKK := Lib.hid hK
  have HI := Lib.hid hi
  have HL := Lib.hid hl
  have HCC := Lib.hid (clone W1 v l HR.out hl)
  have b1 : W1.cell? ⟨B, 1, none⟩ = some v := blk_cell HBX1.out 1
  have fb1 : W1.frozen? ⟨B, 1, none⟩ = false := blk_frozen HBX1.out 1
  clear h hK hi hl hC
  unfold ringV
  go_enter Tryz.func107, Tryz.ntmps107
  go_upto_region 1 with fail
  rw [HC1.out, ← hB, ← hW0, ← hW1]
  clear hB hW0 hW1 HBX HBL HCL
  go_wp2_with fail
  refine HCC.out.mono ?_
  rintro e w2 ⟨u, rfl, ho, hb⟩
  obtain ⟨g, cap, cur, rfl, hg1, hg2, hg3, hg4, hg5, hg6⟩ := own_nonempty ho (by have := HI.out; omega)
  have HBX2 := hid_keep HBX1 hb
  have HCX2 := hid_keep HCX hb
  have HBL2 := hid_step HBL1 hb HB
  have b1' : w2.cell? ⟨B, 1, none⟩ = some v := blk_cell HBX2.out 1
  have fb1' : w2.frozen? ⟨B, 1, none⟩ = false := blk_frozen HBX2.out 1
  have HG : Hid (C < g ∧ w2.heap[g]? = some (.cells cur 135 (0, 0)) ∧ l.length ≤ cap ∧ cap ≤ maxLen ∧ cur.size = cap * 3 ∧ ∀ i, i < l.length → ∀ j, j < 3 → cur[i * 3 + j]? = some (segX l i j)) := ⟨by have := HCZ.out; omega, hg2, hg3, hg4, hg5, hg6⟩
  clear ho hb b1 fb1 HCC HBX1 HCX HBL1 hg1 hg2 hg3 hg4 hg5 hg6
  go_upto_region 2 with fail
  obtain ⟨W3, hW3⟩ : ∃ W3, W3 = w2.setCell ⟨B, 1, none⟩ (.slice (some ⟨g, 0, none⟩) l.length cap) := ⟨_, rfl⟩
  have HBX3 : Hid (W3.heap[B]? = some (.cells #[.int .i64 sec, .slice (some ⟨g, 0, none⟩) l.length cap] 54 (0, 0))) := by show _ = _; rw [hW3]; exact set_heap HBX2.out 1 _
  have HCX3 : Hid (W3.heap[C]? = some (.cells #[.int .i64 0, .slice none 0 0] 54 (0, 0))) := by show _ = _; rw [hW3]; exact blk_set HCX2.out (by have := HC.out; have := HSZ.out; show C ≠ B; omega) _
  have HGX3 : Hid (W3.heap[g]? = some (.cells cur 135 (0, 0))) := by show _ = _; rw [hW3]; exact blk_set HG.out.2.1 (by have := HC.out; have := HSZ.out; have := HG.out.1; show g ≠ B; omega) _
  have HBL3 : Hid (Below B w W3) := by show Below _ _ _; rw [hW3]; exact HBL2.out.setCell (Nat.le_refl _) _
  rw [← hW3]
  have c1 : W3.cell? ⟨B, 1, none⟩ = some (.slice (some ⟨g, 0, none⟩) l.length cap) := blk_cell HBX3.out 1
  have hcall := HKK.out W3 g cur (by rw [← HB.out]; exact HBL3.out) (by have := HC.out; have := HSZ.out; have := HG.out.1; have := HB.out; omega) HGX3.out (by have := HI.out; have := HG.out; omega) (HG.out.2.2.2.2.2 i HI.out)
  have hil := HI.out
  have hll := HL.out
  have HCALL := Lib.hid hcall
  clear hW3 b1' fb1' HBX2 HCX2 HBL2 HKK hcall
  generalize hn : l.length = n at *
  have HN := Lib.hid hn
  clear hn
  go_wp2_with fail
  refine HCALL.out.mono ?_
  rintro e w4 ⟨rfl, cur', hg', ht, hf⟩
  have HBX4 : Hid (w4.heap[B]? = some (.cells #[.int .i64 sec, .slice (some ⟨g, 0, none⟩) n cap] 54 (0, 0))) := by show _ = _; rw [hf.block B (blk_lt HBX3.out) (by have := HC.out; have := HSZ.out; have := HG.out.1; show ¬ B = g; omega)]; exact HBX3.out
  have HCX4 : Hid (w4.heap[C]? = some (.cells #[.int .i64 0, .slice none 0 0] 54 (0, 0))) := by show _ = _; rw [hf.block C (blk_lt HCX3.out) (by have := HG.out.1; show ¬ C = g; omega)]; exact HCX3.out
  have HBL4 : Hid (Below B w w4) := by
    have : Below B W3 w4 := hf.below (fun k hk => by have := HC.out; have := HSZ.out; have := HG.out.1; show ¬ k = g; omega) (by have := blk_lt HBX3.out; omega)
    exact HBL3.out.trans this
  have HO4 : Hid (OwnSegs w4 (C + 1) (.slice (some ⟨g, 0, none⟩) n cap) (l.set i x)) := by
    show World.ownsRow _ _ _ _ _ _ _
    rw [List.length_set, HN.out]
    obtain ⟨q1, q2, q3, q4, q5, q6⟩ := HG.out
    refine own_of_cells (by decide) q1 hg' q3 q4 (by rw [ht.size]; exact q5) fun a ha j hj => ?_
    unfold segX
    rw [at_set (by rw [HN.out]; exact hil)]
    by_cases e : a = i
    · subst e; rw [if_pos rfl]; exact ht.new j hj
    · rw [if_neg e, ht.old _ (by rcases Nat.lt_or_gt_of_ne e with h | h <;> omega)]; exact q6 a ha j hj
  have d0 : w4.cell? ⟨B, 0, none⟩ = some (.int .i64 sec) := blk_cell HBX4.out 0
  have d1 : w4.cell? ⟨B, 1, none⟩ = some (.slice (some ⟨g, 0, none⟩) n cap) := blk_cell HBX4.out 1
  have e0 : w4.cell? ⟨C, 0, none⟩ = some (.int .i64 0) := blk_cell HCX4.out 0
  have e1 : w4.cell? ⟨C, 1, none⟩ = some (.slice none 0 0) := blk_cell HCX4.out 1
  have fe0 := fun r => blk_frozen HCX4.out r
  clear hg' ht hf c1 HCALL HG HBX3 HCX3 HGX3 HBL3 HBX4
  go_wp2_with fail
  obtain ⟨r0, r1⟩ := res_cells (b' := 0) (v0 := .int .i64 sec) (v1 := .slice (some ⟨g, 0, none⟩) n cap) HCX4.out
  refine bodyPost_ret (v := .agg #[.int .i64 sec, .slice (some ⟨g, 0, none⟩) n cap]) (by simp [results, Tryz.f107, go_sem, r0, r1]) rfl ⟨_, rfl, ?_, ?_⟩
  · rw [← HB.out]
    exact own_base (own_set (own_set HO4.out (Nat.lt_succ_self C) _) (Nat.lt_succ_self C) _) (by have := HC.out; have := HSZ.out; omega)
  · rw [← HB.out]
    exact (HBL4.out.setCell (by have := HC.out; have := HSZ.out; show B ≤ C; omega) _).setCell (by have := HC.out; have := HSZ.out; show B ≤ C; omega) _

theorem cf_Open (args : Array Value) (w : World) : (callFunc 131 args).run Tryz.prog w = .ok (.enter 131 args) w := by kernel_rfl
theorem cf_Use (args : Array Value) (w : World) : (callFunc 108 args).run Tryz.prog w = .ok (.enter 108 args) w := by kernel_rfl
theorem cf_Seal (args : Array Value) (w : World) : (callFunc 129 args).run Tryz.prog w = .ok (.enter 129 args) w := by kernel_rfl
theorem cf_Free (args : Array Value) (w : World) : (callFunc 115 args).run Tryz.prog w = .ok (.enter 115 args) w := by kernel_rfl
end Go.Proofs.YtjmocjcjiiopnaaGreat.Rg
namespace Go.Proofs.YtjmocjcjiiopnaaGreat.Rg
open Go.RowKit Go.Ice Go.Ring

theorem check_size {sec : Int} {l : List Seg} (h : checkB sec l = true) : 4 ≤ l.length ∧ l.length ≤ 16 ∧ 24 ≤ sec ∧ sec ≤ 64 := by
  unfold checkB sizedB at h
  rw [Bool.and_eq_true, Bool.and_eq_true, Bool.and_eq_true] at h
  have h1 := of_decide_eq_true h.1.1.1
  have h2 := of_decide_eq_true h.1.1.2
  exact ⟨h1.1, h1.2, h2.1, h2.2⟩
theorem check_seg {sec : Int} {l : List Seg} (h : checkB sec l = true) {i : Nat} (hi : i < l.length) : segOk sec (at' l i) = true := by
  unfold checkB at h
  rw [Bool.and_eq_true, Bool.and_eq_true, List.all_eq_true] at h
  exact h.1.2 _ (at_mem hi)
theorem opened_lt {l : List Seg} {i : Nat} (h : openedP l = some i) : i < l.length ∧ (at' l i).st = 1 := by
  unfold openedP at h
  have h1 := List.mem_of_find?_eq_some h
  have h2 := List.find?_some h
  exact ⟨(mem_order.1 h1).1, by simpa [openB] using h2⟩
theorem oldest_lt {l : List Seg} {i : Nat} (h : oldestP l = some i) : i < l.length ∧ (at' l i).st = 2 := by
  unfold oldestP at h
  have h1 := List.mem_of_find?_eq_some h
  have h2 := List.find?_some h
  exact ⟨(mem_order.1 h1).1, by simpa [sealedB] using h2⟩
theorem latest_lt {l : List Seg} {i : Nat} (h : latestP l = some i) : i < l.length := (mem_order.1 (List.mem_of_getLast? h)).1
theorem used_bd {sec : Int} {l : List Seg} (h : checkB sec l = true) {i : Nat} (hi : i < l.length) (hs : (at' l i).st = 1 ∨ (at' l i).st = 2) : 1 ≤ (at' l i).used ∧ (at' l i).used ≤ sec := by
  have := check_seg h hi
  unfold segOk at this
  rw [if_neg (by omega), Bool.and_eq_true] at this
  exact of_decide_eq_true this.2

def leftV (b : Bool) (x : Int) : Value := .int .i64 (if b then x else 0)

set_option maxHeartbeats 4000000 in
theorem left (w : World) (sec : Int) (v : Value) (l : List Seg) (h : SegsAt w v l) :
    Calls Tryz.prog 53 #[ringV sec v] w fun e w' => e = .returned (leftV (checkB sec l) (leftP sec l)) ∧ Below w.heap.size w w' := by
  obtain ⟨B, W0, hB, hW0, HB, HBX, HBL, HSZ⟩ := boxed w #[.int .i64 sec, v] 54
  have HR : Hid (SegsAt W0 v l) := RowAt.below h HBL.out (by omega)
  have HCK := Lib.hid (opend W0 sec v l HR.out)
  have b0 : W0.cell? ⟨B, 0, none⟩ = some (.int .i64 sec) := blk_cell HBX.out 0
  have b1 : W0.cell? ⟨B, 1, none⟩ = some v := blk_cell HBX.out 1
  obtain ⟨cb, hcb⟩ : ∃ cb, cb = checkB sec l := ⟨_, rfl⟩
  obtain ⟨op, hop⟩ : ∃ op, op = openedP l := ⟨_, rfl⟩
  rw [← hcb, ← hop] at HCK
  rw [← hcb]
  have HCB := Lib.hid hcb
  have HOP := Lib.hid hop
  clear h hcb hop
  unfold ringV at HCK ⊢
  go_enter Tryz.func53, Tryz.ntmps53
  go_upto_region 1 with fail
  rw [← hB, ← hW0]
  clear hW0 hB
  go_wp2_with fail
  refine HCK.out.mono ?_
  rintro e w1 ⟨rfl, hbl⟩
  have HBW := hid_step HBL hbl HB
  have HXB := hid_keep HBX hbl
  have HR1 : Hid (SegsAt w1 v l) := RowAt.below HR.out hbl (Nat.le_refl _)
  clear hbl b0 b1 HCK
  unfold seekV
  cases cb with
  | false =>
    simp only [Bool.false_eq_true, if_false]
    go_wp2_with fail
    go_ret
    exact ⟨rfl, by rw [← HB.out]; exact HBW.out⟩
  | true =>
    simp only [if_true]
    cases op with
    | none =>
      have HL : Hid (leftP sec l = 0) := by show _ = _; unfold leftP; rw [← HOP.out]
      go_wp2_with fail
      go_ret
      exact ⟨by rw [HL.out]; rfl, by rw [← HB.out]; exact HBW.out⟩
    | some i =>
      have hs := check_size HCB.out.symm
      have hil := opened_lt HOP.out.symm
      obtain ⟨bs, off, cap, rfl, h1, h2, h3, h4⟩ := HR1.out.cell (by omega)
      obtain ⟨q0, q1, q2⟩ := h4 i hil.1
      have hub := used_bd HCB.out.symm hil.1 (.inl hil.2)
      have HL : Hid (leftP sec l = sec - (at' l i).used) := by show _ = _; unfold leftP; rw [← HOP.out]
      have c0 : w1.cell? ⟨B, 0, none⟩ = some (.int .i64 sec) := blk_cell HXB.out 0
      have c1 : w1.cell? ⟨B, 1, none⟩ = some (.slice (some ⟨bs, off, none⟩) l.length cap) := blk_cell HXB.out 1
      generalize (at' l i).used = u at *
      have hil1 := hil.1
      have hwr : IntKind.i64.wrap (sec - u) = sec - u := by rw [IntKind.wrap_i64]; omega
      clear h4 q0 q1 hil HR HR1 HXB HBX
      generalize l.length = n at *
      unfold maxLen at h2
      simp only
      go_upto_region 4 with fail
      go_quiet (fail)
      go_wp2_with fail
      go_ret
      exact ⟨by rw [HL.out]; simp [leftV], by rw [← HB.out]; exact (hid_step HBW (drewN_below w1 nq) HB).out⟩

def openedV (b : Bool) (o : Option Nat) : Value := if b then (match o with | none => .tuple #[.int .i64 0, .int .i64 181] | some i => .tuple #[.int .i64 i, .int .i64 0]) else .tuple #[.int .i64 0, .int .i64 180]

set_option maxHeartbeats 4000000 in
theorem opened (w : World) (sec : Int) (v : Value) (l : List Seg) (h : SegsAt w v l) :
    Calls Tryz.prog 106 #[ringV sec v] w fun e w' => e = .returned (openedV (checkB sec l) (openedP l)) ∧ Below w.heap.size w w' := by
  obtain ⟨B, W0, hB, hW0, HB, HBX, HBL, HSZ⟩ := boxed w #[.int .i64 sec, v] 54
  have HR : Hid (SegsAt W0 v l) := RowAt.below h HBL.out (by omega)
  have HCK := Lib.hid (opend W0 sec v l HR.out)
  have b0 : W0.cell? ⟨B, 0, none⟩ = some (.int .i64 sec) := blk_cell HBX.out 0
  have b1 : W0.cell? ⟨B, 1, none⟩ = some v := blk_cell HBX.out 1
  generalize checkB sec l = cb at *
  generalize openedP l = op at *
  clear h
  unfold ringV at HCK ⊢
  go_enter Tryz.func106, Tryz.ntmps106
  go_upto_region 1 with fail
  rw [← hB, ← hW0]
  clear hW0 hB
  go_wp2_with fail
  refine HCK.out.mono ?_
  rintro e w1 ⟨rfl, hbl⟩
  have HBW := hid_step HBL hbl HB
  clear hbl b0 b1 HCK
  unfold seekV
  cases cb with
  | false =>
    simp only [Bool.false_eq_true, if_false]
    go_wp2_with fail
    go_ret2
    exact ⟨rfl, by rw [← HB.out]; exact HBW.out⟩
  | true =>
    simp only [if_true]
    cases op with
    | none =>
      simp only
      go_wp2_with fail
      go_ret2
      exact ⟨rfl, by rw [← HB.out]; exact HBW.out⟩
    | some i =>
      simp only
      go_wp2_with fail
      go_ret2
      exact ⟨rfl, by rw [← HB.out]; exact HBW.out⟩
end Go.Proofs.YtjmocjcjiiopnaaGreat.Rg
namespace Go.Proofs.YtjmocjcjiiopnaaGreat.Rg
open Go.RowKit Go.Ice Go.Ring

def nextV (b : Bool) (o : Option Nat) : Value := if b then (match o with | none => .tuple #[.int .i64 0, .int .i64 6] | some i => .tuple #[.int .i64 i, .int .i64 0]) else .tuple #[.int .i64 0, .int .i64 180]

theorem startOf_late (l : List Seg) : lateI l + 1 = (startOf (latestP l) : Nat) := by
  unfold lateI startOf
  cases latestP l <;> simp

set_option maxHeartbeats 4000000 in
theorem next (w : World) (sec : Int) (v : Value) (l : List Seg) (h : SegsAt w v l) :
    Calls Tryz.prog 104 #[ringV sec v] w fun e w' => e = .returned (nextV (checkB sec l) (nextP l)) ∧ Below w.heap.size w w' := by
  obtain ⟨B, W0, hB, hW0, HB, HBX, HBL, HSZ⟩ := boxed w #[.int .i64 sec, v] 54
  have HR : Hid (SegsAt W0 v l) := RowAt.below h HBL.out (by omega)
  have HCK := Lib.hid (chek W0 sec v l HR.out)
  have b0 : W0.cell? ⟨B, 0, none⟩ = some (.int .i64 sec) := blk_cell HBX.out 0
  have b1 : W0.cell? ⟨B, 1, none⟩ = some v := blk_cell HBX.out 1
  obtain ⟨cb, hcb⟩ : ∃ cb, cb = checkB sec l := ⟨_, rfl⟩
  rw [← hcb] at HCK
  rw [← hcb]
  have HCB := Lib.hid hcb
  clear h hcb
  unfold ringV at HCK ⊢
  go_enter Tryz.func104, Tryz.ntmps104
  go_upto_region 1 with fail
  rw [← hB, ← hW0]
  clear hW0 hB
  go_step3
  go_wp2_with fail
  refine HCK.out.mono ?_
  rintro e w1 ⟨rfl, hbl⟩
  have HBW := hid_step HBL hbl HB
  have HXB := hid_keep HBX hbl
  have HR1 : Hid (SegsAt w1 v l) := RowAt.below HR.out hbl (Nat.le_refl _)
  clear hbl b0 b1 HCK
  unfold chekE
  cases cb with
  | false =>
    simp only [Bool.false_eq_true, if_false]
    go_wp2_with fail
    rw [Exit.noGoto_ret]
    go_ret2
    exact ⟨rfl, by rw [← HB.out]; exact HBW.out⟩
  | true =>
    simp only [if_true]
    have hs := check_size HCB.out.symm
    have HLT := Lib.hid (late w1 sec v l HR1.out (by omega) (by omega))
    have c0 : w1.cell? ⟨B, 0, none⟩ = some (.int .i64 sec) := blk_cell HXB.out 0
    have c1 : w1.cell? ⟨B, 1, none⟩ = some v := blk_cell HXB.out 1
    unfold ringV at HLT
    clear hs
    go_wp2_with fail
    refine HLT.out.mono ?_
    rintro e w2 ⟨rfl, hbl⟩
    have HBW2 := hid_step HBW hbl HB
    have HXB2 := hid_keep HXB hbl
    have HR2 : Hid (SegsAt w2 v l) := RowAt.below HR1.out hbl (Nat.le_refl _)
    clear hbl c0 c1 HLT HBW HXB HR1
    have hs := check_size HCB.out.symm
    obtain ⟨bs, off, cap, rfl, h1, h2, h3, h4⟩ := HR2.out.cell (by omega)
    have d1 : w2.cell? ⟨B, 1, none⟩ = some (.slice (some ⟨bs, off, none⟩) l.length cap) := blk_cell HXB2.out 1
    have hst := startOf_late l
    have hsl : startOf (latestP l) ≤ l.length := by
      unfold startOf
      cases hla : latestP l with
      | none => simp
      | some a => have := latest_lt hla; simp; omega
    have HNX : Hid (nextP l = (behind l.length (startOf (latestP l))).find? (freeB l)) := rfl
    generalize startOf (latestP l) = s at *
    have hla : lateI l = (s : Int) - 1 := by omega
    rw [hla]
    have H4 : Hid (∀ i, i < l.length → w2.cell? ⟨bs, off + i * 3, none⟩ = some (.int .i64 (at' l i).st)) := fun i hi => (h4 i hi).1
    clear hst hla h4
    have HN := Lib.hid (show l.length = l.length from rfl)
    obtain ⟨n, hn⟩ : ∃ n, n = l.length := ⟨_, rfl⟩
    rw [← hn] at hs d1 hsl H4 HNX h1
    rw [← hn]
    clear HN
    have HN := Lib.hid hn
    unfold maxLen at h2
    clear hn
    go_wp2_with fail
    go_step3
    go_wp2_with fail
    go_loopg [8, 9, 10, 25] n (fun g xv fv yv kv wr => ∃ k : Nat, g = n - k ∧ k ≤ n ∧ kv = .int .i64 k ∧ fv = .bool false ∧ wr = w2 ∧ Hid (∀ j, j < k → freeB l ((s + j) % n) = false))
    case atStart => exact ⟨0, rfl, by omega, rfl, rfl, rfl, fun j hj => by omega⟩
    case round =>
      obtain ⟨k, rfl, hk, rfl, rfl, rfl, HJ⟩ := hrel
      by_cases hlt : k < n
      · obtain ⟨idx, hidx⟩ : ∃ idx, idx = (s + k) % n := ⟨_, rfl⟩
        have hil : idx < n := by rw [hidx]; exact Nat.mod_lt _ (by omega)
        have hie : ((s : Int) + (k : Int)) % (n : Int) = (idx : Int) := by rw [hidx, Int.natCast_emod, Int.natCast_add]
        have HIE := Lib.hid hie
        have q0 := H4.out idx hil
        have HIX := Lib.hid hidx
        clear hidx
        by_cases hfr : (at' l idx).st = 0
        · have HF : Hid (nextP l = some idx) := by
            show _ = _
            rw [HNX.out]
            have : behind n s = (List.range n).map fun j => (s + j) % n := rfl
            rw [this, HIX.out]
            refine find_map_range hlt ?_ HJ.out
            rw [← HIX.out]
            simp [freeB, hfr]
          rw [hfr] at q0
          go_wp2_with fail
          rw [Exit.noGoto_ret]
          go_ret2
          exact ⟨by rw [HF.out]; show Ending.returned (.tuple #[.int .i64 (((s : Int) + (k : Int)) % (n : Int)), .int .i64 0]) = _; rw [HIE.out]; rfl, by rw [← HB.out]; exact HBW2.out⟩
        · have HF : Hid (∀ j, j < k + 1 → freeB l ((s + j) % n) = false) := fun j hj => by
            rcases Nat.lt_succ_iff_lt_or_eq.1 hj with h | rfl
            · exact HJ.out j h
            · rw [← HIX.out]; simp [freeB, hfr]
          have s0 : ((at' l idx).st == 0) = false := by simpa using hfr
          generalize (at' l idx).st = st at *
          go_wp2_with fail
          go_roundg (n - (k + 1))
          case measure => omega
          case rel => exact ⟨k + 1, rfl, by omega, by go_num, rfl, rfl, HF.out⟩
      · obtain rfl : k = n := by omega
        have HF : Hid (nextP l = none) := by
          show _ = _
          rw [HNX.out]
          have : behind k s = (List.range k).map fun j => (s + j) % k := rfl
          rw [this]
          exact find_map_none HJ.out
        go_wp2_with fail
        rw [Exit.noGoto_ret]
        go_ret2
        exact ⟨by rw [HF.out]; rfl, by rw [← HB.out]; exact HBW2.out⟩
end Go.Proofs.YtjmocjcjiiopnaaGreat.Rg
end
