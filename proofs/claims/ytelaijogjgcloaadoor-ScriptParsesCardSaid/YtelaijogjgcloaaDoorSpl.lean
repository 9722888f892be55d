/- reader.plan, its walk. Conditions: the reader's parts lie in memory, beside it; the parts are not too long; the three variables are as laid. strings.Cut and strings.Split at one byte, in plain words. No condition. script.Parse, its plain part: a line further. No condition. Rows of events that a call has made itself. No condition. -/
import Derived.Test.YtelaijogjgcloaaDoorRev
import Derived.Lib.SplitLaws
import Derived.Lib.IndexBytes

section
set_option linter.unusedVariables false
set_option linter.unusedSimpArgs false
namespace Go.Proofs.YtelaijogjgcloaaDoor
open Go.RowKit Go.Ice Go.Scr

theorem RdAt.mark {w : World} {R : Nat} {l : List Txt} {bad : Bool} (h : RdAt w R l bad) (b : Bool) : RdAt (w.setCell ⟨R, 1, none⟩ (.bool b)) R l b ∧ Frm (fun k => k = R) w (w.setCell ⟨R, 1, none⟩ (.bool b)) := by
  obtain ⟨v, h1, h2, h3⟩ := h
  have hf : Frm (fun k => k = R) w (w.setCell ⟨R, 1, none⟩ (.bool b)) := (Frm.refl (fun k => k = R) w).setCell (p := ⟨R, _, none⟩) (.inl rfl) _
  exact ⟨⟨v, set_at h1 _, isSl_frm h2 h3 hf, h3⟩, hf⟩
/-- While a plan is read: the reader, the result's block. -/
structure PlS (w : World) (R B : Nat) (l : List Txt) (bad : Bool) (W : World) : Prop where
  frm : Frm (fun k => k = R) w W
  rd : RdAt W R l bad
  b : W.heap[B]? = some (.cells #[.int .i64 0, .int .i64 0, .int .i64 0, .int .i64 0, .int .i64 0] 23 (0, 0))
  hB : B = w.heap.size
  hR : R < B
theorem PlS.call {w : World} {R B : Nat} {l l' : List Txt} {bad bad' : Bool} {W W' : World} (h : PlS w R B l bad W) (hr : RdAt W' R l' bad') (hf : Frm (fun k => k = R) W W') : PlS w R B l' bad' W' := by
  have h1 := h.hR
  exact ⟨h.frm.trans hf, hr, (hf.block B (blk_lt h.b) (by omega)).trans h.b, h.hB, h.hR⟩
theorem PlS.fin {w : World} {R B : Nat} {rest : List Txt} {bad : Bool} {W : World} (h : PlS w R B rest bad W) {wz : World} (hz : Frm (fun k => k = B) W wz) : RdAt wz R rest bad ∧ Frm (fun k => k = R) w wz := by
  have h1 := h.hR
  have h3 := h.hB
  refine ⟨?_, ?_⟩
  · obtain ⟨v, g1, g2, g3⟩ := h.rd
    exact ⟨v, (hz.block R (blk_lt g1) (by omega)).trans g1, isSl_ne g2 (fun a n c hv => by have := g3 a n c hv; omega) hz, g3⟩
  · have f := h.frm
    exact ⟨hz.os.trans f.os, hz.tape.trans f.tape, hz.output.trans f.output, Nat.le_trans f.size hz.size, fun k hk hs => (hz.block k (Nat.lt_of_lt_of_le hk f.size) (by omega)).trans (f.block k hk hs)⟩

set_option maxHeartbeats 16000000 in
set_option maxRecDepth 100000 in
theorem plan42 (w0 w : World) (R : Nat) (L : List Txt) (hL : L ≠ []) (hl : Laid w0) (hb : Below w0.heap.size w0 w) (hR : w0.heap.size ≤ R) (h : RdAt w R L false) (hs : ∀ a ∈ L, a.length ≤ 1000000) :
    Calls Tryd.prog 42 #[.pointer (some ⟨R, 0, none⟩)] w fun e w' => ∃ p bad rest, e = .returned (planV p) ∧ RdAt w' R rest bad ∧ PlOut L p bad rest ∧ Frm (fun k => k = R) w w' := by
  have HPO := Lib.hid (plOut L hL)
  have HL := Lib.hid hl
  have HB0 := Lib.hid hb
  have HR0 := Lib.hid hR
  obtain ⟨s, hsd⟩ : ∃ s, s = L.headD [] := ⟨_, rfl⟩
  have HRL := Lib.hid h.lt
  obtain ⟨B, W0, hB, hW, HB, HBZ, HBW, HBS⟩ := boxed w #[.int .i64 0, .int .i64 0, .int .i64 0, .int .i64 0, .int .i64 0] 23
  have HW := Lib.hid hW
  have HS0 : Hid (PlS w R B L false W0) := ⟨frm_below (HB.out ▸ HBW.out), h.below (HB.out ▸ HBW.out), HBZ.out, HB.out, by have := HRL.out; have := HB.out; omega⟩
  have HLN : Hid (∀ a ∈ L.tail, a.length ≤ 281474976710656) := fun a ha => Nat.le_trans (hs a (List.mem_of_mem_tail ha)) (by decide)
  have HNX := Lib.hid (next62 W0 R L false HS0.out.rd)
  rw [← hsd] at HPO HNX
  obtain ⟨l, hll⟩ : ∃ l, l = L.tail := ⟨_, rfl⟩
  rw [← hll] at HPO HNX HLN
  generalize L.isEmpty = le at HNX
  unfold strV at HNX
  clear hB hW hl hb hR h hs hsd hll
  go_enter Tryd.func42, Tryd.ntmps42
  go_upto_region 1 with fail
  rw [← HB.out, ← HW.out]
  go_wp2_with fail
  refine HNX.out.mono ?_
  rintro e w1 ⟨rfl, h1, f1⟩
  have HS1 := Lib.hid (HS0.out.call h1 f1)
  obtain ⟨pv, g1, _⟩ := h1
  have c1 : w1.cell? ⟨R, 1, none⟩ = some (.bool (false || le)) := blk_cell g1 1
  have fz1 := blk_frozen g1 1
  clear HNX f1 g1
  obtain ⟨q, hq⟩ : ∃ q, q = (s == [112, 108, 97, 110]) := ⟨_, rfl⟩
  have HQ := Lib.hid hq
  clear hq
  go_wp2_with fail
  have HM := HS1.out.rd.mark (!(s == [112, 108, 97, 110]))
  have HS2 := Lib.hid (HS1.out.call HM.1 HM.2)
  rw [← HQ.out] at HS2 ⊢
  generalize w1.setCell ⟨R, 1, none⟩ (.bool (!q)) = V at HS2 ⊢
  clear HM HS1 c1 fz1

  obtain ⟨n1, hn1⟩ : ∃ n, n = numV l := ⟨_, rfl⟩
  obtain ⟨b1, hb1⟩ : ∃ b, b = ((!q) || (numO l).isNone) := ⟨_, rfl⟩
  have HC1 := number63 w0 V R l (!q) HL.out (HB0.out.trans (HS2.out.frm.below (fun k hk e => by have := HR0.out; omega) HB0.out.size)) HR0.out HS2.out.rd (fun a ha => HLN.out a ha)
  rw [show (numP (l.headD [])).getD 0 = numV l from rfl, show numP (l.headD []) = numO l from rfl, ← hn1, ← hb1] at HC1
  have HN1 := Lib.hid hn1
  have HBB1 := Lib.hid hb1
  clear hn1 hb1
  refine HC1.mono ?_
  rintro e w3 ⟨rfl, h3, f3⟩
  have HS3 := Lib.hid (HS2.out.call h3 f3)
  clear h3 f3 HC1 HS2
  go_wp2_with fail
  obtain ⟨n2, hn2⟩ : ∃ n, n = numV l.tail := ⟨_, rfl⟩
  obtain ⟨b2, hb2⟩ : ∃ b, b = (b1 || (numO l.tail).isNone) := ⟨_, rfl⟩
  have HC2 := number63 w0 w3 R l.tail b1 HL.out (HB0.out.trans (HS3.out.frm.below (fun k hk e => by have := HR0.out; omega) HB0.out.size)) HR0.out HS3.out.rd (fun a ha => HLN.out a (List.mem_of_mem_tail ha))
  rw [show (numP (l.tail.headD [])).getD 0 = numV l.tail from rfl, show numP (l.tail.headD []) = numO l.tail from rfl, ← hn2, ← hb2] at HC2
  have HN2 := Lib.hid hn2
  have HBB2 := Lib.hid hb2
  clear hn2 hb2
  refine HC2.mono ?_
  rintro e w4 ⟨rfl, h4, f4⟩
  have HS4 := Lib.hid (HS3.out.call h4 f4)
  clear h4 f4 HC2 HS3
  go_wp2_with fail
  obtain ⟨n3, hn3⟩ : ∃ n, n = numV l.tail.tail := ⟨_, rfl⟩
  obtain ⟨b3, hb3⟩ : ∃ b, b = (b2 || (numO l.tail.tail).isNone) := ⟨_, rfl⟩
  have HC3 := number63 w0 w4 R l.tail.tail b2 HL.out (HB0.out.trans (HS4.out.frm.below (fun k hk e => by have := HR0.out; omega) HB0.out.size)) HR0.out HS4.out.rd (fun a ha => HLN.out a (List.mem_of_mem_tail (List.mem_of_mem_tail ha)))
  rw [show (numP (l.tail.tail.headD [])).getD 0 = numV l.tail.tail from rfl, show numP (l.tail.tail.headD []) = numO l.tail.tail from rfl, ← hn3, ← hb3] at HC3
  have HN3 := Lib.hid hn3
  have HBB3 := Lib.hid hb3
  clear hn3 hb3
  refine HC3.mono ?_
  rintro e w5 ⟨rfl, h5, f5⟩
  have HS5 := Lib.hid (HS4.out.call h5 f5)
  clear h5 f5 HC3 HS4
  go_wp2_with fail
  obtain ⟨n4, hn4⟩ : ∃ n, n = numV l.tail.tail.tail := ⟨_, rfl⟩
  obtain ⟨b4, hb4⟩ : ∃ b, b = (b3 || (numO l.tail.tail.tail).isNone) := ⟨_, rfl⟩
  have HC4 := number63 w0 w5 R l.tail.tail.tail b3 HL.out (HB0.out.trans (HS5.out.frm.below (fun k hk e => by have := HR0.out; omega) HB0.out.size)) HR0.out HS5.out.rd (fun a ha => HLN.out a (List.mem_of_mem_tail (List.mem_of_mem_tail (List.mem_of_mem_tail ha))))
  rw [show (numP (l.tail.tail.tail.headD [])).getD 0 = numV l.tail.tail.tail from rfl, show numP (l.tail.tail.tail.headD []) = numO l.tail.tail.tail from rfl, ← hn4, ← hb4] at HC4
  have HN4 := Lib.hid hn4
  have HBB4 := Lib.hid hb4
  clear hn4 hb4
  refine HC4.mono ?_
  rintro e w6 ⟨rfl, h6, f6⟩
  have HS6 := Lib.hid (HS5.out.call h6 f6)
  clear h6 f6 HC4 HS5
  go_wp2_with fail
  obtain ⟨n5, hn5⟩ : ∃ n, n = numV l.tail.tail.tail.tail := ⟨_, rfl⟩
  obtain ⟨b5, hb5⟩ : ∃ b, b = (b4 || (numO l.tail.tail.tail.tail).isNone) := ⟨_, rfl⟩
  have HC5 := number63 w0 w6 R l.tail.tail.tail.tail b4 HL.out (HB0.out.trans (HS6.out.frm.below (fun k hk e => by have := HR0.out; omega) HB0.out.size)) HR0.out HS6.out.rd (fun a ha => HLN.out a (List.mem_of_mem_tail (List.mem_of_mem_tail (List.mem_of_mem_tail (List.mem_of_mem_tail ha)))))
  rw [show (numP (l.tail.tail.tail.tail.headD [])).getD 0 = numV l.tail.tail.tail.tail from rfl, show numP (l.tail.tail.tail.tail.headD []) = numO l.tail.tail.tail.tail from rfl, ← hn5, ← hb5] at HC5
  have HN5 := Lib.hid hn5
  have HBB5 := Lib.hid hb5
  clear hn5 hb5
  refine HC5.mono ?_
  rintro e w7 ⟨rfl, h7, f7⟩
  have HS7 := Lib.hid (HS6.out.call h7 f7)
  clear h7 f7 HC5 HS6
  have z0 : w7.cell? ⟨B, 0, none⟩ = some (.int .i64 0) := blk_cell HS7.out.b 0
  have z1 : w7.cell? ⟨B, 1, none⟩ = some (.int .i64 0) := blk_cell HS7.out.b 1
  have z2 : w7.cell? ⟨B, 2, none⟩ = some (.int .i64 0) := blk_cell HS7.out.b 2
  have z3 : w7.cell? ⟨B, 3, none⟩ = some (.int .i64 0) := blk_cell HS7.out.b 3
  have z4 : w7.cell? ⟨B, 4, none⟩ = some (.int .i64 0) := blk_cell HS7.out.b 4
  have fz := fun r => blk_frozen HS7.out.b r
  go_wp2_with fail
  have hz := set5 (v0 := .int .i64 n1) (v1 := .int .i64 n2) (v2 := .int .i64 n3) (v3 := .int .i64 n4) (v4 := .int .i64 n5) HS7.out.b
  have r0 := blk_cell hz 0
  have r1 := blk_cell hz 1
  have r2 := blk_cell hz 2
  have r3 := blk_cell hz 3
  have r4 := blk_cell hz 4
  refine bodyPost_ret (v := .agg #[.int .i64 n1, .int .i64 n2, .int .i64 n3, .int .i64 n4, .int .i64 n5]) (by simp [results, Tryd.f42, go_sem, r0, r1, r2, r3, r4]) rfl ?_
  obtain ⟨k1, k2⟩ := HS7.out.fin (frm_set5 B (.int .i64 n1) (.int .i64 n2) (.int .i64 n3) (.int .i64 n4) (.int .i64 n5))
  refine ⟨⟨n1, n2, n3, n4, n5⟩, b5, l.tail.tail.tail.tail.tail, rfl, k1, ?_, k2⟩
  have hp := HPO.out
  rw [← HN1.out, ← HN2.out, ← HN3.out, ← HN4.out, ← HN5.out] at hp
  have hb : b5 = (decide (s ≠ wPlan) || (numO l).isNone || (numO l.tail).isNone || (numO l.tail.tail).isNone || (numO l.tail.tail.tail).isNone || (numO l.tail.tail.tail.tail).isNone) := by
    rw [HBB5.out, HBB4.out, HBB3.out, HBB2.out, HBB1.out, HQ.out]
    have : (!(s == [112, 108, 97, 110])) = decide (s ≠ wPlan) := by
      by_cases h : s = wPlan
      · subst h; decide
      · have h' : (s == [112, 108, 97, 110]) = false := by simpa [wPlan] using h
        rw [h']; simp [h]
    rw [this]
  rw [hb]
  exact hp
end Go.Proofs.YtelaijogjgcloaaDoor
end

section
set_option linter.unusedVariables false
set_option linter.unusedSimpArgs false
namespace Go.Proofs.YtelaijogjgcloaaDoor
open Go.RowKit Go.Ice Go.Scr

theorem ib_none {c : UInt8} : ∀ {s : Txt}, c ∉ s → Lib.indexByte s c = -1
  | [], _ => rfl
  | b :: l, h => by
    have h1 : (b == c) = false := by simp; intro e; exact h (by rw [e]; exact .head _)
    have h2 := ib_none (s := l) (fun e => h (.tail _ e))
    unfold Lib.indexByte
    rw [h1, h2]; rfl
theorem ib_some {c : UInt8} : ∀ {a : Txt} (t : Txt), c ∉ a → Lib.indexByte (a ++ c :: t) c = (a.length : Int)
  | [], t, _ => by simp [Lib.indexByte]
  | b :: l, t, h => by
    have h1 : (b == c) = false := by simp; intro e; exact h (by rw [e]; exact .head _)
    have h2 := ib_some t (a := l) (fun e => h (.tail _ e))
    rw [List.cons_append]
    unfold Lib.indexByte
    rw [h1, h2]
    have : (((l.length : Nat) : Int) == -1) = false := beq_eq_false_iff_ne.2 (by omega)
    rw [this]
    simp
theorem cut_none {s : Txt} (h : cutL s = none) : Lib.cut s [10] = (s, [], false) := by
  unfold Lib.cut
  rw [Lib.index_one, ib_none (cutL_none.1 h)]; rfl
theorem cut_some {s l r : Txt} (h : cutL s = some (l, r)) : Lib.cut s [10] = (l, r, true) := by
  obtain ⟨rfl, h2⟩ := cutL_some.1 h
  unfold Lib.cut
  rw [Lib.index_one, ib_some r h2, if_pos (by omega)]
  simp
theorem splitC_len (c : UInt8) : ∀ s : Txt, (splitC c s).length = s.count c + 1
  | [] => rfl
  | x :: l => by
    have ih := splitC_len c l
    unfold splitC
    split
    · rename_i h; subst h; simp [ih]
    · rename_i h
      rw [List.count_cons_of_ne h]
      split
      · rename_i h2; exact absurd h2 (splitC_ne c l)
      · rename_i h2 t2 h3; rw [h3] at ih; simpa using ih
theorem splitK_eq (c : UInt8) : ∀ (n : Nat) (s : Txt), s.length ≤ n → Lib.splitK [c] 0 (s.count c) s = splitC c s := by
  intro n
  induction n with
  | zero =>
    intro s h
    obtain rfl := List.length_eq_zero_iff.1 (Nat.le_zero.1 h)
    rfl
  | succ n ih =>
    intro s h
    by_cases hc : c ∈ s
    · obtain ⟨a, t, rfl, ha⟩ := List.eq_append_cons_of_mem hc
      have e : (a ++ c :: t).count c = t.count c + 1 := by rw [List.count_append, List.count_cons_self, List.count_eq_zero_of_not_mem ha, Nat.zero_add]
      rw [e, split_append c a t ha, Lib.splitK, Lib.index_one, ib_some t ha, if_neg (by simp)]
      have h1 : ((a.length : Int).toNat + 0) = a.length := by omega
      have h2 : ((a.length : Int).toNat + [c].length) = a.length + 1 := by simp
      rw [h1, h2, List.take_left', ← ih t (by rw [List.length_append, List.length_cons] at h; omega)]
      · congr 1
        rw [show a ++ c :: t = (a ++ [c]) ++ t by simp, List.drop_left' (by simp)]
      · rfl
    · rw [List.count_eq_zero_of_not_mem hc, split_one c s hc]; rfl
theorem count_txt (s : Txt) : Lib.countB ⟨s.toArray⟩ ⟨#[32]⟩ = s.count 32 := by
  show Lib.count _ _ = _
  exact Lib.count_one 32 s
theorem split_bytes (s : Txt) : (Lib.splitB ⟨#[32]⟩ 0 (Lib.countB ⟨s.toArray⟩ ⟨#[32]⟩) ⟨s.toArray⟩).map Value.string = (splitC 32 s).map strV := by
  have h := Lib.splitB_data ⟨#[32]⟩ 0 (Lib.countB ⟨s.toArray⟩ ⟨#[32]⟩) ⟨s.toArray⟩
  rw [count_txt] at h ⊢
  have h2 : Lib.splitK (⟨#[32]⟩ : ByteArray).data.toList 0 (s.count 32) (⟨s.toArray⟩ : ByteArray).data.toList = splitC 32 s := splitK_eq 32 s.length s (Nat.le_refl _)
  rw [h2] at h
  rw [← h, List.map_map]
  rfl
theorem split_short (c : UInt8) : ∀ (s : Txt), ∀ a ∈ splitC c s, a.length ≤ s.length
  | [], a, h => by simp [splitC] at h; subst h; exact Nat.le_refl _
  | x :: l, a, h => by
    have ih := split_short c l
    unfold splitC at h
    split at h
    · rcases List.mem_cons.1 h with rfl | h
      · simp
      · have := ih a h; simp; omega
    · split at h
      · rename_i h2; exact absurd h2 (splitC_ne c l)
      · rename_i h2 t2 h3
        rcases List.mem_cons.1 h with rfl | h
        · have := ih h2 (by rw [h3]; exact .head _); simp; omega
        · have := ih a (by rw [h3]; exact .tail _ h); simp; omega
end Go.Proofs.YtelaijogjgcloaaDoor
end

section
set_option linter.unusedVariables false
set_option linter.unusedSimpArgs false
namespace Go.Proofs.YtelaijogjgcloaaDoor
open Go.RowKit Go.Ice Go.Scr

def plan0 : Plan := ⟨0, 0, 0, 0, 0⟩
/-- What a parse has come to at a place. -/
def ParS (t : Txt) (a : Nat) (p : Plan) (evs : List Ev) : Prop :=
  (a = 0 ∧ t ≠ [] ∧ p = plan0 ∧ evs = []) ∨
  (0 < a ∧ a ≤ t.length ∧ planB p = true ∧ evs.length ≤ 200 ∧ ∃ f, (t.drop a).length ≤ f ∧ parseP t = match evsP p f evs a (t.drop a) with
    | .error k => .error k
    | .ok e => .ok ⟨p, e⟩)
/-- A line is read: what it makes of the parse. -/
def ParN (t : Txt) (a : Nat) (line : Txt) (p : Plan) (evs : List Ev) (wrong bad : Bool) (rest : List Txt) : Prop :=
  if wrong || bad || decide (0 < rest.length) then parseP t = .error a else ParS t (a + line.length + 1) p evs
theorem par_end {t : Txt} {a : Nat} {p : Plan} {evs : List Ev} (h : ParS t a p evs) (ha : t.length ≤ a) : parseP t = .ok ⟨p, evs⟩ := by
  rcases h with ⟨rfl, h, _, _⟩ | ⟨h0, _, _, _, f, hf, h⟩
  · exact absurd (List.length_eq_zero_iff.1 (by omega)) h
  · have e : t.drop a = [] := List.drop_eq_nil_of_le ha
    rw [h, e]
    cases f with
    | zero => rfl
    | succ f => rfl
theorem cutL_drop {s l r : Txt} (h : cutL s = some (l, r)) : r = s.drop (l.length + 1) ∧ l.length + 1 ≤ s.length := by
  obtain ⟨rfl, _⟩ := cutL_some.1 h
  refine ⟨?_, by simp⟩
  rw [show l ++ 10 :: r = (l ++ [10]) ++ r by simp, List.drop_left' (by simp)]
theorem par_plan_no {t : Txt} {line : Txt} {p : Plan} {evs : List Ev} {wrong bad : Bool} {rest : List Txt} (hc : cutL t = none) (hw : wrong = true) : ParN t 0 line p evs wrong bad rest := by
  unfold ParN
  rw [hw, if_pos (by simp)]
  unfold parseP
  rw [hc]
theorem par_plan {t line r : Txt} {p : Plan} {wrong bad : Bool} {rest : List Txt} (hc : cutL t = some (line, r)) (hp : PlOut (splitC 32 line) p bad rest) (hw : wrong = !planB p) : ParN t 0 line p [] wrong bad rest := by
  unfold ParN
  rcases hp with ⟨h1, rfl, rfl⟩ | ⟨h1, h2⟩
  · cases hb : planB p with
    | false =>
      rw [hw, hb, if_pos (by rfl)]
      unfold parseP
      rw [hc]
      simp only [h1, hb]
      rfl
    | true =>
      rw [hw, hb, if_neg (by simp)]
      obtain ⟨e1, e2⟩ := cutL_drop hc
      right
      refine ⟨by omega, by omega, hb, by simp, r.length, ?_, ?_⟩
      · rw [Nat.zero_add, ← e1]; exact Nat.le_refl _
      · rw [Nat.zero_add, ← e1]
        unfold parseP
        rw [hc]
        simp only [h1, hb, if_true]
        cases evsP p r.length [] (line.length + 1) r <;> rfl
  · have : (wrong || bad || decide (0 < rest.length)) = true := by
      rcases h2 with rfl | h2
      · simp
      · have : decide (0 < rest.length) = true := by simpa using List.length_pos_iff.2 h2
        rw [this]; simp
    rw [if_pos this]
    unfold parseP
    rw [hc]
    simp only [h1]
theorem par_ev_no {t : Txt} {a : Nat} {line : Txt} {p p' : Plan} {evs evs' : List Ev} {wrong bad : Bool} {rest : List Txt} (h : ParS t a p evs) (ha : 0 < a) (hl : a < t.length) (hc : cutL (t.drop a) = none) (hw : wrong = true) : ParN t a line p' evs' wrong bad rest := by
  unfold ParN
  rw [hw, if_pos (by simp)]
  rcases h with ⟨h0, _⟩ | ⟨h0, _, _, _, f, hf, h⟩
  · omega
  · have hne : t.drop a ≠ [] := fun e => by have := congrArg List.length e; rw [List.length_drop] at this; simp at this; omega
    cases f with
    | zero => rw [List.length_drop] at hf; omega
    | succ f =>
      rw [h, evsP, if_neg hne, hc]
theorem par_ev {t line r : Txt} {a : Nat} {p : Plan} {evs : List Ev} {x : Ev} {wrong bad : Bool} {rest : List Txt} (h : ParS t a p evs) (ha : 0 < a) (hl : a < t.length) (hc : cutL (t.drop a) = some (line, r)) (hx : EvOut (splitC 32 line) x bad rest)
    (hw : wrong = (!rightE p x || decide (evs.length = 200))) : ParN t a line p (evs ++ [x]) wrong bad rest := by
  unfold ParN
  rcases h with ⟨h0, _⟩ | ⟨h0, h00, hpb, h200, f, hf, h⟩
  · omega
  · have hne : t.drop a ≠ [] := fun e => by have := congrArg List.length e; rw [List.length_drop] at this; simp at this; omega
    obtain ⟨e1, e2⟩ := cutL_drop hc
    cases f with
    | zero => rw [List.length_drop] at hf; omega
    | succ f =>
      rw [evsP, if_neg hne, hc] at h
      rcases hx with ⟨g1, rfl, rfl⟩ | ⟨g1, g2⟩
      · simp only [g1] at h
        by_cases hr : rightE p x = true ∧ evs.length < 200
        · have hd : (rightE p x && decide (evs.length < 200)) = true := by simp [hr.1, hr.2]
          have hwf : wrong = false := by rw [hw, hr.1]; simp; omega
          rw [hd, if_pos rfl] at h
          rw [hwf, if_neg (by simp)]
          rw [List.drop_drop] at e1
          rw [List.length_drop] at e2
          have e3 : a + line.length + 1 = a + (line.length + 1) := by omega
          right
          refine ⟨by omega, by omega, hpb, by rw [List.length_append]; simp; omega, f, ?_, ?_⟩
          · rw [e3, List.length_drop]; rw [List.length_drop] at hf; omega
          · rw [e3, ← e1, ← e3]; exact h
        · have hd : (rightE p x && decide (evs.length < 200)) = false := by
            cases hq : rightE p x with
            | false => rfl
            | true => simp; exact Nat.le_of_not_lt fun e => hr ⟨hq, e⟩
          have hwt : wrong = true := by
            rw [hw]
            cases hq : rightE p x with
            | false => rfl
            | true => simp; have : ¬ evs.length < 200 := fun e => hr ⟨hq, e⟩; omega
          rw [hd, if_neg (by simp)] at h
          rw [hwt, if_pos (by simp)]
          exact h
      · simp only [g1] at h
        have : (wrong || bad || decide (0 < rest.length)) = true := by
          rcases g2 with rfl | g2 | g2
          · simp
          · have : decide (0 < rest.length) = true := by simpa using List.length_pos_iff.2 g2
            rw [this]; simp
          · have hq : rightE p x = false := by
              unfold rightE
              rw [decide_eq_false (fun e => g2 e.1)]; rfl
            rw [hw, hq]; simp
        rw [if_pos this]
        exact h
end Go.Proofs.YtelaijogjgcloaaDoor
end

section
set_option linter.unusedVariables false
set_option linter.unusedSimpArgs false
namespace Go.Proofs.YtelaijogjgcloaaDoor
open Go.RowKit Go.Ice Go.Scr

theorem elemEv : Elem Tryd.prog 24 41 5 72 (.agg #[.int .i64 0, .int .i64 0, .int .i64 0, .slice none 0 0, .slice none 0 0]) :=
  ⟨Tryd.underlying24, by
    obtain ⟨i0, hi, hz0, hz1, hz2⟩ := info_parts (show (Tryd.prog.info? 41).map (fun i => (i.zero, i.size, i.bytes)) = some (some (.agg #[.int .i64 0, .int .i64 0, .int .i64 0, .slice none 0 0, .slice none 0 0]), 5, 72) by kernel_rfl)
    exact ⟨i0, hi, hz0, hz1, hz2⟩, rfl, by decide⟩
/-- An event's five cells, its rows made behind B. -/
structure EvF (B : Nat) (W : World) (x : Ev) (c : Nat → Value) : Prop where
  c0 : c 0 = .int .i64 x.kind
  c1 : c 1 = .int .i64 x.conn
  c2 : c 2 = .int .i64 x.n
  bs : BytesAt W (c 3) x.bytes
  ks : BoolsAt W (c 4) x.keep
  fb : Fresh B W (c 3) 5
  fk : Fresh B W (c 4) 4
theorem EvF.below {B : Nat} {W W' : World} {x : Ev} {c : Nat → Value} (h : EvF B W x c) (hb : Below W.heap.size W W') : EvF B W' x c :=
  ⟨h.c0, h.c1, h.c2, h.bs.below hb (Nat.le_refl _), h.ks.below hb (Nat.le_refl _), h.fb.below hb, h.fk.below hb⟩
theorem isSl_frmS {w w' : World} {S : Nat → Prop} {v : Value} {cs : List Value} (h2 : IsSl w v cs) (h3 : ∀ a n c, v = .slice (some a) n c → ¬ S a.block) (hf : Frm S w w') : IsSl w' v cs := by
  rcases h2 with h2 | ⟨h0, b, off, cap, rfl, g1, g2, g3, g4⟩
  · exact .inl h2
  · exact .inr ⟨h0, b, off, cap, rfl, g1, g2, Nat.lt_of_lt_of_le g3 hf.size, fun j hj => by
      have hn : ¬ S b := h3 _ _ _ rfl
      rw [hf.cell (p := ⟨b, off + j, none⟩) g3 hn]; exact g4 j hj⟩
theorem Fresh.frmS {B : Nat} {S : Nat → Prop} {w w' : World} {u : Value} {e : TypeId} (h : Fresh B w u e) (h3 : ∀ a n c, u = .slice (some a) n c → ¬ S a.block) (hf : Frm S w w') : Fresh B w' u e := fun a n c hu => by
  obtain ⟨h1, cs, h2, h4⟩ := h a n c hu
  exact ⟨h1, cs, (hf.block _ (blk_lt h2) (h3 a n c hu)).trans h2, h4⟩
theorem EvF.frm {B : Nat} {S : Nat → Prop} {W W' : World} {x : Ev} {c : Nat → Value} (h : EvF B W x c) (hf : Frm S W W') (h5 : ∀ k cs, B ≤ k → W.heap[k]? = some (.cells cs 5 (0, 0)) → ¬ S k) (h4 : ∀ k cs, B ≤ k → W.heap[k]? = some (.cells cs 4 (0, 0)) → ¬ S k) : EvF B W' x c := by
  have g5 : ∀ a n d, c 3 = .slice (some a) n d → ¬ S a.block := fun a n d e => by obtain ⟨q1, cs, q2, _⟩ := h.fb a n d e; exact h5 _ cs q1 q2
  have g4 : ∀ a n d, c 4 = .slice (some a) n d → ¬ S a.block := fun a n d e => by obtain ⟨q1, cs, q2, _⟩ := h.fk a n d e; exact h4 _ cs q1 q2
  exact ⟨h.c0, h.c1, h.c2, isSl_frmS h.bs g5 hf, isSl_frmS h.ks g4 hf, h.fb.frmS g5 hf, h.fk.frmS g4 hf⟩
theorem EvF.at {B : Nat} {W : World} {x : Ev} {c : Nat → Value} (h : EvF B W x c) : EvAt W (.agg #[c 0, c 1, c 2, c 3, c 4]) x :=
  ⟨c 3, c 4, by rw [h.c0, h.c1, h.c2]; rfl, h.bs, h.ks⟩
/-- A row of events of one's own, behind B. -/
def EvsOwn (B : Nat) (W : World) (v : Value) (l : List Ev) : Prop := ∃ X : Nat → Nat → Value, W.ownsRow B 41 5 v l.length (flat l.length 5 X) ∧ ∀ i x, l[i]? = some x → EvF B W x (X i)
theorem EvsOwn.nil (B : Nat) (W : World) : EvsOwn B W (.slice none 0 0) [] := ⟨fun _ _ => .int .i64 0, World.ownsRow_nil _ _ _ _, fun i x h => by simp at h⟩
theorem EvsOwn.at {B : Nat} {W : World} {v : Value} {l : List Ev} (h : EvsOwn B W v l) : EvsAt W v l := by
  obtain ⟨X, h1, h2⟩ := h
  exact ⟨X, own_rowAt h1, fun i x hi => (h2 i x hi).at⟩
theorem EvsOwn.form {B : Nat} {W : World} {v : Value} {l : List Ev} (h : EvsOwn B W v l) : ∃ a cap, v = .slice a l.length cap := by
  obtain ⟨X, h1, h2⟩ := h
  exact own_slice h1
theorem EvsOwn.below {B : Nat} {W W' : World} {v : Value} {l : List Ev} (h : EvsOwn B W v l) (hb : Below W.heap.size W W') : EvsOwn B W' v l := by
  obtain ⟨X, h1, h2⟩ := h
  exact ⟨X, own_below h1 hb, fun i x hi => (h2 i x hi).below hb⟩
theorem EvsOwn.keep {B S : Nat} {W W' : World} {v : Value} {l : List Ev} (h : EvsOwn B W v l) (hS : S < B) (hf : Frm (fun k => k = S) W W') : EvsOwn B W' v l := by
  obtain ⟨X, h1, h2⟩ := h
  exact ⟨X, own_frm h1 hf (fun k hk => by omega), fun i x hi => (h2 i x hi).frm hf (fun k cs hk _ => by omega) (fun k cs hk _ => by omega)⟩
theorem EvsOwn.mono {B B' : Nat} {W : World} {v : Value} {l : List Ev} (h : EvsOwn B W v l) (hB : B' ≤ B) : EvsOwn B' W v l := by
  obtain ⟨X, ⟨h0, h1⟩, h2⟩ := h
  refine ⟨X, ⟨h0, ?_⟩, fun i x hi => ?_⟩
  · rcases h1 with h1 | ⟨g, cap, cur, hv, hb, r⟩
    · exact .inl h1
    · exact .inr ⟨g, cap, cur, hv, Nat.le_trans hB hb, r⟩
  · have h := h2 i x hi
    exact ⟨h.c0, h.c1, h.c2, h.bs, h.ks, h.fb.mono hB, h.fk.mono hB⟩
theorem EvsOwn.ne {B S : Nat} {W : World} {v : Value} {l : List Ev} (h : EvsOwn B W v l) {cs : Array Value} {t : TypeId} (hS : W.heap[S]? = some (.cells cs t (0, 0))) (ht : t ≠ 41) : v.ownBlock ≠ some S := by
  obtain ⟨X, h1, h2⟩ := h
  exact fun e => block_apart h1 hS (Ne.symm ht) e.symm
theorem EvsOwn.append {B : Nat} {W : World} {v sx : Value} {l : List Ev} {x : Ev} {c : Nat → Value} (h : EvsOwn B W v l) (hx : EvF B W x c) (hs : IsSlK W 5 1 sx [c 0, c 1, c 2, c 3, c 4]) (h1c : ∀ j, j < 5 → (c j).oneCell' = true) (hB : B ≤ W.heap.size) (hl : l.length ≤ 10000000) :
    ∃ v' w', (Builtin.append_ #[24, 24] 24 #[v, sx]).run Tryd.prog W = .ok v' w' ∧ EvsOwn B w' v' (l ++ [x]) ∧ Frm (fun k => v.ownBlock = some k) W w' := by
  obtain ⟨X, h1, h2⟩ := h
  obtain ⟨v', w', hr, ho, hg, _⟩ := app_at (P := Tryd.prog) (ty := 24) elemEv h1 hs (fun u hu => by
    simp only [List.mem_cons, List.mem_nil_iff, or_false] at hu
    rcases hu with rfl | rfl | rfl | rfl | rfl
    · exact h1c 0 (by omega)
    · exact h1c 1 (by omega)
    · exact h1c 2 (by omega)
    · exact h1c 3 (by omega)
    · exact h1c 4 (by omega)) (by omega) (by unfold maxLen; omega) hB
  have hf : Frm (fun k => v.ownBlock = some k) W w' := ⟨hg.os, hg.tape, hg.output, hg.size, fun k hk hs => hg.block k hk (fun e => hs e.symm)⟩
  have hne : ∀ (t : TypeId), t ≠ 41 → ∀ k cs, B ≤ k → W.heap[k]? = some (.cells cs t (0, 0)) → ¬ (v.ownBlock = some k) := fun t ht k cs _ hk e => block_apart h1 hk (Ne.symm ht) e.symm
  refine ⟨v', w', hr, ⟨fun i j => if i < l.length then X i j else c j, ?_, fun i y hi => ?_⟩, hf⟩
  · have e : flat l.length 5 X ++ [c 0, c 1, c 2, c 3, c 4] = flat (l.length + 1) 5 (fun i j => if i < l.length then X i j else c j) := by
      rw [show [c 0, c 1, c 2, c 3, c 4] = flat 1 5 (fun _ j => c j) from rfl, flat_append]
    rw [e] at ho
    rw [List.length_append]
    exact ho
  · rcases Nat.lt_or_ge i l.length with hlt | hge
    · have e : (fun j => if i < l.length then X i j else c j) = X i := by funext j; rw [if_pos hlt]
      show EvF B w' y (fun j => if i < l.length then X i j else c j)
      rw [e]
      rw [List.getElem?_append_left hlt] at hi
      exact (h2 i y hi).frm hf (hne 5 (by decide)) (hne 4 (by decide))
    · have hi0 : i = l.length := by
        have := (List.getElem?_eq_some_iff.1 hi).1
        rw [List.length_append] at this; simp at this; omega
      subst hi0
      rw [List.getElem?_append_right (Nat.le_refl _), Nat.sub_self] at hi
      simp at hi
      subst hi
      have e : (fun j => if l.length < l.length then X l.length j else c j) = c := by funext j; rw [if_neg (by omega)]
      show EvF B w' x (fun j => if l.length < l.length then X l.length j else c j)
      rw [e]
      exact hx.frm hf (hne 5 (by decide)) (hne 4 (by decide))
/-- An append in a walk, its run known. -/
theorem wpList_append_eq {P : Program} {ops : Array Oper} {rest : List Oper} {o : Oper} {a : Act} {w : World} {Q : Exit → Act → World → Prop} (hgd : o.guard = none) (s x : Operand) (t : TypeId)
    (ho : o.op = .call { callee := .builtin .append, args := #[s, x], argTypes := #[t, t] }) {v vx v' : Value} {w' : World} (hs : a.eval s = v) (hx : a.eval x = vx)
    (hrun : (Builtin.append_ #[t, t] o.type #[v, vx]).run P w = .ok v' w') (h : wpList P ops Q rest (a.put o.dst v') w') : wpList P ops Q (o :: rest) a w :=
  wpList_plain hgd fun _ hK => by
    unfold Oper.wp
    have : (execOp a.eval o).run P w = .ok (.value v') w' := by
      unfold execOp
      simp only [ho, resolve, invoke, builtin, Sem.run_bind, Sem.run_pure, Result.andThen_ok, List.map_toArray, List.map_cons, List.map_nil, hs, hx, hrun]
    rw [this]
    exact hK _ _ h
end Go.Proofs.YtelaijogjgcloaaDoor
end
