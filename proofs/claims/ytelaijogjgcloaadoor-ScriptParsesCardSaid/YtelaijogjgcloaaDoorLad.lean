/- Print's closure: a blank and a number. Conditions: the builder is one of the call's own; the table of powers is as laid. reader.next. Condition: the reader's parts lie in memory, beside it. A number's digits as strconv.Atoi reads them. Plain Lean. What is laid: the table of powers, the two errors of strconv. -/
import Derived.Test.YtelaijogjgcloaaDoorBld
import Derived.Test.YtelaijogjgcloaaDoorShelf
import Derived.Lib.AppendIntMem
import Derived.Test.YtelaijogjgcloaaDoorPlain
import Derived.Lib.AtoiTie
import Derived.Lib.AtoiErrMem

section
set_option linter.unusedVariables false
set_option linter.unusedSimpArgs false
namespace Go.Proofs.YtelaijogjgcloaaDoor
open Go.RowKit Go.Ice Go.Scr

abbrev Pow10 (w : World) : Prop := Lib.TabIs Tryd.prog w "internal/strconv.uint64pow10" .u64 Lib.pow10Tab
theorem strCells_txt (t : Txt) : Lib.strCells ⟨t.toArray⟩ = t.map u8v := by simp [Lib.strCells, u8v]
theorem cat_txt (a b : List UInt8) : (⟨a.toArray⟩ : ByteArray) ++ ⟨b.toArray⟩ = ⟨(a ++ b).toArray⟩ := ByteArray.ext (by simp)
theorem builderAt_below {B b : Nat} {p : Value} {bs : List Value} {w w' : World} (h : Lib.BuilderAt 48 5 B b p bs w) (hb : Below w.heap.size w w') : Lib.BuilderAt 48 5 B b p bs w' := by
  obtain ⟨h1, v, h2, h3, h4⟩ := h
  exact ⟨h1, v, (hb.block b (blk_lt h2)).trans h2, own_below h3 hb, h4⟩
theorem isBuilder_below {B b : Nat} {bs : List Value} {w w' : World} (h : Lib.IsBuilder 48 5 B b bs w) (hb : Below w.heap.size w w') : Lib.IsBuilder 48 5 B b bs w' := h.imp (builderAt_below · hb) (builderAt_below · hb)
theorem itoaWorld (w : World) (k : Nat) (os : Array Obj) : Below w.heap.size w (Sort.grow (w.drewN k) os) := Lib.below_grow _ w (Nat.le_refl _) k os
set_option maxHeartbeats 4000000 in
set_option maxRecDepth 100000 in
theorem number21 (B b : Nat) (t : Txt) (n : Int) (w : World) (h : Lib.IsBuilder 48 5 B b (t.map u8v) w) (hlen : t.length + 100 ≤ 140737488355328) (hBw : B ≤ w.heap.size) (h0 : -9223372036854775808 ≤ n) (h1 : n ≤ 9223372036854775807) (htab : Pow10 w) (hlt : (numT n).length ≤ 50) :
    Calls Tryd.prog 21 #[.int .i64 n, .pointer (some ⟨b, 0, none⟩)] w fun e w' => (∃ r, e = .returned r) ∧ Lib.IsBuilder 48 5 B b ((t ++ 32 :: numT n).map u8v) w' ∧ Bfr B b w w' := by
  have hI := Tryd.strconv_Itoa n h0 h1 w htab
  go_enter Tryd.func21, Tryd.ntmps21
  go_wp2_with fail
  refine hI.mono ?_
  rintro e w1 ⟨rfl, k, os, rfl⟩
  have hb1 := itoaWorld w k os
  generalize Sort.grow (w.drewN k) os = w1 at hb1 ⊢
  have h2 := isBuilder_below h hb1
  have hq : ¬ 9223372036854775807 < 1 + (Lib.itoa n).length := by unfold numT at hlt; omega
  have HB1 := Lib.hid hb1
  have HW := Lib.hid (writeString20 B b _ ⟨(32 :: Lib.itoa n).toArray⟩ w1 h2 (by rw [List.length_map]; show t.length + (32 :: Lib.itoa n).toArray.size ≤ _; unfold numT at hlt; simp; omega) (by have := hb1.size; omega))
  have HBW := Lib.hid hBw
  clear hb1 h2 h hI hlen hBw htab
  go_wp2_with fail
  rw [show (⟨#[32]⟩ : ByteArray) ++ ⟨(Lib.itoa n).toArray⟩ = ⟨(32 :: Lib.itoa n).toArray⟩ from cat_txt [32] _]
  refine HW.out.mono ?_
  rintro e w2 ⟨⟨r, rfl⟩, hw1, hw2⟩
  have HA := Lib.hid hw1
  have HC := Lib.hid hw2
  clear hw1 hw2 HW
  go_wp2_with fail
  go_end0
  exact ⟨⟨_, rfl⟩, .inr (by rw [List.map_append, ← strCells_txt (32 :: numT n)]; exact HA.out), (Bfr.of_below HB1.out HBW.out).trans HC.out⟩
end Go.Proofs.YtelaijogjgcloaaDoor
end

section
set_option linter.unusedVariables false
set_option linter.unusedSimpArgs false
namespace Go.Proofs.YtelaijogjgcloaaDoor
open Go.RowKit Go.Ice Go.Scr

/-- A line's reader: its block, its parts, whether it went wrong. -/
def RdAt (w : World) (R : Nat) (l : List Txt) (bad : Bool) : Prop :=
  ∃ v, w.heap[R]? = some (.cells #[v, .bool bad] 80 (0, 0)) ∧ IsSl w v (l.map strV) ∧ ∀ a n c, v = .slice (some a) n c → a.block < R
set_option maxHeartbeats 4000000 in
set_option maxRecDepth 100000 in
theorem next_nil (w : World) (R : Nat) (bad : Bool) (h : RdAt w R [] bad) :
    Calls Tryd.prog 62 #[.pointer (some ⟨R, 0, none⟩)] w fun e w' => e = .returned (strV []) ∧ RdAt w' R [] true ∧ Frm (fun k => k = R) w w' := by
  obtain ⟨v, h1, h2, h3⟩ := h
  obtain ⟨a, c, rfl, hm⟩ := h2.form
  have c0 : w.cell? ⟨R, 0, none⟩ = some (.slice a 0 c) := blk_cell h1 0
  have c1 : w.cell? ⟨R, 1, none⟩ = some (.bool bad) := blk_cell h1 1
  have f1 := blk_frozen h1 1
  have H1 := Lib.hid h1
  have H2 := Lib.hid h2
  have H3 := Lib.hid h3
  clear h1 h2 h3 hm
  go_enter Tryd.func62, Tryd.ntmps62
  go_wp2_with fail
  go_ret
  have hf : Frm (fun k => k = R) w (w.setCell ⟨R, 1, none⟩ (.bool true)) := (Frm.refl (fun k => k = R) w).setCell (p := ⟨R, _, none⟩) (.inl rfl) _
  refine ⟨rfl, ⟨_, set_at H1.out _, .inl ⟨rfl, ?_⟩, H3.out⟩, hf⟩
  rcases H2.out with ⟨_, h⟩ | ⟨h, _⟩
  · exact h
  · simp at h

set_option maxHeartbeats 4000000 in
set_option maxRecDepth 100000 in
theorem next_cons (w : World) (R : Nat) (x : Txt) (l : List Txt) (bad : Bool) (h : RdAt w R (x :: l) bad) :
    Calls Tryd.prog 62 #[.pointer (some ⟨R, 0, none⟩)] w fun e w' => e = .returned (strV x) ∧ RdAt w' R l bad ∧ Frm (fun k => k = R) w w' := by
  obtain ⟨v, h1, h2, h3⟩ := h
  have H2 := Lib.hid h2
  rcases h2 with ⟨h, _⟩ | ⟨hp, b, off, cap, rfl, g1, g2, g3, g4⟩
  · simp at h
  rw [List.length_map, List.length_cons] at h1 h3 g1 g4
  have q0 := g4 0 (by omega)
  rw [Nat.add_zero] at q0
  replace q0 : w.cell? ⟨b, off, none⟩ = some (strV x) := q0
  have hbl : b < R := h3 _ _ _ rfl
  have hbR : b ≠ R := Nat.ne_of_lt hbl
  have HBR := Lib.hid hbR
  have HBL := Lib.hid hbl
  clear hbl
  have c0 : w.cell? ⟨R, 0, none⟩ = some (.slice (some ⟨b, off, none⟩) (l.length + 1) cap) := blk_cell h1 0
  have f1 := blk_frozen h1 0
  have H1 := Lib.hid h1
  have HG := Lib.hid g4
  have HG2 := Lib.hid g2
  have HG3 := Lib.hid g3
  unfold maxLen at g2
  obtain ⟨n, hn⟩ : ∃ n, n = l.length := ⟨_, rfl⟩
  rw [← hn] at H1 HG c0 g1
  have HN := Lib.hid hn
  clear h1 h3 g4 hn hp H2 g3
  unfold strV at q0
  go_enter Tryd.func62, Tryd.ntmps62
  go_wp2_with fail
  · go_ret
    have hf : Frm (fun k => k = R) w (w.setCell ⟨R, 0, none⟩ (.slice (some ⟨b, off, none⟩) n 0)) := (Frm.refl (fun k => k = R) w).setCell (p := ⟨R, _, none⟩) (.inl rfl) _
    have hl : l = [] := List.length_eq_zero_iff.1 (by rw [← HN.out]; omega)
    have hn0 : n = 0 := by omega
    refine ⟨rfl, ⟨_, set_at H1.out _, .inl ⟨by rw [hl]; rfl, .inr ⟨_, _, by rw [hn0]⟩⟩, fun a' n' c' e => ?_⟩, hf⟩
    injection e with e
    injection e with e
    rw [← e]; exact HBL.out
  · go_ret
    have hf : Frm (fun k => k = R) w (w.setCell ⟨R, 0, none⟩ (.slice (some ⟨b, off + 1, none⟩) n (cap - 1))) := (Frm.refl (fun k => k = R) w).setCell (p := ⟨R, _, none⟩) (.inl rfl) _
    refine ⟨rfl, ⟨_, set_at H1.out _, ?_, fun a' n' c' e => ?_⟩, hf⟩
    · cases hl : l with
      | nil => exact .inl ⟨rfl, .inr ⟨_, _, by rw [show n = 0 by rw [HN.out, hl]; rfl]⟩⟩
      | cons y l' =>
        rw [← hl]
        refine .inr ⟨by rw [hl]; simp, b, off + 1, cap - 1, by rw [List.length_map, ← HN.out], by rw [List.length_map, ← HN.out]; omega, by have := HG2.out; omega, Nat.lt_of_lt_of_le HG3.out hf.size, fun j hj => ?_⟩
        rw [hf.cell (p := ⟨b, _, none⟩) HG3.out HBR.out]
        have := HG.out (j + 1) (by rw [List.length_map, ← HN.out] at hj; omega)
        rw [show off + (j + 1) = off + 1 + j by omega] at this
        rw [this]; rfl
    · injection e with e
      injection e with e
      rw [← e]; exact HBL.out
end Go.Proofs.YtelaijogjgcloaaDoor
end

section
namespace Go.Scr

theorem decFrom_val : ∀ (s : Txt) (acc : Nat), s.all digB = true → Go.Lib.decFrom acc s = some (s.foldl (fun a c => 10 * a + (c.toNat - 48)) acc)
  | [], acc, _ => rfl
  | c :: r, acc, h => by
    rw [List.all_cons, Bool.and_eq_true] at h
    have hc : 48 ≤ c.toNat ∧ c.toNat ≤ 57 := of_decide_eq_true h.1
    unfold Go.Lib.decFrom Go.Lib.digitVal
    rw [if_pos hc]
    dsimp only
    rw [decFrom_val r _ h.2, List.foldl_cons, Nat.mul_comm]
theorem numP_atoi {s : Txt} {v : Int} (h : numP s = some v) : Go.Lib.atoiAll s = .ok v ∧ s.length ≤ 10 := by
  unfold numP at h
  split at h
  · rename_i hn
    injection h with h
    subst h
    unfold isNum at hn
    rw [Bool.and_eq_true, Bool.and_eq_true] at hn
    obtain ⟨⟨h1, h2⟩, _⟩ := hn
    have h1 := of_decide_eq_true h1
    refine ⟨?_, h1.2⟩
    rw [Go.Lib.atoiAll_short s (by omega)]
    cases s with
    | nil => exact absurd rfl h1.1
    | cons c r =>
      have hc : 48 ≤ c.toNat ∧ c.toNat ≤ 57 := by rw [List.all_cons, Bool.and_eq_true] at h2; exact of_decide_eq_true h2.1
      have c45 : (c == 45) = false := by
        rw [beq_eq_false_iff_ne]; rintro rfl; simp at hc
      have c43 : (c == 43) = false := by
        rw [beq_eq_false_iff_ne]; rintro rfl; simp at hc
      unfold Go.Lib.atoi
      dsimp only
      rw [c45, c43]
      simp only [Bool.false_eq_true, if_false]
      unfold Go.Lib.decNat
      rw [decFrom_val _ _ h2]
      rfl
  · cases h
/-- What the reader tests: a number's own digits, not more than ten. -/
theorem numP_is {s : Txt} {v : Int} (h0 : 0 ≤ v) (h : numT v = s) (hl : s.length ≤ 10) : numP s = some v := by
  subst h
  refine num_text h0 ?_
  obtain ⟨u, rfl⟩ := Int.eq_ofNat_of_zero_le h0
  have e : numT (u : Int) = Go.Lib.decDigits u := by
    unfold numT Go.Lib.itoa
    simp
  rw [e, Go.Lib.decDigits_length] at hl
  have h1 := Go.Lib.lt_pow_nDigits u
  have h2 : 10 ^ Go.Lib.nDigits u ≤ 10 ^ 10 := Nat.pow_le_pow_right (by decide) hl
  have h3 : (10 : Nat) ^ 10 = 10000000000 := by decide
  omega
end Go.Scr
end

section
set_option linter.unusedVariables false
namespace Go.Proofs.YtelaijogjgcloaaDoor
open Go.RowKit Go.Ice Go.Scr

theorem var_below {name : String} {cs : Array Value} {w w' : World} (h : w.var? Tryd.prog name = some cs) (hb : Below w.heap.size w w') : w'.var? Tryd.prog name = some cs := by
  unfold World.var? at h ⊢
  cases hg : Tryd.prog.globalNamed name with
  | none => rw [hg] at h; cases h
  | some g =>
    rw [hg] at h
    simp only [Option.bind_some] at h ⊢
    have hlt : g < w.heap.size := by
      rcases Nat.lt_or_ge g w.heap.size with h1 | h1
      · exact h1
      · rw [Array.getElem?_eq_none h1] at h; cases h
    rw [hb.block g hlt]
    exact h
/-- The variables that the numbers' walks read. -/
structure Laid (w : World) : Prop where
  pow : Pow10 w
  syn : ∃ tp p, w.var? Tryd.prog "strconv.ErrSyntax" = some #[.iface tp p]
  rng : ∃ tp p, w.var? Tryd.prog "strconv.ErrRange" = some #[.iface tp p]
  mem : ∃ m, w.cell? ⟨0, 0, none⟩ = some (.int .i64 m)
theorem Laid.below {w w' : World} (h : Laid w) (hb : Below w.heap.size w w') : Laid w' := by
  obtain ⟨h1, ⟨a, b, h2⟩, ⟨c, d, h3⟩, ⟨m, h4⟩⟩ := h
  exact ⟨var_below h1 hb, ⟨a, b, var_below h2 hb⟩, ⟨c, d, var_below h3 hb⟩, ⟨m, (hb.cell (p := ⟨0, 0, none⟩) (World.block_lt_of_cell? w _ h4)).trans h4⟩⟩
/-- strconv.Atoi, whatever it says: the number, or an error. -/
theorem atoi78 (w : World) (s : Txt) (hl : Laid w) (hs : s.length ≤ 281474976710656) :
    Calls Tryd.prog 78 #[strV s] w fun e w' => ((∃ v, Go.Lib.atoiAll s = .ok v ∧ e = .returned (.tuple #[.int .i64 v, .nilIface])) ∨ (∃ n N, (∀ v, Go.Lib.atoiAll s ≠ .ok v) ∧ e = .returned (.tuple #[.int .i64 n, .iface 137 (.pointer (some ⟨N, 0, none⟩))]))) ∧ Below w.heap.size w w' := by
  obtain ⟨h1, ⟨a, b, h2⟩, ⟨c, d, h3⟩, _⟩ := hl
  have hsz : (⟨s.toArray⟩ : ByteArray).size = s.length := by show s.toArray.size = _; simp
  rcases ha : Go.Lib.atoiAll s with v | _ | _
  · refine (Tryd.strconv_Atoi_ok ⟨s.toArray⟩ (by omega) v (by simpa using ha) w).mono ?_
    rintro e w' ⟨rfl, hw⟩
    refine ⟨.inl ⟨v, rfl, rfl⟩, ?_⟩
    rcases hw with rfl | ⟨t, rfl⟩
    · exact Below.refl _ _
    · exact Lib.bytesWorld_below _ _ _
  · refine (Tryd.strconv_Atoi_syntax_var ⟨s.toArray⟩ (by omega) (show Go.Lib.atoiAll s = Go.Lib.atoiAll [] from ha.trans rfl) a b w h2).mono ?_
    rintro e w' ⟨N, rfl, _, _, hb⟩
    exact ⟨.inr ⟨_, N, (fun v h => by cases h), rfl⟩, hb⟩
  · refine (Tryd.strconv_Atoi_range_var ⟨s.toArray⟩ (by omega) (by simpa using ha) c d w h3).mono ?_
    rintro e w' ⟨N, rfl, _, _, hb⟩
    exact ⟨.inr ⟨_, N, (fun v h => by cases h), rfl⟩, hb⟩
end Go.Proofs.YtelaijogjgcloaaDoor
end
