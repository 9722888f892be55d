/- reader.bytes, its plain part: a text's pairs of digits. No condition. reader.bytes, its walk. Conditions: the reader's parts lie in memory, beside it; the part is not too long. -/
import Derived.Test.YtelaijogjgcloaaDoorNum
import Derived.Lib.Bytealg

section
set_option linter.unusedVariables false
set_option linter.unusedSimpArgs false
namespace Go.Proofs.YtelaijogjgcloaaDoor
open Go.RowKit Go.Ice Go.Scr

def hexL : List UInt8 := [48, 49, 50, 51, 52, 53, 54, 55, 56, 57, 97, 98, 99, 100, 101, 102]
/-- A digit's number, as IndexByte says it. -/
def hxI (c : UInt8) : Int := match halfP c with
  | some x => (x : Int)
  | none => -1
theorem idx_hex (c : UInt8) : Lib.indexByte hexL c = hxI c := by
  have h : ∀ n, n < 256 → Lib.indexByte hexL (UInt8.ofNat n) = hxI (UInt8.ofNat n) := by decide +kernel
  have := h c.toNat c.toNat_lt
  rwa [UInt8.ofNat_toNat] at this
theorem hxI_lt (c : UInt8) : -1 ≤ hxI c ∧ hxI c < 16 := by
  unfold hxI halfP
  split
  · rename_i x h
    split at h
    · injection h with h; omega
    · split at h
      · injection h with h; omega
      · cases h
  · omega
theorem hxI_some {c : UInt8} (h : 0 ≤ hxI c) : halfP c = some (hxI c).toNat := by
  unfold hxI at h ⊢
  cases e : halfP c with
  | none => rw [e] at h; simp at h
  | some x => simp
theorem hxI_none {c : UInt8} (h : hxI c < 0) : halfP c = none := by
  unfold hxI at h
  cases e : halfP c with
  | none => rfl
  | some x => rw [e] at h; simp at h; omega
/-- The byte of the j-th pair. -/
def rbB (s : Txt) (j : Nat) : UInt8 := UInt8.ofNat (16 * (hxI (s.getD (2 * j) 0)).toNat + (hxI (s.getD (2 * j + 1) 0)).toNat)
def rbOk (s : Txt) (j : Nat) : Prop := 0 ≤ hxI (s.getD (2 * j) 0) ∧ 0 ≤ hxI (s.getD (2 * j + 1) 0)
theorem rbB_succ (a b : UInt8) (l : Txt) (j : Nat) : rbB (a :: b :: l) (j + 1) = rbB l j := by
  unfold rbB; rw [show 2 * (j + 1) = 2 * j + 1 + 1 by omega]; simp
theorem rbOk_succ (a b : UInt8) (l : Txt) (j : Nat) : rbOk (a :: b :: l) (j + 1) ↔ rbOk l j := by
  unfold rbOk; rw [show 2 * (j + 1) = 2 * j + 1 + 1 by omega]; simp
theorem range_cons {α : Type} (f : Nat → α) (n : Nat) : (List.range (n + 1)).map f = f 0 :: (List.range n).map fun j => f (j + 1) := by
  rw [List.range_succ_eq_map, List.map_cons, List.map_map]; rfl
theorem pairsP_ok : ∀ (s : Txt), s.length % 2 = 0 → (∀ j, j < s.length / 2 → rbOk s j) → pairsP s = some ((List.range (s.length / 2)).map (rbB s))
  | [], _, _ => rfl
  | [_], h, _ => by simp at h
  | a :: b :: l, h, hk => by
    have h2 : (a :: b :: l).length / 2 = l.length / 2 + 1 := by simp only [List.length_cons]; omega
    have ih := pairsP_ok l (by simp only [List.length_cons] at h; omega) (fun j hj => (rbOk_succ a b l j).1 (hk (j + 1) (by omega)))
    have h0 := hk 0 (by omega)
    unfold rbOk at h0
    simp only [Nat.mul_zero, Nat.zero_add, List.getD_cons_zero, List.getD_cons_succ] at h0
    rw [pairsP, hxI_some h0.1, hxI_some h0.2, ih, h2, range_cons]
    simp only [rbB_succ]
    rfl
theorem pairsP_no : ∀ (s : Txt) (j : Nat), 2 * j + 1 < s.length → ¬ rbOk s j → pairsP s = none
  | [], _, h, _ => by simp at h
  | [_], _, h, _ => by simp at h
  | a :: b :: l, 0, h, hk => by
    unfold rbOk at hk
    simp only [Nat.mul_zero, Nat.zero_add, List.getD_cons_zero, List.getD_cons_succ] at hk
    rw [pairsP]
    by_cases h1 : 0 ≤ hxI a
    · rw [hxI_none (c := b) (by omega)]; cases halfP a <;> rfl
    · rw [hxI_none (c := a) (by omega)]
  | a :: b :: l, j + 1, h, hk => by
    rw [rbOk_succ] at hk
    rw [pairsP, pairsP_no l j (by simp only [List.length_cons] at h; omega) hk]
    cases halfP a <;> cases halfP b <;> rfl
theorem pairsP_odd : ∀ (s : Txt), s.length % 2 = 1 → pairsP s = none
  | [], h => by simp at h
  | [_], _ => rfl
  | a :: b :: l, h => by
    rw [pairsP, pairsP_odd l (by simp only [List.length_cons] at h; omega)]
    cases halfP a <;> cases halfP b <;> rfl
/-- What stands in the bytes' row when k are read. -/
def rbX (s : Txt) (n k : Nat) : List Value := ((List.range k).map fun j => u8v (rbB s j)) ++ List.replicate (n - k) (.int .u8 0)
theorem rbX_set {s : Txt} {n k : Nat} (hk : k < n) : (rbX s n k).set k (u8v (rbB s k)) = rbX s n (k + 1) := by
  unfold rbX
  obtain ⟨m, hm⟩ : ∃ m, n - k = m + 1 := ⟨n - k - 1, by omega⟩
  rw [hm, show n - (k + 1) = m by omega, List.replicate_succ, List.set_append_right _ _ (by simp), List.range_succ]
  simp
theorem rbX_all (s : Txt) (n : Nat) : rbX s n n = ((List.range n).map (rbB s)).map u8v := by unfold rbX; simp
theorem rbX_len (s : Txt) (n k : Nat) (h : k ≤ n) : (rbX s n k).length = n := by unfold rbX; simp; omega
theorem rawP_eq {s : Txt} (h : s ≠ [45]) (hok : ∀ j, j < s.length / 2 → rbOk s j) : rawP s = if decide (s = []) || decide (s.length % 2 ≠ 0) then none else some ((List.range (s.length / 2)).map (rbB s)) := by
  unfold rawP
  rw [if_neg h]
  by_cases h0 : s = []
  · simp [h0]
  · rw [if_neg h0]
    by_cases h2 : s.length % 2 = 0
    · rw [pairsP_ok s h2 hok]; simp [h0, h2]
    · rw [pairsP_odd s (by omega)]; simp [h2]
theorem rawP_bad {s : Txt} (h : s ≠ [45]) {j : Nat} (hj : j < s.length / 2) (hk : ¬ rbOk s j) : rawP s = none := by
  unfold rawP
  rw [if_neg h]
  split
  · rfl
  · exact pairsP_no s j (by omega) hk
end Go.Proofs.YtelaijogjgcloaaDoor
end

section
set_option linter.unusedVariables false
set_option linter.unusedSimpArgs false
namespace Go.Proofs.YtelaijogjgcloaaDoor
open Go.RowKit Go.Ice Go.Scr

/-- While a row of bytes is read: all that was, the row. -/
structure RbyI (w1 : World) (G : Nat) (s : Txt) (n k : Nat) (wr : World) : Prop where
  bel : Below w1.heap.size w1 wr
  own : wr.ownsRow G 5 1 (.slice (some ⟨G, 0, none⟩) n n) n (rbX s n k)
  ok : ∀ j, j < k → rbOk s j
theorem RbyI.step {w1 : World} {G : Nat} {s : Txt} {n k : Nat} {wr : World} (h : RbyI w1 G s n k wr) (hk : k < n) (ho : rbOk s k) (hG : G = w1.heap.size) : RbyI w1 G s n (k + 1) (wr.setCell ⟨G, k, none⟩ (u8v (rbB s k))) := by
  refine ⟨h.bel.setCell (Nat.le_of_eq hG.symm) _, ?_, fun j hj => ?_⟩
  · have := (h.own.stored k (u8v (rbB s k))).1
    rwa [rbX_set hk] at this
  · rcases Nat.lt_succ_iff_lt_or_eq.1 hj with h1 | rfl
    · exact h.ok j h1
    · exact ho
/-- How it goes wrong in the midst. -/
theorem rby_bad {w w1 wr : World} {R G : Nat} {bad le : Bool} {s : Txt} {lt : List Txt} {n k : Nat} (hJ : RbyI w1 G s n k wr) (hF : Frm (fun k => k = R) w w1) (hd : s ≠ [45]) (h1 : RdAt w1 R lt (bad || le)) (hn : n = s.length / 2) (hk : k < n) (ho : ¬ rbOk s k) :
    (∃ u b, Ending.returned (Value.slice none 0 0) = .returned u ∧ BytesAt (wr.setCell ⟨R, 1, none⟩ (.bool true)) u b ∧ Fresh w.heap.size (wr.setCell ⟨R, 1, none⟩ (.bool true)) u 5 ∧ (∀ r, rawP s = some r → b = r)) ∧ RdAt (wr.setCell ⟨R, 1, none⟩ (.bool true)) R lt (bad || (rawP s).isNone) ∧ Frm (fun k => k = R) w (wr.setCell ⟨R, 1, none⟩ (.bool true)) := by
  have h2 := h1.below hJ.bel
  obtain ⟨k1, k2⟩ := h2.wrong
  have hr : rawP s = none := rawP_bad hd (by omega) ho
  rw [hr]
  refine ⟨⟨_, [], rfl, bytesNil _, Fresh.nil _ _ _, fun r h => by cases h⟩, by simpa using k1, (hF.trans (frm_below hJ.bel)).trans k2⟩
/-- How it ends. -/
theorem rby_end {w w1 wr : World} {R G : Nat} {bad le : Bool} {s : Txt} {lt : List Txt} {n : Nat} (hJ : RbyI w1 G s n n wr) (hF : Frm (fun k => k = R) w w1) (hd : s ≠ [45]) (hE : le = true → s = []) (h1 : RdAt w1 R lt (bad || le)) (hn : n = s.length / 2) (hG : G = w1.heap.size) (b : Bool)
    (hb : b = (((bad || le) || decide (s = [])) || decide (s.length % 2 ≠ 0))) (w' : World) (hw : w' = wr.setCell ⟨R, 1, none⟩ (.bool b)) :
    (∃ u b, Ending.returned (.slice (some ⟨G, 0, none⟩) n n) = .returned u ∧ BytesAt w' u b ∧ Fresh w.heap.size w' u 5 ∧ (∀ r, rawP s = some r → b = r)) ∧ RdAt w' R lt (bad || (rawP s).isNone) ∧ Frm (fun k => k = R) w w' := by
  subst hw
  obtain ⟨pv, g1, g2, g3⟩ := h1
  have hR1 : R < w1.heap.size := blk_lt g1
  have hR : R < G := by omega
  have hfr : Frm (fun k => k = R) w1 (wr.setCell ⟨R, 1, none⟩ (.bool b)) := (frm_below (T := fun k => k = R) hJ.bel).setCell (p := ⟨R, 1, none⟩) (.inl rfl) _
  have e1 := rawP_eq hd (fun j hj => hJ.ok j (by omega))
  have h2 : b = (bad || (rawP s).isNone) := by
    rw [hb, e1]
    cases le with
    | false => cases bad <;> cases decide (s = []) <;> cases decide (s.length % 2 ≠ 0) <;> rfl
    | true => rw [hE rfl]; simp
  have ho := own_set hJ.own (p := ⟨R, 1, none⟩) hR (.bool b)
  refine ⟨⟨_, (List.range n).map (rbB s), rfl, ?_, (own_fresh ho).mono (by have := hF.size; omega), fun r hr => ?_⟩, ⟨pv, ?_, isSl_frm g2 g3 hfr, g3⟩, hF.trans hfr⟩
  · have h := own_isSl ho
    rw [rbX_all] at h
    exact h
  · rw [e1, ← hn] at hr
    split at hr
    · cases hr
    · injection hr
  · rw [← h2]
    exact set_at ((hJ.bel.block R hR1).trans g1) _

theorem byte_or : ∀ x y : Nat, x < 16 → y < 16 → (UInt8.ofNat (16 * x + y)).toNat = 16 * x + y := by
  intro x y hx hy
  rw [UInt8.toNat_ofNat']; omega

theorem or4 (a b : Int) (h0 : 0 ≤ a) (h1 : a < 16) (h2 : 0 ≤ b) (h3 : b < 16) : bits BinOp.or IntKind.i64 (a * 16) b % 256 = 16 * a + b := by
  obtain ⟨x, rfl⟩ := Int.eq_ofNat_of_zero_le h0
  obtain ⟨y, rfl⟩ := Int.eq_ofNat_of_zero_le h2
  have h : ∀ x, x < 16 → ∀ y, y < 16 → bits BinOp.or IntKind.i64 (((x : Nat) : Int) * 16) ((y : Nat) : Int) % 256 = 16 * ((x : Nat) : Int) + ((y : Nat) : Int) := by decide +kernel
  exact h x (by omega) y (by omega)
theorem RbyI.bel' {w1 : World} {G : Nat} {s : Txt} {n k : Nat} {wr : World} (h : RbyI w1 G s n k wr) : Below w1.heap.size w1 wr := h.bel

set_option maxHeartbeats 8000000 in
set_option maxRecDepth 100000 in
theorem bytes65 (w : World) (R : Nat) (l : List Txt) (bad : Bool) (h : RdAt w R l bad) (hs : ∀ s ∈ l, s.length ≤ 1000000) :
    Calls Tryd.prog 65 #[.pointer (some ⟨R, 0, none⟩)] w fun e w' => (∃ u b, e = .returned u ∧ BytesAt w' u b ∧ Fresh w.heap.size w' u 5 ∧ (∀ r, rawP (l.headD []) = some r → b = r)) ∧ RdAt w' R l.tail (bad || (rawP (l.headD [])).isNone) ∧ Frm (fun k => k = R) w w' := by
  have HN := Lib.hid (next62 w R l bad h)
  have hs' : (l.headD []).length ≤ 1000000 := by
    cases l with
    | nil => simp
    | cons x l => exact hs x (.head _)
  obtain ⟨s, hsd⟩ : ∃ s, s = l.headD [] := ⟨_, rfl⟩
  rw [← hsd] at hs' HN ⊢
  have HE : Hid (l.isEmpty = true → s = []) := fun e => by
    have : l = [] := List.isEmpty_iff.1 e
    rw [hsd, this]; rfl
  generalize l.isEmpty = le at *
  generalize l.tail = lt at *
  clear hsd h hs
  unfold strV at HN
  go_enter Tryd.func65, Tryd.ntmps65
  go_wp2_with fail
  refine HN.out.mono ?_
  rintro e w1 ⟨rfl, h1, hf⟩
  have H1 := Lib.hid h1
  have HF := Lib.hid hf
  clear h1 hf HN
  by_cases hd : s = [45]
  · subst hd
    have hle : le = false := by
      cases le with
      | false => rfl
      | true => exact absurd (HE.out rfl) (by simp)
    go_wp2_with fail
    go_ret
    have e0 : rawP [45] = some [] := by decide
    refine ⟨⟨_, [], rfl, bytesNil _, Fresh.nil _ _ _, fun r hr => ?_⟩, ?_, HF.out⟩
    · rw [e0] at hr; injection hr
    · rw [e0]
      have := H1.out
      rw [hle] at this
      simpa using this
  · have hbe : (s == [45]) = false := by simp [hd]
    obtain ⟨i0, hi0, hz0, hz1, hz2⟩ := elemByte.hi
    have hR1 : R < w1.heap.size := H1.out.lt
    obtain ⟨n, hn⟩ : ∃ n, n = s.length / 2 := ⟨_, rfl⟩
    obtain ⟨w', hrun, ho, hg⟩ := run_make_full (P := Tryd.prog) w1 (w1.heap.size) 38 5 i0 (.int .u8 0) 1 Tryd.underlying38 hi0 hz0 hz1 .i64 .i64 n (by rw [hz2]; omega) (by unfold maxLen; omega) (Nat.le_refl _)
    have HRUN := Lib.hid hrun
    have HO : Hid (RbyI w1 w1.heap.size s n 0 w') := by
      refine ⟨(Below.refl _ w1).grown hg (Nat.le_refl _) (fun k hk => by cases hk), ?_, fun j hj => by omega⟩
      have e : (madeCells (Value.int .u8 0).cells (n * 1)).toList = rbX s n 0 := by
        show (madeCells #[.int .u8 0] (n * 1)).toList = _
        rw [toList_madeCells_one]; unfold rbX; simp
      rw [← e]; exact ho
    clear hrun ho hg
    have HR1 := Lib.hid hR1
    have HNN := Lib.hid hn
    have hn6 : n ≤ 1000000 := by omega
    obtain ⟨G, hG⟩ : ∃ G, G = w1.heap.size := ⟨_, rfl⟩
    rw [← hG] at HRUN HO
    have HG := Lib.hid hG
    clear hG
    have HQ : Hid (((s.length : Nat) : Int) / 2 = (n : Int)) := (by rw [hn]; omega : ((s.length : Nat) : Int) / 2 = (n : Int))
    clear hn
    go_upto_region 4 with fail
    go_wp2_with (refine wpList_make_eq rfl _ _ _ rfl (by have hq := HQ.out; first | rfl | (simp [go_sem, hq])) (by have hq := HQ.out; first | rfl | (simp [go_sem, hq])) HRUN.out ?_)
    go_loopg [5, 6, 7, 18] n (fun g iv av bv kv wr => ∃ k : Nat, g = n - k ∧ k ≤ n ∧ kv = .int .i64 k ∧ Hid (RbyI w1 G s n k wr))
    case atStart => exact ⟨0, rfl, by omega, rfl, HO.out⟩
    case round =>
      obtain ⟨k, rfl, hk, rfl, HJ⟩ := hrel
      by_cases hlt : k < n
      · have hl1 : 2 * k + 1 < s.length := by have := HNN.out; omega
        have hl0 : 2 * k < s.length := by omega
        obtain ⟨c, hc⟩ : ∃ c, c = s.getD (2 * k) 0 := ⟨_, rfl⟩
        obtain ⟨d, hd'⟩ : ∃ d, d = s.getD (2 * k + 1) 0 := ⟨_, rfl⟩
        have HC := Lib.hid hc
        have HD := Lib.hid hd'
        obtain ⟨p, hp⟩ : ∃ p : Nat, p = 2 * k := ⟨_, rfl⟩
        obtain ⟨q, hq1⟩ : ∃ q : Nat, q = p + 1 := ⟨_, rfl⟩
        have hpi : 2 * (k : Int) = (p : Int) := by omega
        have hqi : (p : Int) + 1 = (q : Int) := by omega
        have hpp : p < s.length := by omega
        have hqq : q < s.length := by omega
        have hpp' : (p : Int) < (s.length : Int) := by omega
        have hqq' : (q : Int) < (s.length : Int) := by omega
        have hpc : ∀ (z : p < (⟨s.toArray⟩ : ByteArray).size), (⟨s.toArray⟩ : ByteArray)[p] = c := fun z => by
          have e : (⟨s.toArray⟩ : ByteArray)[p] = s[p] := rfl
          rw [e, hc, ← hp, List.getD_eq_getElem?_getD, List.getElem?_eq_getElem hpp]; rfl
        have hqc : ∀ (z : q < (⟨s.toArray⟩ : ByteArray).size), (⟨s.toArray⟩ : ByteArray)[q] = d := fun z => by
          have e : (⟨s.toArray⟩ : ByteArray)[q] = s[q] := rfl
          rw [e, hd', ← hp, ← hq1, List.getD_eq_getElem?_getD, List.getElem?_eq_getElem hqq]; rfl
        have hps : p < (⟨s.toArray⟩ : ByteArray).size := by show p < s.toArray.size; simpa using hpp
        have hqs : q < (⟨s.toArray⟩ : ByteArray).size := by show q < s.toArray.size; simpa using hqq
        have hcp := hpc hps
        have hcq := hqc hqs
        obtain ⟨z0, hz0'⟩ : ∃ z, wr.cell? ⟨G, k, none⟩ = some z := by
          rw [HJ.out.own.cellAt k (by omega)]
          exact ⟨_, List.getElem?_eq_getElem (by rw [rbX_len _ _ _ hk]; exact hlt)⟩
        have hf0 := HJ.out.own.frozenAt k
        have hwp : IntKind.i64.wrap (p : Int) = (p : Int) := IntWalk.i64_in _ ⟨by omega, by omega⟩
        have hwq : IntKind.i64.wrap (q : Int) = (q : Int) := IntWalk.i64_in _ ⟨by omega, by omega⟩
        have HI : ∀ (a : UInt8) (W : World), Calls Tryd.prog 18 #[.string ⟨#[48, 49, 50, 51, 52, 53, 54, 55, 56, 57, 97, 98, 99, 100, 101, 102]⟩, .int .u8 (a.toNat : Int)] W fun e w' => e = .returned (.int .i64 (hxI a)) ∧ w' = W := fun a W => by
          have h := Tryd.strings_IndexByte ⟨hexL.toArray⟩ (a.toNat : Int) W
          have e1 : ((a.toNat : Int).toNat).toUInt8 = a := by simp
          have e2 : (⟨hexL.toArray⟩ : ByteArray).data.toList = hexL := rfl
          rw [e1, e2, idx_hex] at h
          exact h
        have HII := Lib.hid HI
        have HCP : Hid (s.getD p 0 = c) := by show _ = _; rw [hc, hp]
        have HCQ : Hid (s.getD q 0 = d) := by show _ = _; rw [hd', hq1, hp]
        clear HI hc hd' hpc hqc
        go_wp2_with fail
        -- REGION
        refine wp_region_inv2 (by kernel_rfl) (hord_of2 (by kernel_rfl)) (fun done ac W => ∃ (u : Unit), ac = { tmps := #[.pointer (some ⟨R, 0, none⟩), undef, u2, .string ⟨s.toArray⟩, .slice (some ⟨G, 0, none⟩) n n, .int .i64 (k : Nat), if done 11 then (.int .i64 (hxI c)) else u6, if done 12 then (.int .i64 (hxI d)) else u7, .pointer (some ⟨R, 0, none⟩), .string ⟨s.toArray⟩, .string ⟨s.toArray⟩, .bool false, .string ⟨s.toArray⟩, .int .i64 (s.length : Nat), .int .i64 ((s.length : Nat) / 2), .slice (some ⟨G, 0, none⟩) n n, .slice (some ⟨G, 0, none⟩) n n, .int .i64 (n : Nat), .int .i64 (k : Nat), .bool true, .int .i64 (k : Nat), if done 0 then (.string ⟨s.toArray⟩) else u21, if done 1 then (.int .i64 (k : Nat)) else u22, if done 2 then (.int .i64 (p : Nat)) else u23, if done 3 then (.int .u8 (c.toNat : Nat)) else u24, if done 4 then (.int .i64 (hxI c)) else u25, if done 5 then (.string ⟨s.toArray⟩) else u26, if done 6 then (.int .i64 (k : Nat)) else u27, if done 7 then (.int .i64 (p : Nat)) else u28, if done 8 then (.int .i64 (q : Nat)) else u29, if done 9 then (.int .u8 (d.toNat : Nat)) else u30, if done 10 then (.int .i64 (hxI d)) else u31, u32, u33, u34, u35, u36, u37, u38, u39, u40, u41, u42, u43, u44, u45, u46, u47, u48, u49, undef, undef, undef, undef, undef, undef, undef, undef, undef, undef, undef, undef, undef, undef, undef, undef, undef, undef, undef], defers := [] } ∧ Below wr.heap.size wr W) ?_ ?_ ?_
        · exact ⟨(), by simp, (Below.refl _ wr).drew⟩
        · intro done ac W j oq ho hd hdep hcl ⟨u, hlit, hI⟩
          have hj : j < 13 := (Array.getElem?_eq_some_iff.1 ho).1
          subst hlit
          obtain rfl | rfl | rfl | rfl | rfl | rfl | rfl | rfl | rfl | rfl | rfl | rfl | rfl : j = 0 ∨ j = 1 ∨ j = 2 ∨ j = 3 ∨ j = 4 ∨ j = 5 ∨ j = 6 ∨ j = 7 ∨ j = 8 ∨ j = 9 ∨ j = 10 ∨ j = 11 ∨ j = 12 := by omega
          · refine wpOp_val ho (by cases ho; rfl) (w' := W) (v := (.string ⟨s.toArray⟩)) (by cases ho; simp [execOp, go_sem]) ?_
            cases ho
            exact ⟨u, by simp [Act.put], hI⟩
          · refine wpOp_val ho (by cases ho; rfl) (w' := W) (v := (.int .i64 (k : Nat))) (by cases ho; simp [execOp, go_sem]) ?_
            cases ho
            exact ⟨u, by simp [Act.put], hI⟩
          · have p1 : done 1 = true := by cases ho; exact hdep ⟨1, .data⟩ (by simp) rfl
            refine wpOp_val ho (by cases ho; rfl) (w' := W) (v := (.int .i64 (p : Nat))) (by cases ho; simp [execOp, go_sem, p1, hpi, hwp]) ?_
            cases ho
            exact ⟨u, by simp [Act.put], hI⟩
          · have p0 : done 0 = true := by cases ho; exact hdep ⟨0, .data⟩ (by simp) rfl
            have p2 : done 2 = true := by cases ho; exact hdep ⟨2, .data⟩ (by simp) rfl
            refine wpOp_val ho (by cases ho; rfl) (w' := W) (v := (.int .u8 (c.toNat : Nat))) (by cases ho; simp [execOp, go_sem, p0, p2, hpp, hcp]) ?_
            cases ho
            exact ⟨u, by simp [Act.put], hI⟩
          · have p3 : done 3 = true := by cases ho; exact hdep ⟨3, .data⟩ (by simp) rfl
            refine wpOp_call ho (by cases ho; rfl) (f := 18) (args := #[.string ⟨#[48, 49, 50, 51, 52, 53, 54, 55, 56, 57, 97, 98, 99, 100, 101, 102]⟩, .int .u8 (c.toNat : Nat)]) (by cases ho; simp [execOp, go_sem, p3]) (HII.out c W) ?_
            rintro e w' ⟨rfl, rfl⟩
            cases ho
            exact ⟨_, rfl, (), by simp [Act.put], hI⟩
          · refine wpOp_val ho (by cases ho; rfl) (w' := W) (v := (.string ⟨s.toArray⟩)) (by cases ho; simp [execOp, go_sem]) ?_
            cases ho
            exact ⟨u, by simp [Act.put], hI⟩
          · refine wpOp_val ho (by cases ho; rfl) (w' := W) (v := (.int .i64 (k : Nat))) (by cases ho; simp [execOp, go_sem]) ?_
            cases ho
            exact ⟨u, by simp [Act.put], hI⟩
          · have p6 : done 6 = true := by cases ho; exact hdep ⟨6, .data⟩ (by simp) rfl
            refine wpOp_val ho (by cases ho; rfl) (w' := W) (v := (.int .i64 (p : Nat))) (by cases ho; simp [execOp, go_sem, p6, hpi, hwp]) ?_
            cases ho
            exact ⟨u, by simp [Act.put], hI⟩
          · have p7 : done 7 = true := by cases ho; exact hdep ⟨7, .data⟩ (by simp) rfl
            refine wpOp_val ho (by cases ho; rfl) (w' := W) (v := (.int .i64 (q : Nat))) (by cases ho; simp [execOp, go_sem, p7, hqi, hwq]) ?_
            cases ho
            exact ⟨u, by simp [Act.put], hI⟩
          · have p5 : done 5 = true := by cases ho; exact hdep ⟨5, .data⟩ (by simp) rfl
            have p8 : done 8 = true := by cases ho; exact hdep ⟨8, .data⟩ (by simp) rfl
            refine wpOp_val ho (by cases ho; rfl) (w' := W) (v := (.int .u8 (d.toNat : Nat))) (by cases ho; simp [execOp, go_sem, p5, p8, hqq, hcq]) ?_
            cases ho
            exact ⟨u, by simp [Act.put], hI⟩
          · have p9 : done 9 = true := by cases ho; exact hdep ⟨9, .data⟩ (by simp) rfl
            refine wpOp_call ho (by cases ho; rfl) (f := 18) (args := #[.string ⟨#[48, 49, 50, 51, 52, 53, 54, 55, 56, 57, 97, 98, 99, 100, 101, 102]⟩, .int .u8 (d.toNat : Nat)]) (by cases ho; simp [execOp, go_sem, p9]) (HII.out d W) ?_
            rintro e w' ⟨rfl, rfl⟩
            cases ho
            exact ⟨_, rfl, (), by simp [Act.put], hI⟩
          · have p4 : done 4 = true := by cases ho; exact hdep ⟨4, .data⟩ (by simp) rfl
            refine wpOp_val ho (by cases ho; rfl) (w' := W) (v := (.int .i64 (hxI c))) (by cases ho; simp [execOp, go_sem, p4]) ?_
            cases ho
            exact ⟨u, by simp [Act.put], hI⟩
          · have p10 : done 10 = true := by cases ho; exact hdep ⟨10, .data⟩ (by simp) rfl
            refine wpOp_val ho (by cases ho; rfl) (w' := W) (v := (.int .i64 (hxI d))) (by cases ho; simp [execOp, go_sem, p10]) ?_
            cases ho
            exact ⟨u, by simp [Act.put], hI⟩
        · rintro done ac W hall ⟨u, rfl, hI⟩
          have hl := hall
          clear hall
          have e0 := hl 0 (by decide)
          have e1 := hl 1 (by decide)
          have e2 := hl 2 (by decide)
          have e3 := hl 3 (by decide)
          have e4 := hl 4 (by decide)
          have e5 := hl 5 (by decide)
          have e6 := hl 6 (by decide)
          have e7 := hl 7 (by decide)
          have e8 := hl 8 (by decide)
          have e9 := hl 9 (by decide)
          have e10 := hl 10 (by decide)
          have e11 := hl 11 (by decide)
          have e12 := hl 12 (by decide)
          have HIB := Lib.hid hI
          simp only [e0, e1, e2, e3, e4, e5, e6, e7, e8, e9, e10, e11, e12, if_true]
          clear e0 e1 e2 e3 e4 e5 e6 e7 e8 e9 e10 e11 e12 hl hI
          have HJ2 : Hid (RbyI w1 G s n k W) := ⟨HJ.out.bel.trans (HIB.out.mono HJ.out.bel.size), own_below HJ.out.own HIB.out, HJ.out.ok⟩
          have z1 : W.cell? ⟨G, k, none⟩ = some z0 := by rw [HIB.out.cell (p := ⟨G, k, none⟩) (World.block_lt_of_cell? wr _ hz0')]; exact hz0'
          have f1 : W.frozen? ⟨G, k, none⟩ = false := HJ2.out.own.frozenAt k
          clear HIB hz0' hf0 HII hps hqs hcp hcq hpp' hqq'
          have HLC := Lib.hid (hxI_lt c)
          have HLD := Lib.hid (hxI_lt d)
          obtain ⟨pv, g1, _⟩ := H1.out.below HJ2.out.bel'
          have c1 : W.cell? ⟨R, 1, none⟩ = some (.bool (bad || le)) := blk_cell g1 1
          have fz1 := blk_frozen g1 1
          clear g1
          obtain ⟨a, ha⟩ : ∃ a, a = hxI c := ⟨_, rfl⟩
          obtain ⟨b, hb⟩ : ∃ b, b = hxI d := ⟨_, rfl⟩
          rw [← ha, ← hb]
          have HA := Lib.hid ha
          have HBB := Lib.hid hb
          have HOK : Hid (rbOk s k ↔ 0 ≤ a ∧ 0 ≤ b) := by
            show _ ↔ _
            unfold rbOk
            rw [ha, hb, HC.out, HD.out]
          clear ha hb
          by_cases h0 : 0 ≤ a
          · by_cases h1 : 0 ≤ b
            · have hda : decide (a < 0) = false := by simp; omega
              have hdb : decide (b < 0) = false := by simp; omega
              have hb16 : a < 16 := by rw [HA.out]; exact HLC.out.2
              have hb17 : b < 16 := by rw [HBB.out]; exact HLD.out.2
              go_wp2_with fail
              rw [or4 a b h0 hb16 h1 hb17]
              have hst := HJ2.out.step hlt (HOK.out.2 ⟨h0, h1⟩) HG.out
              rw [show u8v (rbB s k) = Value.int .u8 (16 * a + b) by
                unfold u8v rbB
                rw [← HC.out, ← HD.out, ← HA.out, ← HBB.out, byte_or _ _ (by omega) (by omega)]
                congr 1; omega] at hst
              have HST := Lib.hid hst
              clear hst
              go_roundg (n - (k + 1))
              case measure => omega
              case rel => exact ⟨k + 1, rfl, by omega, by go_num, HST.out⟩
            · have hda : decide (a < 0) = false := by simp; omega
              have hdb : decide (b < 0) = true := by simp; omega
              go_wp2_with fail
              go_ret
              exact rby_bad HJ2.out HF.out hd H1.out HNN.out hlt (fun e => h1 (HOK.out.1 e).2)
          · have hda : decide (a < 0) = true := by simp; omega
            go_wp2_with fail
            go_ret
            exact rby_bad HJ2.out HF.out hd H1.out HNN.out hlt (fun e => h0 (HOK.out.1 e).1)
        -- END
      · obtain rfl : k = n := by omega
        have HD := Lib.hid hd
        obtain ⟨pv, g1, _⟩ := H1.out.below HJ.out.bel'
        have c1 : wr.cell? ⟨R, 1, none⟩ = some (.bool (bad || le)) := blk_cell g1 1
        have fz1 := blk_frozen g1 1
        have HEN := fun b hb w' hw => Lib.hid (rby_end (w := w) HJ.out HF.out HD.out HE.out H1.out HNN.out HG.out b hb w' hw)
        obtain ⟨bk, hbk⟩ : ∃ bk, bk = (bad || le) := ⟨_, rfl⟩
        rw [← hbk] at c1 HEN
        have HN0 : Hid (decide (s = []) = decide (s.length = 0)) := by
          show _ = _
          cases s <;> simp
        clear g1 hbe hbk HJ hd
        cases bk with
        | true =>
          go_wp2_with fail
          go_ret
          exact (HEN true (by simp) _ rfl).out
        | false =>
          by_cases hk0 : s.length = 0
          · have hkt : ((s.length : Int) == 0) = true := by simp [hk0]
            go_wp2_with fail
            go_ret
            exact (HEN true (by rw [HN0.out]; simp [hk0]) _ rfl).out
          · have hkf : ((s.length : Int) == 0) = false := beq_eq_false_iff_ne.2 (by omega)
            go_wp2_with fail
            go_ret
            refine (HEN _ ?_ _ rfl).out
            rw [HN0.out]
            by_cases h2 : s.length % 2 = 0
            · simp [hk0, h2]; omega
            · simp [hk0, h2]; omega
end Go.Proofs.YtelaijogjgcloaaDoor
end
