/- reader.number. Conditions: the reader's parts lie in memory, beside it; the three variables are as laid. reader.number. Conditions: the reader's parts lie in memory, beside it; the three variables are as laid. reader.keep. Conditions: the reader's parts lie in memory, beside it; the part is not too long. reader.keep. Conditions: the reader's parts lie in memory, beside it; the part is not too long. reader.keep, its walk. Conditions: the reader's parts lie in memory, beside it; the part is not too long. -/
import Derived.Test.YtelaijogjgcloaaDoorLad

section
set_option linter.unusedVariables false
set_option linter.unusedSimpArgs false
namespace Go.Proofs.YtelaijogjgcloaaDoor
open Go.RowKit Go.Ice Go.Scr

theorem next62 (w : World) (R : Nat) (l : List Txt) (bad : Bool) (h : RdAt w R l bad) :
    Calls Tryd.prog 62 #[.pointer (some ⟨R, 0, none⟩)] w fun e w' => e = .returned (strV (l.headD [])) ∧ RdAt w' R l.tail (bad || l.isEmpty) ∧ Frm (fun k => k = R) w w' := by
  cases l with
  | nil => refine (next_nil w R bad h).mono ?_; rintro e w' ⟨h1, h2, h3⟩; exact ⟨h1, by simpa using h2, h3⟩
  | cons x l => refine (next_cons w R x l bad h).mono ?_; rintro e w' ⟨h1, h2, h3⟩; exact ⟨h1, by simpa using h2, h3⟩
theorem RdAt.lt {w : World} {R : Nat} {l : List Txt} {bad : Bool} (h : RdAt w R l bad) : R < w.heap.size := by
  obtain ⟨v, h1, _⟩ := h; exact blk_lt h1
theorem RdAt.below {w w' : World} {R : Nat} {l : List Txt} {bad : Bool} (h : RdAt w R l bad) (hb : Below w.heap.size w w') : RdAt w' R l bad := by
  obtain ⟨v, h1, h2, h3⟩ := h
  exact ⟨v, (hb.block R (blk_lt h1)).trans h1, h2.below hb (Nat.le_refl _), h3⟩
/-- What lies behind the reader does not touch it. -/
theorem RdAt.behind {w w' : World} {R : Nat} {l : List Txt} {bad : Bool} (h : RdAt w R l bad) (hb : Below (R + 1) w w') : RdAt w' R l bad := by
  obtain ⟨v, h1, h2, h3⟩ := h
  have hR := blk_lt h1
  refine ⟨v, (hb.block R (by omega)).trans h1, ?_, h3⟩
  rcases h2 with h2 | ⟨h0, b, off, cap, rfl, g1, g2, g3, g4⟩
  · exact .inl h2
  · have hbR : b < R := h3 _ _ _ rfl
    exact .inr ⟨h0, b, off, cap, rfl, g1, g2, Nat.lt_of_lt_of_le g3 hb.size, fun j hj => by rw [hb.cell (p := ⟨b, _, none⟩) (by show b < R + 1; omega)]; exact g4 j hj⟩
/-- It goes wrong. -/
theorem RdAt.wrong {w : World} {R : Nat} {l : List Txt} {bad : Bool} (h : RdAt w R l bad) : RdAt (w.setCell ⟨R, 1, none⟩ (.bool true)) R l true ∧ Frm (fun k => k = R) w (w.setCell ⟨R, 1, none⟩ (.bool true)) := by
  obtain ⟨v, h1, h2, h3⟩ := h
  have hf : Frm (fun k => k = R) w (w.setCell ⟨R, 1, none⟩ (.bool true)) := (Frm.refl (fun k => k = R) w).setCell (p := ⟨R, _, none⟩) (.inl rfl) _
  refine ⟨⟨v, set_at h1 _, ?_, h3⟩, hf⟩
  rcases h2 with h2 | ⟨h0, b, off, cap, rfl, g1, g2, g3, g4⟩
  · exact .inl h2
  · have hbR : b ≠ R := Nat.ne_of_lt (h3 _ _ _ rfl)
    exact .inr ⟨h0, b, off, cap, rfl, g1, g2, Nat.lt_of_lt_of_le g3 hf.size, fun j hj => by rw [hf.cell (p := ⟨b, _, none⟩) g3 hbR]; exact g4 j hj⟩
end Go.Proofs.YtelaijogjgcloaaDoor
end

section
set_option linter.unusedVariables false
set_option linter.unusedSimpArgs false
namespace Go.Proofs.YtelaijogjgcloaaDoor
open Go.RowKit Go.Ice Go.Scr

set_option maxHeartbeats 4000000 in
set_option maxRecDepth 100000 in
theorem number63 (w0 w : World) (R : Nat) (l : List Txt) (bad : Bool) (hl : Laid w0) (hb : Below w0.heap.size w0 w) (hR : w0.heap.size ≤ R) (h : RdAt w R l bad) (hs : ∀ s ∈ l, s.length ≤ 281474976710656) :
    Calls Tryd.prog 63 #[.pointer (some ⟨R, 0, none⟩)] w fun e w' => e = .returned (.int .i64 ((numP (l.headD [])).getD 0)) ∧ RdAt w' R l.tail (bad || (numP (l.headD [])).isNone) ∧ Frm (fun k => k = R) w w' := by
  have HN := Lib.hid (next62 w R l bad h)
  have HL := Lib.hid hl
  have HB := Lib.hid hb
  have HR := Lib.hid hR
  have hs' : (l.headD []).length ≤ 281474976710656 := by
    cases l with
    | nil => simp
    | cons x l => exact hs x (.head _)
  obtain ⟨s, hsd⟩ : ∃ s, s = l.headD [] := ⟨_, rfl⟩
  rw [← hsd] at hs' HN ⊢
  have HS := Lib.hid hs'
  have HE : Hid (l.isEmpty = true → numP s = none) := fun e => by
    have : l = [] := List.isEmpty_iff.1 e
    rw [hsd, this]; rfl
  generalize l.isEmpty = le at *
  generalize l.tail = lt at *
  clear hsd h hs hl hb hR hs'
  unfold strV at HN
  obtain ⟨rv, hrv⟩ : ∃ rv, rv = (numP s).getD 0 := ⟨_, rfl⟩
  obtain ⟨rb, hrb⟩ : ∃ rb, rb = (bad || (numP s).isNone) := ⟨_, rfl⟩
  rw [← hrv, ← hrb]
  have HRV := Lib.hid hrv
  have HRB := Lib.hid hrb
  clear hrv hrb
  go_enter Tryd.func63, Tryd.ntmps63
  go_wp2_with fail
  refine HN.out.mono ?_
  rintro e w1 ⟨rfl, h1, hf⟩
  have H1 := Lib.hid h1
  have HF := Lib.hid hf
  have HW1 := Lib.hid (show Below w0.heap.size w0 w1 from HB.out.trans (hf.below (fun k hk e => by have := HR.out; omega) HB.out.size))
  have HA := Lib.hid (atoi78 w1 s (HL.out.below HW1.out) HS.out)
  clear h1 hf HN
  unfold strV at HA
  go_wp2_with fail
  refine HA.out.mono ?_
  rintro e w2 ⟨hv | hv, hb2⟩
  · obtain ⟨v, hv1, rfl⟩ := hv
    have H2 := Lib.hid (H1.out.below hb2)
    have HB2 := Lib.hid hb2
    have HV := Lib.hid hv1
    have HI := Lib.hid (Lib.atoiAll_bounds hv1)
    obtain ⟨vv, g1, _⟩ := H2.out
    have c1 : w2.cell? ⟨R, 1, none⟩ = some (.bool (bad || le)) := blk_cell g1 1
    have f1 := blk_frozen g1 1
    have HG := Lib.hid g1
    clear g1 hb2 hv1
    have HD : Hid (∀ u, numP s = some u → u = v ∧ s.length ≤ 10 ∧ 0 ≤ v ∧ numT v = s) := fun u hu => by
      have h1 := (numP_atoi hu).1.symm.trans HV.out
      injection h1 with h1
      subst h1
      exact ⟨rfl, (numP_atoi hu).2, (text_num hu).2, (text_num hu).1⟩
    by_cases hlen : s.length ≤ 10
    · have hlen' : ((s.length : Nat) : Int) ≤ 10 := by omega
      by_cases hv0 : 0 ≤ v
      · have HT := Lib.hid (Tryd.strconv_Itoa v HI.out.1 HI.out.2 w2 ((HL.out.below HW1.out).below HB2.out).pow)
        go_wp2_with fail
        refine HT.out.mono ?_
        rintro e w3 ⟨rfl, k, os, rfl⟩
        have HB3 := Lib.hid (itoaWorld w2 k os)
        generalize Sort.grow (w2.drewN k) os = w3 at HB3 ⊢
        have H3 := Lib.hid (H2.out.below HB3.out)
        obtain ⟨vv3, g3, _⟩ := H3.out
        have c3 : w3.cell? ⟨R, 1, none⟩ = some (.bool (bad || le)) := blk_cell g3 1
        have f3 := blk_frozen g3 1
        clear g3 c1 f1
        have hl10 : ¬ (10 : Int) < (s.length : Nat) := by omega
        have hv00 : ¬ v < 0 := by omega
        by_cases he : Lib.itoa v = s
        · have hbe : (Lib.itoa v == s) = true := by simp [he]
          have hx : numP s = some v := numP_is hv0 he hlen
          have HX := Lib.hid hx
          have hle : le = false := by
            cases le with
            | false => rfl
            | true => have := HE.out rfl; rw [hx] at this; cases this
          clear he hx
          go_wp2_with fail
          go_ret
          have e1 : rb = (bad || le) := by rw [HRB.out, HX.out, hle]; simp
          have e2 : rv = v := by rw [HRV.out, HX.out]; rfl
          exact ⟨by rw [e2]; rfl, by rw [e1]; exact H3.out, (HF.out.trans (frm_below HB2.out)).trans (frm_below HB3.out)⟩
        · have hbe : (Lib.itoa v == s) = false := by simp [he]
          have hx : numP s = none := by
            cases h : numP s with
            | none => rfl
            | some u => exact absurd (HD.out u h).2.2.2 he
          have HX := Lib.hid hx
          clear he hx
          go_wp2_with fail
          go_ret
          obtain ⟨k1, k2⟩ := H3.out.wrong
          have e1 : rb = true := by rw [HRB.out, HX.out]; simp
          have e2 : rv = 0 := by rw [HRV.out, HX.out]; rfl
          exact ⟨by rw [e2]; rfl, by rw [e1]; exact k1, ((HF.out.trans (frm_below HB2.out)).trans (frm_below HB3.out)).trans k2⟩
      · go_wp2_with fail
        go_ret
        obtain ⟨k1, k2⟩ := H2.out.wrong
        have hx : numP s = none := by
          cases h : numP s with
          | none => rfl
          | some u => exact absurd (HD.out u h).2.2.1 (by omega)
        have e1 : rb = true := by rw [HRB.out, hx]; simp
        have e2 : rv = 0 := by rw [HRV.out, hx]; rfl
        exact ⟨by rw [e2]; rfl, by rw [e1]; exact k1, (HF.out.trans (frm_below HB2.out)).trans k2⟩
    · have hlen' : ¬ ((s.length : Nat) : Int) ≤ 10 := by omega
      go_wp2_with fail
      go_ret
      obtain ⟨k1, k2⟩ := H2.out.wrong
      have hx : numP s = none := by
        cases h : numP s with
        | none => rfl
        | some u => exact absurd (HD.out u h).2.1 hlen
      have e1 : rb = true := by rw [HRB.out, hx]; simp
      have e2 : rv = 0 := by rw [HRV.out, hx]; rfl
      exact ⟨by rw [e2]; rfl, by rw [e1]; exact k1, (HF.out.trans (frm_below HB2.out)).trans k2⟩
  · obtain ⟨n, N, hv1, rfl⟩ := hv
    have hx : numP s = none := by
      cases h : numP s with
      | none => rfl
      | some v => exact absurd (numP_atoi h).1 (hv1 v)
    have HX := Lib.hid hx
    have H2 := Lib.hid (H1.out.below hb2)
    have HB2 := Lib.hid hb2
    clear hx hv1 hb2
    obtain ⟨vv, g1, _⟩ := H2.out
    have c1 : w2.cell? ⟨R, 1, none⟩ = some (.bool (bad || le)) := blk_cell g1 1
    have f1 := blk_frozen g1 1
    clear g1
    go_wp2_with fail
    go_ret
    obtain ⟨k1, k2⟩ := H2.out.wrong
    have e1 : rb = true := by rw [HRB.out, HX.out]; simp
    have e2 : rv = 0 := by rw [HRV.out, HX.out]; rfl
    exact ⟨by rw [e2]; rfl, by rw [e1]; exact k1, (HF.out.trans (frm_below HB2.out)).trans k2⟩
end Go.Proofs.YtelaijogjgcloaaDoor
end

section
set_option linter.unusedVariables false
set_option linter.unusedSimpArgs false
namespace Go.Proofs.YtelaijogjgcloaaDoor
open Go.RowKit Go.Ice Go.Scr

theorem elemBool : Elem Tryd.prog 39 4 1 1 (.bool false) :=
  ⟨Tryd.underlying39, by
    obtain ⟨i0, hi, hz0, hz1, hz2⟩ := info_parts (show (Tryd.prog.info? 4).map (fun i => (i.zero, i.size, i.bytes)) = some (some (.bool false), 1, 1) by kernel_rfl)
    exact ⟨i0, hi, hz0, hz1, hz2⟩, rfl, by decide⟩
def isOne (c : UInt8) : Bool := decide (c = 49)
def badC (c : UInt8) : Bool := !decide (c = 48 ∨ c = 49)
/-- What stands in the keep's row when k are read. -/
def rkpX (s : Txt) (k : Nat) : List Value := ((s.take k).map fun c => Value.bool (isOne c)) ++ List.replicate (s.length - k) (.bool false)
theorem rkpX_set {s : Txt} {k : Nat} {c : UInt8} (hc : s[k]? = some c) : (rkpX s k).set k (.bool (isOne c)) = rkpX s (k + 1) := by
  have hk : k < s.length := (List.getElem?_eq_some_iff.1 hc).1
  unfold rkpX
  obtain ⟨m, hm⟩ : ∃ m, s.length - k = m + 1 := ⟨s.length - k - 1, by omega⟩
  rw [hm, show s.length - (k + 1) = m by omega, List.replicate_succ, List.set_append_right _ _ (by simp; omega), List.take_add_one, hc]
  simp [Nat.min_eq_left (Nat.le_of_lt hk)]
theorem rkpX_all (s : Txt) : rkpX s s.length = (s.map isOne).map Value.bool := by unfold rkpX; simp
theorem keepP_eq {s : Txt} (h : s ≠ [45]) : keepP s = if s.any badC || decide (s = []) then none else some (s.map isOne) := by
  unfold keepP
  rw [if_neg h]
  by_cases h0 : s = []
  · simp [h0]
  · rw [if_neg h0]
    have e : s.all (fun c => decide (c = 48 ∨ c = 49)) = !s.any badC := by
      rw [List.all_eq_not_any_not]; rfl
    rw [e]
    cases s.any badC <;> simp [h0, isOne]
end Go.Proofs.YtelaijogjgcloaaDoor
end

section
set_option linter.unusedVariables false
set_option linter.unusedSimpArgs false
namespace Go.Proofs.YtelaijogjgcloaaDoor
open Go.RowKit Go.Ice Go.Scr

theorem isSl_frm {w w' : World} {R : Nat} {pv : Value} {cs : List Value} (h2 : IsSl w pv cs) (h3 : ∀ a n c, pv = .slice (some a) n c → a.block < R) (hf : Frm (fun k => k = R) w w') : IsSl w' pv cs := by
  rcases h2 with h2 | ⟨h0, b, off, cap, rfl, g1, g2, g3, g4⟩
  · exact .inl h2
  · have hbR : b ≠ R := Nat.ne_of_lt (h3 _ _ _ rfl)
    exact .inr ⟨h0, b, off, cap, rfl, g1, g2, Nat.lt_of_lt_of_le g3 hf.size, fun j hj => by rw [hf.cell (p := ⟨b, _, none⟩) g3 hbR]; exact g4 j hj⟩
/-- While a keep is read: the reader, all else, the row. -/
structure RkpI (w1 : World) (R G : Nat) (pv : Value) (b0 : Bool) (s : Txt) (k : Nat) (wr : World) : Prop where
  rd : wr.heap[R]? = some (.cells #[pv, .bool (b0 || (s.take k).any badC)] 80 (0, 0))
  frm : Frm (fun k => k = R) w1 wr
  own : wr.ownsRow G 4 1 (.slice (some ⟨G, 0, none⟩) s.length s.length) s.length (rkpX s k)
theorem RkpI.step {w1 : World} {R G : Nat} {pv : Value} {b0 : Bool} {s : Txt} {k : Nat} {wr : World} {c : UInt8} (h : RkpI w1 R G pv b0 s k wr) (hc : s[k]? = some c) (hG : G = w1.heap.size) (hR : R < w1.heap.size) :
    RkpI w1 R G pv b0 s (k + 1) ((wr.setCell ⟨G, k, none⟩ (.bool (isOne c))).setCell ⟨R, 1, none⟩ (.bool ((b0 || (s.take k).any badC) || badC c))) := by
  have e : (s.take (k + 1)).any badC = ((s.take k).any badC || badC c) := by rw [List.take_add_one, hc]; simp
  refine ⟨?_, (h.frm.setCell (p := ⟨G, k, none⟩) (.inr (by show w1.heap.size ≤ G; omega)) _).setCell (p := ⟨R, 1, none⟩) (.inl rfl) _, ?_⟩
  · rw [e, ← Bool.or_assoc]
    exact set_at (blk_set h.rd (p := ⟨G, k, none⟩) (by show R ≠ G; omega) _) _
  · have h1 := (h.own.stored k (.bool (isOne c))).1
    rw [rkpX_set hc] at h1
    exact own_set h1 (p := ⟨R, 1, none⟩) (by show R < G; omega) _
end Go.Proofs.YtelaijogjgcloaaDoor
end

section
set_option linter.unusedVariables false
set_option linter.unusedSimpArgs false
namespace Go.Proofs.YtelaijogjgcloaaDoor
open Go.RowKit Go.Ice Go.Scr

/-- A row of one's own, behind B. -/
def Fresh (B : Nat) (w : World) (u : Value) (e : TypeId) : Prop := ∀ a n c, u = .slice (some a) n c → B ≤ a.block ∧ ∃ cs, w.heap[a.block]? = some (.cells cs e (0, 0)) ∧ a.off + n ≤ cs.size
theorem Fresh.nil (B : Nat) (w : World) (e : TypeId) : Fresh B w (.slice none 0 0) e := fun a n c h => by cases h
theorem Fresh.frm {B R : Nat} {w w' : World} {u : Value} {e : TypeId} (h : Fresh B w u e) (hR : R < B) (hf : Frm (fun k => k = R) w w') : Fresh B w' u e := fun a n c hu => by
  obtain ⟨h1, cs, h2, h3⟩ := h a n c hu
  exact ⟨h1, cs, (hf.block _ (blk_lt h2) (by omega)).trans h2, h3⟩
theorem Fresh.below {B : Nat} {w w' : World} {u : Value} {e : TypeId} (h : Fresh B w u e) (hb : Below w.heap.size w w') : Fresh B w' u e := fun a n c hu => by
  obtain ⟨h1, cs, h2, h3⟩ := h a n c hu
  exact ⟨h1, cs, (hb.block _ (blk_lt h2)).trans h2, h3⟩
theorem Fresh.mono {B B' : Nat} {w : World} {u : Value} {e : TypeId} (h : Fresh B w u e) (hB : B' ≤ B) : Fresh B' w u e := fun a n c hu => by
  obtain ⟨h1, h2⟩ := h a n c hu
  exact ⟨Nat.le_trans hB h1, h2⟩
theorem own_fresh {w : World} {B e n : Nat} {v : Value} {xs : List Value} (h : w.ownsRow B e 1 v n xs) : Fresh B w v e := fun a n' c hu => by
  rcases h.2 with ⟨rfl, _⟩ | ⟨g, cap, cur, rfl, hb, hg, h1, h2, h3, _⟩
  · cases hu
  · injection hu with e1 e2 e3
    injection e1 with e1
    subst e1 e2
    exact ⟨hb, cur, hg, by show 0 + n ≤ _; omega⟩
theorem rkp_end {w w1 wr : World} {R G : Nat} {pv : Value} {bad le : Bool} {s : Txt} {lt : List Txt} (hJ : RkpI w1 R G pv (bad || le) s s.length wr) (hF : Frm (fun k => k = R) w w1) (hd : s ≠ [45]) (hE : le = true → s = [])
    (g2 : IsSl w1 pv (lt.map strV)) (g3 : ∀ a n c, pv = .slice (some a) n c → a.block < R) (hR : R < w1.heap.size) (hG : G = w1.heap.size) (b : Bool) (hb : b = (((bad || le) || s.any badC) || decide (s = []))) (w' : World) (hw : w' = wr.setCell ⟨R, 1, none⟩ (.bool b)) (n : Nat) (hn : n = s.length) :
    (∃ u k, Ending.returned (.slice (some ⟨G, 0, none⟩) n n) = .returned u ∧ BoolsAt w' u k ∧ Fresh w.heap.size w' u 4 ∧ (∀ r, keepP s = some r → k = r)) ∧ RdAt w' R lt (bad || (keepP s).isNone) ∧ Frm (fun k => k = R) w w' := by
  subst hw hn
  have hfr : Frm (fun k => k = R) w1 (wr.setCell ⟨R, 1, none⟩ (.bool b)) := hJ.frm.setCell (p := ⟨R, 1, none⟩) (.inl rfl) _
  have h1 : (keepP s).isNone = (s.any badC || decide (s = [])) := by
    rw [keepP_eq hd]; cases s.any badC || decide (s = []) <;> rfl
  have h2 : b = (bad || (keepP s).isNone) := by
    rw [hb, h1]
    cases le with
    | false => simp [Bool.or_assoc]
    | true => rw [hE rfl]; simp
  have hR' : R < G := by omega
  have ho := own_set hJ.own (p := ⟨R, 1, none⟩) hR' (.bool b)
  refine ⟨⟨_, s.map isOne, rfl, ?_, (own_fresh ho).mono (by have := hF.size; omega), fun r hr => ?_⟩, ⟨pv, ?_, isSl_frm g2 g3 hfr, g3⟩, hF.trans hfr⟩
  · have h := own_isSl ho
    rw [rkpX_all] at h
    exact h
  · rw [keepP_eq hd] at hr
    split at hr
    · cases hr
    · injection hr
  · rw [← h2]
    exact set_at hJ.rd _

set_option maxHeartbeats 8000000 in
set_option maxRecDepth 100000 in
theorem keep66 (w : World) (R : Nat) (l : List Txt) (bad : Bool) (h : RdAt w R l bad) (hs : ∀ s ∈ l, s.length ≤ 1000000) :
    Calls Tryd.prog 66 #[.pointer (some ⟨R, 0, none⟩)] w fun e w' => (∃ u k, e = .returned u ∧ BoolsAt w' u k ∧ Fresh w.heap.size w' u 4 ∧ (∀ r, keepP (l.headD []) = some r → k = r)) ∧ RdAt w' R l.tail (bad || (keepP (l.headD [])).isNone) ∧ Frm (fun k => k = R) w w' := by
  have HN := Lib.hid (next62 w R l bad h)
  have hs' : (l.headD []).length ≤ 1000000 := by
    cases l with
    | nil => simp
    | cons x l => exact hs x (.head _)
  obtain ⟨s, hsd⟩ : ∃ s, s = l.headD [] := ⟨_, rfl⟩
  rw [← hsd] at hs' HN ⊢
  have HE : Hid (l.isEmpty = true → s = []) := fun e => by
    have : l = [] := List.isEmpty_iff.1 e
    rw [hsd, this]; rfl
  generalize l.isEmpty = le at *
  generalize l.tail = lt at *
  have HRL := Lib.hid h.lt
  clear hsd h hs
  unfold strV at HN
  go_enter Tryd.func66, Tryd.ntmps66
  go_wp2_with fail
  refine HN.out.mono ?_
  rintro e w1 ⟨rfl, h1, hf⟩
  have H1 := Lib.hid h1
  have HF := Lib.hid hf
  clear h1 hf HN
  by_cases hd : s = [45]
  · subst hd
    have hle : le = false := by
      cases le with
      | false => rfl
      | true => exact absurd (HE.out rfl) (by simp)
    go_wp2_with fail
    go_ret
    refine ⟨⟨_, [], rfl, boolsNil _, Fresh.nil _ _ _, fun r hr => ?_⟩, ?_, HF.out⟩
    · have : keepP [45] = some [] := by decide
      rw [this] at hr; injection hr
    · have : keepP [45] = some [] := by decide
      rw [this]
      have := H1.out
      rw [hle] at this
      simpa using this
  · have hbe : (s == [45]) = false := by simp [hd]
    obtain ⟨i0, hi0, hz0, hz1, hz2⟩ := elemBool.hi
    obtain ⟨pv, g1, g2, g3⟩ := H1.out
    have hR1 : R < w1.heap.size := blk_lt g1
    obtain ⟨n, hn⟩ : ∃ n, n = s.length := ⟨_, rfl⟩
    obtain ⟨w', hrun, ho, hg⟩ := run_make_full (P := Tryd.prog) w1 (w1.heap.size) 39 4 i0 (.bool false) 1 Tryd.underlying39 hi0 hz0 hz1 .i64 .i64 n (by rw [hz2]; omega) (by unfold maxLen; omega) (Nat.le_refl _)
    have HRUN := Lib.hid hrun
    have HBW : Hid (Below w1.heap.size w1 w') := (Below.refl _ w1).grown hg (Nat.le_refl _) (fun k hk => by cases hk)
    have HO : Hid (RkpI w1 R w1.heap.size pv (bad || le) s 0 w') := by
      refine ⟨?_, frm_below HBW.out, ?_⟩
      · simpa using (HBW.out.block R hR1).trans g1
      · have e : (madeCells (Value.bool false).cells (n * 1)).toList = rkpX s 0 := by
          show (madeCells #[.bool false] (n * 1)).toList = _
          rw [toList_madeCells_one]; unfold rkpX; rw [← hn]; simp
        rw [← e, ← hn]; exact ho
    clear hrun ho hg
    have HP := Lib.hid g2
    have HP3 := Lib.hid g3
    have HR1 := Lib.hid hR1
    have HNN := Lib.hid hn
    obtain ⟨G, hG⟩ : ∃ G, G = w1.heap.size := ⟨_, rfl⟩
    rw [← hG] at HRUN HO
    have HG := Lib.hid hG
    clear hG g1 g2 g3
    go_upto_region 4 with fail
    have hls : ((s.length : Nat) : Int) = (n : Int) := by rw [hn]
    go_wp2_with (refine wpList_make_eq rfl _ _ _ rfl (by first | rfl | (simp [go_sem, hn])) (by first | rfl | (simp [go_sem, hn])) HRUN.out ?_)
    go_loopg [5, 15] n (fun g iv kv wr => ∃ k : Nat, g = n - k ∧ k ≤ n ∧ kv = .int .i64 k ∧ Hid (RkpI w1 R G pv (bad || le) s k wr))
    case atStart => exact ⟨0, rfl, by omega, rfl, HO.out⟩
    case round =>
      obtain ⟨k, rfl, hk, rfl, HJ⟩ := hrel
      by_cases hlt : k < n
      · have hkl : k < s.length := by rw [← hn]; exact hlt
        obtain ⟨c, hc⟩ : ∃ c, s[k]? = some c := ⟨s[k], List.getElem?_eq_getElem hkl⟩
        have HC := Lib.hid hc
        have HST := Lib.hid (HJ.out.step hc HG.out HR1.out)
        have hca : ∀ (q : k < (⟨s.toArray⟩ : ByteArray).size), (⟨s.toArray⟩ : ByteArray)[k] = c := fun q => by
          have := (List.getElem?_eq_some_iff.1 hc).2
          rw [← this]; rfl
        have hqk : k < (⟨s.toArray⟩ : ByteArray).size := by show k < s.toArray.size; simpa using hkl
        have hcc := hca hqk
        obtain ⟨z0, hz0'⟩ : ∃ z, wr.cell? ⟨G, k, none⟩ = some z := by
          rw [HJ.out.own.cellAt k (by omega)]
          exact ⟨_, List.getElem?_eq_getElem (by unfold rkpX; simp; omega)⟩
        have hf0 := HJ.out.own.frozenAt k
        have hone : ((c.toNat : Int) == 49) = isOne c := by
          unfold isOne
          by_cases h : c = 49
          · subst h; rfl
          · have h2 : c.toNat ≠ 49 := fun e => h (UInt8.toNat_inj.1 e)
            rw [decide_eq_false h]; simp; omega
        have hbad : (!((c.toNat : Int) == 48) && !((c.toNat : Int) == 49)) = badC c := by
          rw [hone]
          unfold badC isOne
          by_cases h : c = 48
          · subst h; rfl
          · have h2 : ((c.toNat : Int) == 48) = false := by
              have : c.toNat ≠ 48 := fun e => h (UInt8.toNat_inj.1 e)
              simp; omega
            rw [h2]
            simp [h]
        have HONE := Lib.hid hone
        have HBAD := Lib.hid hbad
        clear hone hbad
        go_upto_region 9 with fail
        rw [HONE.out]
        have r1 : (wr.setCell ⟨G, k, none⟩ (.bool (isOne c))).heap[R]? = some (.cells #[pv, .bool ((bad || le) || (s.take k).any badC)] 80 (0, 0)) := blk_set HJ.out.rd (p := ⟨G, k, none⟩) (by have := HG.out; have := HR1.out; show R ≠ G; omega) _
        generalize hW2 : wr.setCell ⟨G, k, none⟩ (.bool (isOne c)) = w2 at r1 HST ⊢
        have c1 : w2.cell? ⟨R, 1, none⟩ = some (.bool ((bad || le) || (s.take k).any badC)) := blk_cell r1 1
        have f1 := blk_frozen r1 1
        generalize ((bad || le) || (s.take k).any badC) = bk at c1 HST
        cases bk with
        | true =>
          go_wp2_with fail
          go_roundg (n - (k + 1))
          case measure => omega
          case rel => exact ⟨k + 1, rfl, by omega, by go_num, by have h := HST.out; rw [Bool.true_or] at h; exact h⟩
        | false =>
          by_cases h48 : (c.toNat : Int) = 48
          · have hb : badC c = false := by
              have := HBAD.out
              rw [← this, show ((c.toNat : Int) == 48) = true by simp [h48]]; rfl
            have HS2 : Hid (RkpI w1 R G pv (bad || le) s (k + 1) (w2.setCell ⟨R, 1, none⟩ (.bool false))) := by
              have h := HST.out; rw [hb] at h; exact h
            go_wp2_with fail
            go_roundg (n - (k + 1))
            case measure => omega
            case rel => exact ⟨k + 1, rfl, by omega, by go_num, HS2.out⟩
          · have hb : badC c = !isOne c := by
              have := HBAD.out
              rw [← this, ← HONE.out, show ((c.toNat : Int) == 48) = false by simp [h48]]; rfl
            have HS2 : Hid (RkpI w1 R G pv (bad || le) s (k + 1) (w2.setCell ⟨R, 1, none⟩ (.bool (!isOne c)))) := by
              have h := HST.out; rw [hb] at h; exact h
            have h48b : ((c.toNat : Int) == 48) = false := by simp [h48]
            have hbv : (((c.toNat : Int) != 48) && ((c.toNat : Int) != 49)) = !isOne c := by
              rw [show (((c.toNat : Int) != 48) && ((c.toNat : Int) != 49)) = (!((c.toNat : Int) == 48) && !((c.toNat : Int) == 49)) from rfl, HBAD.out, hb]
            go_wp2_with fail
            go_roundg (n - (k + 1))
            case measure => omega
            case rel => exact ⟨k + 1, rfl, by omega, by go_num, HS2.out⟩
      · obtain rfl : k = n := by omega
        have HJ2 : Hid (RkpI w1 R G pv (bad || le) s s.length wr) := by have h := HJ.out; rw [HNN.out] at h; exact h
        have HD := Lib.hid hd
        have htk : s.take k = s := by rw [HNN.out]; exact List.take_length
        have r1 := HJ.out.rd
        rw [htk] at r1
        have c1 : wr.cell? ⟨R, 1, none⟩ = some (.bool ((bad || le) || s.any badC)) := blk_cell r1 1
        have f1 := blk_frozen r1 1
        have HEN := fun b hb w' hw => Lib.hid (rkp_end (w := w) HJ2.out HF.out HD.out HE.out HP.out HP3.out HR1.out HG.out b hb w' hw s.length rfl)
        obtain ⟨bk, hbk⟩ : ∃ bk, bk = ((bad || le) || s.any badC) := ⟨_, rfl⟩
        rw [← hbk] at c1 HEN
        have HN0 : Hid (decide (s = []) = decide (k = 0)) := by
          have := HNN.out
          show _ = _
          rw [this]
          cases s <;> simp
        clear r1 htk hd hbe hbk HJ HJ2
        cases bk with
        | true =>
          go_wp2_with fail
          go_ret
          exact (HEN true (by simp) _ rfl).out
        | false =>
          by_cases hk0 : k = 0
          · have hkt : ((k : Int) == 0) = true := by simp [hk0]
            go_wp2_with fail
            go_ret
            exact (HEN true (by rw [HN0.out]; simp [hk0]) _ rfl).out
          · have hkf : ((k : Int) == 0) = false := by simp; omega
            go_wp2_with fail
            go_ret
            exact (HEN false (by rw [HN0.out]; simp [hk0]) _ rfl).out
end Go.Proofs.YtelaijogjgcloaaDoor
end
