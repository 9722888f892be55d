/- reader.number. Conditions: the reader's parts lie in memory, beside it; the three variables are as laid. -/
import Derived.Test.YtelaijogjgcloaaDoorNum
set_option linter.unusedVariables false
set_option linter.unusedSimpArgs false
namespace Go.Proofs.YtelaijogjgcloaaDoor
open Go.RowKit Go.Ice Go.Scr

set_option maxHeartbeats 4000000 in
set_option maxRecDepth 100000 in
theorem number63 (w0 w : World) (R : Nat) (l : List Txt) (bad : Bool) (hl : Laid w0) (hb : Below w0.heap.size w0 w) (hR : w0.heap.size ≤ R) (h : RdAt w R l bad) (hs : ∀ s ∈ l, s.length ≤ 281474976710656) :
    Calls Tryd.prog 63 #[.pointer (some ⟨R, 0, none⟩)] w fun e w' => e = .returned (.int .i64 ((numP (l.headD [])).getD 0)) ∧ RdAt w' R l.tail (bad || (numP (l.headD [])).isNone) ∧ Frm (fun k => k = R) w w' := by
  have HN := Lib.hid (next62 w R l bad h)
  have HL := Lib.hid hl
  have HB := Lib.hid hb
  have HR := Lib.hid hR
  have hs' : (l.headD []).length ≤ 281474976710656 := by
    cases l with
    | nil => simp
    | cons x l => exact hs x (.head _)
  obtain ⟨s, hsd⟩ : ∃ s, s = l.headD [] := ⟨_, rfl⟩
  rw [← hsd] at hs' HN ⊢
  have HS := Lib.hid hs'
  have HE : Hid (l.isEmpty = true → numP s = none) := fun e => by
    have : l = [] := List.isEmpty_iff.1 e
    rw [hsd, this]; rfl
  generalize l.isEmpty = le at *
  generalize l.tail = lt at *
  clear hsd h hs hl hb hR hs'
  unfold strV at HN
  obtain ⟨rv, hrv⟩ : ∃ rv, rv = (numP s).getD 0 := ⟨_, rfl⟩
  obtain ⟨rb, hrb⟩ : ∃ rb, rb = (bad || (numP s).isNone) := ⟨_, rfl⟩
  rw [← hrv, ← hrb]
  have HRV := Lib.hid hrv
  have HRB := Lib.hid hrb
  clear hrv hrb
  go_enter Tryd.func63, Tryd.ntmps63
  go_wp2_with fail
  refine HN.out.mono ?_
  rintro e w1 ⟨rfl, h1, hf⟩
  have H1 := Lib.hid h1
  have HF := Lib.hid hf
  have HW1 := Lib.hid (show Below w0.heap.size w0 w1 from HB.out.trans (hf.below (fun k hk e => by have := HR.out; omega) HB.out.size))
  have HA := Lib.hid (atoi78 w1 s (HL.out.below HW1.out) HS.out)
  clear h1 hf HN
  unfold strV at HA
  go_wp2_with fail
  refine HA.out.mono ?_
  rintro e w2 ⟨hv | hv, hb2⟩
  · obtain ⟨v, hv1, rfl⟩ := hv
    have H2 := Lib.hid (H1.out.below hb2)
    have HB2 := Lib.hid hb2
    have HV := Lib.hid hv1
    have HI := Lib.hid (Lib.atoiAll_bounds hv1)
    obtain ⟨vv, g1, _⟩ := H2.out
    have c1 : w2.cell? ⟨R, 1, none⟩ = some (.bool (bad || le)) := blk_cell g1 1
    have f1 := blk_frozen g1 1
    have HG := Lib.hid g1
    clear g1 hb2 hv1
    have HD : Hid (∀ u, numP s = some u → u = v ∧ s.length ≤ 10 ∧ 0 ≤ v ∧ numT v = s) := fun u hu => by
      have h1 := (numP_atoi hu).1.symm.trans HV.out
      injection h1 with h1
      subst h1
      exact ⟨rfl, (numP_atoi hu).2, (text_num hu).2, (text_num hu).1⟩
    by_cases hlen : s.length ≤ 10
    · have hlen' : ((s.length : Nat) : Int) ≤ 10 := by omega
      by_cases hv0 : 0 ≤ v
      · have HT := Lib.hid (Tryd.strconv_Itoa v HI.out.1 HI.out.2 w2 ((HL.out.below HW1.out).below HB2.out).pow)
        go_wp2_with fail
        refine HT.out.mono ?_
        rintro e w3 ⟨rfl, k, os, rfl⟩
        have HB3 := Lib.hid (itoaWorld w2 k os)
        generalize Sort.grow (w2.drewN k) os = w3 at HB3 ⊢
        have H3 := Lib.hid (H2.out.below HB3.out)
        obtain ⟨vv3, g3, _⟩ := H3.out
        have c3 : w3.cell? ⟨R, 1, none⟩ = some (.bool (bad || le)) := blk_cell g3 1
        have f3 := blk_frozen g3 1
        clear g3 c1 f1
        have hl10 : ¬ (10 : Int) < (s.length : Nat) := by omega
        have hv00 : ¬ v < 0 := by omega
        by_cases he : Lib.itoa v = s
        · have hbe : (Lib.itoa v == s) = true := by simp [he]
          have hx : numP s = some v := numP_is hv0 he hlen
          have HX := Lib.hid hx
          have hle : le = false := by
            cases le with
            | false => rfl
            | true => have := HE.out rfl; rw [hx] at this; cases this
          clear he hx
          go_wp2_with fail
          go_ret
          have e1 : rb = (bad || le) := by rw [HRB.out, HX.out, hle]; simp
          have e2 : rv = v := by rw [HRV.out, HX.out]; rfl
          exact ⟨by rw [e2]; rfl, by rw [e1]; exact H3.out, (HF.out.trans (frm_below HB2.out)).trans (frm_below HB3.out)⟩
        · have hbe : (Lib.itoa v == s) = false := by simp [he]
          have hx : numP s = none := by
            cases h : numP s with
            | none => rfl
            | some u => exact absurd (HD.out u h).2.2.2 he
          have HX := Lib.hid hx
          clear he hx
          go_wp2_with fail
          go_ret
          obtain ⟨k1, k2⟩ := H3.out.wrong
          have e1 : rb = true := by rw [HRB.out, HX.out]; simp
          have e2 : rv = 0 := by rw [HRV.out, HX.out]; rfl
          exact ⟨by rw [e2]; rfl, by rw [e1]; exact k1, ((HF.out.trans (frm_below HB2.out)).trans (frm_below HB3.out)).trans k2⟩
      · go_wp2_with fail
        go_ret
        obtain ⟨k1, k2⟩ := H2.out.wrong
        have hx : numP s = none := by
          cases h : numP s with
          | none => rfl
          | some u => exact absurd (HD.out u h).2.2.1 (by omega)
        have e1 : rb = true := by rw [HRB.out, hx]; simp
        have e2 : rv = 0 := by rw [HRV.out, hx]; rfl
        exact ⟨by rw [e2]; rfl, by rw [e1]; exact k1, (HF.out.trans (frm_below HB2.out)).trans k2⟩
    · have hlen' : ¬ ((s.length : Nat) : Int) ≤ 10 := by omega
      go_wp2_with fail
      go_ret
      obtain ⟨k1, k2⟩ := H2.out.wrong
      have hx : numP s = none := by
        cases h : numP s with
        | none => rfl
        | some u => exact absurd (HD.out u h).2.1 hlen
      have e1 : rb = true := by rw [HRB.out, hx]; simp
      have e2 : rv = 0 := by rw [HRV.out, hx]; rfl
      exact ⟨by rw [e2]; rfl, by rw [e1]; exact k1, (HF.out.trans (frm_below HB2.out)).trans k2⟩
  · obtain ⟨n, N, hv1, rfl⟩ := hv
    have hx : numP s = none := by
      cases h : numP s with
      | none => rfl
      | some v => exact absurd (numP_atoi h).1 (hv1 v)
    have HX := Lib.hid hx
    have H2 := Lib.hid (H1.out.below hb2)
    have HB2 := Lib.hid hb2
    clear hx hv1 hb2
    obtain ⟨vv, g1, _⟩ := H2.out
    have c1 : w2.cell? ⟨R, 1, none⟩ = some (.bool (bad || le)) := blk_cell g1 1
    have f1 := blk_frozen g1 1
    clear g1
    go_wp2_with fail
    go_ret
    obtain ⟨k1, k2⟩ := H2.out.wrong
    have e1 : rb = true := by rw [HRB.out, HX.out]; simp
    have e2 : rv = 0 := by rw [HRV.out, HX.out]; rfl
    exact ⟨by rw [e2]; rfl, by rw [e1]; exact k1, (HF.out.trans (frm_below HB2.out)).trans k2⟩
end Go.Proofs.YtelaijogjgcloaaDoor
