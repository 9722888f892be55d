/- reader.keep, its walk. Conditions: the reader's parts lie in memory, beside it; the part is not too long. -/
import Derived.Test.YtelaijogjgcloaaDoorRkp2
set_option linter.unusedVariables false
set_option linter.unusedSimpArgs false
namespace Go.Proofs.YtelaijogjgcloaaDoor
open Go.RowKit Go.Ice Go.Scr

/-- A row of one's own, behind B. -/
def Fresh (B : Nat) (w : World) (u : Value) (e : TypeId) : Prop := ∀ a n c, u = .slice (some a) n c → B ≤ a.block ∧ ∃ cs, w.heap[a.block]? = some (.cells cs e (0, 0)) ∧ a.off + n ≤ cs.size
theorem Fresh.nil (B : Nat) (w : World) (e : TypeId) : Fresh B w (.slice none 0 0) e := fun a n c h => by cases h
theorem Fresh.frm {B R : Nat} {w w' : World} {u : Value} {e : TypeId} (h : Fresh B w u e) (hR : R < B) (hf : Frm (fun k => k = R) w w') : Fresh B w' u e := fun a n c hu => by
  obtain ⟨h1, cs, h2, h3⟩ := h a n c hu
  exact ⟨h1, cs, (hf.block _ (blk_lt h2) (by omega)).trans h2, h3⟩
theorem Fresh.below {B : Nat} {w w' : World} {u : Value} {e : TypeId} (h : Fresh B w u e) (hb : Below w.heap.size w w') : Fresh B w' u e := fun a n c hu => by
  obtain ⟨h1, cs, h2, h3⟩ := h a n c hu
  exact ⟨h1, cs, (hb.block _ (blk_lt h2)).trans h2, h3⟩
theorem Fresh.mono {B B' : Nat} {w : World} {u : Value} {e : TypeId} (h : Fresh B w u e) (hB : B' ≤ B) : Fresh B' w u e := fun a n c hu => by
  obtain ⟨h1, h2⟩ := h a n c hu
  exact ⟨Nat.le_trans hB h1, h2⟩
theorem own_fresh {w : World} {B e n : Nat} {v : Value} {xs : List Value} (h : w.ownsRow B e 1 v n xs) : Fresh B w v e := fun a n' c hu => by
  rcases h.2 with ⟨rfl, _⟩ | ⟨g, cap, cur, rfl, hb, hg, h1, h2, h3, _⟩
  · cases hu
  · injection hu with e1 e2 e3
    injection e1 with e1
    subst e1 e2
    exact ⟨hb, cur, hg, by show 0 + n ≤ _; omega⟩
theorem rkp_end {w w1 wr : World} {R G : Nat} {pv : Value} {bad le : Bool} {s : Txt} {lt : List Txt} (hJ : RkpI w1 R G pv (bad || le) s s.length wr) (hF : Frm (fun k => k = R) w w1) (hd : s ≠ [45]) (hE : le = true → s = [])
    (g2 : IsSl w1 pv (lt.map strV)) (g3 : ∀ a n c, pv = .slice (some a) n c → a.block < R) (hR : R < w1.heap.size) (hG : G = w1.heap.size) (b : Bool) (hb : b = (((bad || le) || s.any badC) || decide (s = []))) (w' : World) (hw : w' = wr.setCell ⟨R, 1, none⟩ (.bool b)) (n : Nat) (hn : n = s.length) :
    (∃ u k, Ending.returned (.slice (some ⟨G, 0, none⟩) n n) = .returned u ∧ BoolsAt w' u k ∧ Fresh w.heap.size w' u 4 ∧ (∀ r, keepP s = some r → k = r)) ∧ RdAt w' R lt (bad || (keepP s).isNone) ∧ Frm (fun k => k = R) w w' := by
  subst hw hn
  have hfr : Frm (fun k => k = R) w1 (wr.setCell ⟨R, 1, none⟩ (.bool b)) := hJ.frm.setCell (p := ⟨R, 1, none⟩) (.inl rfl) _
  have h1 : (keepP s).isNone = (s.any badC || decide (s = [])) := by
    rw [keepP_eq hd]; cases s.any badC || decide (s = []) <;> rfl
  have h2 : b = (bad || (keepP s).isNone) := by
    rw [hb, h1]
    cases le with
    | false => simp [Bool.or_assoc]
    | true => rw [hE rfl]; simp
  have hR' : R < G := by omega
  have ho := own_set hJ.own (p := ⟨R, 1, none⟩) hR' (.bool b)
  refine ⟨⟨_, s.map isOne, rfl, ?_, (own_fresh ho).mono (by have := hF.size; omega), fun r hr => ?_⟩, ⟨pv, ?_, isSl_frm g2 g3 hfr, g3⟩, hF.trans hfr⟩
  · have h := own_isSl ho
    rw [rkpX_all] at h
    exact h
  · rw [keepP_eq hd] at hr
    split at hr
    · cases hr
    · injection hr
  · rw [← h2]
    exact set_at hJ.rd _

set_option maxHeartbeats 8000000 in
set_option maxRecDepth 100000 in
theorem keep66 (w : World) (R : Nat) (l : List Txt) (bad : Bool) (h : RdAt w R l bad) (hs : ∀ s ∈ l, s.length ≤ 1000000) :
    Calls Tryd.prog 66 #[.pointer (some ⟨R, 0, none⟩)] w fun e w' => (∃ u k, e = .returned u ∧ BoolsAt w' u k ∧ Fresh w.heap.size w' u 4 ∧ (∀ r, keepP (l.headD []) = some r → k = r)) ∧ RdAt w' R l.tail (bad || (keepP (l.headD [])).isNone) ∧ Frm (fun k => k = R) w w' := by
  have HN := Lib.hid (next62 w R l bad h)
  have hs' : (l.headD []).length ≤ 1000000 := by
    cases l with
    | nil => simp
    | cons x l => exact hs x (.head _)
  obtain ⟨s, hsd⟩ : ∃ s, s = l.headD [] := ⟨_, rfl⟩
  rw [← hsd] at hs' HN ⊢
  have HE : Hid (l.isEmpty = true → s = []) := fun e => by
    have : l = [] := List.isEmpty_iff.1 e
    rw [hsd, this]; rfl
  generalize l.isEmpty = le at *
  generalize l.tail = lt at *
  have HRL := Lib.hid h.lt
  clear hsd h hs
  unfold strV at HN
  go_enter Tryd.func66, Tryd.ntmps66
  go_wp2_with fail
  refine HN.out.mono ?_
  rintro e w1 ⟨rfl, h1, hf⟩
  have H1 := Lib.hid h1
  have HF := Lib.hid hf
  clear h1 hf HN
  by_cases hd : s = [45]
  · subst hd
    have hle : le = false := by
      cases le with
      | false => rfl
      | true => exact absurd (HE.out rfl) (by simp)
    go_wp2_with fail
    go_ret
    refine ⟨⟨_, [], rfl, boolsNil _, Fresh.nil _ _ _, fun r hr => ?_⟩, ?_, HF.out⟩
    · have : keepP [45] = some [] := by decide
      rw [this] at hr; injection hr
    · have : keepP [45] = some [] := by decide
      rw [this]
      have := H1.out
      rw [hle] at this
      simpa using this
  · have hbe : (s == [45]) = false := by simp [hd]
    obtain ⟨i0, hi0, hz0, hz1, hz2⟩ := elemBool.hi
    obtain ⟨pv, g1, g2, g3⟩ := H1.out
    have hR1 : R < w1.heap.size := blk_lt g1
    obtain ⟨n, hn⟩ : ∃ n, n = s.length := ⟨_, rfl⟩
    obtain ⟨w', hrun, ho, hg⟩ := run_make_full (P := Tryd.prog) w1 (w1.heap.size) 39 4 i0 (.bool false) 1 Tryd.underlying39 hi0 hz0 hz1 .i64 .i64 n (by rw [hz2]; omega) (by unfold maxLen; omega) (Nat.le_refl _)
    have HRUN := Lib.hid hrun
    have HBW : Hid (Below w1.heap.size w1 w') := (Below.refl _ w1).grown hg (Nat.le_refl _) (fun k hk => by cases hk)
    have HO : Hid (RkpI w1 R w1.heap.size pv (bad || le) s 0 w') := by
      refine ⟨?_, frm_below HBW.out, ?_⟩
      · simpa using (HBW.out.block R hR1).trans g1
      · have e : (madeCells (Value.bool false).cells (n * 1)).toList = rkpX s 0 := by
          show (madeCells #[.bool false] (n * 1)).toList = _
          rw [toList_madeCells_one]; unfold rkpX; rw [← hn]; simp
        rw [← e, ← hn]; exact ho
    clear hrun ho hg
    have HP := Lib.hid g2
    have HP3 := Lib.hid g3
    have HR1 := Lib.hid hR1
    have HNN := Lib.hid hn
    obtain ⟨G, hG⟩ : ∃ G, G = w1.heap.size := ⟨_, rfl⟩
    rw [← hG] at HRUN HO
    have HG := Lib.hid hG
    clear hG g1 g2 g3
    go_upto_region 4 with fail
    have hls : ((s.length : Nat) : Int) = (n : Int) := by rw [hn]
    go_wp2_with (refine wpList_make_eq rfl _ _ _ rfl (by first | rfl | (simp [go_sem, hn])) (by first | rfl | (simp [go_sem, hn])) HRUN.out ?_)
    go_loopg [5, 15] n (fun g iv kv wr => ∃ k : Nat, g = n - k ∧ k ≤ n ∧ kv = .int .i64 k ∧ Hid (RkpI w1 R G pv (bad || le) s k wr))
    case atStart => exact ⟨0, rfl, by omega, rfl, HO.out⟩
    case round =>
      obtain ⟨k, rfl, hk, rfl, HJ⟩ := hrel
      by_cases hlt : k < n
      · have hkl : k < s.length := by rw [← hn]; exact hlt
        obtain ⟨c, hc⟩ : ∃ c, s[k]? = some c := ⟨s[k], List.getElem?_eq_getElem hkl⟩
        have HC := Lib.hid hc
        have HST := Lib.hid (HJ.out.step hc HG.out HR1.out)
        have hca : ∀ (q : k < (⟨s.toArray⟩ : ByteArray).size), (⟨s.toArray⟩ : ByteArray)[k] = c := fun q => by
          have := (List.getElem?_eq_some_iff.1 hc).2
          rw [← this]; rfl
        have hqk : k < (⟨s.toArray⟩ : ByteArray).size := by show k < s.toArray.size; simpa using hkl
        have hcc := hca hqk
        obtain ⟨z0, hz0'⟩ : ∃ z, wr.cell? ⟨G, k, none⟩ = some z := by
          rw [HJ.out.own.cellAt k (by omega)]
          exact ⟨_, List.getElem?_eq_getElem (by unfold rkpX; simp; omega)⟩
        have hf0 := HJ.out.own.frozenAt k
        have hone : ((c.toNat : Int) == 49) = isOne c := by
          unfold isOne
          by_cases h : c = 49
          · subst h; rfl
          · have h2 : c.toNat ≠ 49 := fun e => h (UInt8.toNat_inj.1 e)
            rw [decide_eq_false h]; simp; omega
        have hbad : (!((c.toNat : Int) == 48) && !((c.toNat : Int) == 49)) = badC c := by
          rw [hone]
          unfold badC isOne
          by_cases h : c = 48
          · subst h; rfl
          · have h2 : ((c.toNat : Int) == 48) = false := by
              have : c.toNat ≠ 48 := fun e => h (UInt8.toNat_inj.1 e)
              simp; omega
            rw [h2]
            simp [h]
        have HONE := Lib.hid hone
        have HBAD := Lib.hid hbad
        clear hone hbad
        go_upto_region 9 with fail
        rw [HONE.out]
        have r1 : (wr.setCell ⟨G, k, none⟩ (.bool (isOne c))).heap[R]? = some (.cells #[pv, .bool ((bad || le) || (s.take k).any badC)] 80 (0, 0)) := blk_set HJ.out.rd (p := ⟨G, k, none⟩) (by have := HG.out; have := HR1.out; show R ≠ G; omega) _
        generalize hW2 : wr.setCell ⟨G, k, none⟩ (.bool (isOne c)) = w2 at r1 HST ⊢
        have c1 : w2.cell? ⟨R, 1, none⟩ = some (.bool ((bad || le) || (s.take k).any badC)) := blk_cell r1 1
        have f1 := blk_frozen r1 1
        generalize ((bad || le) || (s.take k).any badC) = bk at c1 HST
        cases bk with
        | true =>
          go_wp2_with fail
          go_roundg (n - (k + 1))
          case measure => omega
          case rel => exact ⟨k + 1, rfl, by omega, by go_num, by have h := HST.out; rw [Bool.true_or] at h; exact h⟩
        | false =>
          by_cases h48 : (c.toNat : Int) = 48
          · have hb : badC c = false := by
              have := HBAD.out
              rw [← this, show ((c.toNat : Int) == 48) = true by simp [h48]]; rfl
            have HS2 : Hid (RkpI w1 R G pv (bad || le) s (k + 1) (w2.setCell ⟨R, 1, none⟩ (.bool false))) := by
              have h := HST.out; rw [hb] at h; exact h
            go_wp2_with fail
            go_roundg (n - (k + 1))
            case measure => omega
            case rel => exact ⟨k + 1, rfl, by omega, by go_num, HS2.out⟩
          · have hb : badC c = !isOne c := by
              have := HBAD.out
              rw [← this, ← HONE.out, show ((c.toNat : Int) == 48) = false by simp [h48]]; rfl
            have HS2 : Hid (RkpI w1 R G pv (bad || le) s (k + 1) (w2.setCell ⟨R, 1, none⟩ (.bool (!isOne c)))) := by
              have h := HST.out; rw [hb] at h; exact h
            have h48b : ((c.toNat : Int) == 48) = false := by simp [h48]
            have hbv : (((c.toNat : Int) != 48) && ((c.toNat : Int) != 49)) = !isOne c := by
              rw [show (((c.toNat : Int) != 48) && ((c.toNat : Int) != 49)) = (!((c.toNat : Int) == 48) && !((c.toNat : Int) == 49)) from rfl, HBAD.out, hb]
            go_wp2_with fail
            go_roundg (n - (k + 1))
            case measure => omega
            case rel => exact ⟨k + 1, rfl, by omega, by go_num, HS2.out⟩
      · obtain rfl : k = n := by omega
        have HJ2 : Hid (RkpI w1 R G pv (bad || le) s s.length wr) := by have h := HJ.out; rw [HNN.out] at h; exact h
        have HD := Lib.hid hd
        have htk : s.take k = s := by rw [HNN.out]; exact List.take_length
        have r1 := HJ.out.rd
        rw [htk] at r1
        have c1 : wr.cell? ⟨R, 1, none⟩ = some (.bool ((bad || le) || s.any badC)) := blk_cell r1 1
        have f1 := blk_frozen r1 1
        have HEN := fun b hb w' hw => Lib.hid (rkp_end (w := w) HJ2.out HF.out HD.out HE.out HP.out HP3.out HR1.out HG.out b hb w' hw s.length rfl)
        obtain ⟨bk, hbk⟩ : ∃ bk, bk = ((bad || le) || s.any badC) := ⟨_, rfl⟩
        rw [← hbk] at c1 HEN
        have HN0 : Hid (decide (s = []) = decide (k = 0)) := by
          have := HNN.out
          show _ = _
          rw [this]
          cases s <;> simp
        clear r1 htk hd hbe hbk HJ HJ2
        cases bk with
        | true =>
          go_wp2_with fail
          go_ret
          exact (HEN true (by simp) _ rfl).out
        | false =>
          by_cases hk0 : k = 0
          · have hkt : ((k : Int) == 0) = true := by simp [hk0]
            go_wp2_with fail
            go_ret
            exact (HEN true (by rw [HN0.out]; simp [hk0]) _ rfl).out
          · have hkf : ((k : Int) == 0) = false := by simp; omega
            go_wp2_with fail
            go_ret
            exact (HEN false (by rw [HN0.out]; simp [hk0]) _ rfl).out
end Go.Proofs.YtelaijogjgcloaaDoor
