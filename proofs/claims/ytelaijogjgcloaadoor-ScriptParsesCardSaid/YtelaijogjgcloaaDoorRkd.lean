/- The document's keep. No condition. -/
import Derived.Test.YtelaijogjgcloaaDoorRpn
import Derived.Test.YtelaijogjgcloaaDoorNum
set_option linter.unusedVariables false
set_option linter.unusedSimpArgs false
namespace Go.Proofs.YtelaijogjgcloaaDoor
open Go.RowKit Go.Ice Go.Scr

set_option maxHeartbeats 8000000 in
set_option maxRecDepth 20000 in
theorem keep59 (w : World) (s : Txt) (hs : s.length ≤ 100000000) :
    Calls Tryd.prog 59 #[.string ⟨s.toArray⟩] w fun e w' => (∃ (a : Option Addr) (n c : Nat) (l : List Bool), e = .returned (.tuple #[.slice a n c, .bool (keepP s).isSome]) ∧ Fresh w.heap.size w' (.slice a n c) 4 ∧ BoolsAt w' (.slice a n c) l ∧ ∀ r, keepP s = some r → r = l) ∧ Below w.heap.size w w' := by
  obtain ⟨b, hb⟩ : ∃ b, b = (keepP s).isSome := ⟨_, rfl⟩
  rw [← hb]
  have HB := Lib.hid hb
  clear hb
  by_cases h0 : s = [45]
  · subst h0
    have HK : Hid (keepP [45] = some []) := by show _ = _; decide
    have HX : Hid (b = true) := by show _ = _; rw [HB.out, HK.out]; rfl
    go_enter Tryd.func59, Tryd.ntmps59
    go_wp2_with fail
    go_ret2
    exact ⟨⟨none, 0, 0, [], by rw [HX.out]; rfl, Fresh.nil _ _ _, boolsNil _, fun l hl => by rw [HK.out] at hl; injection hl with hl; exact hl.symm⟩, Below.refl _ _⟩
  · have HEQ := Lib.hid (keepP_eq h0)
    have h0b : (s == [45]) = false := by simp [h0]
    clear h0
    go_enter Tryd.func59, Tryd.ntmps59
    go_wp2_with fail
    go_loopg [4, 5, 10] s.length (fun g ov iv kv wr => ∃ (k : Nat) (oa : Option Addr) (oc : Nat), g = s.length - k ∧ k ≤ s.length ∧ kv = .int .i64 k ∧ ov = .slice oa k oc ∧ Hid (Below w.heap.size w wr ∧ wr.ownsRow w.heap.size 4 1 (.slice oa k oc) k (((s.take k).map isOne).map Value.bool) ∧ (s.take k).any badC = false))
    case atStart => exact ⟨0, none, 0, rfl, by omega, rfl, rfl, Below.refl _ _, World.ownsRow_nil _ _ _ _, by simp⟩
    case round =>
      obtain ⟨k, oa, oc, rfl, hk, rfl, rfl, HJ⟩ := hrel
      by_cases hlt : k < s.length
      · obtain ⟨c, hc⟩ : ∃ c, s[k]? = some c := ⟨s[k], List.getElem?_eq_getElem hlt⟩
        have HC := Lib.hid hc
        have hcc : (⟨s.toArray⟩ : ByteArray)[k]'(by rw [txt_size]; exact hlt) = c := byte_at hc
        have HAT : Hid ((s.take (k + 1)).any badC = ((s.take k).any badC || badC c)) := by show _ = _; rw [List.take_add_one, hc]; simp
        have hclt := c.toNat_lt
        have hlt' : (k : Int) < (s.length : Nat) := by omega
        have HTK : Hid (((s.take k).map isOne).map Value.bool ++ [Value.bool (isOne c)] = ((s.take (k + 1)).map isOne).map Value.bool) := by show _ = _; rw [List.take_add_one, hc]; simp
        have HXF : Hid (badC c = true → b = false ∧ keepP s = none) := fun h => by
          have : keepP s = none := by
            rw [HEQ.out]
            have : s.any badC = true := List.any_eq_true.2 ⟨c, List.mem_of_getElem? HC.out, h⟩
            rw [this]; rfl
          exact ⟨by rw [HB.out, this]; rfl, this⟩
        have HJB : Hid (Below w.heap.size w wr) := HJ.out.1
        have hone : ((c.toNat : Int) == 49) = isOne c := by
          unfold isOne
          by_cases h : c = 49
          · subst h; rfl
          · have h2 : c.toNat ≠ 49 := fun e => h (UInt8.toNat_inj.1 e)
            rw [decide_eq_false h]; simp; omega
        clear hc
        have main : ∀ o1 : Bool, o1 = isOne c → badC c = false → ((c.toNat : Int) == 49) = o1 → ∃ va' vc' w9, (Builtin.append_ #[39, 39] 39 #[.slice oa k oc, .slice (some ⟨wr.heap.size, 0, none⟩) 1 1]).run Tryd.prog (wr.alloc (.cells #[.bool o1] 4)) = .ok (.slice va' (k + 1) vc') w9 ∧ Below w.heap.size w w9 ∧ w9.ownsRow w.heap.size 4 1 (.slice va' (k + 1) vc') (k + 1) (((s.take (k + 1)).map isOne).map Value.bool) := by
          intro o1 ho1 _ _
          have hb8 : Below wr.heap.size wr (wr.alloc (.cells #[.bool o1] 4)) := (Below.refl _ wr).alloc (Nat.le_refl _) _
          have hnew := heap_alloc_new wr (.cells #[.bool o1] 4)
          obtain ⟨v', w9, hrun, hown, hg, _⟩ := app_at (P := Tryd.prog) (ty := 39) elemBool (own_below HJ.out.2.1 hb8) (x := .slice (some ⟨wr.heap.size, 0, none⟩) 1 1) (m := 1) (news := [.bool o1]) ⟨rfl, .inr ⟨by decide, wr.heap.size, 0, 1, rfl, Nat.le_refl _, by decide, blk_lt hnew, fun j hj => by
            rw [Nat.zero_add, blk_cell hnew]
            obtain rfl : j = 0 := by simp at hj; omega
            rfl⟩⟩ (fun u hu => by simp at hu; subst hu; rfl) (by omega) (by unfold maxLen; omega) (by have := HJB.out.size; have := hb8.size; omega)
          rw [ho1, HTK.out] at hown
          obtain ⟨va', vc', rfl⟩ := own_slice hown
          exact ⟨va', vc', w9, by rw [ho1] at hrun ⊢; exact hrun, (HJB.out.trans (hb8.mono HJB.out.size)).grown hg (by have := HJB.out.size; have := hb8.size; omega) (fun i hi => ((own_below HJ.out.2.1 hb8).lt i hi).1), hown⟩
        have HM := Lib.hid main
        have HONE := Lib.hid hone
        clear main hone
        by_cases h48 : (c.toNat : Int) = 48
        · have hcb : badC c = false ∧ isOne c = false := by
            have : c = 48 := UInt8.toNat_inj.1 (by show c.toNat = 48; omega)
            rw [this]; decide
          have h49 : ((c.toNat : Int) == 49) = false := by rw [HONE.out]; exact hcb.2
          obtain ⟨va', vc', w9, hrun, hb9, ho9⟩ := HM.out false hcb.2.symm hcb.1 h49
          have HRUN := Lib.hid hrun
          have HB9 := Lib.hid hb9
          have HO9 := Lib.hid ho9
          have HCB := Lib.hid hcb.1
          clear hrun hb9 ho9 hcb
          go_wp2_with (refine wpList_append_eq rfl _ _ 39 rfl (by first | rfl | simp [go_sem]) (by first | rfl | simp [go_sem]) HRUN.out ?_)
          go_roundg (s.length - (k + 1))
          case measure => omega
          case rel => exact ⟨k + 1, va', vc', rfl, by omega, by go_num, rfl, HB9.out, HO9.out, by rw [HAT.out, HJ.out.2.2, HCB.out]; rfl⟩
        · have h48b : ((c.toNat : Int) == 48) = false := by simp [h48]
          by_cases h49 : (c.toNat : Int) = 49
          · have hcb : badC c = false ∧ isOne c = true := by
              have : c = 49 := UInt8.toNat_inj.1 (by show c.toNat = 49; omega)
              rw [this]; decide
            have h49b : ((c.toNat : Int) == 49) = true := by rw [HONE.out]; exact hcb.2
            obtain ⟨va', vc', w9, hrun, hb9, ho9⟩ := HM.out true hcb.2.symm hcb.1 h49b
            have HRUN := Lib.hid hrun
            have HB9 := Lib.hid hb9
            have HO9 := Lib.hid ho9
            have HCB := Lib.hid hcb.1
            clear hrun hb9 ho9 hcb
            go_wp2_with (refine wpList_append_eq rfl _ _ 39 rfl (by first | rfl | simp [go_sem]) (by first | rfl | simp [go_sem]) HRUN.out ?_)
            go_roundg (s.length - (k + 1))
            case measure => omega
            case rel => exact ⟨k + 1, va', vc', rfl, by omega, by go_num, rfl, HB9.out, HO9.out, by rw [HAT.out, HJ.out.2.2, HCB.out]; rfl⟩
          · have h49b : ((c.toNat : Int) != 49) = true := by simp [h49]
            have h48c : ((c.toNat : Int) != 48) = true := by simp [h48]
            have HX := Lib.hid (HXF.out (by
              unfold badC
              rw [decide_eq_false]; rfl
              rintro (rfl | rfl)
              · exact h48 rfl
              · exact h49 rfl))
            go_wp2_with fail
            go_ret2
            exact ⟨⟨none, 0, 0, [], by rw [HX.out.1]; rfl, Fresh.nil _ _ _, boolsNil _, fun l hl => by rw [HX.out.2] at hl; cases hl⟩, HJB.out⟩
      · obtain rfl : k = s.length := by omega
        have HJB : Hid (Below w.heap.size w wr) := HJ.out.1
        have HX : Hid (b = decide (0 < s.length) ∧ ∀ l, keepP s = some l → l = s.map isOne) := by
          have h := HJ.out.2.2
          rw [List.take_length] at h
          have e := HEQ.out
          rw [h, Bool.false_or] at e
          by_cases hs0 : s = []
          · rw [if_pos (by simp [hs0])] at e
            refine ⟨?_, fun l hl => by rw [e] at hl; cases hl⟩
            rw [HB.out, e, hs0]; rfl
          · rw [if_neg (by simp [hs0])] at e
            refine ⟨?_, fun l hl => by rw [e] at hl; injection hl with hl; exact hl.symm⟩
            rw [HB.out, e]
            have : 0 < s.length := List.length_pos_iff.2 hs0
            rw [decide_eq_true this]; rfl
        have HO : Hid (BoolsAt wr (.slice oa s.length oc) (s.map isOne)) := by
          have h := own_isSl HJ.out.2.1
          rw [List.take_length] at h
          exact h
        have HFR : Hid (Fresh w.heap.size wr (.slice oa s.length oc) 4) := own_fresh HJ.out.2.1
        go_wp2_with fail
        go_ret2
        exact ⟨⟨oa, s.length, oc, s.map isOne, by rw [HX.out.1]; rfl, HFR.out, HO.out, HX.out.2⟩, HJB.out⟩
end Go.Proofs.YtelaijogjgcloaaDoor
