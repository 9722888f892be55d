/- The document's raw. No condition. -/
import Derived.Test.YtelaijogjgcloaaDoorRpn
import Derived.Test.YtelaijogjgcloaaDoorRby
set_option linter.unusedVariables false
set_option linter.unusedSimpArgs false
namespace Go.Proofs.YtelaijogjgcloaaDoor
open Go.RowKit Go.Ice Go.Scr

theorem halfI_hx (c : UInt8) : halfI c = hxI c := rfl
/-- While a byte is written behind the others. -/
structure RpI (w : World) (G n : Nat) (l : List UInt8) (x : UInt8) (oa : Option Addr) (oc P : Nat) (v8 : Value) (done : Nat → Bool) (W : World) : Prop where
  bel : Below w.heap.size w W
  o : done 14 = false → W.ownsRow G 5 1 (.slice oa n oc) n (l.map u8v)
  s : done 13 = true → done 14 = false → IsSlK W 1 1 (.slice (some ⟨P, 0, none⟩) 1 1) [u8v x]
  o8 : done 14 = true → W.ownsRow G 5 1 v8 (n + 1) ((l ++ [x]).map u8v)
section
variable {w : World} {G n : Nat} {l : List UInt8} {x : UInt8} {oa : Option Addr} {oc P : Nat} {v8 : Value} {done : Nat → Bool} {W : World}
theorem RpI.quiet (h : RpI w G n l x oa oc P v8 done W) (j : Nat) (hj : j ≠ 13 ∧ j ≠ 14) : RpI w G n l x oa oc P v8 (fun k => decide (k = j) || done k) W := by
  obtain ⟨a, b⟩ := hj
  refine ⟨h.bel, ?_, ?_, ?_⟩ <;> simp only [decide_eq_false (Ne.symm a), decide_eq_false (Ne.symm b), Bool.false_or]
  · exact h.o
  · exact h.s
  · exact h.o8
theorem RpI.built (h : RpI w G n l x oa oc P v8 done W) (q8 : done 14 = false) :
    RpI w G n l x oa oc W.heap.size v8 (fun k => decide (k = 13) || done k) (W.alloc (.cells #[u8v x] 5)) := by
  have hk : Kp W [(W.heap.size, .cells #[u8v x] 5)] _ := (Kp.nil W).alloc _
  refine ⟨h.bel.alloc h.bel.size _, fun e => (h.o q8).alloc _, fun _ _ => ?_, fun e => by simp [q8] at e⟩
  refine ⟨rfl, .inr ⟨by decide, W.heap.size, 0, 1, rfl, Nat.le_refl _, by decide, blk_lt hk.b0, fun j hj => ?_⟩⟩
  rw [Nat.zero_add, blk_cell hk.b0]
  obtain rfl : j = 0 := by simp at hj; omega
  rfl
theorem RpI.appended (h : RpI w G n l x oa oc P v8 done W) (hb : n + 1 ≤ 300000000) (hG : G = w.heap.size) (hd : done 14 = false) (p7 : done 13 = true) :
    ∃ v' w', (Builtin.append_ #[38, 38] 38 #[.slice oa n oc, .slice (some ⟨P, 0, none⟩) 1 1]).run Tryd.prog W = .ok v' w' ∧ RpI w G n l x oa oc P v' (fun k => decide (k = 14) || done k) w' := by
  subst hG
  obtain ⟨v', w', hr, ho, hg, _⟩ := app_at (P := Tryd.prog) (ty := 38) elemByte (h.o hd) (h.s p7 hd) (fun u hu => by simp at hu; subst hu; rfl) (by omega) (by unfold maxLen; omega) h.bel.size
  refine ⟨v', w', hr, h.bel.grown hg h.bel.size (fun k hk => ((h.o hd).lt k hk).1), fun e => by simp at e, fun _ e => by simp at e, fun _ => ?_⟩
  rw [List.map_append]
  exact ho
end

set_option maxHeartbeats 16000000 in
set_option maxRecDepth 20000 in
theorem raw58 (w : World) (s : Txt) (hs : s.length ≤ 100000000) :
    Calls Tryd.prog 58 #[.string ⟨s.toArray⟩] w fun e w' => (∃ (a : Option Addr) (n c : Nat), e = .returned (.tuple #[.slice a n c, .bool (rawP s).isSome]) ∧ Fresh w.heap.size w' (.slice a n c) 5 ∧ ∃ l : List UInt8, BytesAt w' (.slice a n c) l ∧ ∀ r, rawP s = some r → r = l) ∧ Below w.heap.size w w' := by
  obtain ⟨b, hb⟩ : ∃ b, b = (rawP s).isSome := ⟨_, rfl⟩
  rw [← hb]
  have HB := Lib.hid hb
  clear hb
  by_cases h0 : s = [45]
  · subst h0
    have HK : Hid (rawP [45] = some []) := by show _ = _; decide
    have HX : Hid (b = true) := by show _ = _; rw [HB.out, HK.out]; rfl
    go_enter Tryd.func58, Tryd.ntmps58
    go_wp2_with fail
    go_ret2
    exact ⟨⟨none, 0, 0, by rw [HX.out]; rfl, Fresh.nil _ _ _, [], bytesNil _, fun l hl => by rw [HK.out] at hl; injection hl with hl; exact hl.symm⟩, Below.refl _ _⟩
  · have H0 : Hid (s ≠ [45]) := h0
    have h0b : (s == [45]) = false := by simp [h0]
    clear h0
    go_enter Tryd.func58, Tryd.ntmps58
    go_wp2_with fail
    go_loopg [4, 5] s.length (fun g ov iv wr => ∃ (k : Nat) (oa : Option Addr) (oc : Nat), g = s.length - 2 * k ∧ 2 * k ≤ s.length ∧ iv = .int .i64 (2 * (k : Nat)) ∧ ov = .slice oa k oc ∧ Hid (Below w.heap.size w wr ∧ wr.ownsRow w.heap.size 5 1 (.slice oa k oc) k (((List.range k).map (rbB s)).map u8v) ∧ ∀ j, j < k → rbOk s j))
    case atStart => exact ⟨0, none, 0, rfl, by omega, rfl, rfl, Below.refl _ _, World.ownsRow_nil _ _ _ _, fun j hj => by omega⟩
    case round =>
      obtain ⟨k, oa, oc, rfl, hk, rfl, rfl, HJ⟩ := hrel
      have HJB : Hid (Below w.heap.size w wr) := HJ.out.1
      by_cases hlt : 2 * k + 1 < s.length
      · obtain ⟨c1, hc1⟩ : ∃ c, s[2 * k]? = some c := ⟨s[2 * k], List.getElem?_eq_getElem (by omega)⟩
        obtain ⟨c2, hc2⟩ : ∃ c, s[2 * k + 1]? = some c := ⟨s[2 * k + 1], List.getElem?_eq_getElem hlt⟩
        have hg1 : s.getD (2 * k) 0 = c1 := by rw [List.getD_eq_getElem?_getD, hc1]; rfl
        have hg2 : s.getD (2 * k + 1) 0 = c2 := by rw [List.getD_eq_getElem?_getD, hc2]; rfl
        have hcc1 : (⟨s.toArray⟩ : ByteArray)[2 * k]'(by rw [txt_size]; omega) = c1 := byte_at hc1
        have hcc2 : (⟨s.toArray⟩ : ByteArray)[2 * k + 1]'(by rw [txt_size]; exact hlt) = c2 := byte_at hc2
        obtain ⟨x1, hx1⟩ : ∃ x, x = hxI c1 := ⟨_, rfl⟩
        obtain ⟨x2, hx2⟩ : ∃ x, x = hxI c2 := ⟨_, rfl⟩
        have h1b := hxI_lt c1
        have h2b := hxI_lt c2
        have HC1 := half73 wr c1
        have HC2 := half73 wr c2
        rw [halfI_hx, ← hx1] at HC1
        rw [halfI_hx, ← hx2] at HC2
        rw [← hx1] at h1b
        rw [← hx2] at h2b
        have HOK : Hid (rbOk s k ↔ 0 ≤ x1 ∧ 0 ≤ x2) := by show _ ↔ _; unfold rbOk; rw [hg1, hg2, hx1, hx2]
        have HRB : Hid (rbB s k = UInt8.ofNat (16 * x1.toNat + x2.toNat)) := by show _ = _; unfold rbB; rw [hg1, hg2, hx1, hx2]
        have HXF : Hid (¬ rbOk s k → b = false ∧ rawP s = none) := fun h => by
          have : rawP s = none := rawP_bad H0.out (j := k) (by omega) h
          exact ⟨by rw [HB.out, this]; rfl, this⟩
        have HK1 := Lib.hid HC1
        have HK2 := Lib.hid HC2
        have hlt1 : (2 * (k : Int)) + 1 < (s.length : Nat) := by omega
        have hlt0 : (2 * (k : Int)) < (s.length : Nat) := by omega
        have hnn0 : Hid (¬ (2 * (k : Int)) < 0) := by show ¬ _; omega
        have hnn1 : Hid (¬ (2 * (k : Int) + 1) < 0) := by show ¬ _; omega
        have ht0 : (2 * (k : Int)).toNat = 2 * k := by omega
        have ht1 : (2 * (k : Int) + 1).toNat = 2 * k + 1 := by omega
        have HHX1 := Lib.hid hx1
        have HHX2 := Lib.hid hx2
        clear hc1 hc2 hg1 hg2 hx1 hx2
        go_wp2_with fail
        refine HC1.mono ?_
        rintro e w9 ⟨rfl, rfl⟩
        by_cases hn1 : x1 < 0
        · have HX := Lib.hid (HXF.out (fun h => by have := HOK.out.1 h; omega))
          go_wp2_with fail
          go_ret2
          exact ⟨⟨none, 0, 0, by rw [HX.out.1]; rfl, Fresh.nil _ _ _, [], bytesNil _, fun l hl => by rw [HX.out.2] at hl; cases hl⟩, HJB.out⟩
        · go_wp2_with fail
          refine HC2.mono ?_
          rintro e w10 ⟨rfl, rfl⟩
          by_cases hn2 : x2 < 0
          · have HX := Lib.hid (HXF.out (fun h => by have := HOK.out.1 h; omega))
            go_wp2_with fail
            go_ret2
            exact ⟨⟨none, 0, 0, by rw [HX.out.1]; rfl, Fresh.nil _ _ _, [], bytesNil _, fun l hl => by rw [HX.out.2] at hl; cases hl⟩, HJB.out⟩
          · have HOKK : Hid (rbOk s k) := HOK.out.2 ⟨by omega, by omega⟩
            obtain ⟨G, hG⟩ : ∃ G, G = w.heap.size := ⟨_, rfl⟩
            have HG := Lib.hid hG
            have HJO : Hid (w10.ownsRow G 5 1 (.slice oa k oc) k (((List.range k).map (rbB s)).map u8v)) := by rw [hG]; exact HJ.out.2.1
            have HBD : Hid (k + 1 ≤ 300000000) := by show _ ≤ _; omega
            have HJA : Hid (∀ j, j < k → rbOk s j) := HJ.out.2.2
            clear hG HC1 HC2 HJ
            have hx1' := HHX1.out
            have hx2' := HHX2.out
            clear HHX1 HHX2 HK1 HK2
            obtain ⟨y1, rfl⟩ := Int.eq_ofNat_of_zero_le (show 0 ≤ x1 by omega)
            obtain ⟨y2, rfl⟩ := Int.eq_ofNat_of_zero_le (show 0 ≤ x2 by omega)
            have HY1 : Hid ((y1 : Int) = hxI c1) := hx1'
            have HY2 : Hid ((y2 : Int) = hxI c2) := hx2'
            clear hx1' hx2'
            have hu8 : IntKind.u8.wrap (16 * (y1 : Int) + (y2 : Int)) = ((rbB s k).toNat : Int) := by
              have h := byte_or y1 y2 (by omega) (by omega)
              rw [HRB.out, IntKind.wrap_u8]
              show _ = (((UInt8.ofNat (16 * y1 + y2)).toNat : Nat) : Int)
              rw [h]; omega
            have HU8 := Lib.hid hu8
            have HW5 : Hid (IntKind.i64.wrap (16 * (y1 : Int)) = 16 * (y1 : Int)) := by show _ = _; rw [IntKind.wrap_i64]; omega
            have HW8 : Hid (IntKind.i64.wrap (2 * (k : Int) + 1) = 2 * (k : Int) + 1) := by show _ = _; rw [IntKind.wrap_i64]; omega
            have HW11 : Hid (IntKind.i64.wrap (16 * (y1 : Int) + (y2 : Int)) = 16 * (y1 : Int) + (y2 : Int)) := by show _ = _; rw [IntKind.wrap_i64]; omega
            clear hu8
            go_upto_region 9 with fail
            refine wp_region_inv2 (by kernel_rfl) (hord_of2 (by kernel_rfl)) (fun done ac W => ∃ (P : Nat) (v8 : Value), ac = { tmps := #[.string { data := List.toArray s }, undef, u2, u3, if done 15 then v8 else .slice oa k oc, .int .i64 (2 * ↑k), .string { data := List.toArray s }, .bool false, .int .i64 (2 * ↑k), .int .i64 (2 * ↑k + 1), .string { data := List.toArray s }, .int .i64 ↑(List.length s), .bool true, u13, u14, .string { data := List.toArray s }, .int .i64 (2 * ↑k), .int .u8 (c1.toNat : Nat), .int .i64 (y1 : Nat), .bool (decide (↑y1 < 0)), .bool (decide (↑y1 < 0)), .string { data := List.toArray s }, .int .i64 (2 * ↑k), .int .i64 (2 * ↑k + 1), .int .u8 (c2.toNat : Nat), .int .i64 (y2 : Nat), .bool (decide (↑y2 < 0)), .bool (decide (↑y1 < 0) || decide (↑y2 < 0)), if done 0 then (.slice oa k oc) else u28, if done 1 then (.string ⟨s.toArray⟩) else u29, if done 2 then (.int .i64 (2 * (k : Nat))) else u30, if done 3 then (.int .u8 (c1.toNat : Nat)) else u31, if done 4 then (.int .i64 (y1 : Nat)) else u32, if done 5 then (.int .i64 (16 * (y1 : Nat))) else u33, if done 6 then (.string ⟨s.toArray⟩) else u34, if done 7 then (.int .i64 (2 * (k : Nat))) else u35, if done 8 then (.int .i64 (2 * (k : Nat) + 1)) else u36, if done 9 then (.int .u8 (c2.toNat : Nat)) else u37, if done 10 then (.int .i64 (y2 : Nat)) else u38, if done 11 then (.int .i64 (16 * (y1 : Nat) + (y2 : Nat))) else u39, if done 12 then (.int .u8 ((rbB s k).toNat : Nat)) else u40, if done 13 then (.slice (some ⟨P, 0, none⟩) 1 1) else u41, if done 14 then v8 else u42, undef, undef, undef, undef, undef, undef, undef, undef, undef, undef], defers := [] } ∧ RpI w G k ((List.range k).map (rbB s)) (rbB s k) oa oc P v8 done W) ?_ ?_ ?_
            · exact ⟨0, undef, by simp, ⟨HJB.out.drew, fun _ => own_below HJO.out (drewN_below w10 1), (fun e => by cases e), (fun e => by cases e)⟩⟩
            · intro done ac W j oq ho hd hdep hcl ⟨P, v8, hlit, hI⟩
              have hj : j < 16 := (Array.getElem?_eq_some_iff.1 ho).1
              subst hlit
              obtain rfl | rfl | rfl | rfl | rfl | rfl | rfl | rfl | rfl | rfl | rfl | rfl | rfl | rfl | rfl | rfl : j = 0 ∨ j = 1 ∨ j = 2 ∨ j = 3 ∨ j = 4 ∨ j = 5 ∨ j = 6 ∨ j = 7 ∨ j = 8 ∨ j = 9 ∨ j = 10 ∨ j = 11 ∨ j = 12 ∨ j = 13 ∨ j = 14 ∨ j = 15 := by omega
              · have q15 : done 15 = false := by
                  cases h : done 15 with
                  | false => rfl
                  | true =>
                    have h0 := hcl 15 _ rfl h ⟨0, .phase⟩ (by simp) rfl
                    rw [hd] at h0; cases h0
                refine wpOp_val ho (by cases ho; rfl) (w' := W) (v := (.slice oa k oc)) (by cases ho; simp [execOp, go_sem, q15]) ?_
                cases ho
                exact ⟨P, v8, by simp [Act.put], hI.quiet 0 (by decide)⟩
              · refine wpOp_val ho (by cases ho; rfl) (w' := W) (v := (.string ⟨s.toArray⟩)) (by cases ho; simp [execOp, go_sem]) ?_
                cases ho
                exact ⟨P, v8, by simp [Act.put], hI.quiet 1 (by decide)⟩
              · refine wpOp_val ho (by cases ho; rfl) (w' := W) (v := (.int .i64 (2 * (k : Nat)))) (by cases ho; simp [execOp, go_sem]) ?_
                cases ho
                exact ⟨P, v8, by simp [Act.put], hI.quiet 2 (by decide)⟩
              · have p1 : done 1 = true := by cases ho; exact hdep ⟨1, .data⟩ (by simp) rfl
                have p2 : done 2 = true := by cases ho; exact hdep ⟨2, .data⟩ (by simp) rfl
                refine wpOp_val ho (by cases ho; rfl) (w' := W) (v := (.int .u8 (c1.toNat : Nat))) (by cases ho; simp [execOp, go_sem, p1, p2, hlt0, ht0, hcc1, hnn0.out]) ?_
                cases ho
                exact ⟨P, v8, by simp [Act.put], hI.quiet 3 (by decide)⟩
              · have p3 : done 3 = true := by cases ho; exact hdep ⟨3, .data⟩ (by simp) rfl
                refine wpOp_call ho (by cases ho; rfl) (f := 73) (args := #[.int .u8 (c1.toNat : Nat)]) (by cases ho; simp [execOp, go_sem, p3]) (half73 W c1) ?_
                rintro e w' ⟨he, rfl⟩
                cases ho
                rw [halfI_hx, ← HY1.out] at he
                subst he
                exact ⟨_, rfl, P, v8, by simp [Act.put], hI.quiet 4 (by decide)⟩
              · have p4 : done 4 = true := by cases ho; exact hdep ⟨4, .data⟩ (by simp) rfl
                refine wpOp_val ho (by cases ho; rfl) (w' := W) (v := (.int .i64 (16 * (y1 : Nat)))) (by cases ho; simp [execOp, go_sem, p4, HW5.out]) ?_
                cases ho
                exact ⟨P, v8, by simp [Act.put], hI.quiet 5 (by decide)⟩
              · refine wpOp_val ho (by cases ho; rfl) (w' := W) (v := (.string ⟨s.toArray⟩)) (by cases ho; simp [execOp, go_sem]) ?_
                cases ho
                exact ⟨P, v8, by simp [Act.put], hI.quiet 6 (by decide)⟩
              · refine wpOp_val ho (by cases ho; rfl) (w' := W) (v := (.int .i64 (2 * (k : Nat)))) (by cases ho; simp [execOp, go_sem]) ?_
                cases ho
                exact ⟨P, v8, by simp [Act.put], hI.quiet 7 (by decide)⟩
              · have p7 : done 7 = true := by cases ho; exact hdep ⟨7, .data⟩ (by simp) rfl
                refine wpOp_val ho (by cases ho; rfl) (w' := W) (v := (.int .i64 (2 * (k : Nat) + 1))) (by cases ho; simp [execOp, go_sem, p7, HW8.out]) ?_
                cases ho
                exact ⟨P, v8, by simp [Act.put], hI.quiet 8 (by decide)⟩
              · have p6 : done 6 = true := by cases ho; exact hdep ⟨6, .data⟩ (by simp) rfl
                have p8 : done 8 = true := by cases ho; exact hdep ⟨8, .data⟩ (by simp) rfl
                refine wpOp_val ho (by cases ho; rfl) (w' := W) (v := (.int .u8 (c2.toNat : Nat))) (by cases ho; simp [execOp, go_sem, p6, p8, hlt1, ht1, hcc2, hnn1.out]) ?_
                cases ho
                exact ⟨P, v8, by simp [Act.put], hI.quiet 9 (by decide)⟩
              · have p9 : done 9 = true := by cases ho; exact hdep ⟨9, .data⟩ (by simp) rfl
                refine wpOp_call ho (by cases ho; rfl) (f := 73) (args := #[.int .u8 (c2.toNat : Nat)]) (by cases ho; simp [execOp, go_sem, p9]) (half73 W c2) ?_
                rintro e w' ⟨he, rfl⟩
                cases ho
                rw [halfI_hx, ← HY2.out] at he
                subst he
                exact ⟨_, rfl, P, v8, by simp [Act.put], hI.quiet 10 (by decide)⟩
              · have p5 : done 5 = true := by cases ho; exact hdep ⟨5, .data⟩ (by simp) rfl
                have p10 : done 10 = true := by cases ho; exact hdep ⟨10, .data⟩ (by simp) rfl
                refine wpOp_val ho (by cases ho; rfl) (w' := W) (v := (.int .i64 (16 * (y1 : Nat) + (y2 : Nat)))) (by cases ho; simp [execOp, go_sem, p5, p10, HW11.out]) ?_
                cases ho
                exact ⟨P, v8, by simp [Act.put], hI.quiet 11 (by decide)⟩
              · have p11 : done 11 = true := by cases ho; exact hdep ⟨11, .data⟩ (by simp) rfl
                refine wpOp_val ho (by cases ho; rfl) (w' := W) (v := (.int .u8 ((rbB s k).toNat : Nat))) (by cases ho; simp [execOp, go_sem, p11, HU8.out]) ?_
                cases ho
                exact ⟨P, v8, by simp [Act.put], hI.quiet 12 (by decide)⟩
              · have p12 : done 12 = true := by cases ho; exact hdep ⟨12, .data⟩ (by simp) rfl
                have q14 : done 14 = false := by
                  cases h : done 14 with
                  | false => rfl
                  | true =>
                    have h0 := hcl 14 _ rfl h ⟨13, .data⟩ (by simp) rfl
                    rw [hd] at h0; cases h0
                refine wpOp_val ho (by cases ho; rfl) (w' := W.alloc (.cells #[u8v (rbB s k)] 5)) (v := .slice (some ⟨W.heap.size, 0, none⟩) 1 1) (by cases ho; simp [execOp, go_sem, p12, u8v]) ?_
                cases ho
                exact ⟨W.heap.size, v8, by simp [Act.put, q14], hI.built q14⟩
              · have p0 : done 0 = true := by cases ho; exact hdep ⟨0, .data⟩ (by simp) rfl
                have p13 : done 13 = true := by cases ho; exact hdep ⟨13, .data⟩ (by simp) rfl
                have p13 : done 13 = true := by cases ho; exact hdep ⟨13, .data⟩ (by simp) rfl
                obtain ⟨v', w', hr, hI'⟩ := hI.appended HBD.out HG.out hd p13
                refine wpOp_append ho (by cases ho; rfl) (.tmp 28) (.tmp 41) 38 (by cases ho; rfl) (v := .slice oa k oc) (vx := .slice (some ⟨P, 0, none⟩) 1 1) (by simp [go_sem, p0, p13]) (by simp [go_sem, p0, p13]) (v' := v') (w' := w') (by cases ho; exact hr) ?_
                cases ho
                have q15 : done 15 = false := by
                  cases h : done 15 with
                  | false => rfl
                  | true =>
                    have h1 := hcl 15 _ rfl h ⟨14, .data⟩ (by simp) rfl
                    rw [hd] at h1; cases h1
                exact ⟨P, v', by simp [Act.put, q15], hI'⟩
              · have p14 : done 14 = true := by cases ho; exact hdep ⟨14, .data⟩ (by simp) rfl
                refine wpOp_val ho (by cases ho; rfl) (w' := W) (v := v8) (by cases ho; simp [execOp, go_sem, p14]) ?_
                cases ho
                exact ⟨P, v8, by simp [Act.put], hI.quiet 15 (by decide)⟩
            · rintro done ac W hall ⟨P, v8, rfl, hI⟩
              have hl := hall
              clear hall
              have e0 := hl 0 (by decide)
              have e1 := hl 1 (by decide)
              have e2 := hl 2 (by decide)
              have e3 := hl 3 (by decide)
              have e4 := hl 4 (by decide)
              have e5 := hl 5 (by decide)
              have e6 := hl 6 (by decide)
              have e7 := hl 7 (by decide)
              have e8 := hl 8 (by decide)
              have e9 := hl 9 (by decide)
              have e10 := hl 10 (by decide)
              have e11 := hl 11 (by decide)
              have e12 := hl 12 (by decide)
              have e13 := hl 13 (by decide)
              have e14 := hl 14 (by decide)
              have e15 := hl 15 (by decide)
              have HIB := Lib.hid hI.bel
              have HIO := Lib.hid (hI.o8 e14)
              obtain ⟨ya, yc, rfl⟩ := own_slice HIO.out
              simp only [e0, e1, e2, e3, e4, e5, e6, e7, e8, e9, e10, e11, e12, e13, e14, e15, if_true]
              clear e0 e1 e2 e3 e4 e5 e6 e7 e8 e9 e10 e11 e12 e13 e14 e15 hl hI
              go_wp2_with fail
              go_roundg (s.length - 2 * (k + 1))
              case measure => omega
              case rel => exact ⟨k + 1, ya, yc, rfl, by omega, by show Value.int .i64 _ = Value.int .i64 _; congr 1, rfl, HIB.out, by
                have h := HIO.out
                rw [HG.out] at h
                rw [List.range_succ, List.map_append]
                exact h, fun j hj => by
                rcases Nat.lt_succ_iff_lt_or_eq.1 hj with h | rfl
                · exact HJA.out j h
                · exact HOKK.out⟩
      · have hnl : ¬ (2 * (k : Int)) + 1 < (s.length : Nat) := by omega
        have hk2 : k = s.length / 2 := by omega
        have HKK := Lib.hid hk2
        have hwr : IntKind.i64.wrap (2 * (k : Int) + 1) = 2 * (k : Int) + 1 := by rw [IntKind.wrap_i64]; omega
        have HX : Hid (b = (decide (0 < k) && decide (s.length % 2 = 0)) ∧ ∀ l, rawP s = some l → l = (List.range k).map (rbB s)) := by
          have e := rawP_eq H0.out (fun j hj => HJ.out.2.2 j (by omega))
          rw [← hk2] at e
          by_cases hs0 : s = []
          · rw [if_pos (by simp [hs0])] at e
            refine ⟨?_, fun l hl => by rw [e] at hl; cases hl⟩
            have : k = 0 := by rw [hk2, hs0]; rfl
            rw [HB.out, e, this]; rfl
          · by_cases hod : s.length % 2 = 0
            · rw [if_neg (by simp [hs0, hod])] at e
              refine ⟨?_, fun l hl => by rw [e] at hl; injection hl with hl; exact hl.symm⟩
              have : 0 < s.length := List.length_pos_iff.2 hs0
              rw [HB.out, e, decide_eq_true hod, decide_eq_true (show 0 < k by omega)]; rfl
            · rw [if_pos (by simp [hod])] at e
              refine ⟨?_, fun l hl => by rw [e] at hl; cases hl⟩
              rw [HB.out, e, decide_eq_false hod, Bool.and_false]; rfl
        have HO : Hid (BytesAt wr (.slice oa k oc) ((List.range k).map (rbB s))) := own_isSl HJ.out.2.1
        have HFR : Hid (Fresh w.heap.size wr (.slice oa k oc) 5) := own_fresh HJ.out.2.1
        have HPAR : Hid (decide (s.length % 2 = 0) = (((s.length : Nat) : Int) % 2 == 0)) := by
          show _ = _
          by_cases h : s.length % 2 = 0
          · rw [decide_eq_true h]; symm; rw [beq_iff_eq]; omega
          · rw [decide_eq_false h]; symm; rw [beq_eq_false_iff_ne]; omega
        clear HJ hk2
        by_cases hk0 : 0 < k
        · have hk0' : (0 : Int) < (k : Nat) := by omega
          go_wp2_with fail
          go_ret2
          exact ⟨⟨oa, k, oc, by rw [HX.out.1, decide_eq_true hk0, Bool.true_and, HPAR.out]; rfl, HFR.out, _, HO.out, HX.out.2⟩, HJB.out⟩
        · go_wp2_with fail
          go_ret2
          exact ⟨⟨oa, k, oc, by rw [HX.out.1, decide_eq_false hk0]; rfl, HFR.out, _, HO.out, HX.out.2⟩, HJB.out⟩
end Go.Proofs.YtelaijogjgcloaaDoor
