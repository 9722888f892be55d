/- The document's parts. No condition. -/
import Derived.Test.YtelaijogjgcloaaDoorRkd
import Derived.Test.YtelaijogjgcloaaDoorSpl
set_option linter.unusedVariables false
set_option linter.unusedSimpArgs false
namespace Go.Proofs.YtelaijogjgcloaaDoor
open Go.RowKit Go.Ice Go.Scr

theorem split_snoc_sep (c : UInt8) : ∀ t : Txt, splitC c (t ++ [c]) = splitC c t ++ [[]]
  | [] => by simp [splitC]
  | x :: l => by
    have ih := split_snoc_sep c l
    rw [List.cons_append]
    unfold splitC
    by_cases h : x = c
    · rw [if_pos h, if_pos h, ih]; rfl
    · rw [if_neg h, if_neg h, ih]
      cases hs : splitC c l with
      | nil => exact absurd hs (splitC_ne c l)
      | cons a r => rfl
theorem split_snoc (c x : UInt8) (hx : x ≠ c) : ∀ (t : Txt) (i : List Txt) (cur : Txt), splitC c t = i ++ [cur] → splitC c (t ++ [x]) = i ++ [cur ++ [x]]
  | [], i, cur, h => by
    unfold splitC at h
    cases i with
    | nil =>
      simp at h
      subst h
      rw [List.nil_append]
      unfold splitC
      rw [if_neg hx]
      rfl
    | cons a r => simp at h
  | y :: l, i, cur, h => by
    rw [List.cons_append]
    unfold splitC at h ⊢
    by_cases hy : y = c
    · rw [if_pos hy] at h ⊢
      cases i with
      | nil =>
        simp at h
        exact absurd h.2 (splitC_ne c l)
      | cons a r =>
        rw [List.cons_append] at h
        injection h with h1 h2
        rw [split_snoc c x hx l r cur h2, ← h1]
        rfl
    · rw [if_neg hy] at h ⊢
      cases hs : splitC c l with
      | nil => exact absurd hs (splitC_ne c l)
      | cons a r =>
        rw [hs] at h
        simp only [] at h
        cases i with
        | nil =>
          rw [List.nil_append] at h
          injection h with h1 h2
          subst h2
          rw [split_snoc c x hx l [] a (by rw [hs]; rfl)]
          rw [← h1]
          rfl
        | cons a' r' =>
          rw [List.cons_append] at h
          injection h with h1 h2
          rw [split_snoc c x hx l (a :: r') cur (by rw [hs, h2]; rfl)]
          rw [← h1]
          rfl
theorem split_len (c : UInt8) (s : Txt) : (splitC c s).length ≤ s.length + 1 := by
  induction s with
  | nil => simp [splitC]
  | cons x l ih =>
    unfold splitC
    split
    · simp; omega
    · split <;> rename_i h
      · simp
      · rw [h] at ih; simp at ih ⊢; omega
theorem elemStr : Elem Tryd.prog 56 9 1 16 (.string ⟨#[]⟩) :=
  ⟨Tryd.underlying56, by
    obtain ⟨i0, hi, hz0, hz1, hz2⟩ := info_parts (show (Tryd.prog.info? 9).map (fun i => (i.zero, i.size, i.bytes)) = some (some (.string ⟨#[]⟩), 1, 16) by kernel_rfl)
    exact ⟨i0, hi, hz0, hz1, hz2⟩, rfl, by decide⟩
theorem own_put {w : World} {B e n cap g : Nat} {xs : List Value} (h : w.ownsRow B e 1 (.slice (some ⟨g, 0, none⟩) n cap) n xs) (j : Nat) (u : Value) : (w.setCell ⟨g, j, none⟩ u).ownsRow B e 1 (.slice (some ⟨g, 0, none⟩) n cap) n (xs.set j u) := by
  obtain ⟨h1, ⟨h2, _⟩ | ⟨g', cap', cur, hv, hb, hg, c1, c2, c3, c4⟩⟩ := h
  · cases h2
  · injection hv with e1 e2 e3
    injection e1 with e1
    injection e1 with e1
    subst e1 e3
    refine ⟨by rw [List.length_set]; exact h1, .inr ⟨g, cap, cur.setIfInBounds j u, rfl, hb, set_at hg u, c1, c2, by simpa using c3, ?_⟩⟩
    rw [Array.toList_setIfInBounds, List.take_set, c4]
theorem extract_mid (t : Txt) (a b : Nat) : (⟨t.toArray⟩ : ByteArray).extract a b = ⟨((t.drop a).take (b - a)).toArray⟩ := by
  apply ByteArray.ext
  apply Array.toList_inj.1
  simp [ByteArray.data_extract, List.extract_eq_take_drop]
theorem own_some {w : World} {B e n : Nat} {v : Value} {xs : List Value} (h : w.ownsRow B e 1 v n xs) (hn : 0 < n) : ∃ g cap, v = .slice (some ⟨g, 0, none⟩) n cap := by
  rcases h.2 with ⟨_, h0⟩ | ⟨g, cap, _, hv, _⟩
  · omega
  · exact ⟨g, cap, hv⟩
theorem own_cell {w : World} {B e n g cap : Nat} {xs : List Value} (h : w.ownsRow B e 1 (.slice (some ⟨g, 0, none⟩) n cap) n xs) {j : Nat} {u : Value} (hj : xs[j]? = some u) : w.cell? ⟨g, j, none⟩ = some u ∧ w.frozen? ⟨g, j, none⟩ = false := by
  obtain ⟨h1, ⟨h2, _⟩ | ⟨g', cap', cur, hv, hb, hg, c1, c2, c3, c4⟩⟩ := h
  · cases h2
  · injection hv with e1 e2 e3
    injection e1 with e1
    injection e1 with e1
    subst e1 e3
    have hl := (List.getElem?_eq_some_iff.1 hj).1
    refine ⟨?_, blk_frozen hg j⟩
    rw [blk_cell hg]
    rw [← c4, List.getElem?_take_of_lt (by omega)] at hj
    simpa using hj
theorem own_fst (w : World) (t : Txt) : (w.alloc (.cells #[strV t] 9)).ownsRow w.heap.size 9 1 (.slice (some ⟨w.heap.size, 0, none⟩) 1 1) 1 [strV t] :=
  ⟨rfl, .inr ⟨w.heap.size, 1, #[strV t], rfl, Nat.le_refl _, heap_alloc_new w _, by decide, by decide, rfl, rfl⟩⟩
theorem take_map_set (i : List Txt) (cur cur' : Txt) : ((i ++ [cur]).map strV).set i.length (strV cur') = (i ++ [cur']).map strV := by
  rw [List.map_append, List.map_append, List.set_append_right _ _ (by simp)]
  simp

set_option maxHeartbeats 16000000 in
set_option maxRecDepth 20000 in
theorem parts56 (w : World) (s : Txt) (hs : s.length ≤ 1000000) :
    Calls Tryd.prog 56 #[.string ⟨s.toArray⟩] w fun e w' => (∃ (a : Option Addr) (c : Nat), e = .returned (.slice a (splitC 32 s).length c) ∧ w'.ownsRow w.heap.size 9 1 (.slice a (splitC 32 s).length c) (splitC 32 s).length ((splitC 32 s).map strV)) ∧ Below w.heap.size w w' := by
  obtain ⟨LL, hLL⟩ : ∃ l, l = splitC 32 s := ⟨_, rfl⟩
  rw [← hLL]
  have HL := Lib.hid hLL
  clear hLL
  have HB0 : Hid (Below w.heap.size w (w.alloc (.cells #[strV []] 9))) := (Below.refl _ w).alloc (Nat.le_refl _) _
  have HO0 := Lib.hid (own_fst w [])
  go_enter Tryd.func56, Tryd.ntmps56
  go_wp2_with fail
  go_loopg [3, 4, 8] s.length (fun g ov iv kv wr => ∃ (k m G oc : Nat) (i : List Txt) (cur : Txt), g = s.length - k ∧ k ≤ s.length ∧ kv = .int .i64 k ∧ ov = .slice (some ⟨G, 0, none⟩) (m + 1) oc ∧ Hid (Below w.heap.size w wr ∧ splitC 32 (s.take k) = i ++ [cur] ∧ i.length = m ∧ m ≤ k ∧ wr.ownsRow w.heap.size 9 1 (.slice (some ⟨G, 0, none⟩) (m + 1) oc) (m + 1) ((i ++ [cur]).map strV)))
  case atStart => exact ⟨0, 0, w.heap.size, 1, [], [], rfl, by omega, rfl, rfl, HB0.out, by simp [splitC], rfl, Nat.le_refl _, HO0.out⟩
  case round =>
    obtain ⟨k, m, G, oc, i, cur, rfl, hk, rfl, rfl, HJ⟩ := hrel
    have HMK : Hid (m ≤ k) := HJ.out.2.2.2.1
    have hmk := HMK.out
    by_cases hlt : k < s.length
    · obtain ⟨c, hc⟩ : ∃ c, s[k]? = some c := ⟨s[k], List.getElem?_eq_getElem hlt⟩
      have HC := Lib.hid hc
      have hcc : (⟨s.toArray⟩ : ByteArray)[k]'(by rw [txt_size]; exact hlt) = c := byte_at hc
      have hclt := c.toNat_lt
      have hlt' : (k : Int) < (s.length : Nat) := by omega
      have HJB : Hid (Below w.heap.size w wr) := HJ.out.1
      have HTK : Hid (s.take (k + 1) = s.take k ++ [c]) := by show _ = _; rw [List.take_add_one, hc]; rfl
      clear hc
      by_cases h32 : (c.toNat : Int) = 32
      · have HC32 : Hid (c = 32) := UInt8.toNat_inj.1 (by show c.toNat = 32; omega)
        have hb8 : Below wr.heap.size wr (wr.alloc (.cells #[strV []] 9)) := (Below.refl _ wr).alloc (Nat.le_refl _) _
        have hnew := heap_alloc_new wr (.cells #[strV []] 9)
        obtain ⟨v', w9, hrun, hown, hg, _⟩ := app_at (P := Tryd.prog) (ty := 56) elemStr (own_below HJ.out.2.2.2.2 hb8) (x := .slice (some ⟨wr.heap.size, 0, none⟩) 1 1) (m := 1) (news := [strV []]) ⟨rfl, .inr ⟨by decide, wr.heap.size, 0, 1, rfl, Nat.le_refl _, by decide, blk_lt hnew, fun j hj => by
          rw [Nat.zero_add, blk_cell hnew]
          obtain rfl : j = 0 := by simp at hj; omega
          rfl⟩⟩ (fun u hu => by simp at hu; subst hu; rfl) (by omega) (by unfold maxLen; omega) (by have := HJB.out.size; have := hb8.size; omega)
        have HB9 := Lib.hid ((HJB.out.trans (hb8.mono HJB.out.size)).grown hg (by have := HJB.out.size; have := hb8.size; omega) (fun i hi => ((own_below HJ.out.2.2.2.2 hb8).lt i hi).1))
        obtain ⟨G', oc', rfl⟩ := own_some hown (by omega)
        have HO9 := Lib.hid hown
        have HRUN := Lib.hid hrun
        clear hrun hown hg hnew hb8
        go_wp2_with (refine wpList_append_eq rfl _ _ 56 rfl (by first | rfl | simp [go_sem]) (by first | rfl | simp [go_sem]) HRUN.out ?_)
        go_roundg (s.length - (k + 1))
        case measure => omega
        case rel => exact ⟨k + 1, m + 1, G', oc', i ++ [cur], [], rfl, by omega, by go_num, rfl, Lib.hid ⟨HB9.out, by rw [HTK.out, HC32.out, split_snoc_sep, HJ.out.2.1], by rw [List.length_append]; simp; exact HJ.out.2.2.1, by omega, by
          have h := HO9.out
          rw [List.map_append]
          exact h⟩⟩
      · have HC32 : Hid (c ≠ 32) := fun e => h32 (by rw [e]; rfl)
        have h32b : ((c.toNat : Int) == 32) = false := by simp [h32]
        have HEX : Hid ((⟨s.toArray⟩ : ByteArray).extract k (k + 1) = ⟨[c].toArray⟩) := by
          show _ = _
          rw [extract_mid, show k + 1 - k = 1 by omega]
          have : s.drop k = c :: s.drop (k + 1) := by
            rw [List.drop_eq_getElem_cons hlt]
            rw [(List.getElem?_eq_some_iff.1 HC.out).2]
          rw [this]; rfl
        have HCELL := Lib.hid (own_cell HJ.out.2.2.2.2 (j := m) (u := strV cur) (by rw [List.map_append, List.getElem?_append_right (by rw [List.length_map]; have := HJ.out.2.2.1; omega), List.length_map, HJ.out.2.2.1, Nat.sub_self]; rfl))
        have HCAT : Hid ((⟨cur.toArray⟩ : ByteArray) ++ ⟨[c].toArray⟩ = ⟨(cur ++ [c]).toArray⟩) := txt_cat cur [c]
        have HW3 : Hid (IntKind.i64.wrap ((m : Int) + 1 - 1) = (m : Int)) := by show _ = _; rw [IntKind.wrap_i64]; omega
        have HW3b : Hid (IntKind.i64.wrap (m : Int) = (m : Int)) := by show _ = _; rw [IntKind.wrap_i64]; omega
        have HW9 : Hid (IntKind.i64.wrap ((k : Int) + 1) = (k : Int) + 1) := by show _ = _; rw [IntKind.wrap_i64]; omega
        have HGW : Hid (w.heap.size ≤ G) := by
          show _ ≤ _
          have := HJ.out.2.2.2.2.lt G rfl
          exact this.1
        have HCUR : Hid (cur.length ≤ 1000000) := by
          have h := split_short 32 (s.take k) cur (by rw [HJ.out.2.1]; simp)
          rw [List.length_take] at h
          show _ ≤ _; omega
        have HM4 : Hid (¬ ((m : Int) + 1 ≤ (m : Int))) := by show ¬ _; omega
        have HK1 : Hid ((0 : Int) ≤ (k : Int) + 1) := by show _ ≤ _; omega
        have HK2 : Hid ((k : Int) + 1 ≤ (s.length : Nat)) := by show _ ≤ _; omega
        have HK3 : Hid ((k : Int) ≤ (k : Int) + 1) := by show _ ≤ _; omega
        have HC2 : Hid (cur.length ≤ 9223372036854775806) := by show _ ≤ _; have := HCUR.out; omega
        go_upto_region 7 with fail
        refine wp_region_inv2 (by kernel_rfl) (hord_of2 (by kernel_rfl)) (fun done ac W => ∃ (_u : Unit), ac = { tmps := #[.string { data := List.toArray s }, undef, .slice none 0 0, .slice (some ⟨G, 0, none⟩) (m + 1) oc, .int .i64 (k : Nat), .slice (some ⟨w.heap.size, 0, none⟩) 1 1, .string { data := List.toArray s }, .int .i64 ↑(List.length s), .int .i64 (k : Nat), .bool true, .int .i64 (k : Nat), .string { data := List.toArray s }, .int .i64 (k : Nat), .int .u8 (c.toNat : Nat), .bool false, u15, u16, u17, if done 0 then (.slice (some ⟨G, 0, none⟩) (m + 1) oc) else u18, if done 1 then (.slice (some ⟨G, 0, none⟩) (m + 1) oc) else u19, if done 2 then (.int .i64 ((m : Nat) + 1)) else u20, if done 3 then (.int .i64 (m : Nat)) else u21, if done 4 then (.pointer (some ⟨G, m, none⟩)) else u22, if done 5 then (.string ⟨cur.toArray⟩) else u23, if done 6 then (.string ⟨s.toArray⟩) else u24, if done 7 then (.int .i64 (k : Nat)) else u25, if done 8 then (.int .i64 (k : Nat)) else u26, if done 9 then (.int .i64 ((k : Nat) + 1)) else u27, if done 10 then (.string ⟨[c].toArray⟩) else u28, if done 11 then (.string ⟨(cur ++ [c]).toArray⟩) else u29, if done 12 then (.pointer (some ⟨G, m, none⟩)) else u30, u31, undef], defers := [] } ∧ W = if done 13 then wr.drew.setCell ⟨G, m, none⟩ (strV (cur ++ [c])) else wr.drew) ?_ ?_ ?_
        · exact ⟨(), by simp, rfl⟩
        · intro done ac W j oq ho hd hdep hcl ⟨_u, hlit, hI⟩
          have hj : j < 14 := (Array.getElem?_eq_some_iff.1 ho).1
          subst hlit
          obtain rfl | rfl | rfl | rfl | rfl | rfl | rfl | rfl | rfl | rfl | rfl | rfl | rfl | rfl : j = 0 ∨ j = 1 ∨ j = 2 ∨ j = 3 ∨ j = 4 ∨ j = 5 ∨ j = 6 ∨ j = 7 ∨ j = 8 ∨ j = 9 ∨ j = 10 ∨ j = 11 ∨ j = 12 ∨ j = 13 := by omega
          · refine wpOp_val ho (by cases ho; rfl) (w' := W) (v := (.slice (some ⟨G, 0, none⟩) (m + 1) oc)) (by cases ho; simp [execOp, go_sem]) ?_
            cases ho
            exact ⟨_u, by simp [Act.put], by simpa using hI⟩
          · refine wpOp_val ho (by cases ho; rfl) (w' := W) (v := (.slice (some ⟨G, 0, none⟩) (m + 1) oc)) (by cases ho; simp [execOp, go_sem]) ?_
            cases ho
            exact ⟨_u, by simp [Act.put], by simpa using hI⟩
          · have p1 : done 1 = true := by cases ho; exact hdep ⟨1, .data⟩ (by simp) rfl
            refine wpOp_val ho (by cases ho; rfl) (w' := W) (v := (.int .i64 ((m : Nat) + 1))) (by cases ho; simp [execOp, go_sem, p1]) ?_
            cases ho
            exact ⟨_u, by simp [Act.put], by simpa using hI⟩
          · have p2 : done 2 = true := by cases ho; exact hdep ⟨2, .data⟩ (by simp) rfl
            refine wpOp_val ho (by cases ho; rfl) (w' := W) (v := (.int .i64 (m : Nat))) (by cases ho; simp [execOp, go_sem, p2, HW3.out, HW3b.out]) ?_
            cases ho
            exact ⟨_u, by simp [Act.put], by simpa using hI⟩
          · have p0 : done 0 = true := by cases ho; exact hdep ⟨0, .data⟩ (by simp) rfl
            have p3 : done 3 = true := by cases ho; exact hdep ⟨3, .data⟩ (by simp) rfl
            refine wpOp_val ho (by cases ho; rfl) (w' := W) (v := (.pointer (some ⟨G, m, none⟩))) (by cases ho; simp [execOp, go_sem, p0, p3, HM4.out]) ?_
            cases ho
            exact ⟨_u, by simp [Act.put], by simpa using hI⟩
          · have p4 : done 4 = true := by cases ho; exact hdep ⟨4, .data⟩ (by simp) rfl
            have q13 : done 13 = false := by
              cases h : done 13 with
              | false => rfl
              | true =>
                have h0 := hcl 13 _ rfl h ⟨5, .phase⟩ (by simp) rfl
                rw [hd] at h0; cases h0
            have hx0 : W.cell? ⟨G, m, none⟩ = some (.string ⟨cur.toArray⟩) := by rw [hI, q13]; exact HCELL.out.1
            refine wpOp_val ho (by cases ho; rfl) (w' := W) (v := (.string ⟨cur.toArray⟩)) (by cases ho; simp [execOp, go_sem, p4, hx0]) ?_
            cases ho
            exact ⟨_u, by simp [Act.put], by simpa using hI⟩
          · refine wpOp_val ho (by cases ho; rfl) (w' := W) (v := (.string ⟨s.toArray⟩)) (by cases ho; simp [execOp, go_sem]) ?_
            cases ho
            exact ⟨_u, by simp [Act.put], by simpa using hI⟩
          · refine wpOp_val ho (by cases ho; rfl) (w' := W) (v := (.int .i64 (k : Nat))) (by cases ho; simp [execOp, go_sem]) ?_
            cases ho
            exact ⟨_u, by simp [Act.put], by simpa using hI⟩
          · refine wpOp_val ho (by cases ho; rfl) (w' := W) (v := (.int .i64 (k : Nat))) (by cases ho; simp [execOp, go_sem]) ?_
            cases ho
            exact ⟨_u, by simp [Act.put], by simpa using hI⟩
          · have p8 : done 8 = true := by cases ho; exact hdep ⟨8, .data⟩ (by simp) rfl
            refine wpOp_val ho (by cases ho; rfl) (w' := W) (v := (.int .i64 ((k : Nat) + 1))) (by cases ho; simp [execOp, go_sem, p8, HW9.out]) ?_
            cases ho
            exact ⟨_u, by simp [Act.put], by simpa using hI⟩
          · have p6 : done 6 = true := by cases ho; exact hdep ⟨6, .data⟩ (by simp) rfl
            have p7 : done 7 = true := by cases ho; exact hdep ⟨7, .data⟩ (by simp) rfl
            have p9 : done 9 = true := by cases ho; exact hdep ⟨9, .data⟩ (by simp) rfl
            refine wpOp_val ho (by cases ho; rfl) (w' := W) (v := (.string ⟨[c].toArray⟩)) (by cases ho; simp [execOp, go_sem, p6, p7, p9, HEX.out, HK1.out, HK2.out, HK3.out]) ?_
            cases ho
            exact ⟨_u, by simp [Act.put], by simpa using hI⟩
          · have p5 : done 5 = true := by cases ho; exact hdep ⟨5, .data⟩ (by simp) rfl
            have p10 : done 10 = true := by cases ho; exact hdep ⟨10, .data⟩ (by simp) rfl
            refine wpOp_val ho (by cases ho; rfl) (w' := W) (v := (.string ⟨(cur ++ [c]).toArray⟩)) (by cases ho; simp [execOp, go_sem, p5, p10, HCAT.out, txt_size, HC2.out]) ?_
            cases ho
            exact ⟨_u, by simp [Act.put], by simpa using hI⟩
          · have p0 : done 0 = true := by cases ho; exact hdep ⟨0, .data⟩ (by simp) rfl
            have p3 : done 3 = true := by cases ho; exact hdep ⟨3, .data⟩ (by simp) rfl
            refine wpOp_val ho (by cases ho; rfl) (w' := W) (v := (.pointer (some ⟨G, m, none⟩))) (by cases ho; simp [execOp, go_sem, p0, p3, HM4.out]) ?_
            cases ho
            exact ⟨_u, by simp [Act.put], by simpa using hI⟩
          · have p11 : done 11 = true := by cases ho; exact hdep ⟨11, .data⟩ (by simp) rfl
            have p12 : done 12 = true := by cases ho; exact hdep ⟨12, .data⟩ (by simp) rfl
            have hx0 : W.cell? ⟨G, m, none⟩ = some (.string ⟨cur.toArray⟩) := by rw [hI, hd]; exact HCELL.out.1
            have h2 : W.frozen? ⟨G, m, none⟩ = false := by rw [hI, hd]; exact HCELL.out.2
            refine wpOp_skip ho (by cases ho; rfl) (w' := W.setCell ⟨G, m, none⟩ (strV (cur ++ [c]))) (by cases ho; simp [execOp, go_sem, p11, p12, hx0, h2, strV]) ?_
            cases ho
            exact ⟨_u, by simp [Act.put], by rw [hI, hd]; simp⟩
        · rintro done ac W hall ⟨_u, rfl, hI⟩
          have hl := hall
          clear hall
          have e0 := hl 0 (by decide)
          have e1 := hl 1 (by decide)
          have e2 := hl 2 (by decide)
          have e3 := hl 3 (by decide)
          have e4 := hl 4 (by decide)
          have e5 := hl 5 (by decide)
          have e6 := hl 6 (by decide)
          have e7 := hl 7 (by decide)
          have e8 := hl 8 (by decide)
          have e9 := hl 9 (by decide)
          have e10 := hl 10 (by decide)
          have e11 := hl 11 (by decide)
          have e12 := hl 12 (by decide)
          have e13 := hl 13 (by decide)
          have hW : W = wr.drew.setCell ⟨G, m, none⟩ (strV (cur ++ [c])) := by rw [hI, e13]; rfl
          have HWW := Lib.hid hW
          simp only [e0, e1, e2, e3, e4, e5, e6, e7, e8, e9, e10, e11, e12, if_true]
          clear e0 e1 e2 e3 e4 e5 e6 e7 e8 e9 e10 e11 e12 e13 hl hI hW
          go_wp2_with fail
          go_roundg (s.length - (k + 1))
          case measure => omega
          case rel => exact ⟨k + 1, m, G, oc, i, cur ++ [c], rfl, by omega, by go_num, rfl, Lib.hid ⟨by rw [HWW.out]; exact HJB.out.drew.setCell HGW.out _, by rw [HTK.out]; exact split_snoc 32 c HC32.out _ i cur HJ.out.2.1, HJ.out.2.2.1, by omega, by
            have h := own_put (own_below HJ.out.2.2.2.2 (drewN_below wr 1)) m (strV (cur ++ [c]))
            rw [HWW.out, ← take_map_set i cur (cur ++ [c]), HJ.out.2.2.1]
            exact h⟩⟩
    · obtain rfl : k = s.length := by omega
      have HJB : Hid (Below w.heap.size w wr) := HJ.out.1
      have HX : Hid (LL = i ++ [cur]) := by
        have h := HJ.out.2.1
        rw [List.take_length] at h
        show _ = _
        rw [HL.out, h]
      have HML : Hid (LL.length = m + 1) := by show _ = _; rw [HX.out, List.length_append, HJ.out.2.2.1]; rfl
      have HO : Hid (wr.ownsRow w.heap.size 9 1 (.slice (some ⟨G, 0, none⟩) (m + 1) oc) (m + 1) (LL.map strV)) := by have h := HJ.out.2.2.2.2; rw [← HX.out] at h; exact h
      go_wp2_with fail
      go_ret
      exact ⟨⟨some ⟨G, 0, none⟩, oc, by rw [HML.out]; rfl, by rw [HML.out]; exact HO.out⟩, HJB.out⟩
end Go.Proofs.YtelaijogjgcloaaDoor
