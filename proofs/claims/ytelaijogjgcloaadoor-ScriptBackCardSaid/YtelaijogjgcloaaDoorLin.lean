/- The law ScriptLines, its walk. Condition: the variables are as laid. -/
import Derived.Test.YtelaijogjgcloaaDoorWks
set_option linter.unusedVariables false
set_option linter.unusedSimpArgs false
namespace Go.Proofs.YtelaijogjgcloaaDoor
open Go.RowKit Go.Ice Go.Scr

theorem extract_to (t : Txt) (n : Nat) : (⟨t.toArray⟩ : ByteArray).extract 0 n = ⟨(t.take n).toArray⟩ := by
  have h := Lib.extract_from_zero ⟨t.toArray⟩ n
  apply ByteArray.ext
  apply Array.toList_inj.1
  rw [h]
theorem last_at {t : Txt} {i : Nat} (h : (t.take (i + 1)).getLast? = some 10) (hi : i + 1 ≤ t.length) : t[i]? = some 10 := by
  rw [List.getLast?_eq_getElem?, List.length_take, Nat.min_eq_left hi, Nat.add_sub_cancel, List.getElem?_take_of_lt (by omega)] at h
  exact h

set_option maxHeartbeats 8000000 in
set_option maxRecDepth 100000 in
theorem lines5 (w : World) (t m : Txt) (hl : Laid w) (ht : t.length ≤ maxLen) (hm : m.length ≤ maxLen) :
    Calls Tryd.prog 5 #[.string ⟨t.toArray⟩, .string ⟨m.toArray⟩] w fun e w' => e = .returned (.bool true) ∧ Below w.heap.size w w' := by
  have HL := Lib.hid hl
  have HW := wakes8 w hl
  clear hl
  unfold maxLen at ht hm
  go_enter Tryd.func5, Tryd.ntmps5
  go_wp2_with fail
  refine HW.mono ?_
  rintro e w1 ⟨rfl, hb1⟩
  have HB1 := Lib.hid hb1
  clear hb1 HW
  obtain ⟨n1, hn1⟩ : ∃ n1, n1 = min t.length 20000 := ⟨_, rfl⟩
  obtain ⟨n2, hn2⟩ : ∃ n2, n2 = min m.length 1000 := ⟨_, rfl⟩
  obtain ⟨t1, ht1⟩ : ∃ t1, t1 = t.take n1 := ⟨_, rfl⟩
  obtain ⟨m1, hm1⟩ : ∃ m1, m1 = m.take n2 := ⟨_, rfl⟩
  have HM1 : Hid (min ((t.length : Nat) : Int) 20000 = (n1 : Nat)) := (by rw [hn1]; omega : min ((t.length : Nat) : Int) 20000 = (n1 : Nat))
  have HM2 : Hid (min ((m.length : Nat) : Int) 1000 = (n2 : Nat)) := (by rw [hn2]; omega : min ((m.length : Nat) : Int) 1000 = (n2 : Nat))
  have H1 : Hid (n1 ≤ t.length ∧ (⟨t.toArray⟩ : ByteArray).extract 0 n1 = ⟨t1.toArray⟩) := ⟨by omega, by rw [ht1]; exact extract_to t n1⟩
  have H2 : Hid (n2 ≤ m.length ∧ (⟨m.toArray⟩ : ByteArray).extract 0 n2 = ⟨m1.toArray⟩) := ⟨by omega, by rw [hm1]; exact extract_to m n2⟩
  have ht20 : t1.length ≤ 20000 := by rw [ht1, List.length_take]; omega
  have hm20 : m1.length ≤ 1000 := by rw [hm1, List.length_take]; omega
  clear hn1 hn2 ht1 hm1
  go_upto_region 3 with fail
  -- REGION
  refine wp_region_inv2 (by kernel_rfl) (hord_of2 (by kernel_rfl)) (fun done ac W => ∃ (u : Unit), ac = { tmps := #[if done 10 then (.string ⟨t1.toArray⟩) else .string ⟨t.toArray⟩, if done 11 then (.string ⟨m1.toArray⟩) else .string ⟨m.toArray⟩, undef, undef, .bool false, undef, undef, undef, undef, undef, undef, undef, .bool true, .bool false, if done 0 then (.string ⟨t.toArray⟩) else undef, if done 1 then (.string ⟨t.toArray⟩) else undef, if done 2 then (.int .i64 (t.length : Nat)) else undef, if done 3 then (.int .i64 (n1 : Nat)) else undef, if done 4 then (.string ⟨t1.toArray⟩) else undef, if done 5 then (.string ⟨m.toArray⟩) else undef, if done 6 then (.string ⟨m.toArray⟩) else undef, if done 7 then (.int .i64 (m.length : Nat)) else undef, if done 8 then (.int .i64 (n2 : Nat)) else undef, if done 9 then (.string ⟨m1.toArray⟩) else undef, undef, undef, undef, undef, undef, undef, undef, undef, undef, undef, undef, undef, undef, undef, undef, undef, undef, undef, undef, undef, undef, undef, undef, undef, undef, undef, undef, undef, undef, undef, undef, undef, undef, undef, undef, undef, undef, undef, undef, undef, undef, undef, undef, undef, undef, undef, undef, undef, undef, undef, undef, undef, undef, undef, undef, undef, undef], defers := [] } ∧ Below w1.heap.size w1 W) ?_ ?_ ?_
  · exact ⟨(), by simp, (Below.refl _ w1).drew⟩
  · intro done ac W j oq ho hd hdep hcl ⟨u, hlit, hI⟩
    have hj : j < 12 := (Array.getElem?_eq_some_iff.1 ho).1
    subst hlit
    obtain rfl | rfl | rfl | rfl | rfl | rfl | rfl | rfl | rfl | rfl | rfl | rfl : j = 0 ∨ j = 1 ∨ j = 2 ∨ j = 3 ∨ j = 4 ∨ j = 5 ∨ j = 6 ∨ j = 7 ∨ j = 8 ∨ j = 9 ∨ j = 10 ∨ j = 11 := by omega
    · have q10 : done 10 = false := by
        cases h : done 10 with
        | false => rfl
        | true =>
          have h0 := hcl 10 _ rfl h ⟨0, .phase⟩ (by simp) rfl
          rw [hd] at h0; cases h0
      refine wpOp_val ho (by cases ho; rfl) (w' := W) (v := (.string ⟨t.toArray⟩)) (by cases ho; simp [execOp, go_sem, q10]) ?_
      cases ho
      exact ⟨(), by simp [Act.put], hI⟩
    · have q10 : done 10 = false := by
        cases h : done 10 with
        | false => rfl
        | true =>
          have h0 := hcl 10 _ rfl h ⟨1, .phase⟩ (by simp) rfl
          rw [hd] at h0; cases h0
      refine wpOp_val ho (by cases ho; rfl) (w' := W) (v := (.string ⟨t.toArray⟩)) (by cases ho; simp [execOp, go_sem, q10]) ?_
      cases ho
      exact ⟨(), by simp [Act.put], hI⟩
    · have p1 : done 1 = true := by cases ho; exact hdep ⟨1, .data⟩ (by simp) rfl
      refine wpOp_val ho (by cases ho; rfl) (w' := W) (v := (.int .i64 (t.length : Nat))) (by cases ho; simp [execOp, go_sem, p1]) ?_
      cases ho
      exact ⟨u, by simp [Act.put], hI⟩
    · have p2 : done 2 = true := by cases ho; exact hdep ⟨2, .data⟩ (by simp) rfl
      refine wpOp_val ho (by cases ho; rfl) (w' := W) (v := (.int .i64 (n1 : Nat))) (by cases ho; simp [execOp, go_sem, p2]; exact HM1.out) ?_
      cases ho
      exact ⟨(), by simp [Act.put], hI⟩
    · have p0 : done 0 = true := by cases ho; exact hdep ⟨0, .data⟩ (by simp) rfl
      have p3 : done 3 = true := by cases ho; exact hdep ⟨3, .data⟩ (by simp) rfl
      refine wpOp_val ho (by cases ho; rfl) (w' := W) (v := (.string ⟨t1.toArray⟩)) (by cases ho; simp [execOp, go_sem, p0, p3]; rw [if_pos H1.out.1, H1.out.2]) ?_
      cases ho
      exact ⟨(), by simp [Act.put], hI⟩
    · have q11 : done 11 = false := by
        cases h : done 11 with
        | false => rfl
        | true =>
          have h0 := hcl 11 _ rfl h ⟨5, .phase⟩ (by simp) rfl
          rw [hd] at h0; cases h0
      refine wpOp_val ho (by cases ho; rfl) (w' := W) (v := (.string ⟨m.toArray⟩)) (by cases ho; simp [execOp, go_sem, q11]) ?_
      cases ho
      exact ⟨(), by simp [Act.put], hI⟩
    · have q11 : done 11 = false := by
        cases h : done 11 with
        | false => rfl
        | true =>
          have h0 := hcl 11 _ rfl h ⟨6, .phase⟩ (by simp) rfl
          rw [hd] at h0; cases h0
      refine wpOp_val ho (by cases ho; rfl) (w' := W) (v := (.string ⟨m.toArray⟩)) (by cases ho; simp [execOp, go_sem, q11]) ?_
      cases ho
      exact ⟨(), by simp [Act.put], hI⟩
    · have p6 : done 6 = true := by cases ho; exact hdep ⟨6, .data⟩ (by simp) rfl
      refine wpOp_val ho (by cases ho; rfl) (w' := W) (v := (.int .i64 (m.length : Nat))) (by cases ho; simp [execOp, go_sem, p6]) ?_
      cases ho
      exact ⟨u, by simp [Act.put], hI⟩
    · have p7 : done 7 = true := by cases ho; exact hdep ⟨7, .data⟩ (by simp) rfl
      refine wpOp_val ho (by cases ho; rfl) (w' := W) (v := (.int .i64 (n2 : Nat))) (by cases ho; simp [execOp, go_sem, p7]; exact HM2.out) ?_
      cases ho
      exact ⟨(), by simp [Act.put], hI⟩
    · have p5 : done 5 = true := by cases ho; exact hdep ⟨5, .data⟩ (by simp) rfl
      have p8 : done 8 = true := by cases ho; exact hdep ⟨8, .data⟩ (by simp) rfl
      refine wpOp_val ho (by cases ho; rfl) (w' := W) (v := (.string ⟨m1.toArray⟩)) (by cases ho; simp [execOp, go_sem, p5, p8]; rw [if_pos H2.out.1, H2.out.2]) ?_
      cases ho
      exact ⟨(), by simp [Act.put], hI⟩
    · have p4 : done 4 = true := by cases ho; exact hdep ⟨4, .data⟩ (by simp) rfl
      refine wpOp_val ho (by cases ho; rfl) (w' := W) (v := (.string ⟨t1.toArray⟩)) (by cases ho; simp [execOp, go_sem, p4]) ?_
      cases ho
      exact ⟨u, by simp [Act.put], hI⟩
    · have p9 : done 9 = true := by cases ho; exact hdep ⟨9, .data⟩ (by simp) rfl
      refine wpOp_val ho (by cases ho; rfl) (w' := W) (v := (.string ⟨m1.toArray⟩)) (by cases ho; simp [execOp, go_sem, p9]) ?_
      cases ho
      exact ⟨u, by simp [Act.put], hI⟩
  · rintro done ac W hall ⟨u, rfl, hI⟩
    have hl := hall
    clear hall
    have e0 := hl 0 (by decide)
    have e1 := hl 1 (by decide)
    have e2 := hl 2 (by decide)
    have e3 := hl 3 (by decide)
    have e4 := hl 4 (by decide)
    have e5 := hl 5 (by decide)
    have e6 := hl 6 (by decide)
    have e7 := hl 7 (by decide)
    have e8 := hl 8 (by decide)
    have e9 := hl 9 (by decide)
    have e10 := hl 10 (by decide)
    have e11 := hl 11 (by decide)
    have HBW := Lib.hid (HB1.out.trans (hI.mono HB1.out.size))
    simp only [e0, e1, e2, e3, e4, e5, e6, e7, e8, e9, e10, e11, if_true]
    clear e0 e1 e2 e3 e4 e5 e6 e7 e8 e9 e10 e11 hl hI
  -- END
    have HL2 := Lib.hid (HL.out.below HBW.out)
    have HP := parse17 W t1 HL2.out (by omega)
    clear HM1 HM2 H1 H2 HB1 ht hm
    cases hp : parseP t1 with
    | ok s =>
      have HPO := Lib.hid hp
      clear hp
      go_wp2_with fail
      refine HP.mono ?_
      rintro e w2 ⟨sv, k, n, rfl, hb2, ho⟩
      obtain ⟨⟨v, rfl, hev⟩, rfl, rfl⟩ := ho.ok (by omega) HPO.out
      obtain ⟨va, vc, rfl⟩ := hev.form
      have HB2 := Lib.hid (HBW.out.trans (hb2.mono HBW.out.size))
      generalize s.evs.length = ne
      clear hb2 ho hev HP
      unfold scrV
      obtain ⟨⟨pg, ps, pl, pp, pc⟩, evs⟩ := s
      dsimp only
      go_wp2_with fail
      go_ret
      exact ⟨rfl, HB2.out.alloc HB2.out.size _⟩
    | error j =>
      obtain ⟨q1, q2, q3⟩ := parse_err hp
      have HPO := Lib.hid hp
      have HQ3 := Lib.hid q3
      clear hp q3
      go_wp2_with fail
      refine HP.mono ?_
      rintro e w2 ⟨sv, k, n, rfl, hb2, ho⟩
      obtain ⟨rfl, rfl, rfl⟩ := ho.bad (by omega) HPO.out
      have HB2 := Lib.hid (HBW.out.trans (hb2.mono HBW.out.size))
      clear hb2 ho HP
      unfold zeroS
      have hj0 : (0 : Int) ≤ (j : Nat) := by omega
      have hj1 : ((j : Nat) : Int) ≤ (t1.length : Nat) := by omega
      obtain ⟨s, hs⟩ : ∃ s, s = t1.drop j := ⟨_, rfl⟩
      have hsl : s.length ≤ 20000 := by rw [hs, List.length_drop]; omega
      have hex : (⟨t1.toArray⟩ : ByteArray).extract j t1.length = ⟨s.toArray⟩ := by rw [hs]; exact extract_txt t1 j
      have HEX := Lib.hid hex
      have HS := Lib.hid hs
      clear hex hs
      have HIB : Hid (∀ W', Calls Tryd.prog 18 #[.string ⟨s.toArray⟩, .int .u8 10] W' fun e w' => e = .returned (.int .i64 (Lib.indexByte s 10)) ∧ w' = W') := fun W' => Tryd.strings_IndexByte ⟨s.toArray⟩ 10 W'
      obtain ⟨X, W3, HXA, HWA, HKA, _⟩ := boxed1 w2 #[.int .i64 0, .int .i64 0, .int .i64 0, .int .i64 0, .int .i64 0, .slice none 0 0] 26
      have HB3 := Lib.hid (HB2.out.trans (HKA.out.below.mono HB2.out.size))
      by_cases hjz : j = 0
      · subst hjz
        have hj3 : decide ((t1.length : Int) < 0) = false := by simp
        clear q2 hj0 hj1
        go_wp2_with fail
        rw [HEX.out]
        refine (HIB.out _).mono ?_
        rintro e w3 ⟨rfl, rfl⟩
        rw [HWA.out]
        cases hc : cutL s with
        | none =>
          rw [ib_none (cutL_none.1 hc)]
          go_wp2_with fail
          go_ret
          exact ⟨rfl, HB3.out⟩
        | some x =>
          obtain ⟨line, tl⟩ := x
          have hcs := cutL_some.1 hc
          have hib : Lib.indexByte s 10 = (line.length : Nat) := by rw [hcs.1]; exact ib_some tl hcs.2
          rw [hib]
          have hlen : 0 + line.length + 1 ≤ t1.length := by
            have h1 := congrArg List.length hcs.1
            rw [HS.out, List.length_drop, List.length_append, List.length_cons] at h1
            omega
          have herr := HQ3.out line tl m1 (by rw [← HS.out]; exact hcs.1) hcs.2
          have hu : t1.take (0 + line.length + 1) = t1.take 0 ++ line ++ [10] := by
            have e1 : t1 = t1.take 0 ++ (line ++ 10 :: tl) := by rw [← hcs.1, HS.out]; exact (List.take_append_drop 0 t1).symm
            have e2 : (t1.take 0 ++ line ++ [10]).length = 0 + line.length + 1 := by simp only [List.length_append, List.length_cons, List.length_nil, List.length_take]; omega
            have e3 : t1 = (t1.take 0 ++ line ++ [10]) ++ tl := by simpa using e1
            have e4 := congrArg (List.take (0 + line.length + 1)) e3
            rw [e4]
            exact List.take_left' e2
          obtain ⟨e1, he1⟩ : ∃ e1, e1 = 0 + line.length + 1 := ⟨_, rfl⟩
          rw [← he1] at hu hlen
          obtain ⟨ll, hll⟩ : ∃ ll, ll = line.length := ⟨_, rfl⟩
          rw [← hll] at he1 ⊢
          obtain ⟨uu, huu⟩ : ∃ uu, uu = t1.take e1 := ⟨_, rfl⟩
          have hule : uu.length = e1 := by rw [huu, List.length_take]; omega
          have HEE : Hid ((⟨t1.toArray⟩ : ByteArray).extract 0 e1 = ⟨uu.toArray⟩) := by show _ = _; rw [huu]; exact extract_to t1 e1
          have HER : Hid (parseP (uu ++ m1) = .error 0) := by show _ = _; rw [huu, hu]; simpa using herr
          have HCT : Hid ((⟨uu.toArray⟩ : ByteArray) ++ ⟨m1.toArray⟩ = ⟨(uu ++ m1).toArray⟩) := cat_txt uu m1
          obtain ⟨e0, he0⟩ : ∃ e0 : Nat, e0 = ll := ⟨_, rfl⟩
          have hi1 : (ll : Int) + 1 = (e1 : Int) := by omega
          have hle1 : (e1 : Int) ≤ (t1.length : Nat) := by omega
          have h01 : (0 : Int) ≤ (e1 : Int) := by omega
          have hll0 : ¬ (ll : Int) < 0 := by omega
          have hw0 : IntKind.i64.wrap (e0 : Int) = (e0 : Int) := IntWalk.i64_in _ ⟨by omega, by omega⟩
          have hw1 : IntKind.i64.wrap (e1 : Int) = (e1 : Int) := IntWalk.i64_in _ ⟨by omega, by omega⟩
          have HP2 := parse17 W3 (uu ++ m1) (HL.out.below HB3.out) (by rw [List.length_append]; omega)
          have HPL : Hid (¬ 262144 < (uu ++ m1).length) := by show ¬ _; rw [List.length_append]; omega
          clear hc hcs hib herr hu he1 hll huu he0 hule
          go_wp2_with fail
          rw [HEE.out, HCT.out]
          refine HP2.mono ?_
          rintro e w4 ⟨sv, k, n, rfl, hb4, ho4⟩
          obtain ⟨rfl, rfl, rfl⟩ := ho4.bad HPL.out HER.out
          have HB4 := Lib.hid (HB3.out.trans (hb4.mono HB3.out.size))
          clear hb4 ho4 HP2
          unfold zeroS
          go_wp2_with fail
          go_ret
          exact ⟨rfl, HB4.out.alloc HB4.out.size _⟩
      · have hj2 : (0 : Int) < (j : Nat) := by omega
        have hj4 : decide ((0 : Int) < (j : Nat)) = true := by simp; omega
        have hj3 : decide ((t1.length : Int) < (j : Nat)) = false := by simp; omega
        obtain ⟨i, hi⟩ : ∃ i, j = i + 1 := ⟨j - 1, by omega⟩
        have h10 : t1[i]? = some 10 := by
          rcases q2 with h | h
          · omega
          · rw [hi] at h; exact last_at h (by omega)
        have hji : (j : Int) - 1 = (i : Nat) := by omega
        have hil : i < t1.length := by omega
        have hil2 : (i : Int) < (t1.length : Nat) := by omega
        have his : i < (⟨t1.toArray⟩ : ByteArray).size := by show i < t1.toArray.size; simpa using hil
        have hic : (⟨t1.toArray⟩ : ByteArray)[i] = 10 := by
          have e : (⟨t1.toArray⟩ : ByteArray)[i] = t1[i] := rfl
          rw [e]
          have := (List.getElem?_eq_some_iff.1 h10).2
          exact this
        clear h10 hi q2
        go_wp2_with fail
        rw [HEX.out]
        refine (HIB.out _).mono ?_
        rintro e w3 ⟨rfl, rfl⟩
        rw [HWA.out]
        cases hc : cutL s with
        | none =>
          rw [ib_none (cutL_none.1 hc)]
          go_wp2_with fail
          go_ret
          exact ⟨rfl, HB3.out⟩
        | some x =>
          obtain ⟨line, tl⟩ := x
          have hcs := cutL_some.1 hc
          have hib : Lib.indexByte s 10 = (line.length : Nat) := by rw [hcs.1]; exact ib_some tl hcs.2
          rw [hib]
          have hlen : j + line.length + 1 ≤ t1.length := by
            have h1 := congrArg List.length hcs.1
            rw [HS.out, List.length_drop, List.length_append, List.length_cons] at h1
            omega
          have herr := HQ3.out line tl m1 (by rw [← HS.out]; exact hcs.1) hcs.2
          have hu : t1.take (j + line.length + 1) = t1.take j ++ line ++ [10] := by
            have e1 : t1 = t1.take j ++ (line ++ 10 :: tl) := by rw [← hcs.1, HS.out]; exact (List.take_append_drop j t1).symm
            have e2 : (t1.take j ++ line ++ [10]).length = j + line.length + 1 := by simp only [List.length_append, List.length_cons, List.length_nil, List.length_take]; omega
            have e3 : t1 = (t1.take j ++ line ++ [10]) ++ tl := by simpa using e1
            have e4 := congrArg (List.take (j + line.length + 1)) e3
            rw [e4]
            exact List.take_left' e2
          obtain ⟨e1, he1⟩ : ∃ e1, e1 = j + line.length + 1 := ⟨_, rfl⟩
          rw [← he1] at hu hlen
          obtain ⟨ll, hll⟩ : ∃ ll, ll = line.length := ⟨_, rfl⟩
          rw [← hll] at he1 ⊢
          obtain ⟨uu, huu⟩ : ∃ uu, uu = t1.take e1 := ⟨_, rfl⟩
          have hule : uu.length = e1 := by rw [huu, List.length_take]; omega
          have HEE : Hid ((⟨t1.toArray⟩ : ByteArray).extract 0 e1 = ⟨uu.toArray⟩) := by show _ = _; rw [huu]; exact extract_to t1 e1
          have HER : Hid (parseP (uu ++ m1) = .error j) := by show _ = _; rw [huu, hu]; simpa using herr
          have HCT : Hid ((⟨uu.toArray⟩ : ByteArray) ++ ⟨m1.toArray⟩ = ⟨(uu ++ m1).toArray⟩) := cat_txt uu m1
          obtain ⟨e0, he0⟩ : ∃ e0 : Nat, e0 = j + ll := ⟨_, rfl⟩
          have hi0 : (j : Int) + (ll : Int) = (e0 : Int) := by omega
          have hi1 : (e0 : Int) + 1 = (e1 : Int) := by omega
          have hle1 : (e1 : Int) ≤ (t1.length : Nat) := by omega
          have h01 : (0 : Int) ≤ (e1 : Int) := by omega
          have hll0 : ¬ (ll : Int) < 0 := by omega
          have hw0 : IntKind.i64.wrap (e0 : Int) = (e0 : Int) := IntWalk.i64_in _ ⟨by omega, by omega⟩
          have hw1 : IntKind.i64.wrap (e1 : Int) = (e1 : Int) := IntWalk.i64_in _ ⟨by omega, by omega⟩
          have HP2 := parse17 W3 (uu ++ m1) (HL.out.below HB3.out) (by rw [List.length_append]; omega)
          have HPL : Hid (¬ 262144 < (uu ++ m1).length) := by show ¬ _; rw [List.length_append]; omega
          clear hc hcs hib herr hu he1 hll huu he0 hule
          go_wp2_with fail
          rw [HEE.out, HCT.out]
          refine HP2.mono ?_
          rintro e w4 ⟨sv, k, n, rfl, hb4, ho4⟩
          obtain ⟨rfl, rfl, rfl⟩ := ho4.bad HPL.out HER.out
          have HB4 := Lib.hid (HB3.out.trans (hb4.mono HB3.out.size))
          clear hb4 ho4 HP2
          unfold zeroS
          go_wp2_with fail
          go_ret
          exact ⟨rfl, HB4.out.alloc HB4.out.size _⟩
end Go.Proofs.YtelaijogjgcloaaDoor
