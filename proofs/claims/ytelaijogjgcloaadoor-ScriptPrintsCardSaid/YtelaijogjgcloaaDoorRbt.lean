/- The document's Bytes. Condition: the bytes lie in memory, not more than a million. -/
import Derived.Test.YtelaijogjgcloaaDoorRnm
import Derived.Test.YtelaijogjgcloaaDoorRaw
set_option linter.unusedVariables false
set_option linter.unusedSimpArgs false
namespace Go.Proofs.YtelaijogjgcloaaDoor
open Go.RowKit Go.Ice Go.Scr

set_option maxHeartbeats 8000000 in
set_option maxRecDepth 20000 in
theorem bytes55 (w : World) (v : Value) (l : List UInt8) (hl : BytesAt w v l) (hm : l.length ≤ 1000000) :
    Calls Tryd.prog 55 #[v] w fun e w' => e = .returned (.string ⟨(rawT l).toArray⟩) ∧ Below w.heap.size w w' := by
  have HL := Lib.hid hl
  obtain ⟨a, ca, rfl, hma⟩ := hl.form
  obtain ⟨tt, htt⟩ : ∃ tt, tt = rawT l := ⟨_, rfl⟩
  rw [← htt]
  have HT := Lib.hid htt
  clear hl hma htt
  cases hll : l with
  | nil =>
    have HX : Hid (tt = [45]) := by show _ = _; rw [HT.out, hll]; rfl
    clear hll HL HT
    dsimp only [List.length_nil]
    go_enter Tryd.func55, Tryd.ntmps55
    go_wp2_with fail
    go_ret
    exact ⟨by rw [HX.out]; rfl, Below.refl _ _⟩
  | cons x0 l0 =>
    rw [← hll]
    have HX : Hid (tt = l.flatMap rawD) := by
      show _ = _
      rw [HT.out]; unfold rawT; rw [if_neg (by rw [hll]; simp)]; rfl
    have hn0 : 0 < l.length := by rw [hll]; simp
    clear hll
    obtain ⟨n, hn⟩ : ∃ n, n = l.length := ⟨_, rfl⟩
    rw [← hn] at hm hn0 ⊢
    have HN := Lib.hid hn
    clear hn
    have hne : ((n : Int) == 0) = false := by simp; omega
    obtain ⟨G, hG⟩ : ∃ G, G = w.heap.size := ⟨_, rfl⟩
    have HG := Lib.hid hG
    clear hG
    go_enter Tryd.func55, Tryd.ntmps55
    go_wp2_with fail
    go_loopg [3, 5, 11] n (fun g ov xv kv wr => ∃ k : Nat, g = n - k ∧ k ≤ n ∧ kv = .int .i64 k ∧ Hid (Below w.heap.size w wr ∧ wr.ownsRow G 5 1 ov (2 * k) (((l.take k).flatMap rawD).map u8v)))
    case atStart => exact ⟨0, rfl, by omega, rfl, Below.refl _ _, World.ownsRow_nil _ _ _ _⟩
    case round =>
      obtain ⟨k, rfl, hk, rfl, HJ⟩ := hrel
      by_cases hlt : k < n
      · obtain ⟨bs, off, cap, e1, h1, h2, h3, h4⟩ := HL.out.at (by have := HN.out; omega)
        have q0 := h4 k (by have := HN.out; omega)
        rw [← HJ.out.1.cell (p := ⟨bs, _, none⟩) h3] at q0
        rw [← HN.out] at e1 h1
        injection e1 with x1 x2 x3
        subst x1 x3
        unfold maxLen at h2
        have hkl : k < l.length := by rw [← HN.out]; exact hlt
        have hgx : l[k]? = some (l.getD k 0) := by rw [List.getD_eq_getElem?_getD, List.getElem?_eq_getElem hkl]; rfl
        have HGX := Lib.hid hgx
        obtain ⟨xb, hxb⟩ : ∃ s, s = l.getD k 0 := ⟨_, rfl⟩
        rw [← hxb] at q0 HGX
        clear h4 x2 hgx hkl hxb h3
        have HJB : Hid (Below w.heap.size w wr) := HJ.out.1
        obtain ⟨oa, oc, rfl, hmo⟩ := own_form HJ.out.2
        have HJO : Hid (wr.ownsRow G 5 1 (.slice oa (2 * k) oc) (2 * k) (((l.take k).flatMap rawD).map u8v)) := HJ.out.2
        have HBD : Hid (2 * k + 2 ≤ 3000000) := by show _ ≤ _; omega
        clear hmo
        go_upto_region 7 with fail
        have hlt8 := xb.toNat_lt
        have hx2 : Hid (IntKind.u8.wrap ((xb.toNat : Int) / 16) = (xb.toNat : Int) / 16) := by show _ = _; rw [IntKind.wrap_u8]; omega
        have hx6 : Hid ((xb.toNat : Int).tmod 16 = (xb.toNat : Int) % 16) := Int.tmod_eq_emod_of_nonneg (Int.natCast_nonneg _)
        have hx5 : Hid (IntKind.u8.wrap ((xb.toNat : Int) % 16) = (xb.toNat : Int) % 16) := by show _ = _; rw [IntKind.wrap_u8]; omega
        -- REGION
        refine wp_region_inv2 (by kernel_rfl) (hord_of2 (by kernel_rfl)) (fun done ac W => ∃ (P : Nat) (v8 : Value), ac = { tmps := #[.slice (some ⟨bs, off, none⟩) n ca, undef, .string ⟨#[]⟩, if done 9 then v8 else .slice oa (2 * k) oc, undef, .int .u8 (xb.toNat : Nat), .slice (some ⟨bs, off, none⟩) n ca, .int .i64 (n : Nat), .bool false, .slice (some ⟨bs, off, none⟩) n ca, .int .i64 (n : Nat), .int .i64 (k : Nat), .bool true, .pointer (some ⟨bs, off + k, none⟩), .int .u8 (xb.toNat : Nat), if done 0 then (.slice oa (2 * k) oc) else u15, if done 1 then (.int .u8 (xb.toNat : Nat)) else u16, if done 2 then (.int .u8 ((xb.toNat / 16 : Nat) : Int)) else u17, if done 3 then (.int .u8 ((hexD (xb.toNat / 16)).toNat : Int)) else u18, if done 4 then (.int .u8 (xb.toNat : Nat)) else u19, if done 5 then (.int .u8 ((xb.toNat % 16 : Nat) : Int)) else u20, if done 6 then (.int .u8 ((hexD (xb.toNat % 16)).toNat : Int)) else u21, if done 7 then (.slice (some ⟨P, 0, none⟩) 2 2) else u22, if done 8 then v8 else u23, u24, undef, undef], defers := [] } ∧ RawI w G k l xb oa oc P v8 done W) ?_ ?_ ?_
        · exact ⟨0, undef, by simp, ⟨HJB.out.drew, fun _ => own_below HJO.out (drewN_below wr 1), (fun e => by cases e), (fun e => by cases e)⟩⟩
        · intro done ac W j oq ho hd hdep hcl ⟨P, v8, hlit, hI⟩
          have hj : j < 10 := (Array.getElem?_eq_some_iff.1 ho).1
          subst hlit
          obtain rfl | rfl | rfl | rfl | rfl | rfl | rfl | rfl | rfl | rfl : j = 0 ∨ j = 1 ∨ j = 2 ∨ j = 3 ∨ j = 4 ∨ j = 5 ∨ j = 6 ∨ j = 7 ∨ j = 8 ∨ j = 9 := by omega
          · have q9 : done 9 = false := by
              cases h : done 9 with
              | false => rfl
              | true =>
                have h0 := hcl 9 _ rfl h ⟨0, .phase⟩ (by simp) rfl
                rw [hd] at h0; cases h0
            refine wpOp_val ho (by cases ho; rfl) (w' := W) (v := (.slice oa (2 * k) oc)) (by cases ho; simp [execOp, go_sem, q9]) ?_
            cases ho
            exact ⟨P, v8, by simp [Act.put], hI.quiet 0 (by decide)⟩
          · refine wpOp_val ho (by cases ho; rfl) (w' := W) (v := (.int .u8 (xb.toNat : Nat))) (by cases ho; simp [execOp, go_sem]) ?_
            cases ho
            exact ⟨P, v8, by simp [Act.put], hI.quiet 1 (by decide)⟩
          · have p1 : done 1 = true := by cases ho; exact hdep ⟨1, .data⟩ (by simp) rfl
            refine wpOp_val ho (by cases ho; rfl) (w' := W) (v := (.int .u8 ((xb.toNat / 16 : Nat) : Int))) (by cases ho; simp [execOp, go_sem, p1, hx2.out]) ?_
            cases ho
            exact ⟨P, v8, by simp [Act.put], hI.quiet 2 (by decide)⟩
          · have p2 : done 2 = true := by cases ho; exact hdep ⟨2, .data⟩ (by simp) rfl
            refine wpOp_val ho (by cases ho; rfl) (w' := W) (v := (.int .u8 ((hexD (xb.toNat / 16)).toNat : Int))) (by cases ho; simp [execOp, go_sem, p2]; exact hex_run W _ _ (by omega) (by omega)) ?_
            cases ho
            exact ⟨P, v8, by simp [Act.put], hI.quiet 3 (by decide)⟩
          · refine wpOp_val ho (by cases ho; rfl) (w' := W) (v := (.int .u8 (xb.toNat : Nat))) (by cases ho; simp [execOp, go_sem]) ?_
            cases ho
            exact ⟨P, v8, by simp [Act.put], hI.quiet 4 (by decide)⟩
          · have p4 : done 4 = true := by cases ho; exact hdep ⟨4, .data⟩ (by simp) rfl
            refine wpOp_val ho (by cases ho; rfl) (w' := W) (v := (.int .u8 ((xb.toNat % 16 : Nat) : Int))) (by cases ho; simp [execOp, go_sem, p4, hx5.out, hx6.out]) ?_
            cases ho
            exact ⟨P, v8, by simp [Act.put], hI.quiet 5 (by decide)⟩
          · have p5 : done 5 = true := by cases ho; exact hdep ⟨5, .data⟩ (by simp) rfl
            refine wpOp_val ho (by cases ho; rfl) (w' := W) (v := (.int .u8 ((hexD (xb.toNat % 16)).toNat : Int))) (by cases ho; simp [execOp, go_sem, p5]; exact hex_run W _ _ (by omega) (by omega)) ?_
            cases ho
            exact ⟨P, v8, by simp [Act.put], hI.quiet 6 (by decide)⟩
          · have p3 : done 3 = true := by cases ho; exact hdep ⟨3, .data⟩ (by simp) rfl
            have p6 : done 6 = true := by cases ho; exact hdep ⟨6, .data⟩ (by simp) rfl
            have q8 : done 8 = false := by
              cases h : done 8 with
              | false => rfl
              | true =>
                have h0 := hcl 8 _ rfl h ⟨7, .data⟩ (by simp) rfl
                rw [hd] at h0; cases h0
            refine wpOp_val ho (by cases ho; rfl) (w' := W.alloc (.cells #[.int .u8 ((hexD (xb.toNat / 16)).toNat : Int), .int .u8 ((hexD (xb.toNat % 16)).toNat : Int)] 5)) (v := .slice (some ⟨W.heap.size, 0, none⟩) 2 2) (by cases ho; simp [execOp, go_sem, p3, p6]) ?_
            cases ho
            exact ⟨W.heap.size, v8, by simp [Act.put, q8], hI.built q8⟩
          · have p0 : done 0 = true := by cases ho; exact hdep ⟨0, .data⟩ (by simp) rfl
            have p7 : done 7 = true := by cases ho; exact hdep ⟨7, .data⟩ (by simp) rfl
            have p7 : done 7 = true := by cases ho; exact hdep ⟨7, .data⟩ (by simp) rfl
            obtain ⟨v', w', hr, hI'⟩ := hI.appended HBD.out HG.out hd p7
            refine wpOp_append ho (by cases ho; rfl) (.tmp 15) (.tmp 22) 38 (by cases ho; rfl) (v := .slice oa (2 * k) oc) (vx := .slice (some ⟨P, 0, none⟩) 2 2) (by simp [go_sem, p0, p7]) (by simp [go_sem, p0, p7]) (v' := v') (w' := w') (by cases ho; exact hr) ?_
            cases ho
            have q9 : done 9 = false := by
              cases h : done 9 with
              | false => rfl
              | true =>
                have h1 := hcl 9 _ rfl h ⟨8, .data⟩ (by simp) rfl
                rw [hd] at h1; cases h1
            exact ⟨P, v', by simp [Act.put, q9], hI'⟩
          · have p8 : done 8 = true := by cases ho; exact hdep ⟨8, .data⟩ (by simp) rfl
            refine wpOp_val ho (by cases ho; rfl) (w' := W) (v := v8) (by cases ho; simp [execOp, go_sem, p8]) ?_
            cases ho
            exact ⟨P, v8, by simp [Act.put], hI.quiet 9 (by decide)⟩
        · rintro done ac W hall ⟨P, v8, rfl, hI⟩
          have hl := hall
          clear hall
          have e0 := hl 0 (by decide)
          have e1 := hl 1 (by decide)
          have e2 := hl 2 (by decide)
          have e3 := hl 3 (by decide)
          have e4 := hl 4 (by decide)
          have e5 := hl 5 (by decide)
          have e6 := hl 6 (by decide)
          have e7 := hl 7 (by decide)
          have e8 := hl 8 (by decide)
          have e9 := hl 9 (by decide)
          obtain ⟨hIb, hIo⟩ := hI.done e8
          have HIB := Lib.hid hIb
          have HIO := Lib.hid hIo
          simp only [e0, e1, e2, e3, e4, e5, e6, e7, e8, e9, if_true]
          clear e0 e1 e2 e3 e4 e5 e6 e7 e8 e9 hl hI hIb hIo
          go_wp2_with fail
          go_roundg (n - (k + 1))
          case measure => omega
          case rel => exact ⟨k + 1, rfl, by omega, by go_num, HIB.out, by
            have h := HIO.out
            rw [← rawD_take HGX.out] at h
            exact h⟩
        -- END
      · obtain rfl : k = n := by omega
        obtain ⟨oa, oc, rfl, hmo⟩ := own_form HJ.out.2
        have hc := convert_sl (P := Tryd.prog) 38 5 Tryd.underlying38 Tryd.underlying5 (w := wr) (v := .slice oa (2 * k) oc) (bs := tt) (by
          have h := own_isSl HJ.out.2
          have e : (l.take k).flatMap rawD = tt := by rw [HX.out, HN.out, List.take_length]
          rw [e] at h
          exact h) 9 Tryd.underlying9
        have HJB : Hid (Below w.heap.size w wr) := HJ.out.1
        go_wp2_with fail
        go_ret
        exact ⟨rfl, HJB.out⟩
end Go.Proofs.YtelaijogjgcloaaDoor
