/- The document's line and Text. Conditions: the events lie in memory, their numbers have at most ten digits. -/
import Derived.Test.YtelaijogjgcloaaDoorUpn
import Derived.Test.YtelaijogjgcloaaDoorRfk
set_option linter.unusedVariables false
set_option linter.unusedSimpArgs false
namespace Go.Proofs.YtelaijogjgcloaaDoor
open Go.RowKit Go.Ice Go.Scr

theorem lineE_1b (x : Ev) (h : x.kind = 1) : lineE x = (Scr.word 1 ++ 32 :: numT x.conn) ++ 32 :: rawT x.bytes := by
  unfold lineE evL; rw [if_pos h]; simp [joinC]
theorem lineE_nb (x : Ev) (h : x.kind = 2 ∨ x.kind = 5 ∨ x.kind = 6) : lineE x = Scr.word x.kind ++ 32 :: numT x.n := by
  unfold lineE evL; rw [if_neg (by omega), if_pos h]; simp [joinC]
theorem lineE_7b (x : Ev) (h : x.kind = 7) : lineE x = Scr.word 7 ++ 32 :: keepT x.keep := by
  unfold lineE evL; rw [if_neg (by omega), if_neg (by omega), if_pos h]; simp [joinC]
theorem lineE_8b (x : Ev) (h : x.kind = 8) : lineE x = Scr.word 8 ++ 32 :: numT x.conn := by
  unfold lineE evL; rw [if_neg (by omega), if_neg (by omega), if_neg (by omega), if_pos h]; simp [joinC]
theorem lineE_0b (x : Ev) (h : x.kind = 3 ∨ x.kind = 4) : lineE x = Scr.word x.kind := by
  unfold lineE evL; rw [if_neg (by omega), if_neg (by omega), if_neg (by omega), if_neg (by omega)]; simp [joinC]
theorem rawT_len2 (b : List UInt8) : (rawT b).length ≤ 2 * b.length + 1 := by
  unfold rawT
  split
  · simp
  · have : ∀ l : List UInt8, (l.flatMap fun x => [hexD (x.toNat / 16), hexD (x.toNat % 16)]).length = 2 * l.length := by
      intro l
      induction l with
      | nil => rfl
      | cons x l ih => rw [List.flatMap_cons, List.length_append, ih]; simp; omega
    rw [this]; omega
theorem keepT_len2 (b : List Bool) : (keepT b).length ≤ b.length + 1 := by
  unfold keepT
  split
  · simp
  · simp

set_option maxHeartbeats 16000000 in
set_option maxRecDepth 20000 in
theorem line37 (w : World) (v : Value) (x : Ev) (hx : EvAt w v x) (hk : 1 ≤ x.kind ∧ x.kind ≤ 8) (hc : 0 ≤ x.conn ∧ x.conn < 10000000000) (hn : 0 ≤ x.n ∧ x.n < 10000000000) (hb : x.bytes.length ≤ 4096) (hke : x.keep.length ≤ 4096) :
    Calls Tryd.prog 37 #[v] w fun e w' => e = .returned (.string ⟨(lineE x ++ [10]).toArray⟩) ∧ Below w.heap.size w w' := by
  obtain ⟨vb, vk, rfl, hvb, hvk⟩ := hx
  obtain ⟨t, ht⟩ : ∃ t, t = lineE x ++ [10] := ⟨_, rfl⟩
  rw [← ht]
  have HT := Lib.hid ht
  obtain ⟨ab, cb, rfl, _⟩ := hvb.form
  obtain ⟨ak, ck, rfl, _⟩ := hvk.form
  obtain ⟨kind, conn, n, bytes, keep⟩ := x
  dsimp only at hk hc hn hb hke hvb hvk HT
  clear ht
  unfold evV
  dsimp only
  obtain ⟨nb, hnb⟩ : ∃ n, n = bytes.length := ⟨_, rfl⟩
  obtain ⟨nk, hnk⟩ : ∃ n, n = keep.length := ⟨_, rfl⟩
  rw [← hnb] at hb hvb ⊢
  rw [← hnk] at hke hvk ⊢
  obtain ⟨B, W0, HB, HW, HK, HZ⟩ := boxed1 w #[.int .i64 kind, .int .i64 conn, .int .i64 n, .slice ab nb cb, .slice ak nk ck] 41
  have HVB := Lib.hid (hvb.below HK.out.below (Nat.le_refl _))
  have HVK := Lib.hid (hvk.below HK.out.below (Nat.le_refl _))
  have HNB := Lib.hid hnb
  have HNK := Lib.hid hnk
  clear hvb hvk hnb hnk
  have b0 : W0.cell? ⟨B, 0, none⟩ = some (.int .i64 kind) := blk_cell HK.out.b0 0
  have b1 : W0.cell? ⟨B, 1, none⟩ = some (.int .i64 conn) := blk_cell HK.out.b0 1
  have b2 : W0.cell? ⟨B, 2, none⟩ = some (.int .i64 n) := blk_cell HK.out.b0 2
  have b3 : W0.cell? ⟨B, 3, none⟩ = some (.slice ab nb cb) := blk_cell HK.out.b0 3
  have b4 : W0.cell? ⟨B, 4, none⟩ = some (.slice ak nk ck) := blk_cell HK.out.b0 4
  have HWD := word54 W0 kind hk.1 hk.2
  obtain ⟨wd, hwd⟩ : ∃ wd, wd = Scr.word kind := ⟨_, rfl⟩
  rw [← hwd] at HWD
  have HWW := Lib.hid hwd
  have hwl : wd.length ≤ 5 := by
    rw [hwd]; obtain ⟨k1, k2⟩ := hk
    obtain rfl | rfl | rfl | rfl | rfl | rfl | rfl | rfl : kind = 1 ∨ kind = 2 ∨ kind = 3 ∨ kind = 4 ∨ kind = 5 ∨ kind = 6 ∨ kind = 7 ∨ kind = 8 := by omega
    all_goals decide
  have HNC := number53 W0 conn hc.1 hc.2
  have HNCA : ∀ W, Calls Tryd.prog 53 #[.int .i64 conn] W fun e w' => e = .returned (.string ⟨(numT conn).toArray⟩) ∧ w' = W := fun W => number53 W conn hc.1 hc.2
  have HNN := number53 W0 n hn.1 hn.2
  obtain ⟨tc, htc⟩ : ∃ t, t = numT conn := ⟨_, rfl⟩
  obtain ⟨tn, htn⟩ : ∃ t, t = numT n := ⟨_, rfl⟩
  have hcl := numT_len10 hc.1 hc.2
  have hnl := numT_len10 hn.1 hn.2
  rw [← htc] at HNC hcl HNCA
  rw [← htn] at HNN hnl
  have HTC := Lib.hid htc
  have HTN := Lib.hid htn
  have HNCB := Lib.hid HNCA
  clear HNCA
  have HKK := Lib.hid hk
  obtain ⟨k1, k8⟩ := hk
  clear hwd htc htn hc hn
  go_enter Tryd.func37, Tryd.ntmps37
  go_upto_region 1 with fail
  rw [HB.out, HW.out]
  clear HB HW
  go_wp2_with fail
  refine HWD.mono ?_
  rintro e w9 ⟨rfl, rfl⟩
  obtain rfl | rfl | rfl | rfl | rfl | rfl | rfl | rfl : kind = 1 ∨ kind = 2 ∨ kind = 3 ∨ kind = 4 ∨ kind = 5 ∨ kind = 6 ∨ kind = 7 ∨ kind = 8 := by omega
  · have HBX : Hid (∀ W, Below w9.heap.size w9 W → W.cell? ⟨B, 1, none⟩ = some (.int .i64 conn) ∧ W.cell? ⟨B, 3, none⟩ = some (.slice ab nb cb)) := fun W hW => ⟨blk_cell (HK.out.step hW).b0 1, blk_cell (HK.out.step hW).b0 3⟩
    obtain ⟨tb, htb⟩ : ∃ t, t = rawT bytes := ⟨_, rfl⟩
    have htl : tb.length ≤ 10000 := by rw [htb]; have := rawT_len2 bytes; have := HNB.out; omega
    have HTB := Lib.hid htb
    have HBC : Hid (∀ W, Below w9.heap.size w9 W → Calls Tryd.prog 55 #[.slice ab nb cb] W fun e w' => e = .returned (.string ⟨tb.toArray⟩) ∧ Below W.heap.size W w') := fun W hW => by
      have h := bytes55 W (.slice ab nb cb) bytes (HVB.out.below hW (Nat.le_refl _)) (by have := HNB.out; omega)
      rw [← HTB.out] at h
      exact h
    have HNC := HNCB
    have hq1 : ¬ 9223372036854775807 < 1 + tc.length := by omega
    have hq2 : ¬ 9223372036854775807 < 1 + tc.length + 1 := by omega
    have hq3 : ¬ 9223372036854775807 < 1 + tc.length + 1 + tb.length := by omega
    have hq4 : ¬ 9223372036854775807 < wd.length + (1 + tc.length + 1 + tb.length) := by omega
    have hq5 : ¬ 9223372036854775807 < wd.length + (1 + tc.length + 1 + tb.length) + 1 := by omega
    clear htb
    go_upto_region 4 with fail
    clear b0 b1 b2 b3 b4
    -- REGION
    refine wp_region_inv2 (by kernel_rfl) (hord_of2 (by kernel_rfl)) (fun done ac W => ∃ (u : Unit), ac = { tmps := #[.agg #[.int .i64 1, .int .i64 conn, .int .i64 n, .slice ab nb cb, .slice ak nk ck], (.pointer (some ⟨B, 0, none⟩)), .string ⟨#[]⟩, if done 11 then (.string (⟨wd.toArray⟩ ++ (⟨#[32]⟩ ++ ⟨tc.toArray⟩ ++ ⟨#[32]⟩ ++ ⟨tb.toArray⟩))) else .string ⟨wd.toArray⟩, (.pointer (some ⟨B, 0, none⟩)), .int .i64 1, .string ⟨wd.toArray⟩, (.pointer (some ⟨B, 0, none⟩)), .int .i64 1, .bool true, .bool true, if done 0 then (.string ⟨wd.toArray⟩) else undef, if done 1 then (.pointer (some ⟨B, 1, none⟩)) else undef, if done 2 then (.int .i64 conn) else undef, if done 3 then (.string ⟨tc.toArray⟩) else undef, if done 4 then (.string (⟨#[32]⟩ ++ ⟨tc.toArray⟩)) else undef, if done 5 then (.string (⟨#[32]⟩ ++ ⟨tc.toArray⟩ ++ ⟨#[32]⟩)) else undef, if done 6 then (.pointer (some ⟨B, 3, none⟩)) else undef, if done 7 then (.slice ab nb cb) else undef, if done 8 then (.string ⟨tb.toArray⟩) else undef, if done 9 then (.string (⟨#[32]⟩ ++ ⟨tc.toArray⟩ ++ ⟨#[32]⟩ ++ ⟨tb.toArray⟩)) else undef, if done 10 then (.string (⟨wd.toArray⟩ ++ (⟨#[32]⟩ ++ ⟨tc.toArray⟩ ++ ⟨#[32]⟩ ++ ⟨tb.toArray⟩))) else undef, undef, undef, undef, undef, undef, undef, undef, undef, undef, undef, undef, undef, undef, undef, undef, undef, undef, undef, undef, undef, undef, undef, undef, undef, undef, undef, undef, undef], defers := [] } ∧ Below w9.heap.size w9 W) ?_ ?_ ?_
    · exact ⟨(), by simp, (Below.refl _ _).drew⟩
    · intro done ac W j oq ho hd hdep hcl ⟨u, hlit, hI⟩
      have hj : j < 12 := (Array.getElem?_eq_some_iff.1 ho).1
      subst hlit
      obtain rfl | rfl | rfl | rfl | rfl | rfl | rfl | rfl | rfl | rfl | rfl | rfl : j = 0 ∨ j = 1 ∨ j = 2 ∨ j = 3 ∨ j = 4 ∨ j = 5 ∨ j = 6 ∨ j = 7 ∨ j = 8 ∨ j = 9 ∨ j = 10 ∨ j = 11 := by omega
      · have q11 : done 11 = false := by
          cases h : done 11 with
          | false => rfl
          | true =>
            have h0 := hcl 11 _ rfl h ⟨0, .phase⟩ (by simp) rfl
            rw [hd] at h0; cases h0
        refine wpOp_val ho (by cases ho; rfl) (w' := W) (v := (.string ⟨wd.toArray⟩)) (by cases ho; simp [execOp, go_sem, q11]) ?_
        cases ho
        exact ⟨u, by simp [Act.put], hI⟩
      · refine wpOp_val ho (by cases ho; rfl) (w' := W) (v := (.pointer (some ⟨B, 1, none⟩))) (by cases ho; simp [execOp, go_sem]) ?_
        cases ho
        exact ⟨u, by simp [Act.put], hI⟩
      · have p1 : done 1 = true := by cases ho; exact hdep ⟨1, .data⟩ (by simp) rfl
        have hx := (HBX.out W hI).1
        refine wpOp_val ho (by cases ho; rfl) (w' := W) (v := (.int .i64 conn)) (by cases ho; simp [execOp, go_sem, p1, hx]) ?_
        cases ho
        exact ⟨(), by simp [Act.put], hI⟩
      · have p2 : done 2 = true := by cases ho; exact hdep ⟨2, .data⟩ (by simp) rfl
        refine wpOp_call ho (by cases ho; rfl) (f := 53) (args := #[.int .i64 conn]) (by cases ho; simp [execOp, go_sem, p2]) (HNC.out W) ?_
        rintro e w' ⟨rfl, rfl⟩
        cases ho
        exact ⟨_, rfl, (), by simp [Act.put], hI⟩
      · have p3 : done 3 = true := by cases ho; exact hdep ⟨3, .data⟩ (by simp) rfl
        refine wpOp_val ho (by cases ho; rfl) (w' := W) (v := (.string (⟨#[32]⟩ ++ ⟨tc.toArray⟩))) (by cases ho; simp [execOp, go_sem, p3, hq1]) ?_
        cases ho
        exact ⟨u, by simp [Act.put], hI⟩
      · have p4 : done 4 = true := by cases ho; exact hdep ⟨4, .data⟩ (by simp) rfl
        refine wpOp_val ho (by cases ho; rfl) (w' := W) (v := (.string (⟨#[32]⟩ ++ ⟨tc.toArray⟩ ++ ⟨#[32]⟩))) (by cases ho; simp [execOp, go_sem, p4, hq2, txt_size]) ?_
        cases ho
        exact ⟨u, by simp [Act.put], hI⟩
      · refine wpOp_val ho (by cases ho; rfl) (w' := W) (v := (.pointer (some ⟨B, 3, none⟩))) (by cases ho; simp [execOp, go_sem]) ?_
        cases ho
        exact ⟨u, by simp [Act.put], hI⟩
      · have p6 : done 6 = true := by cases ho; exact hdep ⟨6, .data⟩ (by simp) rfl
        have hx := (HBX.out W hI).2
        refine wpOp_val ho (by cases ho; rfl) (w' := W) (v := (.slice ab nb cb)) (by cases ho; simp [execOp, go_sem, p6, hx]) ?_
        cases ho
        exact ⟨(), by simp [Act.put], hI⟩
      · have p7 : done 7 = true := by cases ho; exact hdep ⟨7, .data⟩ (by simp) rfl
        refine wpOp_call ho (by cases ho; rfl) (f := 55) (args := #[.slice ab nb cb]) (by cases ho; simp [execOp, go_sem, p7]) (HBC.out W hI) ?_
        rintro e w' ⟨rfl, hb⟩
        cases ho
        exact ⟨_, rfl, (), by simp [Act.put], hI.trans (hb.mono hI.size)⟩
      · have p5 : done 5 = true := by cases ho; exact hdep ⟨5, .data⟩ (by simp) rfl
        have p8 : done 8 = true := by cases ho; exact hdep ⟨8, .data⟩ (by simp) rfl
        refine wpOp_val ho (by cases ho; rfl) (w' := W) (v := (.string (⟨#[32]⟩ ++ ⟨tc.toArray⟩ ++ ⟨#[32]⟩ ++ ⟨tb.toArray⟩))) (by cases ho; simp [execOp, go_sem, p5, p8, hq3]) ?_
        cases ho
        exact ⟨u, by simp [Act.put], hI⟩
      · have p0 : done 0 = true := by cases ho; exact hdep ⟨0, .data⟩ (by simp) rfl
        have p9 : done 9 = true := by cases ho; exact hdep ⟨9, .data⟩ (by simp) rfl
        refine wpOp_val ho (by cases ho; rfl) (w' := W) (v := (.string (⟨wd.toArray⟩ ++ (⟨#[32]⟩ ++ ⟨tc.toArray⟩ ++ ⟨#[32]⟩ ++ ⟨tb.toArray⟩)))) (by cases ho; simp [execOp, go_sem, p0, p9, hq4]) ?_
        cases ho
        exact ⟨u, by simp [Act.put], hI⟩
      · have p10 : done 10 = true := by cases ho; exact hdep ⟨10, .data⟩ (by simp) rfl
        refine wpOp_val ho (by cases ho; rfl) (w' := W) (v := (.string (⟨wd.toArray⟩ ++ (⟨#[32]⟩ ++ ⟨tc.toArray⟩ ++ ⟨#[32]⟩ ++ ⟨tb.toArray⟩)))) (by cases ho; simp [execOp, go_sem, p10]) ?_
        cases ho
        exact ⟨u, by simp [Act.put], hI⟩
    · rintro done ac W hall ⟨u, rfl, hI⟩
      have hl := hall
      clear hall
      have e0 := hl 0 (by decide)
      have e1 := hl 1 (by decide)
      have e2 := hl 2 (by decide)
      have e3 := hl 3 (by decide)
      have e4 := hl 4 (by decide)
      have e5 := hl 5 (by decide)
      have e6 := hl 6 (by decide)
      have e7 := hl 7 (by decide)
      have e8 := hl 8 (by decide)
      have e9 := hl 9 (by decide)
      have e10 := hl 10 (by decide)
      have e11 := hl 11 (by decide)
      have HBI := Lib.hid hI
      simp only [e0, e1, e2, e3, e4, e5, e6, e7, e8, e9, e10, e11, if_true]
      clear e0 e1 e2 e3 e4 e5 e6 e7 e8 e9 e10 e11 hl hI
      go_wp2_with fail
      go_ret
      exact ⟨by rw [HT.out, lineE_1b _ rfl, ← HTC.out, ← HTB.out, show (⟨#[32]⟩ : ByteArray) = ⟨[(32 : UInt8)].toArray⟩ from rfl, show (⟨#[10]⟩ : ByteArray) = ⟨[(10 : UInt8)].toArray⟩ from rfl, txt_cat, txt_cat, txt_cat, txt_cat, txt_cat, HWW.out]; simp, HK.out.below.trans (HBI.out.mono HK.out.below.size)⟩
    -- END
  · have hq1 : ¬ 9223372036854775807 < 1 + tn.length := by omega
    have hq2 : ¬ 9223372036854775807 < wd.length + (1 + tn.length) := by omega
    have hq3 : ¬ 9223372036854775807 < wd.length + (1 + tn.length) + 1 := by omega
    go_wp2_with fail
    refine HNN.mono ?_
    rintro e w9 ⟨rfl, rfl⟩
    go_wp2_with fail
    go_ret
    exact ⟨by rw [HT.out, lineE_nb _ (by simp), ← HTN.out, show (⟨#[32]⟩ : ByteArray) = ⟨[(32 : UInt8)].toArray⟩ from rfl, show (⟨#[10]⟩ : ByteArray) = ⟨[(10 : UInt8)].toArray⟩ from rfl, HWW.out]; simp only [txt_cat]; simp [txt_cat], HK.out.below⟩
  · go_wp2_with fail
    go_ret
    exact ⟨by rw [HT.out, lineE_0b _ (by simp), show (⟨#[10]⟩ : ByteArray) = ⟨[(10 : UInt8)].toArray⟩ from rfl, HWW.out, txt_cat]; rfl, HK.out.below⟩
  · go_wp2_with fail
    go_ret
    exact ⟨by rw [HT.out, lineE_0b _ (by simp), show (⟨#[10]⟩ : ByteArray) = ⟨[(10 : UInt8)].toArray⟩ from rfl, HWW.out, txt_cat]; rfl, HK.out.below⟩
  · have hq1 : ¬ 9223372036854775807 < 1 + tn.length := by omega
    have hq2 : ¬ 9223372036854775807 < wd.length + (1 + tn.length) := by omega
    have hq3 : ¬ 9223372036854775807 < wd.length + (1 + tn.length) + 1 := by omega
    go_wp2_with fail
    refine HNN.mono ?_
    rintro e w9 ⟨rfl, rfl⟩
    go_wp2_with fail
    go_ret
    exact ⟨by rw [HT.out, lineE_nb _ (by simp), ← HTN.out, show (⟨#[32]⟩ : ByteArray) = ⟨[(32 : UInt8)].toArray⟩ from rfl, show (⟨#[10]⟩ : ByteArray) = ⟨[(10 : UInt8)].toArray⟩ from rfl, HWW.out]; simp only [txt_cat]; simp [txt_cat], HK.out.below⟩
  · have hq1 : ¬ 9223372036854775807 < 1 + tn.length := by omega
    have hq2 : ¬ 9223372036854775807 < wd.length + (1 + tn.length) := by omega
    have hq3 : ¬ 9223372036854775807 < wd.length + (1 + tn.length) + 1 := by omega
    go_wp2_with fail
    refine HNN.mono ?_
    rintro e w9 ⟨rfl, rfl⟩
    go_wp2_with fail
    go_ret
    exact ⟨by rw [HT.out, lineE_nb _ (by simp), ← HTN.out, show (⟨#[32]⟩ : ByteArray) = ⟨[(32 : UInt8)].toArray⟩ from rfl, show (⟨#[10]⟩ : ByteArray) = ⟨[(10 : UInt8)].toArray⟩ from rfl, HWW.out]; simp only [txt_cat]; simp [txt_cat], HK.out.below⟩
  · obtain ⟨tk, htk⟩ : ∃ t, t = keepT keep := ⟨_, rfl⟩
    have htl : tk.length ≤ 10000 := by rw [htk]; have := keepT_len2 keep; have := HNK.out; omega
    have HTK := Lib.hid htk
    have HC := keep52 w9 (.slice ak nk ck) keep HVK.out (by have := HNK.out; omega)
    rw [← htk] at HC
    clear htk
    have hq1 : ¬ 9223372036854775807 < 1 + tk.length := by omega
    have hq2 : ¬ 9223372036854775807 < wd.length + (1 + tk.length) := by omega
    have hq3 : ¬ 9223372036854775807 < wd.length + (1 + tk.length) + 1 := by omega
    go_wp2_with fail
    refine HC.mono ?_
    rintro e w10 ⟨rfl, hb10⟩
    have HB10 := Lib.hid hb10
    clear hb10 HC
    go_wp2_with fail
    go_ret
    exact ⟨by rw [HT.out, lineE_7b _ rfl, ← HTK.out, show (⟨#[32]⟩ : ByteArray) = ⟨[(32 : UInt8)].toArray⟩ from rfl, show (⟨#[10]⟩ : ByteArray) = ⟨[(10 : UInt8)].toArray⟩ from rfl, HWW.out]; simp only [txt_cat]; simp [txt_cat], HK.out.below.trans (HB10.out.mono HK.out.below.size)⟩
  · have hq1 : ¬ 9223372036854775807 < 1 + tc.length := by omega
    have hq2 : ¬ 9223372036854775807 < wd.length + (1 + tc.length) := by omega
    have hq3 : ¬ 9223372036854775807 < wd.length + (1 + tc.length) + 1 := by omega
    go_wp2_with fail
    refine HNC.mono ?_
    rintro e w9 ⟨rfl, rfl⟩
    go_wp2_with fail
    go_ret
    exact ⟨by rw [HT.out, lineE_8b _ rfl, ← HTC.out, show (⟨#[32]⟩ : ByteArray) = ⟨[(32 : UInt8)].toArray⟩ from rfl, show (⟨#[10]⟩ : ByteArray) = ⟨[(10 : UInt8)].toArray⟩ from rfl, HWW.out]; simp only [txt_cat]; simp [txt_cat], HK.out.below⟩

theorem textS_take {s : Scr} {k : Nat} {x : Ev} (h : s.evs[k]? = some x) : lineP s.plan ++ 10 :: (s.evs.take (k + 1)).flatMap (fun x => lineE x ++ [10]) = (lineP s.plan ++ 10 :: (s.evs.take k).flatMap fun x => lineE x ++ [10]) ++ (lineE x ++ [10]) := by
  rw [List.take_add_one, h]; simp
theorem lineE_len2 {x : Ev} (hk : 1 ≤ x.kind ∧ x.kind ≤ 8) (hc : 0 ≤ x.conn ∧ x.conn < 10000000000) (hn : 0 ≤ x.n ∧ x.n < 10000000000) (hb : x.bytes.length ≤ 4096) (hke : x.keep.length ≤ 4096) : (lineE x ++ [10]).length ≤ 8300 := by
  obtain ⟨k1, k2⟩ := hk
  have a1 := numT_len10 hc.1 hc.2
  have a2 := numT_len10 hn.1 hn.2
  have a3 := rawT_len2 x.bytes
  have a4 := keepT_len2 x.keep
  have a5 : (Scr.word x.kind).length ≤ 5 := by
    obtain e | e | e | e | e | e | e | e : x.kind = 1 ∨ x.kind = 2 ∨ x.kind = 3 ∨ x.kind = 4 ∨ x.kind = 5 ∨ x.kind = 6 ∨ x.kind = 7 ∨ x.kind = 8 := by omega
    all_goals (rw [e]; decide)
  rw [List.length_append]
  obtain e | e | e | e | e : x.kind = 1 ∨ (x.kind = 2 ∨ x.kind = 5 ∨ x.kind = 6) ∨ x.kind = 7 ∨ x.kind = 8 ∨ (x.kind = 3 ∨ x.kind = 4) := by omega
  · rw [lineE_1b x e, ← e]; simp only [List.length_append, List.length_cons, List.length_nil]; omega
  · rw [lineE_nb x e]; simp only [List.length_append, List.length_cons, List.length_nil]; omega
  · rw [lineE_7b x e, ← e]; simp only [List.length_append, List.length_cons, List.length_nil]; omega
  · rw [lineE_8b x e, ← e]; simp only [List.length_append, List.length_cons, List.length_nil]; omega
  · rw [lineE_0b x e]; simp only [List.length_cons, List.length_nil]; omega

theorem lines_len : ∀ (l : List Ev), (∀ x ∈ l, (lineE x ++ [10]).length ≤ 8300) → (l.flatMap fun x => lineE x ++ [10]).length ≤ 8300 * l.length
  | [], _ => by simp
  | x :: l, h => by
    have ih := lines_len l (fun y hy => h y (.tail _ hy))
    have h0 := h x (.head _)
    rw [List.flatMap_cons, List.length_append, List.length_cons]
    omega

set_option maxHeartbeats 16000000 in
set_option maxRecDepth 20000 in
theorem text15 (w : World) (u : Value) (sc : Scr) (hs : ScrAt w u sc) (hp : ∀ n ∈ planN5 sc.plan, 0 ≤ n ∧ n < 10000000000)
    (he : ∀ x ∈ sc.evs, (1 ≤ x.kind ∧ x.kind ≤ 8) ∧ (0 ≤ x.conn ∧ x.conn < 10000000000) ∧ (0 ≤ x.n ∧ x.n < 10000000000) ∧ x.bytes.length ≤ 4096 ∧ x.keep.length ≤ 4096) (hl : sc.evs.length ≤ 200) :
    Calls Tryd.prog 15 #[u] w fun e w' => e = .returned (.string ⟨(textS sc).toArray⟩) ∧ Below w.heap.size w w' := by
  obtain ⟨v, rfl, hv⟩ := hs
  obtain ⟨i0, hi0, hz0, hz1, hz2⟩ := elemByte.hi
  obtain ⟨rt, hrt⟩ : ∃ rt, rt = textS sc := ⟨_, rfl⟩
  rw [← hrt]
  have HRT := Lib.hid hrt
  have HEV := Lib.hid he
  have HV := Lib.hid hv
  obtain ⟨a, cap, rfl, hm⟩ := hv.form
  obtain ⟨S, W0, HB, HW, HK, HZ⟩ := boxed1 w #[.int .i64 sc.plan.g, .int .i64 sc.plan.s, .int .i64 sc.plan.l, .int .i64 sc.plan.p, .int .i64 sc.plan.c, .slice a sc.evs.length cap] 26
  have HPC := plan36 W0 sc.plan hp
  have HPL : Hid ((lineP sc.plan).length ≤ 59) := by
    show _ ≤ _
    rw [lineP_rest, List.length_append]
    have := restT_len (planN5 sc.plan) hp
    have : (planN5 sc.plan).length = 5 := rfl
    have : wPlan.length = 4 := rfl
    omega
  clear hrt hv he hp
  unfold scrV
  obtain ⟨ne, hne⟩ : ∃ ne, ne = sc.evs.length := ⟨_, rfl⟩
  rw [← hne] at hl HW HK HV hm ⊢
  have HNE := Lib.hid hne
  clear hne
  unfold maxLen at hm
  obtain ⟨p, evs⟩ := sc
  dsimp only at HPC HW HK HV HNE HPL HEV ⊢
  have b0 : W0.cell? ⟨S, 0, none⟩ = some (.int .i64 p.g) := blk_cell HK.out.b0 0
  have b1 : W0.cell? ⟨S, 1, none⟩ = some (.int .i64 p.s) := blk_cell HK.out.b0 1
  have b2 : W0.cell? ⟨S, 2, none⟩ = some (.int .i64 p.l) := blk_cell HK.out.b0 2
  have b3 : W0.cell? ⟨S, 3, none⟩ = some (.int .i64 p.p) := blk_cell HK.out.b0 3
  have b4 : W0.cell? ⟨S, 4, none⟩ = some (.int .i64 p.c) := blk_cell HK.out.b0 4
  obtain ⟨t0, ht0⟩ : ∃ t, t = lineP p ++ [10] := ⟨_, rfl⟩
  rw [← ht0] at HPC
  have HT0 := Lib.hid ht0
  have htl : t0.length ≤ 60 := by rw [ht0, List.length_append]; have := HPL.out; simp; omega
  clear ht0
  go_enter Tryd.func15, Tryd.ntmps15
  go_upto_region 1 with fail
  rw [HB.out, HW.out]
  clear HB HW
  go_wp2_with fail
  refine HPC.mono ?_
  rintro e w1 ⟨rfl, hb1⟩
  have HK1 := Lib.hid (HK.out.step hb1)
  clear b0 b1 b2 b3 b4 hb1 HPC
  have b5 : w1.cell? ⟨S, 5, none⟩ = some (.slice a ne cap) := blk_cell HK1.out.b0 5
  obtain ⟨v0, w2, g0, c0, hrun, ho0, hb2⟩ := OutB.conv w.heap.size w1 t0 HK1.out.below.size (by omega)
  have hf0 := ho0.form
  subst hf0
  have b52 : w2.cell? ⟨S, 5, none⟩ = some (.slice a ne cap) := by
    exact blk_cell (HK1.out.step hb2).b0 5
  have HO0 : Hid (OutT w (.slice (some ⟨g0, 0, none⟩) t0.length c0) t0 w2) := ⟨HK1.out.below.trans (hb2.mono HK1.out.below.size), g0, c0, ho0⟩
  clear ho0 hb2 htl
  generalize t0.length = n0 at *
  go_wp2_with fail
  go_loopg [3, 5, 13] ne (fun g ov xv kv wr => ∃ (k : Nat) (oa : Option Addr) (on oc : Nat), g = ne - k ∧ k ≤ ne ∧ ov = .slice oa on oc ∧ kv = .int .i64 k ∧ Hid (OutT w (.slice oa on oc) (lineP p ++ 10 :: (evs.take k).flatMap fun x => lineE x ++ [10]) wr))
  case atStart => exact ⟨0, _, _, _, rfl, by omega, rfl, rfl, by
    have e : lineP p ++ 10 :: (evs.take 0).flatMap (fun x => lineE x ++ [10]) = t0 := by rw [HT0.out]; rfl
    rw [e]; exact HO0.out⟩
  case round =>
    clear b5 b52
    obtain ⟨k, oa, on, oc, rfl, hk, rfl, rfl, HJ⟩ := hrel
    by_cases hlt : k < ne
    · have hkl : k < evs.length := by rw [← HNE.out]; exact hlt
      obtain ⟨x, hx⟩ : ∃ x, evs[k]? = some x := ⟨evs[k], List.getElem?_eq_getElem hkl⟩
      have HX := Lib.hid hx
      have HXS := Lib.hid (HEV.out x (List.mem_of_getElem? hx))
      have HTK : Hid (lineP p ++ 10 :: (evs.take (k + 1)).flatMap (fun x => lineE x ++ [10]) = (lineP p ++ 10 :: (evs.take k).flatMap fun x => lineE x ++ [10]) ++ (lineE x ++ [10])) := textS_take (s := ⟨p, evs⟩) hx
      obtain ⟨bs, off, cap', vb, vk, e1, e2, e3, e4, q0, q1, q2, q3, q4, hb, hk'⟩ := HV.out.at hx
      rw [← HJ.out.1.cell (p := ⟨bs, _, none⟩) e4] at q0 q1 q2 q3 q4
      rw [← HNE.out] at e1 e2
      injection e1 with x1 x2 x3
      subst x1 x3
      obtain ⟨ab, cb, rfl, hmb⟩ := hb.form
      obtain ⟨ak, ck, rfl, hmk⟩ := hk'.form
      have HLN : Hid ((lineE x ++ [10]).length ≤ 8300) := lineE_len2 HXS.out.1 HXS.out.2.1 HXS.out.2.2.1 HXS.out.2.2.2.1 HXS.out.2.2.2.2
      have HEA : Hid (∀ W, Below w.heap.size w W → Calls Tryd.prog 37 #[.agg #[.int .i64 x.kind, .int .i64 x.conn, .int .i64 x.n, .slice ab x.bytes.length cb, .slice ak x.keep.length ck]] W fun e w' => e = .returned (.string ⟨(lineE x ++ [10]).toArray⟩) ∧ Below W.heap.size W w') := fun W hW =>
        line37 W _ x ⟨_, _, rfl, hb.below hW (Nat.le_refl _), hk'.below hW (Nat.le_refl _)⟩ HXS.out.1 HXS.out.2.1 HXS.out.2.2.1 HXS.out.2.2.2.1 HXS.out.2.2.2.2
      clear hx hb hk' x2 e4 hmb hmk
      unfold maxLen at e3
      obtain ⟨X, W6, HXE, HW6, HK6, HZ6⟩ := boxed1 wr #[.int .i64 x.kind, .int .i64 x.conn, .int .i64 x.n, .slice ab x.bytes.length cb, .slice ak x.keep.length ck] 41
      obtain ⟨lt, hlt9⟩ : ∃ lt, lt = lineE x ++ [10] := ⟨_, rfl⟩
      rw [← hlt9] at HTK HLN HEA
      clear hlt9
      generalize hnb : x.bytes.length = nb at *
      generalize hnk : x.keep.length = nk at *
      have HJ6 := Lib.hid (HJ.out.step HK6.out.below)
      have HTL : Hid ((lineP p ++ 10 :: (evs.take k).flatMap fun x => lineE x ++ [10]).length ≤ 2000000) := by
        show _ ≤ _
        have h1 := lines_len (evs.take k) (fun y hy => by
          have h := HEV.out y (List.mem_of_mem_take hy)
          exact lineE_len2 h.1 h.2.1 h.2.2.1 h.2.2.2.1 h.2.2.2.2)
        rw [List.length_take] at h1
        rw [List.length_append, List.length_cons]
        have := HPL.out
        have := HNE.out
        omega
      have HC := HEA.out W6 HJ6.out.1
      generalize (lineP p ++ 10 :: (evs.take k).flatMap fun x => lineE x ++ [10]) = T at *
      clear hnb hnk HEA HXS HX
      obtain ⟨kind, conn, n, bytes, keep⟩ := x
      dsimp only at q0 q1 q2 q3 q4 HW6 HK6 HC
      have x0 : W6.cell? ⟨X, 0, none⟩ = some (.int .i64 kind) := blk_cell HK6.out.b0 0
      have x1 : W6.cell? ⟨X, 1, none⟩ = some (.int .i64 conn) := blk_cell HK6.out.b0 1
      have x2 : W6.cell? ⟨X, 2, none⟩ = some (.int .i64 n) := blk_cell HK6.out.b0 2
      have x3 : W6.cell? ⟨X, 3, none⟩ = some (.slice ab nb cb) := blk_cell HK6.out.b0 3
      have x4 : W6.cell? ⟨X, 4, none⟩ = some (.slice ak nk ck) := blk_cell HK6.out.b0 4
      go_upto_region 5 with fail
      rw [HW6.out, HXE.out]
      clear q0 q1 q2 q3 q4 HW6 HXE
      go_wp2_with fail
      refine HC.mono ?_
      rintro e w9 ⟨rfl, hb9⟩
      obtain ⟨g', n', c', w10, hrun, ho10⟩ := (HJ6.out.step hb9).app lt (by have := HTL.out; have := HLN.out; omega)
      have HRUN := Lib.hid hrun
      have HO10 := Lib.hid ho10
      clear hrun ho10 hb9 HC x0 x1 x2 x3 x4
      go_wp2_with (refine wpList_append_str rfl _ _ 38 9 rfl (by first | rfl | simp [go_sem]) (by first | rfl | simp [go_sem]) HRUN.out ?_)
      go_roundg (ne - (k + 1))
      case measure => omega
      case rel => exact ⟨k + 1, _, _, _, rfl, by omega, rfl, by go_num, by rw [HTK.out]; exact HO10.out⟩
    · obtain rfl : k = ne := by omega
      have HTE : Hid (lineP p ++ 10 :: (evs.take k).flatMap (fun x => lineE x ++ [10]) = rt) := by
        show _ = _
        rw [HRT.out, HNE.out, List.take_length]; rfl
      rw [HTE.out] at HJ
      obtain ⟨hJB, g, cap9, hJ9⟩ := HJ.out
      have hc := convert_sl (P := Tryd.prog) 38 5 Tryd.underlying38 Tryd.underlying5 (w := wr) (v := .slice oa on oc) (bs := rt) hJ9.isSl 9 Tryd.underlying9
      have HJB := Lib.hid hJB
      clear hJB hJ9
      go_wp2_with fail
      go_ret
      exact ⟨rfl, HJB.out⟩
end Go.Proofs.YtelaijogjgcloaaDoor
