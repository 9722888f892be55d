/- script.raw: bytes' digits. Condition: the bytes lie in memory, not more than a million. -/
import Derived.Test.YtelaijogjgcloaaDoorKpt
set_option linter.unusedVariables false
set_option linter.unusedSimpArgs false
namespace Go.Proofs.YtelaijogjgcloaaDoor
open Go.RowKit Go.Ice Go.Scr

def rawD (x : UInt8) : List UInt8 := [hexD (x.toNat / 16), hexD (x.toNat % 16)]
theorem rawD_take {l : List UInt8} {k : Nat} {x : UInt8} (hx : l[k]? = some x) : (l.take (k + 1)).flatMap rawD = (l.take k).flatMap rawD ++ rawD x := by
  rw [List.take_add_one, hx]; simp
theorem rawD_len (l : List UInt8) : (l.flatMap rawD).length = 2 * l.length := by
  induction l with
  | nil => rfl
  | cons x l ih => simp [rawD, ih]; omega
/-- The digit of a number below sixteen, as the program finds it. -/
theorem hex_at : ∀ i, i < 16 → (#[48, 49, 50, 51, 52, 53, 54, 55, 56, 57, 97, 98, 99, 100, 101, 102] : Array UInt8)[i]? = some (hexD i) := by decide

theorem hex_run (W : World) (z : Int) (i : Nat) (hz : z = (i : Int)) (hi : i < 16) :
    ((if h : 0 ≤ z ∧ z < 16 then
          Result.ok (Value.int IntKind.u8 (((({ data := #[48, 49, 50, 51, 52, 53, 54, 55, 56, 57, 97, 98, 99, 100, 101, 102] } : ByteArray)[z.toNat]'(by have h1 := h.2; show z.toNat < 16; omega)).toNat : Nat) : Int)) W
        else Sem.run Tryd.prog (boundsPanic IntKind.u8 z 16 BoundsCode.index) W).andThen
      fun a w' => Result.ok (Next.value a) w') = Result.ok (Next.value (Value.int IntKind.u8 ((hexD i).toNat : Int))) W := by
  subst hz
  rw [dif_pos ⟨by omega, by omega⟩]
  obtain rfl | rfl | rfl | rfl | rfl | rfl | rfl | rfl | rfl | rfl | rfl | rfl | rfl | rfl | rfl | rfl : i = 0 ∨ i = 1 ∨ i = 2 ∨ i = 3 ∨ i = 4 ∨ i = 5 ∨ i = 6 ∨ i = 7 ∨ i = 8 ∨ i = 9 ∨ i = 10 ∨ i = 11 ∨ i = 12 ∨ i = 13 ∨ i = 14 ∨ i = 15 := by omega
  all_goals rfl
theorem low4 (x : UInt8) : bits BinOp.and IntKind.u8 (x.toNat : Int) 15 = (x.toNat : Int) % 16 := by
  have h : ∀ n, n < 256 → bits BinOp.and IntKind.u8 ((n : Nat) : Int) 15 = (n : Int) % 16 := by decide +kernel
  exact h _ x.toNat_lt

/-- While a byte's two digits are written behind the others. -/
structure RawI (w : World) (G k : Nat) (l : List UInt8) (xb : UInt8) (oa : Option Addr) (oc P : Nat) (v8 : Value) (done : Nat → Bool) (W : World) : Prop where
  bel : Below w.heap.size w W
  o : done 8 = false → W.ownsRow G 5 1 (.slice oa (2 * k) oc) (2 * k) (((l.take k).flatMap rawD).map u8v)
  s : done 7 = true → done 8 = false → IsSlK W 1 2 (.slice (some ⟨P, 0, none⟩) 2 2) ((rawD xb).map u8v)
  o8 : done 8 = true → W.ownsRow G 5 1 v8 (2 * k + 2) (((l.take k).flatMap rawD ++ rawD xb).map u8v)
theorem RawI.quiet {w : World} {G k : Nat} {l : List UInt8} {xb : UInt8} {oa : Option Addr} {oc P : Nat} {v8 : Value} {done : Nat → Bool} {W : World} (h : RawI w G k l xb oa oc P v8 done W) (j : Nat) (hj : j ≠ 7 ∧ j ≠ 8) : RawI w G k l xb oa oc P v8 (fun k => decide (k = j) || done k) W := by
  obtain ⟨a, b⟩ := hj
  refine ⟨h.bel, ?_, ?_, ?_⟩ <;> simp only [decide_eq_false (Ne.symm a), decide_eq_false (Ne.symm b), Bool.false_or]
  · exact h.o
  · exact h.s
  · exact h.o8
theorem RawI.built {w : World} {G k : Nat} {l : List UInt8} {xb : UInt8} {oa : Option Addr} {oc P : Nat} {v8 : Value} {done : Nat → Bool} {W : World} (h : RawI w G k l xb oa oc P v8 done W) (q8 : done 8 = false) :
    RawI w G k l xb oa oc W.heap.size v8 (fun k => decide (k = 7) || done k) (W.alloc (.cells #[.int .u8 ((hexD (xb.toNat / 16)).toNat : Int), .int .u8 ((hexD (xb.toNat % 16)).toNat : Int)] 5)) := by
  have hk : Kp W [(W.heap.size, .cells #[.int .u8 ((hexD (xb.toNat / 16)).toNat : Int), .int .u8 ((hexD (xb.toNat % 16)).toNat : Int)] 5)] _ := (Kp.nil W).alloc _
  refine ⟨h.bel.alloc h.bel.size _, fun e => (h.o q8).alloc _, fun _ _ => ?_, fun e => by simp [q8] at e⟩
  refine ⟨rfl, .inr ⟨by decide, W.heap.size, 0, 2, rfl, Nat.le_refl _, by decide, blk_lt hk.b0, fun j hj => ?_⟩⟩
  rw [Nat.zero_add, blk_cell hk.b0]
  have : j = 0 ∨ j = 1 := by simp [rawD] at hj; omega
  rcases this with rfl | rfl <;> rfl
theorem RawI.appended {w : World} {G k : Nat} {l : List UInt8} {xb : UInt8} {oa : Option Addr} {oc P : Nat} {v8 : Value} {done : Nat → Bool} {W : World} (h : RawI w G k l xb oa oc P v8 done W) (hb : 2 * k + 2 ≤ 3000000) (hG : G = w.heap.size) (hd : done 8 = false) (p7 : done 7 = true) :
    ∃ v' w', (Builtin.append_ #[38, 38] 38 #[.slice oa (2 * k) oc, .slice (some ⟨P, 0, none⟩) 2 2]).run Tryd.prog W = .ok v' w' ∧ RawI w G k l xb oa oc P v' (fun k => decide (k = 8) || done k) w' := by
  subst hG
  obtain ⟨v', w', hr, ho, hg, _⟩ := app_at (P := Tryd.prog) (ty := 38) elemByte (h.o hd) (h.s p7 hd) (fun u hu => by
    obtain ⟨y, _, rfl⟩ := List.mem_map.1 hu
    rfl) (by omega) (by unfold maxLen; omega) h.bel.size
  refine ⟨v', w', hr, h.bel.grown hg h.bel.size (fun k hk => ((h.o hd).lt k hk).1), fun e => by simp at e, fun _ e => by simp at e, fun _ => ?_⟩
  rw [List.map_append]
  exact ho
theorem RawI.done {w : World} {G k : Nat} {l : List UInt8} {xb : UInt8} {oa : Option Addr} {oc P : Nat} {v8 : Value} {done : Nat → Bool} {W : World} (h : RawI w G k l xb oa oc P v8 done W) (e : done 8 = true) : Below w.heap.size w W ∧ W.ownsRow G 5 1 v8 (2 * k + 2) (((l.take k).flatMap rawD ++ rawD xb).map u8v) := ⟨h.bel, h.o8 e⟩

set_option maxHeartbeats 8000000 in
set_option maxRecDepth 20000 in
theorem raw24 (w : World) (v : Value) (l : List UInt8) (hl : BytesAt w v l) (hm : l.length ≤ 1000000) :
    Calls Tryd.prog 24 #[v] w fun e w' => e = .returned (.string ⟨(rawT l).toArray⟩) ∧ Below w.heap.size w w' := by
  obtain ⟨i0, hi0, hz0, hz1, hz2⟩ := elemByte.hi
  have HL := Lib.hid hl
  obtain ⟨a, ca, rfl, hma⟩ := hl.form
  obtain ⟨tt, htt⟩ : ∃ tt, tt = rawT l := ⟨_, rfl⟩
  rw [← htt]
  have HT := Lib.hid htt
  clear hl hma htt
  cases hll : l with
  | nil =>
    have HX : Hid (tt = [45]) := by show _ = _; rw [HT.out, hll]; rfl
    clear hll HL HT
    dsimp only [List.length_nil]
    go_enter Tryd.func24, Tryd.ntmps24
    go_wp2_with fail
    go_ret
    exact ⟨by rw [HX.out]; rfl, Below.refl _ _⟩
  | cons x0 l0 =>
    rw [← hll]
    have HX : Hid (tt = l.flatMap rawD) := by
      show _ = _
      rw [HT.out]; unfold rawT; rw [if_neg (by rw [hll]; simp)]; rfl
    have hn0 : 0 < l.length := by rw [hll]; simp
    clear hll
    obtain ⟨n, hn⟩ : ∃ n, n = l.length := ⟨_, rfl⟩
    rw [← hn] at hm hn0 ⊢
    have HN := Lib.hid hn
    clear hn
    have hne : ((n : Int) == 0) = false := by simp; omega
    obtain ⟨w', hrun, ho, hg⟩ := run_make_own (P := Tryd.prog) w (w.heap.size) 38 5 i0 (.int .u8 0) 1 Tryd.underlying38 hi0 hz0 hz1 .i64 .i64 (2 * n) (by rw [hz2]; omega) (by unfold maxLen; omega) (Nat.le_refl _)
    have hw2 : IntKind.i64.wrap (2 * (n : Int)) = ((2 * n : Nat) : Int) := by rw [IntKind.wrap_i64]; omega
    have HRUN := Lib.hid hrun
    have HBW : Hid (Below w.heap.size w w') := (Below.refl _ w).grown hg (Nat.le_refl _) (fun k hk => by cases hk)
    have HO : Hid (w'.ownsRow w.heap.size 5 1 (.slice (some ⟨w.heap.size, 0, none⟩) 0 (2 * n)) 0 (((l.take 0).flatMap rawD).map u8v)) := ho
    clear hrun ho hg
    obtain ⟨G, hG⟩ : ∃ G, G = w.heap.size := ⟨_, rfl⟩
    rw [← hG] at HRUN HO
    have HG := Lib.hid hG
    clear hG
    go_enter Tryd.func24, Tryd.ntmps24
    go_upto_region 3 with fail
    go_wp2_with (refine wpList_make_eq rfl _ _ _ rfl rfl (by first | rfl | (simp [go_sem]; exact hw2)) HRUN.out ?_)
    go_loopg [3, 5, 15] n (fun g ov xv kv wr => ∃ k : Nat, g = n - k ∧ k ≤ n ∧ kv = .int .i64 k ∧ Hid (Below w.heap.size w wr ∧ wr.ownsRow G 5 1 ov (2 * k) (((l.take k).flatMap rawD).map u8v)))
    case atStart => exact ⟨0, rfl, by omega, rfl, HBW.out, HO.out⟩
    case round =>
      obtain ⟨k, rfl, hk, rfl, HJ⟩ := hrel
      by_cases hlt : k < n
      · obtain ⟨bs, off, cap, e1, h1, h2, h3, h4⟩ := HL.out.at (by have := HN.out; omega)
        have q0 := h4 k (by have := HN.out; omega)
        rw [← HJ.out.1.cell (p := ⟨bs, _, none⟩) h3] at q0
        rw [← HN.out] at e1 h1
        injection e1 with x1 x2 x3
        subst x1 x3
        unfold maxLen at h2
        have hkl : k < l.length := by rw [← HN.out]; exact hlt
        have hgx : l[k]? = some (l.getD k 0) := by rw [List.getD_eq_getElem?_getD, List.getElem?_eq_getElem hkl]; rfl
        have HGX := Lib.hid hgx
        obtain ⟨xb, hxb⟩ : ∃ s, s = l.getD k 0 := ⟨_, rfl⟩
        rw [← hxb] at q0 HGX
        clear h4 x2 hgx hkl hxb h3
        have HJB : Hid (Below w.heap.size w wr) := HJ.out.1
        obtain ⟨oa, oc, rfl, hmo⟩ := own_form HJ.out.2
        have HJO : Hid (wr.ownsRow G 5 1 (.slice oa (2 * k) oc) (2 * k) (((l.take k).flatMap rawD).map u8v)) := HJ.out.2
        have HBD : Hid (2 * k + 2 ≤ 3000000) := by show _ ≤ _; omega
        clear hmo
        go_upto_region 7 with fail
        have hlt8 := xb.toNat_lt
        have hx4 : Hid (bits BinOp.and IntKind.u8 (xb.toNat : Int) 15 = (xb.toNat : Int) % 16) := low4 xb
        -- REGION
        refine wp_region_inv2 (by kernel_rfl) (hord_of2 (by kernel_rfl)) (fun done ac W => ∃ (P : Nat) (v8 : Value), ac = { tmps := #[.slice (some ⟨bs, off, none⟩) n ca, undef, .string ⟨#[]⟩, if done 9 then v8 else .slice oa (2 * k) oc, undef, .int .u8 (xb.toNat : Nat), .slice (some ⟨bs, off, none⟩) n ca, .int .i64 (n : Nat), .bool false, .slice (some ⟨bs, off, none⟩) n ca, .int .i64 (n : Nat), .int .i64 (2 * (n : Nat)), .slice (some ⟨G, 0, none⟩) 0 (2 * n), .slice (some ⟨bs, off, none⟩) n ca, .int .i64 (n : Nat), .int .i64 (k : Nat), .bool true, .pointer (some ⟨bs, off + k, none⟩), .int .u8 (xb.toNat : Nat), if done 0 then (.slice oa (2 * k) oc) else u19, if done 1 then (.int .u8 (xb.toNat : Nat)) else u20, if done 2 then (.int .u8 ((xb.toNat / 16 : Nat) : Int)) else u21, if done 3 then (.int .u8 ((hexD (xb.toNat / 16)).toNat : Int)) else u22, if done 4 then (.int .u8 (xb.toNat : Nat)) else u23, if done 5 then (.int .u8 ((xb.toNat % 16 : Nat) : Int)) else u24, if done 6 then (.int .u8 ((hexD (xb.toNat % 16)).toNat : Int)) else u25, if done 7 then (.slice (some ⟨P, 0, none⟩) 2 2) else u26, if done 8 then v8 else u27, u28, undef, undef], defers := [] } ∧ RawI w G k l xb oa oc P v8 done W) ?_ ?_ ?_
        · exact ⟨0, undef, by simp, ⟨HJB.out.drew, fun _ => own_below HJO.out (drewN_below wr 1), (fun e => by cases e), (fun e => by cases e)⟩⟩
        · intro done ac W j oq ho hd hdep hcl ⟨P, v8, hlit, hI⟩
          have hj : j < 10 := (Array.getElem?_eq_some_iff.1 ho).1
          subst hlit
          obtain rfl | rfl | rfl | rfl | rfl | rfl | rfl | rfl | rfl | rfl : j = 0 ∨ j = 1 ∨ j = 2 ∨ j = 3 ∨ j = 4 ∨ j = 5 ∨ j = 6 ∨ j = 7 ∨ j = 8 ∨ j = 9 := by omega
          · have q9 : done 9 = false := by
              cases h : done 9 with
              | false => rfl
              | true =>
                have h0 := hcl 9 _ rfl h ⟨0, .phase⟩ (by simp) rfl
                rw [hd] at h0; cases h0
            refine wpOp_val ho (by cases ho; rfl) (w' := W) (v := (.slice oa (2 * k) oc)) (by cases ho; simp [execOp, go_sem, q9]) ?_
            cases ho
            exact ⟨P, v8, by simp [Act.put], hI.quiet 0 (by decide)⟩
          · refine wpOp_val ho (by cases ho; rfl) (w' := W) (v := (.int .u8 (xb.toNat : Nat))) (by cases ho; simp [execOp, go_sem]) ?_
            cases ho
            exact ⟨P, v8, by simp [Act.put], hI.quiet 1 (by decide)⟩
          · have p1 : done 1 = true := by cases ho; exact hdep ⟨1, .data⟩ (by simp) rfl
            refine wpOp_val ho (by cases ho; rfl) (w' := W) (v := (.int .u8 ((xb.toNat / 16 : Nat) : Int))) (by cases ho; simp [execOp, go_sem, p1]) ?_
            cases ho
            exact ⟨P, v8, by simp [Act.put], hI.quiet 2 (by decide)⟩
          · have p2 : done 2 = true := by cases ho; exact hdep ⟨2, .data⟩ (by simp) rfl
            refine wpOp_val ho (by cases ho; rfl) (w' := W) (v := (.int .u8 ((hexD (xb.toNat / 16)).toNat : Int))) (by cases ho; simp [execOp, go_sem, p2]; exact hex_run W _ _ (by omega) (by omega)) ?_
            cases ho
            exact ⟨P, v8, by simp [Act.put], hI.quiet 3 (by decide)⟩
          · refine wpOp_val ho (by cases ho; rfl) (w' := W) (v := (.int .u8 (xb.toNat : Nat))) (by cases ho; simp [execOp, go_sem]) ?_
            cases ho
            exact ⟨P, v8, by simp [Act.put], hI.quiet 4 (by decide)⟩
          · have p4 : done 4 = true := by cases ho; exact hdep ⟨4, .data⟩ (by simp) rfl
            refine wpOp_val ho (by cases ho; rfl) (w' := W) (v := (.int .u8 ((xb.toNat % 16 : Nat) : Int))) (by cases ho; simp [execOp, go_sem, p4, hx4.out]) ?_
            cases ho
            exact ⟨P, v8, by simp [Act.put], hI.quiet 5 (by decide)⟩
          · have p5 : done 5 = true := by cases ho; exact hdep ⟨5, .data⟩ (by simp) rfl
            refine wpOp_val ho (by cases ho; rfl) (w' := W) (v := (.int .u8 ((hexD (xb.toNat % 16)).toNat : Int))) (by cases ho; simp [execOp, go_sem, p5]; exact hex_run W _ _ (by omega) (by omega)) ?_
            cases ho
            exact ⟨P, v8, by simp [Act.put], hI.quiet 6 (by decide)⟩
          · have p3 : done 3 = true := by cases ho; exact hdep ⟨3, .data⟩ (by simp) rfl
            have p6 : done 6 = true := by cases ho; exact hdep ⟨6, .data⟩ (by simp) rfl
            have q8 : done 8 = false := by
              cases h : done 8 with
              | false => rfl
              | true =>
                have h0 := hcl 8 _ rfl h ⟨7, .data⟩ (by simp) rfl
                rw [hd] at h0; cases h0
            refine wpOp_val ho (by cases ho; rfl) (w' := W.alloc (.cells #[.int .u8 ((hexD (xb.toNat / 16)).toNat : Int), .int .u8 ((hexD (xb.toNat % 16)).toNat : Int)] 5)) (v := .slice (some ⟨W.heap.size, 0, none⟩) 2 2) (by cases ho; simp [execOp, go_sem, p3, p6]) ?_
            cases ho
            exact ⟨W.heap.size, v8, by simp [Act.put, q8], hI.built q8⟩
          · have p0 : done 0 = true := by cases ho; exact hdep ⟨0, .data⟩ (by simp) rfl
            have p7 : done 7 = true := by cases ho; exact hdep ⟨7, .data⟩ (by simp) rfl
            have p7 : done 7 = true := by cases ho; exact hdep ⟨7, .data⟩ (by simp) rfl
            obtain ⟨v', w', hr, hI'⟩ := hI.appended HBD.out HG.out hd p7
            refine wpOp_append ho (by cases ho; rfl) (.tmp 19) (.tmp 26) 38 (by cases ho; rfl) (v := .slice oa (2 * k) oc) (vx := .slice (some ⟨P, 0, none⟩) 2 2) (by simp [go_sem, p0, p7]) (by simp [go_sem, p0, p7]) (v' := v') (w' := w') (by cases ho; exact hr) ?_
            cases ho
            have q9 : done 9 = false := by
              cases h : done 9 with
              | false => rfl
              | true =>
                have h1 := hcl 9 _ rfl h ⟨8, .data⟩ (by simp) rfl
                rw [hd] at h1; cases h1
            exact ⟨P, v', by simp [Act.put, q9], hI'⟩
          · have p8 : done 8 = true := by cases ho; exact hdep ⟨8, .data⟩ (by simp) rfl
            refine wpOp_val ho (by cases ho; rfl) (w' := W) (v := v8) (by cases ho; simp [execOp, go_sem, p8]) ?_
            cases ho
            exact ⟨P, v8, by simp [Act.put], hI.quiet 9 (by decide)⟩
        · rintro done ac W hall ⟨P, v8, rfl, hI⟩
          have hl := hall
          clear hall
          have e0 := hl 0 (by decide)
          have e1 := hl 1 (by decide)
          have e2 := hl 2 (by decide)
          have e3 := hl 3 (by decide)
          have e4 := hl 4 (by decide)
          have e5 := hl 5 (by decide)
          have e6 := hl 6 (by decide)
          have e7 := hl 7 (by decide)
          have e8 := hl 8 (by decide)
          have e9 := hl 9 (by decide)
          obtain ⟨hIb, hIo⟩ := hI.done e8
          have HIB := Lib.hid hIb
          have HIO := Lib.hid hIo
          simp only [e0, e1, e2, e3, e4, e5, e6, e7, e8, e9, if_true]
          clear e0 e1 e2 e3 e4 e5 e6 e7 e8 e9 hl hI hIb hIo
          go_wp2_with fail
          go_roundg (n - (k + 1))
          case measure => omega
          case rel => exact ⟨k + 1, rfl, by omega, by go_num, HIB.out, by
            have h := HIO.out
            rw [← rawD_take HGX.out] at h
            exact h⟩
        -- END
      · obtain rfl : k = n := by omega
        obtain ⟨oa, oc, rfl, hmo⟩ := own_form HJ.out.2
        have hc := convert_sl (P := Tryd.prog) 38 5 Tryd.underlying38 Tryd.underlying5 (w := wr) (v := .slice oa (2 * k) oc) (bs := tt) (by
          have h := own_isSl HJ.out.2
          have e : (l.take k).flatMap rawD = tt := by rw [HX.out, HN.out, List.take_length]
          rw [e] at h
          exact h) 9 Tryd.underlying9
        have HJB : Hid (Below w.heap.size w wr) := HJ.out.1
        go_wp2_with fail
        go_ret
        exact ⟨rfl, HJB.out⟩
end Go.Proofs.YtelaijogjgcloaaDoor
