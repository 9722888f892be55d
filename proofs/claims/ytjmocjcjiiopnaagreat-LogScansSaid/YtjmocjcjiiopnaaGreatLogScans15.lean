/- The superblocks' store: Set, where it only counts up. Conditions: what is known may be; not much is pending. Plain: a disk on which nothing fails. No condition. -/
import Derived.Test.YtjmocjcjiiopnaaGreatLogScans14
import Derived.Test.YtjmocjcjiiopnaaGreatLogScans08

section
set_option linter.unusedVariables false
set_option linter.unusedSimpArgs false
namespace Go.Ice
open Go.RowKit
section
variable {Θ : Type} {P : Program} {ops : Array Oper} {Q : Exit → Act → World → Prop} {i : Nat} {o : Oper} {b : Act} {W W' : World} {tbl : Θ → List (Nat × Nat × Value)} {J : Θ → World → Prop} {θ : Θ} {done : Nat → Bool}
/-- A new variable whose run is known. -/
theorem allocG {v : Value} (θ' : Θ) (t : TypeId) (ho : ops[i]? = some o) (hg : Region.wanted o (yielded ops b.tmps) = true) (hop : o.op = .alloc t) (hrun : (Instr.alloc t true (.tuple #[])).run P W = .ok v W') (hm : ∀ d, o.dst = some d → (i, d, v) ∈ tbl θ') (hag : θ' = θ ∨ Agree done (tbl θ) (tbl θ')) (hJ : J θ' W') :
    wpOp P ops Q i (fun a' W' => ∃ v θ', a' = b.put o.dst v ∧ (∀ d, o.dst = some d → (i, d, v) ∈ tbl θ') ∧ (θ' = θ ∨ Agree done (tbl θ) (tbl θ')) ∧ J θ' W') b W :=
  valGG θ' v ho hg (by unfold execOp; simp only [hop, Sem.run_bind]; rw [hrun]; rfl) hm hag hJ
end
end Go.Ice
namespace Go.Oct
open Go.Dsk
/-- What becomes of a disk on which something else is said. -/
def setF (D : Dk) (x : Sp) (t : Nat) : Dk × Nat := if (D.write (((t + 1) % 2 : Nat) : Int) (supB x (t + 1))).2 ≠ 0 then D.write (((t + 1) % 2 : Nat) : Int) (supB x (t + 1)) else (D.write (((t + 1) % 2 : Nat) : Int) (supB x (t + 1))).1.sync
end Go.Oct
namespace Go.Proofs.YtjmocjcjiiopnaaGreat
open Go.RowKit Go.Ice Go.Oct Go.Dsk
theorem allocB_run (W : World) : (Instr.alloc 38 true (.tuple #[])).run Tryz.prog W = .ok (.pointer (some ⟨W.heap.size, 0, none⟩)) (W.alloc (.cells zL64.toArray 38)) := by kernel_rfl
/-- What Set leaves. -/
def setQ (s p : Nat) (x0 x : Sp) (t : Nat) (r : Dk × Nat) (v : Value) (L : List Asn) : Prop := v = .int .i64 r.2 ∧ L = [blkA s (if r.2 = 0 then stoC x (t + 1) p else stoC x0 t p) 102, dskA p r.1]
theorem setQ.err {s p : Nat} {x0 x : Sp} {t : Nat} {r : Dk × Nat} {D : Dk} {e : Nat} (h : r = (D, e)) (he : e ≠ 0) : setQ s p x0 x t r (.int .i64 e) [blkA s (stoC x0 t p) 102, dskA p D] := by
  subst h; unfold setQ; rw [if_neg he]; exact ⟨rfl, rfl⟩
theorem setQ.good {s p : Nat} {x0 x : Sp} {t : Nat} {r : Dk × Nat} {D : Dk} (h : r = (D, 0)) : setQ s p x0 x t r (.int .i64 0) [blkA s (stoC x (t + 1) p) 102, dskA p D] := by
  subst h; unfold setQ; rw [if_pos rfl]; exact ⟨rfl, rfl⟩
set_option maxHeartbeats 16000000 in
set_option maxRecDepth 100000 in
theorem sset (s p : Nat) (D : Dk) (x0 x : Sp) (t : Nat) (hpl : D.pend.length < 999990) (hx : x.fits) (hm : x.may = true) (ht : t < 18446744073709551615) (h1 : x.seg = x0.seg) (h2 : x.sec = x0.sec) (h3 : x0.gen ≤ x.gen) (h4 : x0.ret ≤ x.ret) (h5 : x0.resv ≤ x.resv) (h6 : x0.flush ≤ x.flush) :
    Meets Tryz.prog 69 #[.pointer (some ⟨s, 0, none⟩), supV x] [blkA s (stoC x0 t p) 102, dskA p D] [] fun v L => setQ s p x0 x t (setF D x t) v L := by
  intro w B H
  have HSE := sencode x hx (t + 1) (by omega)
  have HSL := supB_len x (t + 1)
  unfold supE at HSE
  rw [hm, if_pos rfl] at HSE
  have hro : setF D x t = if (D.write (((t + 1) % 2 : Nat) : Int) (supB x (t + 1))).2 ≠ 0 then D.write (((t + 1) % 2 : Nat) : Int) (supB x (t + 1)) else (D.write (((t + 1) % 2 : Nat) : Int) (supB x (t + 1))).1.sync := rfl
  obtain ⟨r, hr⟩ : ∃ r, r = setF D x t := ⟨_, rfl⟩
  rw [← hr] at hro ⊢
  clear hr hm hx
  generalize supB x (t + 1) = sb at *
  obtain ⟨sg, sc, g0, r0, v0, f0⟩ := x0
  obtain ⟨sg', sc', g, rt, v, f⟩ := x
  dsimp only at h1 h2 h3 h4 h5 h6
  subst h1 h2
  obtain ⟨t1, ht1⟩ : ∃ t1, t1 = t + 1 := ⟨_, rfl⟩
  obtain ⟨k, hk⟩ : ∃ k, k = (t + 1) % 2 := ⟨_, rfl⟩
  have hk2 : k < 2 := by omega
  have HW1 := write p D (k : Int) sb HSL (by omega)
  have hkr : ((t1 : Nat) : Int).tmod 2 = (k : Int) := by rw [hk, ← ht1]; rfl
  have hwt : IntKind.u64.wrap ((t : Int) + 1) = (t1 : Int) := by rw [IntKind.wrap_u64]; omega
  rw [← hk] at hro
  rw [← ht1] at HSE
  generalize D.write (k : Int) sb = r1 at *
  obtain ⟨D1, e1⟩ := r1
  have HSY := sync p D1
  generalize D1.sync = r2 at *
  obtain ⟨D2, e2⟩ := r2
  dsimp only at hro HW1 HSY
  have HRO := Lib.hid hro
  have HT1 := Lib.hid ht1
  clear hro ht1 hk
  obtain ⟨fb, hfb⟩ : ∃ fb, fb = sb.map u8v := ⟨_, rfl⟩
  have hfbl : fb.length = 64 := by rw [hfb, List.length_map, HSL]
  have hfb1 : ∀ u ∈ fb, u.oneCell' = true := by rw [hfb]; exact u8v_one _
  unfold blkV at HSE HW1
  rw [← hfb] at HSE HW1
  unfold supV supC at HSE ⊢
  dsimp only at HSE ⊢
  clear hfb HSL
  have HSE := Lib.hid HSE
  have HW1 := Lib.hid HW1
  have HSY := Lib.hid HSY
  have H1 := H.alloc [.int .i64 sg', .int .i64 sc', .int .u64 g, .int .u64 rt, .int .u64 v, .int .u64 f] 51
  obtain ⟨xb, hxb⟩ : ∃ xb, xb = w.heap.size := ⟨_, rfl⟩
  rw [← hxb] at H1
  unfold stoC at H1
  dsimp only at H1
  go_enter Tryz.func69, Tryz.ntmps69
  go_upto_region 1 with fail
  rw [← hxb]
  have HXB := Lib.hid hxb
  clear hxb
  refine wp_world (fun W => St w B _ _ W) H1 ?_
  intro w1 H2
  clear H1
  go_upto_region 3 with fail
  refine wp_region_gh (Θ := Nat) (fun bb => [(0, 12, (.agg #[.int .i64 sg', .int .i64 sc', .int .u64 g, .int .u64 rt, .int .u64 v, .int .u64 f])), (1, 13, (.pointer (some ⟨s, 0, none⟩))), (2, 14, (.pointer (some ⟨s, 0, none⟩))), (3, 15, (.pointer (some ⟨s, 6, none⟩))), (4, 16, (.int .u64 t)), (5, 17, (.int .u64 t1)), (6, 18, (.tuple #[.agg fb.toArray, .int .i64 0])), (7, 11, (.tuple #[.agg fb.toArray, .int .i64 0])), (8, 19, (.agg fb.toArray)), (9, 20, (.int .i64 0)), (10, 5, (.pointer (some ⟨bb, 0, none⟩))), (12, 6, (.int .i64 0))]) (fun bb done WW => St w B (bif done 11 then [blkA bb fb 38, blkA xb [.int .i64 sg', .int .i64 sc', .int .u64 g, .int .u64 rt, .int .u64 v, .int .u64 f] 51, blkA s [.int .i64 sg', .int .i64 sc', .int .u64 g0, .int .u64 r0, .int .u64 v0, .int .u64 f0, .int .u64 t, .pointer (some ⟨p, 0, none⟩)] 102, dskA p D] else (bif done 10 then [blkA bb zL64 38, blkA xb [.int .i64 sg', .int .i64 sc', .int .u64 g, .int .u64 rt, .int .u64 v, .int .u64 f] 51, blkA s [.int .i64 sg', .int .i64 sc', .int .u64 g0, .int .u64 r0, .int .u64 v0, .int .u64 f0, .int .u64 t, .pointer (some ⟨p, 0, none⟩)] 102, dskA p D] else ([blkA xb [.int .i64 sg', .int .i64 sc', .int .u64 g, .int .u64 rt, .int .u64 v, .int .u64 f] 51, blkA s [.int .i64 sg', .int .i64 sc', .int .u64 g0, .int .u64 r0, .int .u64 v0, .int .u64 f0, .int .u64 t, .pointer (some ⟨p, 0, none⟩)] 102, dskA p D]))) [] WW) (by kernel_rfl) (hord_of2 (by kernel_rfl)) (fun _ => by kernel_rfl) (fun _ => by kernel_rfl) (fun _ => by kernel_rfl) ⟨0, H2.drew⟩ ?_ ?_
  · intro bb done zb WW j oq ho hd hdep hcl HA HJ
    have hj : j < 13 := (Array.getElem?_eq_some_iff.1 ho).1
    obtain rfl | rfl | rfl | rfl | rfl | rfl | rfl | rfl | rfl | rfl | rfl | rfl | rfl : j = 0 ∨ j = 1 ∨ j = 2 ∨ j = 3 ∨ j = 4 ∨ j = 5 ∨ j = 6 ∨ j = 7 ∨ j = 8 ∨ j = 9 ∨ j = 10 ∨ j = 11 ∨ j = 12 := by omega
    · have n6 : done 6 = false := by cases hx : done 6 with | false => rfl | true => have := hcl 6 _ rfl hx ⟨0, .data⟩ (by simp) rfl; rw [hd] at this; cases this
      have n7 : done 7 = false := by cases hx : done 7 with | false => rfl | true => have := hcl 7 _ rfl hx ⟨6, .data⟩ (by simp) rfl; rw [n6] at this; cases this
      have n8 : done 8 = false := by cases hx : done 8 with | false => rfl | true => have := hcl 8 _ rfl hx ⟨7, .data⟩ (by simp) rfl; rw [n7] at this; cases this
      have n11 : done 11 = false := by cases hx : done 11 with | false => rfl | true => have := hcl 11 _ rfl hx ⟨8, .data⟩ (by simp) rfl; rw [n8] at this; cases this
      have HRg : WW.rangeAt xb (0) ([.int .i64 sg', .int .i64 sc', .int .u64 g, .int .u64 rt, .int .u64 v, .int .u64 f]) := by
        have HQ := HJ
        cases g10 : done 10 <;> simp only [n11, g10, hd, cond_true, cond_false] at HQ <;> first | exact St.range HQ 0 | exact St.range HQ 1
      exact loadG (θ := bb) (v := (.agg #[.int .i64 sg', .int .i64 sc', .int .u64 g, .int .u64 rt, .int .u64 v, .int .u64 f])) _ ((.tmp 3)) ho (by cases ho; rfl) (by cases ho; rfl) (by simp [HA.ev, HA.tm, lookT, Act.eval]) (bigSup.load (rfl) HRg) (by cases ho; exact fun d hd => by cases hd; simp) HJ
    · exact valG (θ := bb) (.pointer (some ⟨s, 0, none⟩)) ho (by cases ho; rfl) (by cases ho; simp [execOp, go_sem, HA.tm, lookT]) (by cases ho; exact fun d hd => by cases hd; simp) HJ
    · have p1 : done 1 = true := by cases ho; exact hdep ⟨1, .data⟩ (by simp) rfl
      exact valG (θ := bb) (.pointer (some ⟨s, 0, none⟩)) ho (by cases ho; rfl) (by cases ho; simp [execOp, go_sem, HA.tm, lookT, p1]) (by cases ho; exact fun d hd => by cases hd; simp) HJ
    · have p2 : done 2 = true := by cases ho; exact hdep ⟨2, .data⟩ (by simp) rfl
      exact valG (θ := bb) (.pointer (some ⟨s, 6, none⟩)) ho (by cases ho; rfl) (by cases ho; simp [execOp, go_sem, HA.tm, lookT, p2]) (by cases ho; exact fun d hd => by cases hd; simp) HJ
    · have p3 : done 3 = true := by cases ho; exact hdep ⟨3, .data⟩ (by simp) rfl
      have n5 : done 5 = false := by cases hx : done 5 with | false => rfl | true => have := hcl 5 _ rfl hx ⟨4, .data⟩ (by simp) rfl; rw [hd] at this; cases this
      have n6 : done 6 = false := by cases hx : done 6 with | false => rfl | true => have := hcl 6 _ rfl hx ⟨5, .data⟩ (by simp) rfl; rw [n5] at this; cases this
      have n7 : done 7 = false := by cases hx : done 7 with | false => rfl | true => have := hcl 7 _ rfl hx ⟨6, .data⟩ (by simp) rfl; rw [n6] at this; cases this
      have n8 : done 8 = false := by cases hx : done 8 with | false => rfl | true => have := hcl 8 _ rfl hx ⟨7, .data⟩ (by simp) rfl; rw [n7] at this; cases this
      have n11 : done 11 = false := by cases hx : done 11 with | false => rfl | true => have := hcl 11 _ rfl hx ⟨8, .data⟩ (by simp) rfl; rw [n8] at this; cases this
      have hcl_ : ∀ k, WW.cell? ⟨s, k, none⟩ = ([.int .i64 sg', .int .i64 sc', .int .u64 g0, .int .u64 r0, .int .u64 v0, .int .u64 f0, .int .u64 t, .pointer (some ⟨p, 0, none⟩)])[k]? := by
        have HQ := HJ
        cases g10 : done 10 <;> simp only [n11, g10, hd, cond_true, cond_false] at HQ <;> first | exact (St.cells HQ 0).1 | exact (St.cells HQ 1).1 | exact (St.cells HQ 2).1 | exact (St.cells HQ 3).1 | exact (St.cells HQ 4).1 | exact (St.cells HQ 5).1 | exact (St.cells HQ 6).1 | exact (St.cells HQ 7).1
      exact valG (θ := bb) (.int .u64 t) ho (by cases ho; rfl) (by cases ho; simp [execOp, go_sem, HA.tm, lookT, p3, hcl_]) (by cases ho; exact fun d hd => by cases hd; simp) HJ
    · have p4 : done 4 = true := by cases ho; exact hdep ⟨4, .data⟩ (by simp) rfl
      exact valG (θ := bb) (.int .u64 t1) ho (by cases ho; rfl) (by cases ho; simp [execOp, go_sem, HA.tm, lookT, p4, hwt]) (by cases ho; exact fun d hd => by cases hd; simp) HJ
    · have p0 : done 0 = true := by cases ho; exact hdep ⟨0, .data⟩ (by simp) rfl
      have p5 : done 5 = true := by cases ho; exact hdep ⟨5, .data⟩ (by simp) rfl
      exact callG (θ := bb) (f := 76) (args := #[(.agg #[.int .i64 sg', .int .i64 sc', .int .u64 g, .int .u64 rt, .int .u64 v, .int .u64 f]), .int .u64 t1]) ho (by cases ho; rfl) (by cases ho; simp [execOp, go_sem, HA.tm, lookT, p0, p5]) (HSE.out.call (L := []) HJ (by simp)) (by
        rintro e w' ⟨_, _, rfl, ⟨rfl, rfl⟩, HS'⟩
        exact ⟨_, bb, rfl, by cases ho; exact fun d hd => by cases hd; simp, .inl rfl, HS'⟩)
    · have p6 : done 6 = true := by cases ho; exact hdep ⟨6, .data⟩ (by simp) rfl
      exact valG (θ := bb) (.tuple #[.agg fb.toArray, .int .i64 0]) ho (by cases ho; rfl) (by cases ho; simp [execOp, go_sem, HA.tm, lookT, p6]) (by cases ho; exact fun d hd => by cases hd; simp) HJ
    · have p7 : done 7 = true := by cases ho; exact hdep ⟨7, .data⟩ (by simp) rfl
      exact valG (θ := bb) (.agg fb.toArray) ho (by cases ho; rfl) (by cases ho; simp [execOp, go_sem, HA.tm, lookT, p7]) (by cases ho; exact fun d hd => by cases hd; simp) HJ
    · have p7 : done 7 = true := by cases ho; exact hdep ⟨7, .data⟩ (by simp) rfl
      exact valG (θ := bb) (.int .i64 0) ho (by cases ho; rfl) (by cases ho; simp [execOp, go_sem, HA.tm, lookT, p7]) (by cases ho; exact fun d hd => by cases hd; simp) HJ
    · have n11 : done 11 = false := by cases hx : done 11 with | false => rfl | true => have := hcl 11 _ rfl hx ⟨10, .data⟩ (by simp) rfl; rw [hd] at this; cases this
      have HS : St w B [blkA xb [.int .i64 sg', .int .i64 sc', .int .u64 g, .int .u64 rt, .int .u64 v, .int .u64 f] 51, blkA s [.int .i64 sg', .int .i64 sc', .int .u64 g0, .int .u64 r0, .int .u64 v0, .int .u64 f0, .int .u64 t, .pointer (some ⟨p, 0, none⟩)] 102, dskA p D] [] WW := St.cast (by simp only [n11, hd, cond_true, cond_false]) HJ
      exact allocG (θ := bb) WW.heap.size _ ho (by cases ho; rfl) (by cases ho; rfl) (allocB_run WW) (by cases ho; exact fun d hd => by cases hd; simp) (.inr (.cons (.inl rfl) (.cons (.inl rfl) (.cons (.inl rfl) (.cons (.inl rfl) (.cons (.inl rfl) (.cons (.inl rfl) (.cons (.inl rfl) (.cons (.inl rfl) (.cons (.inl rfl) (.cons (.inl rfl) (.cons (.inr ⟨rfl, hd⟩) (.cons (.inl rfl) (.nil)))))))))))))) (St.cast (by simp [n11, n11] <;> rfl) (HS.alloc _ _))
    · have p10 : done 10 = true := by cases ho; exact hdep ⟨10, .data⟩ (by simp) rfl
      have p8 : done 8 = true := by cases ho; exact hdep ⟨8, .data⟩ (by simp) rfl
      have HS : St w B [blkA bb zL64 38, blkA xb [.int .i64 sg', .int .i64 sc', .int .u64 g, .int .u64 rt, .int .u64 v, .int .u64 f] 51, blkA s [.int .i64 sg', .int .i64 sc', .int .u64 g0, .int .u64 r0, .int .u64 v0, .int .u64 f0, .int .u64 t, .pointer (some ⟨p, 0, none⟩)] 102, dskA p D] [] WW := St.cast (by simp only [p10, hd, cond_true, cond_false]) HJ
      exact storeG (θ := bb) _ ((.tmp 5)) ((.tmp 19)) ho (by cases ho; rfl) (by cases ho; rfl) (by cases ho; rfl) (by first | (simp [HA.ev, HA.tm, lookT, Act.eval, p8, p10]; done) | (simp [HA.ev, HA.tm, lookT, Act.eval, p8, p10]; rfl)) (by first | (simp [HA.ev, HA.tm, lookT, Act.eval, p8, p10]; done) | (simp [HA.ev, HA.tm, lookT, Act.eval, p8, p10]; rfl)) (bigBlock.store (hfbl) (St.there HS 0 64) (hfb1)) (St.cast (by simp [p10] <;> rfl) (St.setAllAt HS 0 rfl (by rw [hfbl]; rfl)))
    · have p9 : done 9 = true := by cases ho; exact hdep ⟨9, .data⟩ (by simp) rfl
      exact valG (θ := bb) (.int .i64 0) ho (by cases ho; rfl) (by cases ho; simp [execOp, go_sem, HA.tm, lookT, p9]) (by cases ho; exact fun d hd => by cases hd; simp) HJ
  · intro bb done WW hall HJ
    have z10 := hall 10 (by decide)
    have z11 := hall 11 (by decide)
    have HE : St w B [blkA bb fb 38, blkA xb [.int .i64 sg', .int .i64 sc', .int .u64 g, .int .u64 rt, .int .u64 v, .int .u64 f] 51, blkA s [.int .i64 sg', .int .i64 sc', .int .u64 g0, .int .u64 r0, .int .u64 v0, .int .u64 f0, .int .u64 t, .pointer (some ⟨p, 0, none⟩)] 102, dskA p D] [] WW := St.cast (by simp [z10, z11]) HJ
    clear HJ hall z10 z11
    simp only [putAll, Act.put, List.setIfInBounds_toArray, List.set_cons_succ, List.set_cons_zero]
    have H3 := HE
    clear HE H2
    obtain ⟨hc, hf⟩ := St.cells H3 1
    obtain ⟨hc2, hf2⟩ := St.cells H3 2
    go_upto_region 4 with fail
    go_quiet (fail)
    have H4 := H3.drewN nq
    generalize WW.drewN nq = w4 at *
    clear H3 hc hf hc2 hf2
    obtain ⟨hc, hf⟩ := St.cells H4 1
    obtain ⟨hc2, hf2⟩ := St.cells H4 2
    have i1 : decide ((g : Int) < (g0 : Int)) = false := by simp; omega
    have i2 : decide ((rt : Int) < (r0 : Int)) = false := by simp; omega
    have i3 : decide ((v : Int) < (v0 : Int)) = false := by simp; omega
    have i4 : decide ((f : Int) < (f0 : Int)) = false := by simp; omega
    have j1 : ¬ g < g0 := by omega
    have j2 : ¬ rt < r0 := by omega
    have j3 : ¬ v < v0 := by omega
    have j4 : ¬ f < f0 := by omega
    go_upto_region 6 with fail
    go_quiet (fail)
    have H6 := H4.drewN nq
    generalize w4.drewN nq = w6 at *
    clear H4 hc hf hc2 hf2 i1 i2 i3 i4 j1 j2 j3 j4
    have hkw : IntKind.i64.wrap (k : Int) = (k : Int) := by rw [IntKind.wrap_i64]; omega
    go_upto_region 8 with fail
    refine wp_region_gh (Θ := Unit) (fun _ => [(0, 83, (.pointer (some ⟨s, 0, none⟩))), (1, 84, (.pointer (some ⟨s, 0, none⟩))), (2, 85, (.pointer (some ⟨s, 7, none⟩))), (3, 86, (.pointer (some ⟨p, 0, none⟩))), (4, 87, (.pointer (some ⟨s, 0, none⟩))), (5, 88, (.pointer (some ⟨s, 0, none⟩))), (6, 89, (.pointer (some ⟨s, 6, none⟩))), (7, 90, (.int .u64 t)), (8, 91, (.int .u64 t1)), (9, 92, (.int .u64 (k : Int))), (10, 93, (.int .i64 (k : Int))), (11, 94, (.agg fb.toArray)), (12, 95, (.int .i64 (e1 : Int))), (13, 7, (.int .i64 (e1 : Int)))]) (fun _ done WW => St w B (bif done 12 then [dskA p D1, blkA bb fb 38, blkA xb [.int .i64 sg', .int .i64 sc', .int .u64 g, .int .u64 rt, .int .u64 v, .int .u64 f] 51, blkA s [.int .i64 sg', .int .i64 sc', .int .u64 g0, .int .u64 r0, .int .u64 v0, .int .u64 f0, .int .u64 t, .pointer (some ⟨p, 0, none⟩)] 102] else ([blkA bb fb 38, blkA xb [.int .i64 sg', .int .i64 sc', .int .u64 g, .int .u64 rt, .int .u64 v, .int .u64 f] 51, blkA s [.int .i64 sg', .int .i64 sc', .int .u64 g0, .int .u64 r0, .int .u64 v0, .int .u64 f0, .int .u64 t, .pointer (some ⟨p, 0, none⟩)] 102, dskA p D])) [] WW) (by kernel_rfl) (hord_of2 (by kernel_rfl)) (fun _ => by kernel_rfl) (fun _ => by kernel_rfl) (fun _ => by kernel_rfl) ⟨(), H6.drew⟩ ?_ ?_
    · intro _ done zb WW j oq ho hd hdep hcl HA HJ
      have hj : j < 14 := (Array.getElem?_eq_some_iff.1 ho).1
      obtain rfl | rfl | rfl | rfl | rfl | rfl | rfl | rfl | rfl | rfl | rfl | rfl | rfl | rfl : j = 0 ∨ j = 1 ∨ j = 2 ∨ j = 3 ∨ j = 4 ∨ j = 5 ∨ j = 6 ∨ j = 7 ∨ j = 8 ∨ j = 9 ∨ j = 10 ∨ j = 11 ∨ j = 12 ∨ j = 13 := by omega
      · exact valG (θ := _) (.pointer (some ⟨s, 0, none⟩)) ho (by cases ho; rfl) (by cases ho; simp [execOp, go_sem, HA.tm, lookT]) (by cases ho; exact fun d hd => by cases hd; simp) HJ
      · have p0 : done 0 = true := by cases ho; exact hdep ⟨0, .data⟩ (by simp) rfl
        exact valG (θ := _) (.pointer (some ⟨s, 0, none⟩)) ho (by cases ho; rfl) (by cases ho; simp [execOp, go_sem, HA.tm, lookT, p0]) (by cases ho; exact fun d hd => by cases hd; simp) HJ
      · have p1 : done 1 = true := by cases ho; exact hdep ⟨1, .data⟩ (by simp) rfl
        exact valG (θ := _) (.pointer (some ⟨s, 7, none⟩)) ho (by cases ho; rfl) (by cases ho; simp [execOp, go_sem, HA.tm, lookT, p1]) (by cases ho; exact fun d hd => by cases hd; simp) HJ
      · have p2 : done 2 = true := by cases ho; exact hdep ⟨2, .data⟩ (by simp) rfl
        have n12 : done 12 = false := by cases hx : done 12 with | false => rfl | true => have := hcl 12 _ rfl hx ⟨3, .data⟩ (by simp) rfl; rw [hd] at this; cases this
        have hcl_ : ∀ k, WW.cell? ⟨s, k, none⟩ = ([.int .i64 sg', .int .i64 sc', .int .u64 g0, .int .u64 r0, .int .u64 v0, .int .u64 f0, .int .u64 t, .pointer (some ⟨p, 0, none⟩)])[k]? := by
          have HQ := HJ
          simp only [n12, hd, cond_true, cond_false] at HQ <;> first | exact (St.cells HQ 0).1 | exact (St.cells HQ 1).1 | exact (St.cells HQ 2).1 | exact (St.cells HQ 3).1 | exact (St.cells HQ 4).1 | exact (St.cells HQ 5).1 | exact (St.cells HQ 6).1 | exact (St.cells HQ 7).1
        exact valG (θ := _) (.pointer (some ⟨p, 0, none⟩)) ho (by cases ho; rfl) (by cases ho; simp [execOp, go_sem, HA.tm, lookT, p2, hcl_]) (by cases ho; exact fun d hd => by cases hd; simp) HJ
      · exact valG (θ := _) (.pointer (some ⟨s, 0, none⟩)) ho (by cases ho; rfl) (by cases ho; simp [execOp, go_sem, HA.tm, lookT]) (by cases ho; exact fun d hd => by cases hd; simp) HJ
      · have p4 : done 4 = true := by cases ho; exact hdep ⟨4, .data⟩ (by simp) rfl
        exact valG (θ := _) (.pointer (some ⟨s, 0, none⟩)) ho (by cases ho; rfl) (by cases ho; simp [execOp, go_sem, HA.tm, lookT, p4]) (by cases ho; exact fun d hd => by cases hd; simp) HJ
      · have p5 : done 5 = true := by cases ho; exact hdep ⟨5, .data⟩ (by simp) rfl
        exact valG (θ := _) (.pointer (some ⟨s, 6, none⟩)) ho (by cases ho; rfl) (by cases ho; simp [execOp, go_sem, HA.tm, lookT, p5]) (by cases ho; exact fun d hd => by cases hd; simp) HJ
      · have p6 : done 6 = true := by cases ho; exact hdep ⟨6, .data⟩ (by simp) rfl
        have n8 : done 8 = false := by cases hx : done 8 with | false => rfl | true => have := hcl 8 _ rfl hx ⟨7, .data⟩ (by simp) rfl; rw [hd] at this; cases this
        have n9 : done 9 = false := by cases hx : done 9 with | false => rfl | true => have := hcl 9 _ rfl hx ⟨8, .data⟩ (by simp) rfl; rw [n8] at this; cases this
        have n10 : done 10 = false := by cases hx : done 10 with | false => rfl | true => have := hcl 10 _ rfl hx ⟨9, .data⟩ (by simp) rfl; rw [n9] at this; cases this
        have n12 : done 12 = false := by cases hx : done 12 with | false => rfl | true => have := hcl 12 _ rfl hx ⟨10, .data⟩ (by simp) rfl; rw [n10] at this; cases this
        have hcl_ : ∀ k, WW.cell? ⟨s, k, none⟩ = ([.int .i64 sg', .int .i64 sc', .int .u64 g0, .int .u64 r0, .int .u64 v0, .int .u64 f0, .int .u64 t, .pointer (some ⟨p, 0, none⟩)])[k]? := by
          have HQ := HJ
          simp only [n12, hd, cond_true, cond_false] at HQ <;> first | exact (St.cells HQ 0).1 | exact (St.cells HQ 1).1 | exact (St.cells HQ 2).1 | exact (St.cells HQ 3).1 | exact (St.cells HQ 4).1 | exact (St.cells HQ 5).1 | exact (St.cells HQ 6).1 | exact (St.cells HQ 7).1
        exact valG (θ := _) (.int .u64 t) ho (by cases ho; rfl) (by cases ho; simp [execOp, go_sem, HA.tm, lookT, p6, hcl_]) (by cases ho; exact fun d hd => by cases hd; simp) HJ
      · have p7 : done 7 = true := by cases ho; exact hdep ⟨7, .data⟩ (by simp) rfl
        exact valG (θ := _) (.int .u64 t1) ho (by cases ho; rfl) (by cases ho; simp [execOp, go_sem, HA.tm, lookT, p7, hwt]) (by cases ho; exact fun d hd => by cases hd; simp) HJ
      · have p8 : done 8 = true := by cases ho; exact hdep ⟨8, .data⟩ (by simp) rfl
        exact valG (θ := _) (.int .u64 (k : Int)) ho (by cases ho; rfl) (by cases ho; simp [execOp, go_sem, HA.tm, lookT, p8, hkr]) (by cases ho; exact fun d hd => by cases hd; simp) HJ
      · have p9 : done 9 = true := by cases ho; exact hdep ⟨9, .data⟩ (by simp) rfl
        exact valG (θ := _) (.int .i64 (k : Int)) ho (by cases ho; rfl) (by cases ho; simp [execOp, go_sem, HA.tm, lookT, p9, hkw]) (by cases ho; exact fun d hd => by cases hd; simp) HJ
      · have n12 : done 12 = false := by cases hx : done 12 with | false => rfl | true => have := hcl 12 _ rfl hx ⟨11, .data⟩ (by simp) rfl; rw [hd] at this; cases this
        have HRg : WW.rangeAt bb (0) (fb) := by
          have HQ := HJ
          simp only [n12, hd, cond_true, cond_false] at HQ <;> first | exact St.range HQ 0 | exact St.range HQ 1
        exact loadG (θ := _) (v := (.agg fb.toArray)) _ ((.tmp 5)) ho (by cases ho; rfl) (by cases ho; rfl) (by simp [HA.ev, HA.tm, lookT, Act.eval]) (bigBlock.load (hfbl) HRg) (by cases ho; exact fun d hd => by cases hd; simp) HJ
      · have p3 : done 3 = true := by cases ho; exact hdep ⟨3, .data⟩ (by simp) rfl
        have p10 : done 10 = true := by cases ho; exact hdep ⟨10, .data⟩ (by simp) rfl
        have p11 : done 11 = true := by cases ho; exact hdep ⟨11, .data⟩ (by simp) rfl
        have HS : St w B [blkA bb fb 38, blkA xb [.int .i64 sg', .int .i64 sc', .int .u64 g, .int .u64 rt, .int .u64 v, .int .u64 f] 51, blkA s [.int .i64 sg', .int .i64 sc', .int .u64 g0, .int .u64 r0, .int .u64 v0, .int .u64 f0, .int .u64 t, .pointer (some ⟨p, 0, none⟩)] 102, dskA p D] [] WW := St.cast (by simp only [hd, cond_true, cond_false]) HJ
        exact callG (θ := _) (f := 11) (args := #[.pointer (some ⟨p, 0, none⟩), .int .i64 (k : Int), .agg fb.toArray]) ho (by cases ho; rfl) (by cases ho; simp [execOp, go_sem, HA.tm, lookT, p3, p10, p11]) (HW1.out.call (L := [_]) (M := [_, _, _]) (St.pick HS [3, 0, 1, 2]) (by simp)) (by
          rintro e w' ⟨_, _, rfl, ⟨rfl, rfl⟩, HS'⟩
          exact ⟨_, (), rfl, by cases ho; exact fun d hd => by cases hd; simp, (.inl rfl), (St.cast (by simp [] <;> rfl) HS')⟩)
      · have p12 : done 12 = true := by cases ho; exact hdep ⟨12, .data⟩ (by simp) rfl
        exact valG (θ := _) (.int .i64 (e1 : Int)) ho (by cases ho; rfl) (by cases ho; simp [execOp, go_sem, HA.tm, lookT, p12]) (by cases ho; exact fun d hd => by cases hd; simp) HJ
    · intro _ done WW hall HJ
      have z12 := hall 12 (by decide)
      have HE : St w B [dskA p D1, blkA bb fb 38, blkA xb [.int .i64 sg', .int .i64 sc', .int .u64 g, .int .u64 rt, .int .u64 v, .int .u64 f] 51, blkA s [.int .i64 sg', .int .i64 sc', .int .u64 g0, .int .u64 r0, .int .u64 v0, .int .u64 f0, .int .u64 t, .pointer (some ⟨p, 0, none⟩)] 102] [] WW := St.cast (by simp [z12]) HJ
      clear HJ hall z12
      simp only [putAll, Act.put, List.setIfInBounds_toArray, List.set_cons_succ, List.set_cons_zero]
      have H7 := HE
      clear HE H6
      by_cases h1 : e1 = 0
      · subst h1
        have hro2 := HRO.out
        rw [if_neg (show ¬ ((0 : Nat) ≠ 0) by decide)] at hro2
        have HQ2 := Lib.hid hro2
        clear hro2 HRO
        obtain ⟨hc, hf⟩ := St.cells H7 3
        go_wp2_with fail
        refine (HSY.out.call (L := [_]) (M := [_, _, _]) H7 (by simp)).mono ?_
        rintro e w9 ⟨vv, L, rfl, ⟨rfl, rfl⟩, H8⟩
        clear H7 hc hf
        by_cases h2 : e2 = 0
        · subst h2
          have HQ : Hid (r = (D2, 0)) := HQ2
          have H9 := St.pick H8 [0, 2, 3]
          clear H8
          have xone : ∀ u ∈ ([.int .i64 sg', .int .i64 sc', .int .u64 g, .int .u64 rt, .int .u64 v, .int .u64 f] : List Value), u.oneCell' = true := by simp [Value.oneCell']
          go_upto_region 14 with fail
          refine wp_region_gh (Θ := Unit) (fun _ => [(0, 107, (.pointer (some ⟨s, 0, none⟩))), (1, 108, (.pointer (some ⟨s, 0, none⟩))), (2, 109, (.agg #[.int .i64 sg', .int .i64 sc', .int .u64 g, .int .u64 rt, .int .u64 v, .int .u64 f])), (3, 110, (.pointer (some ⟨s, 0, none⟩))), (4, 111, (.pointer (some ⟨s, 0, none⟩))), (5, 112, (.pointer (some ⟨s, 6, none⟩))), (6, 113, (.int .u64 t)), (7, 114, (.int .u64 t1)), (8, 115, (.pointer (some ⟨s, 0, none⟩))), (9, 116, (.pointer (some ⟨s, 0, none⟩))), (11, 117, (.pointer (some ⟨s, 0, none⟩))), (12, 118, (.pointer (some ⟨s, 6, none⟩)))]) (fun _ done WW => St w B (bif done 13 then [dskA p D2, blkA xb [.int .i64 sg', .int .i64 sc', .int .u64 g, .int .u64 rt, .int .u64 v, .int .u64 f] 51, blkA s [.int .i64 sg', .int .i64 sc', .int .u64 g, .int .u64 rt, .int .u64 v, .int .u64 f, .int .u64 t1, .pointer (some ⟨p, 0, none⟩)] 102] else (bif done 10 then [dskA p D2, blkA xb [.int .i64 sg', .int .i64 sc', .int .u64 g, .int .u64 rt, .int .u64 v, .int .u64 f] 51, blkA s [.int .i64 sg', .int .i64 sc', .int .u64 g, .int .u64 rt, .int .u64 v, .int .u64 f, .int .u64 t, .pointer (some ⟨p, 0, none⟩)] 102] else ([dskA p D2, blkA xb [.int .i64 sg', .int .i64 sc', .int .u64 g, .int .u64 rt, .int .u64 v, .int .u64 f] 51, blkA s [.int .i64 sg', .int .i64 sc', .int .u64 g0, .int .u64 r0, .int .u64 v0, .int .u64 f0, .int .u64 t, .pointer (some ⟨p, 0, none⟩)] 102]))) [] WW) (by kernel_rfl) (hord_of2 (by kernel_rfl)) (fun _ => by kernel_rfl) (fun _ => by kernel_rfl) (fun _ => by kernel_rfl) ⟨(), H9.drew⟩ ?_ ?_
          · intro _ done zb WW j oq ho hd hdep hcl HA HJ
            have hj : j < 14 := (Array.getElem?_eq_some_iff.1 ho).1
            obtain rfl | rfl | rfl | rfl | rfl | rfl | rfl | rfl | rfl | rfl | rfl | rfl | rfl | rfl : j = 0 ∨ j = 1 ∨ j = 2 ∨ j = 3 ∨ j = 4 ∨ j = 5 ∨ j = 6 ∨ j = 7 ∨ j = 8 ∨ j = 9 ∨ j = 10 ∨ j = 11 ∨ j = 12 ∨ j = 13 := by omega
            · exact valG (θ := _) (.pointer (some ⟨s, 0, none⟩)) ho (by cases ho; rfl) (by cases ho; simp [execOp, go_sem, HA.tm, lookT]) (by cases ho; exact fun d hd => by cases hd; simp) HJ
            · exact valG (θ := _) (.pointer (some ⟨s, 0, none⟩)) ho (by cases ho; rfl) (by cases ho; simp [execOp, go_sem, HA.tm, lookT]) (by cases ho; exact fun d hd => by cases hd; simp) HJ
            · have n8 : done 8 = false := by cases hx : done 8 with | false => rfl | true => have := hcl 8 _ rfl hx ⟨2, .phase⟩ (by simp) rfl; rw [hd] at this; cases this
              have n9 : done 9 = false := by cases hx : done 9 with | false => rfl | true => have := hcl 9 _ rfl hx ⟨8, .data⟩ (by simp) rfl; rw [n8] at this; cases this
              have n10 : done 10 = false := by cases hx : done 10 with | false => rfl | true => have := hcl 10 _ rfl hx ⟨9, .data⟩ (by simp) rfl; rw [n9] at this; cases this
              have n11 : done 11 = false := by cases hx : done 11 with | false => rfl | true => have := hcl 11 _ rfl hx ⟨2, .phase⟩ (by simp) rfl; rw [hd] at this; cases this
              have n12 : done 12 = false := by cases hx : done 12 with | false => rfl | true => have := hcl 12 _ rfl hx ⟨11, .data⟩ (by simp) rfl; rw [n11] at this; cases this
              have n13 : done 13 = false := by cases hx : done 13 with | false => rfl | true => have := hcl 13 _ rfl hx ⟨12, .data⟩ (by simp) rfl; rw [n12] at this; cases this
              have HRg : WW.rangeAt xb (0) ([.int .i64 sg', .int .i64 sc', .int .u64 g, .int .u64 rt, .int .u64 v, .int .u64 f]) := by
                have HQ := HJ
                simp only [n10, n13, hd, cond_true, cond_false] at HQ <;> exact St.range HQ 1
              exact loadG (θ := _) (v := (.agg #[.int .i64 sg', .int .i64 sc', .int .u64 g, .int .u64 rt, .int .u64 v, .int .u64 f])) _ ((.tmp 3)) ho (by cases ho; rfl) (by cases ho; rfl) (by simp [HA.ev, HA.tm, lookT, Act.eval]) (bigSup.load (rfl) HRg) (by cases ho; exact fun d hd => by cases hd; simp) HJ
            · exact valG (θ := _) (.pointer (some ⟨s, 0, none⟩)) ho (by cases ho; rfl) (by cases ho; simp [execOp, go_sem, HA.tm, lookT]) (by cases ho; exact fun d hd => by cases hd; simp) HJ
            · have p3 : done 3 = true := by cases ho; exact hdep ⟨3, .data⟩ (by simp) rfl
              exact valG (θ := _) (.pointer (some ⟨s, 0, none⟩)) ho (by cases ho; rfl) (by cases ho; simp [execOp, go_sem, HA.tm, lookT, p3]) (by cases ho; exact fun d hd => by cases hd; simp) HJ
            · have p4 : done 4 = true := by cases ho; exact hdep ⟨4, .data⟩ (by simp) rfl
              exact valG (θ := _) (.pointer (some ⟨s, 6, none⟩)) ho (by cases ho; rfl) (by cases ho; simp [execOp, go_sem, HA.tm, lookT, p4]) (by cases ho; exact fun d hd => by cases hd; simp) HJ
            · have p5 : done 5 = true := by cases ho; exact hdep ⟨5, .data⟩ (by simp) rfl
              have n8 : done 8 = false := by cases hx : done 8 with | false => rfl | true => have := hcl 8 _ rfl hx ⟨6, .phase⟩ (by simp) rfl; rw [hd] at this; cases this
              have n9 : done 9 = false := by cases hx : done 9 with | false => rfl | true => have := hcl 9 _ rfl hx ⟨8, .data⟩ (by simp) rfl; rw [n8] at this; cases this
              have n10 : done 10 = false := by cases hx : done 10 with | false => rfl | true => have := hcl 10 _ rfl hx ⟨9, .data⟩ (by simp) rfl; rw [n9] at this; cases this
              have n11 : done 11 = false := by cases hx : done 11 with | false => rfl | true => have := hcl 11 _ rfl hx ⟨6, .phase⟩ (by simp) rfl; rw [hd] at this; cases this
              have n12 : done 12 = false := by cases hx : done 12 with | false => rfl | true => have := hcl 12 _ rfl hx ⟨11, .data⟩ (by simp) rfl; rw [n11] at this; cases this
              have n13 : done 13 = false := by cases hx : done 13 with | false => rfl | true => have := hcl 13 _ rfl hx ⟨12, .data⟩ (by simp) rfl; rw [n12] at this; cases this
              have hcl_ : ∀ k, WW.cell? ⟨s, k, none⟩ = ([.int .i64 sg', .int .i64 sc', .int .u64 g0, .int .u64 r0, .int .u64 v0, .int .u64 f0, .int .u64 t, .pointer (some ⟨p, 0, none⟩)])[k]? := by
                have HQ := HJ
                simp only [n10, n13, hd, cond_true, cond_false] at HQ <;> first | exact (St.cells HQ 0).1 | exact (St.cells HQ 1).1 | exact (St.cells HQ 2).1 | exact (St.cells HQ 3).1 | exact (St.cells HQ 4).1 | exact (St.cells HQ 5).1 | exact (St.cells HQ 6).1 | exact (St.cells HQ 7).1
              exact valG (θ := _) (.int .u64 t) ho (by cases ho; rfl) (by cases ho; simp [execOp, go_sem, HA.tm, lookT, p5, hcl_]) (by cases ho; exact fun d hd => by cases hd; simp) HJ
            · have p6 : done 6 = true := by cases ho; exact hdep ⟨6, .data⟩ (by simp) rfl
              exact valG (θ := _) (.int .u64 t1) ho (by cases ho; rfl) (by cases ho; simp [execOp, go_sem, HA.tm, lookT, p6, hwt]) (by cases ho; exact fun d hd => by cases hd; simp) HJ
            · have p0 : done 0 = true := by cases ho; exact hdep ⟨0, .data⟩ (by simp) rfl
              exact valG (θ := _) (.pointer (some ⟨s, 0, none⟩)) ho (by cases ho; rfl) (by cases ho; simp [execOp, go_sem, HA.tm, lookT, p0]) (by cases ho; exact fun d hd => by cases hd; simp) HJ
            · have p8 : done 8 = true := by cases ho; exact hdep ⟨8, .data⟩ (by simp) rfl
              exact valG (θ := _) (.pointer (some ⟨s, 0, none⟩)) ho (by cases ho; rfl) (by cases ho; simp [execOp, go_sem, HA.tm, lookT, p8]) (by cases ho; exact fun d hd => by cases hd; simp) HJ
            · have p9 : done 9 = true := by cases ho; exact hdep ⟨9, .data⟩ (by simp) rfl
              have p8 : done 8 = true := hcl 9 _ rfl p9 ⟨8, .data⟩ (by simp) rfl
              have p2 : done 2 = true := hcl 8 _ rfl p8 ⟨2, .phase⟩ (by simp) rfl
              have n11 : done 11 = false := by cases hx : done 11 with | false => rfl | true => have := hcl 11 _ rfl hx ⟨10, .phase⟩ (by simp) rfl; rw [hd] at this; cases this
              have n12 : done 12 = false := by cases hx : done 12 with | false => rfl | true => have := hcl 12 _ rfl hx ⟨11, .data⟩ (by simp) rfl; rw [n11] at this; cases this
              have n13 : done 13 = false := by cases hx : done 13 with | false => rfl | true => have := hcl 13 _ rfl hx ⟨12, .data⟩ (by simp) rfl; rw [n12] at this; cases this
              have HS : St w B [dskA p D2, blkA xb [.int .i64 sg', .int .i64 sc', .int .u64 g, .int .u64 rt, .int .u64 v, .int .u64 f] 51, blkA s [.int .i64 sg', .int .i64 sc', .int .u64 g0, .int .u64 r0, .int .u64 v0, .int .u64 f0, .int .u64 t, .pointer (some ⟨p, 0, none⟩)] 102] [] WW := St.cast (by simp only [n13, hd, cond_true, cond_false]) HJ
              exact storeG (θ := _) _ ((.tmp 116)) ((.tmp 109)) ho (by cases ho; rfl) (by cases ho; rfl) (by cases ho; rfl) (by first | (simp [HA.ev, HA.tm, lookT, Act.eval, p2, p8, p9]; done) | (simp [HA.ev, HA.tm, lookT, Act.eval, p2, p8, p9]; rfl)) (by first | (simp [HA.ev, HA.tm, lookT, Act.eval, p2, p8, p9]; done) | (simp [HA.ev, HA.tm, lookT, Act.eval, p2, p8, p9]; rfl)) (bigSup.store (show ([.int .i64 sg', .int .i64 sc', .int .u64 g, .int .u64 rt, .int .u64 v, .int .u64 f] : List Value).length = 6 from rfl) (St.there HS 2 6 rfl (by simp)) (xone)) (St.cast (by simp [n13, n13] <;> rfl) (St.sets HS 2 0 [.int .i64 sg', .int .i64 sc', .int .u64 g, .int .u64 rt, .int .u64 v, .int .u64 f] (by simp) rfl))
            · have p1 : done 1 = true := by cases ho; exact hdep ⟨1, .data⟩ (by simp) rfl
              exact valG (θ := _) (.pointer (some ⟨s, 0, none⟩)) ho (by cases ho; rfl) (by cases ho; simp [execOp, go_sem, HA.tm, lookT, p1]) (by cases ho; exact fun d hd => by cases hd; simp) HJ
            · have p11 : done 11 = true := by cases ho; exact hdep ⟨11, .data⟩ (by simp) rfl
              exact valG (θ := _) (.pointer (some ⟨s, 6, none⟩)) ho (by cases ho; rfl) (by cases ho; simp [execOp, go_sem, HA.tm, lookT, p11]) (by cases ho; exact fun d hd => by cases hd; simp) HJ
            · have p12 : done 12 = true := by cases ho; exact hdep ⟨12, .data⟩ (by simp) rfl
              have p11 : done 11 = true := hcl 12 _ rfl p12 ⟨11, .data⟩ (by simp) rfl
              have p7 : done 7 = true := hcl 11 _ rfl p11 ⟨7, .phase⟩ (by simp) rfl
              have p10 : done 10 = true := hcl 11 _ rfl p11 ⟨10, .phase⟩ (by simp) rfl
              have HS : St w B [dskA p D2, blkA xb [.int .i64 sg', .int .i64 sc', .int .u64 g, .int .u64 rt, .int .u64 v, .int .u64 f] 51, blkA s [.int .i64 sg', .int .i64 sc', .int .u64 g, .int .u64 rt, .int .u64 v, .int .u64 f, .int .u64 t, .pointer (some ⟨p, 0, none⟩)] 102] [] WW := St.cast (by simp only [p10, hd, cond_true, cond_false]) HJ
              obtain ⟨hcl_, hfl_⟩ := St.cells HS 2
              exact skipG (θ := _) ho (by cases ho; rfl) (by cases ho; rfl) (by cases ho; first | (simp [execOp, go_sem, HA.tm, lookT, hcl_, hfl_, p7, p10, p11, p12]; done) | (simp [execOp, go_sem, HA.tm, lookT, hcl_, hfl_, p7, p10, p11, p12]; rfl)) (St.cast (by simp [p10] <;> rfl) (HS.set_ 2 6 (.int .u64 t1) rfl))
          · intro _ done WW hall HJ
            have z10 := hall 10 (by decide)
            have z13 := hall 13 (by decide)
            have HE : St w B [dskA p D2, blkA xb [.int .i64 sg', .int .i64 sc', .int .u64 g, .int .u64 rt, .int .u64 v, .int .u64 f] 51, blkA s [.int .i64 sg', .int .i64 sc', .int .u64 g, .int .u64 rt, .int .u64 v, .int .u64 f, .int .u64 t1, .pointer (some ⟨p, 0, none⟩)] 102] [] WW := St.cast (by simp [z10, z13]) HJ
            clear HJ hall z10 z13
            simp only [putAll, Act.put, List.setIfInBounds_toArray, List.set_cons_succ, List.set_cons_zero]
            go_wp2_with fail
            have e := HT1.out
            subst e
            exact bodyPost_ret (results_tmp rfl _ _ _) rfl (Back.mk (setQ.good HQ.out) (St.pick HE [2, 0]))
        · have hne : ((e2 : Int) != 0) = true := by simp; omega
          have HN := Lib.hid h2
          clear h2
          go_wp2_with fail
          exact bodyPost_ret (results_tmp rfl _ _ _) rfl (Back.mk (setQ.err HQ2.out HN.out) (St.pick H8 [3, 0]))
      · have hne : ((e1 : Int) != 0) = true := by simp; omega
        have HQ : Hid (r = (D1, e1)) := Lib.hid (by rw [HRO.out, if_pos h1])
        have HN := Lib.hid h1
        clear h1
        go_wp2_with fail
        exact bodyPost_ret (results_tmp rfl _ _ _) rfl (Back.mk (setQ.err HQ.out HN.out) (St.pick H7 [3, 0]))
end Go.Proofs.YtjmocjcjiiopnaaGreat
end

section
set_option linter.unusedVariables false
set_option linter.unusedSimpArgs false
namespace Go.Dsk
/-- Nothing fails: it is alive, not armed, nothing is to fail. -/
structure Dk.calm (D : Dk) : Prop where
  dead : D.dead = false
  armed : D.armed = false
  fails : D.fails = 0
theorem Dk.calm.ready {D : Dk} (h : D.calm) {i : Int} (h0 : 0 ≤ i) (h1 : i < (D.safe.length : Int)) : D.ready i = (D, 0) := by
  unfold Dk.ready
  rw [h.dead, if_neg (by simp), if_neg (by omega), h.fails, if_neg (by decide), if_neg (by decide)]
theorem Dk.calm.go {D : Dk} (h : D.calm) : D.go = some D := by
  unfold Dk.go
  rw [h.armed, if_neg (by simp)]
theorem Dk.calm.op {D : Dk} (h : D.calm) {i : Int} (h0 : 0 ≤ i) (h1 : i < (D.safe.length : Int)) (f : Dk → Dk) : D.op i f = (f D, 0) := by
  unfold Dk.op
  rw [h.ready h0 h1, if_pos rfl, h.go]
/-- What is written is pending. -/
def Dk.put (D : Dk) (i : Nat) (b : List UInt8) : Dk := { D with pend := D.pend ++ [(i, b)] }
theorem Dk.calm.write {D : Dk} (h : D.calm) {i : Nat} (h1 : i < D.safe.length) (b : List UInt8) : D.write (i : Int) b = (D.put i b, 0) := by
  unfold Dk.write
  rw [h.op (by omega) (by omega)]
  rfl
theorem Dk.calm.sync {D : Dk} (h : D.calm) (h1 : 0 < D.safe.length) : D.sync = (D.settle fun _ => true, 0) := by
  unfold Dk.sync
  rw [h.op (by omega) (by omega)]
theorem Dk.calm.read {D : Dk} (h : D.calm) {i : Nat} (h1 : i < D.safe.length) : D.read (i : Int) = (D, D.at i, 0) := by
  unfold Dk.read
  rw [h.ready (by omega) (by omega)]
  rfl
theorem Dk.calm.put {D : Dk} (h : D.calm) (i : Nat) (b : List UInt8) : (D.put i b).calm := ⟨h.dead, h.armed, h.fails⟩
theorem Dk.calm.settle {D : Dk} (h : D.calm) (f : Nat → Bool) : (D.settle f).calm := ⟨h.dead, h.armed, h.fails⟩
theorem Dk.new_calm (n : Nat) : (Dk.new n).calm := ⟨rfl, rfl, rfl⟩
theorem Dk.put_len (D : Dk) (i : Nat) (b : List UInt8) : (D.put i b).safe.length = D.safe.length := rfl
end Go.Dsk
end
