/- The walks of the laws IndexDoes and IndexFills. No condition. -/
import Derived.Test.YtccgdfamjohmgaaDoes2
import Derived.Test.YtccgdfamjohmgaaDoes3
import Derived.Test.YtccgdfamjohmgaaDoes4
import Derived.Test.YtccgdfamjohmgaaAgree
set_option linter.unusedVariables false
namespace Go.Proofs.Ytccgdfamjohmgaa
open Go.RowKit Go.Ice

theorem does_ok (w0 w : World) (L : Lay) (N : Nat) (A : List (Nat × Adr)) (q : Nat) (o : OpV) (h : St w0 w L N A A q) (hff : o.f ≤ 4294967295) :
    Calls Try.prog 19 #[.pointer (some ⟨L.bx, 0, none⟩), .pointer (some ⟨q, 0, none⟩), opV o] w fun e w' => e = .returned (.bool true) ∧ St w0 w' L N (opA N A o) (opA N A o) q ∧ Frm (fun k => L.owns k ∨ k = q) w w' := by
  unfold opA
  rcases kindF_cases o.kind with hk | hk | hk | hk
  · rw [if_pos hk]; exact does_add w0 w L N A q o h hff hk
  · rw [if_neg (by rw [hk]; decide), if_pos hk]; exact does_rem w0 w L N A q o h hff hk
  · rw [if_neg (by rw [hk]; decide), if_neg (by rw [hk]; decide), if_pos hk]; exact does_drop w0 w L N A q o h hff hk
  · rw [if_neg (by rw [hk]; decide), if_neg (by rw [hk]; decide), if_neg (by rw [hk]; decide)]; exact does_find w0 w L N A q o h hff hk

theorem agree_ok (w0 w : World) (L : Lay) (N : Nat) (A : List (Nat × Adr)) (q : Nat) (v : Value) (h : St w0 w L N A A q) (hv : w.heap[q]? = some (.cells #[.int .i64 N, v] 46 (0, 0))) :
    Calls Try.prog 20 #[.pointer (some ⟨L.bx, 0, none⟩), .agg #[.int .i64 N, v]] w fun e w' => e = .returned (.bool true) ∧ St w0 w' L N A A q ∧ Below w.heap.size w w' := by
  obtain ⟨v1, h1, h2, h3⟩ := h.y
  obtain rfl : v = v1 := by rw [hv] at h1; injection h1 with h1; injection h1 with h1; simp at h1; exact h1
  exact (agree w0 w L N A v h.own h2).mono fun e w' ⟨h4, h5⟩ => ⟨h4, h.below h5, h5⟩

/-- The document's index is made. -/
theorem St.start {w0 w : World} {L : Lay} {N : Nat} (h : Own1 w0 w L N []) : St w0 (w.alloc (.cells #[.int .i64 N, .slice none 0 0] 46)) L N [] [] w.heap.size :=
  ⟨h.alloc _, ⟨.slice none 0 0, heap_alloc_new w _, .inl ⟨rfl, .inl rfl⟩, fun b hb => by cases hb⟩, fun ho => by have := h.here.lt _ ho; omega, h.bel.size, Nat.zero_le _⟩

set_option maxRecDepth 100000 in
set_option maxHeartbeats 8000000 in
theorem indexDoes (s : Int) (a : Option Addr) (n cap : Nat) (ops : Nat → OpV) (w : World) (hs : -9223372036854775808 ≤ s ∧ s ≤ 9223372036854775807) (hv : RowAt w 5 (.slice a n cap) n fun i j => (ops i).cell j) (hops : ∀ i, i < n → (ops i).fits) :
    Calls Try.prog 5 #[.int .i64 s, .slice a n cap] w fun e w' => e = .returned (.bool true) ∧ Below w.heap.size w w' := by
  obtain ⟨hs1, hs2⟩ := hs
  have hfew := fun w' (hb : Below w.heap.size w w') => few a n cap w' _ (hv.below hb (Nat.le_refl _))
  have hm : fewN n ≤ n ∧ fewN n ≤ 200 := by unfold fewN; omega
  obtain ⟨m, hmm⟩ : ∃ m, m = fewN n := ⟨_, rfl⟩
  rw [← hmm] at hfew hm
  have hv2 := hv.take hm.1
  have HV := Lib.hid hv2
  have HFEW := Lib.hid hfew
  have HOPS : Hid (∀ i, i < m → (ops i).fits) := fun i hi => hops i (by omega)
  clear hmm hv hv2 hfew hops
  obtain ⟨hm1, hm2⟩ := hm
  go_enter Try.func5, Try.ntmps5
  go_wp2_with fail
  refine (wakes _).mono ?_
  rintro e w1 ⟨rfl, hb1⟩
  have HB1 := Lib.hid hb1
  clear hb1
  go_wp2_with fail
  obtain ⟨N, hN1, hN2, hN⟩ : ∃ N : Nat, 1 ≤ N ∧ N ≤ 12 ∧ wrap64 (1 + wrap64 ((IntKind.u64.wrap s).tmod 12)) = (N : Int) := by
    have h1 : 0 ≤ (IntKind.u64.wrap s).tmod 12 ∧ (IntKind.u64.wrap s).tmod 12 < 12 := by
      have h0 : 0 ≤ IntKind.u64.wrap s := by rw [IntKind.wrap_u64]; omega
      rw [Int.tmod_eq_emod_of_nonneg h0]
      omega
    obtain ⟨m, hm⟩ := Int.eq_ofNat_of_zero_le h1.1
    rw [hm] at h1 ⊢
    refine ⟨m + 1, by omega, by omega, ?_⟩
    unfold wrap64
    omega
  rw [hN]
  clear hN
  refine (Own1.new w w1 N hN1 (by omega) HB1.out).mono ?_
  rintro e w2 ⟨L, rfl, hO, _, _⟩
  have HS0 : Hid (St w (w2.alloc (.cells #[.int .i64 N, .slice none 0 0] 46)) L N [] [] w2.heap.size) := St.start hO
  have HNL : Hid (¬ L.owns w2.heap.size) := HS0.out.qL
  clear hO
  go_wp2_with fail
  refine (HFEW.out _ HS0.out.own.bel).mono ?_
  rintro e w4 ⟨rfl, rfl⟩
  generalize hW4 : w2.alloc (.cells #[.int .i64 N, .slice none 0 0] 46) = W4 at *
  generalize hq : w2.heap.size = q at *
  clear hW4 hq
  go_wp2_with fail
  go_loopg [9, 33] m (fun g pv iv wr => ∃ (i : Nat) (A : List (Nat × Adr)), g = m - i ∧ i ≤ m ∧ iv = .int .i64 i ∧ Hid (St w wr L N A A q))
  case atStart => exact ⟨0, [], rfl, by omega, rfl, HS0.out⟩
  case round =>
    clear HS0
    obtain ⟨i, A, rfl, hi, rfl, HS⟩ := hrel
    by_cases hlt : i < m
    · obtain ⟨b, off, cap', hsl, hb1, hb2, hb3, hc⟩ := HV.out.at (by omega)
      obtain ⟨rfl, rfl⟩ : a = some ⟨b, off, none⟩ ∧ cap = cap' := by cases hsl; exact ⟨rfl, rfl⟩
      have hcell : ∀ j, j < 5 → wr.cell? ⟨b, off + (i * 5 + j), none⟩ = some ((ops i).cell j) := fun j hj => by
        rw [HS.out.own.bel.cell (p := ⟨b, off + (i * 5 + j), none⟩) hb3]; exact hc i hlt j hj
      have hfit := HOPS.out i hlt
      generalize ops i = o at hcell hfit
      have c0 := hcell 0 (by decide)
      have c1 := hcell 1 (by decide)
      have c2 := hcell 2 (by decide)
      have c3 := hcell 3 (by decide)
      have c4 := hcell 4 (by decide)
      simp only [OpV.cell, Nat.add_zero, ← Nat.add_assoc] at c0 c1 c2 c3 c4
      clear hcell hc hsl
      obtain ⟨Wo, hWo⟩ : ∃ Wo, Wo = wr.alloc (.cells #[.int .i64 o.kind, .int .u32 o.f, .int .i64 o.a.seg, .int .u64 o.a.gen, .int .i64 o.a.sec] 34) := ⟨_, rfl⟩
      have HSo : Hid (St w Wo L N A A q) := by show St _ _ _ _ _ _ _; rw [hWo]; exact HS.out.below ((Below.refl _ _).alloc (Nat.le_refl _) _)
      have HOo : Hid (OpAt Wo wr.heap.size o) := by show OpAt _ _ _; rw [hWo]; exact OpAt.new wr o 34
      have HNo : Hid (¬ (L.owns wr.heap.size ∨ wr.heap.size = q)) := fun ho => by
        rcases ho with ho | ho
        · have := HS.out.own.here.lt _ ho; omega
        · have := HS.out.qlt; omega
      have hff := hfit.2.1
      have HW := Lib.hid hWo.symm
      clear hWo
      go_wp2_with fail
      rw [HW.out]
      refine (does_ok w Wo L N A q o HSo.out hff).mono ?_
      rintro e W5 ⟨rfl, hs5, hf5⟩
      have HS5 := Lib.hid hs5
      have HO5 := Lib.hid (HOo.out.frm hf5 HNo.out)
      obtain ⟨v, y1, y2, y3⟩ := hs5.y
      have HY1 := Lib.hid y1
      have d0 : W5.cell? ⟨q, 0, none⟩ = some (.int .i64 N) := blk_cell y1 0
      have d1 : W5.cell? ⟨q, 1, none⟩ = some v := blk_cell y1 1
      clear hs5 hf5 y1 y2 y3 c0 c1 c2 c3 c4
      generalize opA N A o = A' at *
      go_wp2_with fail
      refine (agree_ok w W5 L N A' q v HS5.out HY1.out).mono ?_
      rintro e W6 ⟨rfl, hs6, hb6⟩
      have HS6 := Lib.hid hs6
      have HO6 := Lib.hid (HO5.out.below hb6)
      have HY6 : Hid (W6.heap[q]? = some (.cells #[.int .i64 N, v] 46 (0, 0))) := (hb6.block q HS5.out.qlt).trans HY1.out
      clear hs6 hb6 d0 d1
      have HFX : Hid (∀ W, Below W6.heap.size W6 W → Calls Try.prog 16 #[.pointer (some ⟨L.bx, 0, none⟩), .int .u32 o.f] W fun e w' => ∃ v, e = .returned v ∧ RowAt w' 3 v (findA A' o.f).length (fun i j => ((findA A' o.f).getD i default).cell j) ∧ Below W.heap.size W w') :=
        fun W hW => ((HS6.out.below hW).own.find o.f hff).mono fun e w' ⟨v, h1, h2, h3, h4⟩ => ⟨v, h1, (own_isSlK h2).rowAt (fun i hi j hj => adrCells_get _ i hi j hj), h4⟩
      have HFY : Hid (∀ W, Below W6.heap.size W6 W → Calls Try.prog 21 #[.agg #[.int .i64 N, v], .int .u32 o.f] W fun e w' => ∃ v, e = .returned v ∧ RowAt w' 3 v (findA A' o.f).length (fun i j => ((findA A' o.f).getD i default).cell j) ∧ Below W.heap.size W w') := by
        intro W hW
        obtain ⟨v1, h1, h2, h3⟩ := HS6.out.y
        have hy := HY6.out
        obtain rfl : v = v1 := by rw [hy] at h1; injection h1 with h1; injection h1 with h1; simp at h1; exact h1
        exact (find_ref W N v A' o.f (h2.below hW (Nat.le_refl _)) (by have := HS6.out.hB; omega)).mono fun e w' ⟨v, h1, h2, h4⟩ => ⟨v, h1, (own_isSlK h2).rowAt (fun i hi j hj => adrCells_get _ i hi j hj), h4⟩
      have HCL : Hid (∀ W, Below W6.heap.size W6 W → W.cell? ⟨q, 0, none⟩ = some (.int .i64 N) ∧ W.cell? ⟨q, 1, none⟩ = some v ∧ W.cell? ⟨wr.heap.size, 1, none⟩ = some (.int .u32 o.f)) := fun W hW =>
        ⟨blk_cell (blk_below HY6.out hW HS6.out.qlt) 0, blk_cell (blk_below HY6.out hW HS6.out.qlt) 1, (HO6.out.below hW).2 1 (by decide)⟩
      obtain ⟨d0, d1, d2⟩ := HCL.out W6 (Below.refl _ _)
      go_upto_region 13 with fail
      go_region_with (first
        | (go_at_call 16
           refine (HFX.out _ HBY.out).mono ?_
           rintro e WF ⟨vX, rfl, hrx, hbx⟩
           have HRXF := Lib.hid hrx
           have HRYF := Lib.hid (HRY.out.below hbx (Nat.le_refl _))
           have HBF := Lib.hid (HBY.out.trans (hbx.mono HBY.out.size))
           clear hrx hbx)
        | (go_at_call 16
           refine (HFX.out _ (drewN_below W6 1)).mono ?_
           rintro e WX ⟨vX, rfl, hrx, hbx⟩
           have HRX := Lib.hid hrx
           have HBX : Hid (Below W6.heap.size W6 WX) := (drewN_below W6 1).trans hbx
           obtain ⟨x0, x1, x2⟩ := HCL.out WX HBX.out
           clear hrx hbx)
        | (go_at_call 21
           refine (HFY.out _ HBX.out).mono ?_
           rintro e WF ⟨vY, rfl, hry, hby⟩
           have HRYF := Lib.hid hry
           have HRXF := Lib.hid (HRX.out.below hby (Nat.le_refl _))
           have HBF := Lib.hid (HBX.out.trans (hby.mono HBX.out.size))
           clear hry hby)
        | (go_at_call 21
           refine (HFY.out _ (drewN_below W6 1)).mono ?_
           rintro e WY ⟨vY, rfl, hry, hby⟩
           have HRY := Lib.hid hry
           have HBY : Hid (Below W6.heap.size W6 WY) := (drewN_below W6 1).trans hby
           obtain ⟨x0, x1, x2⟩ := HCL.out WY HBY.out
           clear hry hby)
        | (go_at_call 15
           refine (same WF _ _ _ HRXF.out HRYF.out).mono ?_
           rintro e WZ ⟨rfl, nz, rfl⟩))
      all_goals
        go_wp2_with fail
        go_roundg (m - (i + 1))
        case measure => omega
        case rel => exact ⟨i + 1, A', rfl, by omega, by go_num, (HS6.out.below HBF.out).drewN _⟩
    · go_wp2_with fail
      go_ret
      exact ⟨by simp, HS.out.own.bel⟩

theorem indexDoesW.walk (a0 : Int) (v1 : Value) (w : World) {H : Type} {enc : TypeId × Value → H} {base b0 : Nat} {spare : Nat → Bool} {held : Bool} {dd : DataW H} {ps : List MemPlace} {r : Reach} (w0 : (Lit.int .i64 a0).wf = true) (w1 : Value.okWide Try.prog w r b0 22 v1) (h1 : DataW.Trod enc Try.prog w base spare held 22 v1 dd ps) :
    Calls Try.prog 5 #[.int .i64 a0, v1] w fun e w' => e = .returned (.bool true) ∧ Below w.heap.size w w' := by
  obtain ⟨a, n, cap, ops, rfl, hr, hf⟩ := open_ops w1 h1
  exact indexDoes a0 a n cap ops w (bounds_i64 w0) hr hf
end Go.Proofs.Ytccgdfamjohmgaa
