/- The walk of the law IndexFills. No condition. -/
import Derived.Test.YtccgdfamjohmgaaDoesW
import Derived.Test.YtccgdfamjohmgaaFillsP
set_option linter.unusedVariables false
namespace Go.Proofs.Ytccgdfamjohmgaa
open Go.RowKit Go.Ice

set_option maxRecDepth 100000 in
set_option maxHeartbeats 8000000 in
theorem indexFills_no (s : Int) (v : Value) (w : World) (hs : s < 1 ∨ (1 ≤ s ∧ 1024 < s)) :
    Calls Try.prog 6 #[.int .i64 s, v] w fun e w' => e = .returned (.bool true) ∧ Below w.heap.size w w' := by
  have HN : Hid (∀ w, Calls Try.prog 9 #[.int .i64 s] w fun e w' => e = .returned (.tuple #[.pointer none, .int .i64 2]) ∧ w = w') := fun w => new_no w s hs
  rcases hs with hs | ⟨hs, hs2⟩
  all_goals
    go_enter Try.func6, Try.ntmps6
    go_wp2_with fail
    refine (wakes _).mono ?_
    rintro e w1 ⟨rfl, hb1⟩
    have HB1 := Lib.hid hb1
    clear hb1
    go_wp2_with fail
    refine (HN.out _).mono ?_
    rintro e w2 ⟨rfl, rfl⟩
    go_wp2_with fail
    go_ret
    exact ⟨rfl, HB1.out⟩

set_option maxRecDepth 100000 in
set_option maxHeartbeats 8000000 in
theorem indexFills (N : Nat) (a : Option Addr) (n cap : Nat) (ops : Nat → OpV) (w : World) (hN1 : 1 ≤ N) (hN2 : N ≤ 1024) (hv : RowAt w 5 (.slice a n cap) n fun i j => (ops i).cell j) (hops : ∀ i, i < n → (ops i).fits) :
    Calls Try.prog 6 #[.int .i64 N, .slice a n cap] w fun e w' => e = .returned (.bool true) ∧ Below w.heap.size w w' := by
  have hfew := fun w' (hb : Below w.heap.size w w') => few a n cap w' _ (hv.below hb (Nat.le_refl _))
  have hm : fewN n ≤ n ∧ fewN n ≤ 200 := by unfold fewN; omega
  obtain ⟨m, hmm⟩ : ∃ m, m = fewN n := ⟨_, rfl⟩
  rw [← hmm] at hfew hm
  have hv2 := hv.take hm.1
  have HV := Lib.hid hv2
  have HFEW := Lib.hid hfew
  have HOPS : Hid (∀ i, i < m → (ops i).fits) := fun i hi => hops i (by omega)
  clear hmm hv hv2 hfew hops
  obtain ⟨hm1, hm2⟩ := hm
  obtain ⟨i0, hi0, hz0, hz1, hz2⟩ := elemEnt.hi
  have HE : Hid (Elem Try.prog 44 52 4 32 (.agg #[.int .u32 0, .int .i64 0, .int .u64 0, .int .i64 0])) := elemEnt
  clear hi0 hz0 hz1 hz2
  have n1 : decide ((N : Int) < 1) = false := by simp; omega
  have n2 : decide (1024 < (N : Int)) = false := by simp; omega
  go_enter Try.func6, Try.ntmps6
  go_wp2_with fail
  refine (wakes _).mono ?_
  rintro e w1 ⟨rfl, hb1⟩
  have HB1 := Lib.hid hb1
  clear hb1
  go_wp2_with fail
  refine (Own1.new w w1 N hN1 (by omega) HB1.out).mono ?_
  rintro e w2 ⟨L, rfl, hO, hlo, _⟩
  have HO := Lib.hid hO
  have HLT : Hid (∀ k, L.owns k → k < w2.heap.size) := hO.here.lt
  clear hO hlo
  go_wp2_with fail
  refine HO.out.len.mono ?_
  rintro e wx ⟨rfl, rfl⟩
  go_wp2_with fail
  refine HO.out.left.mono ?_
  rintro e wx ⟨rfl, n0, rfl⟩
  have HO3 := Lib.hid (HO.out.drewN n0)
  have HLT3 : Hid (∀ k, L.owns k → k < (w2.drewN n0).heap.size) := HLT.out
  clear HO HLT
  generalize w2.drewN n0 = w3 at *
  rw [show ((N - ([] : List (Nat × Adr)).length : Nat) : Int) = (N : Int) from by simp]
  have tt : ((N : Int) != (N : Int)) = false := by simp
  go_wp2_with fail
  clear tt
  obtain ⟨W0, hW0⟩ : ∃ W0, W0 = w3.alloc (.cells #[.int .i64 N, .slice none 0 0] 46) := ⟨_, rfl⟩
  rw [← hW0]
  have HO2 : Hid (Own1 w W0 L N []) := by show Own1 _ _ _ _ _; rw [hW0]; exact HO3.out.alloc _
  have HY2 : Hid (W0.heap[w3.heap.size]? = some (.cells #[.int .i64 N, .slice none 0 0] 46 (0, 0))) := by show _ = _; rw [hW0]; exact heap_alloc_new w3 _
  have HQ0 : Hid (w.heap.size ≤ w3.heap.size) := HO3.out.bel.size
  clear hW0 HO3
  generalize w3.heap.size = q at *
  go_loopg [8, 9, 51] N (fun g iv pv kv wr => ∃ (i : Nat) (vE : Value), g = N - i ∧ i ≤ N ∧ kv = .int .i64 i ∧ Hid (Own1 w wr L N (entsF i) ∧ wr.heap[q]? = some (.cells #[.int .i64 N, vE] 46 (0, 0)) ∧ wr.ownsRow (q + 1) 52 4 vE i (entCells (entsF i))))
  case atStart => exact ⟨0, .slice none 0 0, rfl, by omega, rfl, HO2.out, HY2.out, World.ownsRow_nil _ _ _ _⟩
  case round =>
    clear HO2 HY2
    obtain ⟨i, vE, rfl, hi, rfl, HR⟩ := hrel
    have hqr : q < wr.heap.size := (Array.getElem?_eq_some_iff.1 HR.out.2.1).1
    by_cases hlt : i < N
    · obtain ⟨Wa, hWa⟩ : ∃ Wa, Wa = wr.alloc (.cells #[.int .i64 ((i : Int) % 5), .int .u64 ((i : Int) % 7 + 1), .int .i64 i] 32) := ⟨_, rfl⟩
      have HOa : Hid (Own1 w Wa L N (entsF i)) := by show Own1 _ _ _ _ _; rw [hWa]; exact HR.out.1.alloc _
      have HYa : Hid (Wa.heap[q]? = some (.cells #[.int .i64 N, vE] 46 (0, 0))) := by show _ = _; rw [hWa, Below.heap_alloc _ _ _ hqr]; exact HR.out.2.1
      have HEa : Hid (Wa.ownsRow (q + 1) 52 4 vE i (entCells (entsF i))) := by show World.ownsRow _ _ _ _ _ _ _; rw [hWa]; exact HR.out.2.2.alloc _
      have HAa : Hid (Wa.heap[wr.heap.size]? = some (.cells #[.int .i64 ((i : Int) % 5), .int .u64 ((i : Int) % 7 + 1), .int .i64 i] 32 (0, 0))) := by show _ = _; rw [hWa]; exact heap_alloc_new wr _
      have HW := Lib.hid hWa.symm
      have HNa : Hid (¬ L.owns wr.heap.size) := fun ho => by have := HR.out.1.here.lt _ ho; omega
      clear hWa
      go_upto_region 13 with fail
      rw [HW.out]
      have a0 : Wa.cell? ⟨wr.heap.size, 0, none⟩ = some (.int .i64 ((i : Int) % 5)) := blk_cell HAa.out 0
      have a1 : Wa.cell? ⟨wr.heap.size, 1, none⟩ = some (.int .u64 ((i : Int) % 7 + 1)) := blk_cell HAa.out 1
      have a2 : Wa.cell? ⟨wr.heap.size, 2, none⟩ = some (.int .i64 i) := blk_cell HAa.out 2
      go_wp2_with fail
      refine (addF_at HOa.out hlt).mono ?_
      rintro e Wb ⟨rfl, hob, hfb⟩
      have HOb := Lib.hid hob
      have HYb : Hid (Wb.heap[q]? = some (.cells #[.int .i64 N, vE] 46 (0, 0))) := (hfb.block q (Array.getElem?_eq_some_iff.1 HYa.out).1 (fun ho => by have := HLT3.out q ho; omega)).trans HYa.out
      have hEb := own_frm HEa.out hfb (fun k hk ho => by have := HLT3.out k ho; omega)
      have hAb := (hfb.block _ (Array.getElem?_eq_some_iff.1 HAa.out).1 HNa.out).trans HAa.out
      have b0 : Wb.cell? ⟨wr.heap.size, 0, none⟩ = some (.int .i64 ((i : Int) % 5)) := blk_cell hAb 0
      have b1 : Wb.cell? ⟨wr.heap.size, 1, none⟩ = some (.int .u64 ((i : Int) % 7 + 1)) := blk_cell hAb 1
      have b2 : Wb.cell? ⟨wr.heap.size, 2, none⟩ = some (.int .i64 i) := blk_cell hAb 2
      have y1 : Wb.cell? ⟨q, 1, none⟩ = some vE := blk_cell HYb.out 1
      have hqb : q < Wb.heap.size := (Array.getElem?_eq_some_iff.1 HYb.out).1
      have hsl : IsSlK (Wb.alloc (.cells #[.int .u32 ((i : Int) % 11), .int .i64 ((i : Int) % 5), .int .u64 ((i : Int) % 7 + 1), .int .i64 i] 52)) 4 1 (.slice (some ⟨Wb.heap.size, 0, none⟩) 1 1) [.int .u32 ((i : Int) % 11), .int .i64 ((i : Int) % 5), .int .u64 ((i : Int) % 7 + 1), .int .i64 i] :=
        ⟨rfl, .inr ⟨by decide, Wb.heap.size, 0, 1, rfl, by decide, by decide, by simp, fun j hj => by rw [Nat.zero_add, World.cell?_alloc_mark]; simp⟩⟩
      obtain ⟨v', Wc, hrun, hoc, hgc, _⟩ := app_at (P := Try.prog) (ty := 44) HE.out (hEb.alloc _) hsl (fun u hu => by
        simp only [List.mem_cons, List.mem_nil_iff, or_false] at hu
        rcases hu with rfl | rfl | rfl | rfl <;> rfl) (by omega) (by unfold maxLen; omega) (by simp; omega)
      have hbc : Below (q + 1) Wb Wc := (((Below.refl (q + 1) Wb).alloc (by omega) _)).grown hgc (by simp; omega) (fun k hk => (hEb.lt k hk).1)
      have HRUN := Lib.hid hrun
      have HOC : Hid (Wc.ownsRow (q + 1) 52 4 v' (i + 1) (entCells (entsF (i + 1)))) := by
        show World.ownsRow _ _ _ _ _ _ _
        rw [entsF_succ, entCells_snoc]
        rw [show ((entF i).1 : Int) = (i : Int) % 11 from by unfold entF; simp]
        exact hoc
      have HYc : Hid (Wc.heap[q]? = some (.cells #[.int .i64 N, vE] 46 (0, 0))) := (hbc.block q (by omega)).trans HYb.out
      have HIc : Hid (Own1 w Wc L N (entsF (i + 1))) := ⟨HOb.out.here.frm (frm_of_below hbc) (fun k hk hk2 => by have := HLT3.out k hk; omega), HOb.out.lo, HOb.out.bel.trans (hbc.mono (by have := HQ0.out; omega))⟩
      obtain ⟨a', c', rfl, _⟩ := own_form hoc
      have z1 : Wc.cell? ⟨q, 1, none⟩ = some vE := blk_cell HYc.out 1
      have z2 : Wc.frozen? ⟨q, 1, none⟩ = false := blk_frozen HYc.out 1
      clear hob hfb hEb hAb hsl hrun hoc hgc hbc a0 a1 a2
      go_wp2_with (at_builtin; refine wpList_append_eq rfl _ _ 44 rfl rfl rfl HRUN.out ?_)
      go_roundg (N - (i + 1))
      case measure => omega
      case rel =>
        refine ⟨i + 1, .slice a' (i + 1) c', rfl, by omega, by go_num, ?_, ?_, ?_⟩
        · exact ⟨HIc.out.here.frm ((Frm.refl (fun k => k = q) Wc).setCell (p := ⟨q, 1, none⟩) (.inl rfl) _) (fun k hk e => by have := HLT3.out k hk; omega), HIc.out.lo, HIc.out.bel.setCell (p := ⟨q, 1, none⟩) HQ0.out _⟩
        · have := HYc.out
          simp [World.setCell, Array.getElem?_modify, this]
        · exact own_set HOC.out (by simp) _
    · obtain rfl : i = N := by omega
      go_wp2_with fail
      refine (fullF_at HR.out.1).mono ?_
      rintro e Wb ⟨rfl, hob, hfb⟩
      have hYb := (hfb.block q hqr (fun ho => by have := HLT3.out q ho; omega)).trans HR.out.2.1
      have hEb := own_frm HR.out.2.2 hfb (fun k hk ho => by have := HLT3.out k ho; omega)
      have HSb : Hid (St w Wb L i (entsF i) (entsF i) q) := ⟨hob, ⟨vE, hYb, entAt_of_own (base := q + 1) (e := 52) (by rw [entsF_len]; exact hEb), fun b hb => by have := (hEb.lt b hb).1; exact ⟨fun ho => by have := HLT3.out b ho; omega, by omega⟩⟩, fun ho => by have := HLT3.out q ho; omega, HQ0.out, by rw [entsF_len]; omega⟩
      clear hob hfb hYb hEb HR
      go_wp2_with fail
      refine (HFEW.out _ HSb.out.own.bel).mono ?_
      rintro e w4 ⟨rfl, rfl⟩
      go_wp2_with fail
      go_loopg [10, 11, 87] m (fun g iv pv kv wj => ∃ (j : Nat) (A : List (Nat × Adr)), g = m - j ∧ j ≤ m ∧ kv = .int .i64 j ∧ Hid (St w wj L i A A q))
      case atStart => exact ⟨0, entsF i, rfl, by omega, rfl, HSb.out⟩
      case round =>
        clear HSb
        obtain ⟨j, A, rfl, hj, rfl, HSj⟩ := hrel
        obtain ⟨v, y1, y2, y3⟩ := HSj.out.y
        have d0 : wr.cell? ⟨q, 0, none⟩ = some (.int .i64 i) := blk_cell y1 0
        have d1 : wr.cell? ⟨q, 1, none⟩ = some v := blk_cell y1 1
        have HYj := Lib.hid y1
        clear y1 y2 y3
        by_cases hltj : j < m
        · obtain ⟨b, off, cap', hsl, hb1, hb2, hb3, hc⟩ := HV.out.at (by omega)
          obtain ⟨rfl, rfl⟩ : a = some ⟨b, off, none⟩ ∧ cap = cap' := by cases hsl; exact ⟨rfl, rfl⟩
          have hcell : ∀ k, k < 5 → wr.cell? ⟨b, off + (j * 5 + k), none⟩ = some ((ops j).cell k) := fun k hk => by
            rw [HSj.out.own.bel.cell (p := ⟨b, off + (j * 5 + k), none⟩) hb3]; exact hc j hltj k hk
          have hfit := HOPS.out j hltj
          generalize ops j = o at hcell hfit
          have c0 := hcell 0 (by decide)
          have c1 := hcell 1 (by decide)
          have c2 := hcell 2 (by decide)
          have c3 := hcell 3 (by decide)
          have c4 := hcell 4 (by decide)
          simp only [OpV.cell, Nat.add_zero, ← Nat.add_assoc] at c0 c1 c2 c3 c4
          clear hcell hc hsl
          have hff := hfit.2.1
          have HSo : Hid (St w (wr.alloc (.cells #[.int .i64 o.kind, .int .u32 o.f, .int .i64 o.a.seg, .int .u64 o.a.gen, .int .i64 o.a.sec] 34)) L i A A q) := HSj.out.below ((Below.refl _ _).alloc (Nat.le_refl _) _)
          have HYo : Hid ((wr.alloc (.cells #[.int .i64 o.kind, .int .u32 o.f, .int .i64 o.a.seg, .int .u64 o.a.gen, .int .i64 o.a.sec] 34)).heap[q]? = some (.cells #[.int .i64 i, v] 46 (0, 0))) := (Below.heap_alloc _ _ _ HSj.out.qlt).trans HYj.out
          by_cases h40 : j = 40
          · have h41 : ((j : Int) == 40) = true := beq_iff_eq.2 (by omega)
            clear h40 d0 d1
            have d0 : (wr.alloc (.cells #[.int .i64 o.kind, .int .u32 o.f, .int .i64 o.a.seg, .int .u64 o.a.gen, .int .i64 o.a.sec] 34)).cell? ⟨q, 0, none⟩ = some (.int .i64 i) := blk_cell HYo.out 0
            have d1 : (wr.alloc (.cells #[.int .i64 o.kind, .int .u32 o.f, .int .i64 o.a.seg, .int .u64 o.a.gen, .int .i64 o.a.sec] 34)).cell? ⟨q, 1, none⟩ = some v := blk_cell HYo.out 1
            go_wp2_with fail
            refine (agree_ok w _ L i A q v HSo.out HYo.out).mono ?_
            rintro e W6 ⟨rfl, hs6, hb6⟩
            have HS6 := Lib.hid hs6
            clear hs6 hb6
            go_wp2_with fail
            go_ret
            exact ⟨rfl, HS6.out.own.bel⟩
          · have h41 : ((j : Int) == 40) = false := beq_eq_false_iff_ne.2 (by omega)
            clear h40 d0 d1
            go_wp2_with fail
            refine (does_ok w _ L i A q o HSo.out hff).mono ?_
            rintro e W5 ⟨rfl, hs5, hf5⟩
            have HS5 := Lib.hid hs5
            clear hs5 hf5
            go_wp2_with fail
            go_roundg (m - (j + 1))
            case measure => omega
            case rel => exact ⟨j + 1, _, rfl, by omega, by go_num, HS5.out⟩
        · go_wp2_with fail
          refine (agree_ok w wr L i A q v HSj.out HYj.out).mono ?_
          rintro e W6 ⟨rfl, hs6, hb6⟩
          have HS6 := Lib.hid hs6
          clear hs6 hb6
          go_wp2_with fail
          go_ret
          exact ⟨rfl, HS6.out.own.bel⟩

theorem indexFillsW.walk (a0 : Int) (v1 : Value) (w : World) {H : Type} {enc : TypeId × Value → H} {base b0 : Nat} {spare : Nat → Bool} {held : Bool} {dd : DataW H} {ps : List MemPlace} {r : Reach} (w0 : (Lit.int .i64 a0).wf = true) (w1 : Value.okWide Try.prog w r b0 22 v1) (h1 : DataW.Trod enc Try.prog w base spare held 22 v1 dd ps) :
    Calls Try.prog 6 #[.int .i64 a0, v1] w fun e w' => e = .returned (.bool true) ∧ Below w.heap.size w w' := by
  by_cases h : 1 ≤ a0 ∧ a0 ≤ 1024
  · obtain ⟨N, rfl⟩ := Int.eq_ofNat_of_zero_le (show 0 ≤ a0 by omega)
    obtain ⟨a, n, cap, ops, rfl, hr, hf⟩ := open_ops w1 h1
    exact indexFills N a n cap ops w (by omega) (by omega) hr hf
  · exact indexFills_no a0 v1 w (by omega)
end Go.Proofs.Ytccgdfamjohmgaa
