/- The walk of the law RingTells. No condition. -/
import Derived.Deep.CutBlock
import Derived.Deep.CutRange
import Derived.Test.YtlcdadnfcdjglaaTellsP
import Derived.Test.YtlcdadnfcdjglaaOrdR
import Derived.Test.YtlcdadnfcdjglaaOld
import Derived.Test.YtlcdadnfcdjglaaRegIn
import Derived.Test.YtlcdadnfcdjglaaTurnsW
import Derived.Test.YtlcdadnfcdjglaaCalm
set_option linter.unusedVariables false
set_option linter.unusedSimpArgs false
namespace Go.Proofs.Ytlcdadnfcdjglaa
open Go.RowKit Go.Ice Go.Ring Go.ChangeShapes Go.WideShapes Go.Shelf
attribute [local go_sem] Oper.semAt_some

theorem seek_num (cb : Bool) (o : Option Nat) : ∃ A E : Int, seekV cb o = .tuple #[.int .i64 A, .int .i64 E] ∧ (cb = false → A = 0 ∧ E = 180) ∧ (cb = true → toldB A E (refI o) 4 = true) := by
  cases cb with
  | false => exact ⟨0, 180, rfl, fun _ => ⟨rfl, rfl⟩, fun h => by cases h⟩
  | true =>
    cases o with
    | none => exact ⟨0, 4, rfl, (fun h => by cases h), fun _ => by simp [toldB, refI]⟩
    | some i => exact ⟨i, 0, rfl, (fun h => by cases h), fun _ => by unfold toldB refI; rw [if_neg (by simp only; omega)]; simp⟩
theorem next_num (cb : Bool) (o : Option Nat) : ∃ A E : Int, nextV cb o = .tuple #[.int .i64 A, .int .i64 E] ∧ (cb = false → A = 0 ∧ E = 180) ∧ (cb = true → toldB A E (refI o) 6 = true) := by
  cases cb with
  | false => exact ⟨0, 180, rfl, fun _ => ⟨rfl, rfl⟩, fun h => by cases h⟩
  | true =>
    cases o with
    | none => exact ⟨0, 6, rfl, (fun h => by cases h), fun _ => by simp [toldB, refI]⟩
    | some i => exact ⟨i, 0, rfl, (fun h => by cases h), fun _ => by unfold toldB refI; rw [if_neg (by simp only; omega)]; simp⟩

theorem order_le2 (l : List Seg) : (Go.Ring.order l).length ≤ l.length := by
  have h1 := (sortR_perm (gen l) (nonfree l)).length_eq
  have h2 : (nonfree l).length ≤ l.length := by unfold nonfree; have := List.length_filter_le (fun i => !decide ((at' l i).st = 0)) (List.range l.length); simpa using this
  show (sortR (gen l) (nonfree l)).length ≤ l.length
  omega
theorem order_le {sec : Int} {l : List Seg} (h : checkB sec l = true) : (Go.Ring.order l).length ≤ 16 := by
  have h1 := (sortR_perm (gen l) (nonfree l)).length_eq
  have h2 : (nonfree l).length ≤ l.length := by unfold nonfree; have := List.length_filter_le (fun i => !decide ((at' l i).st = 0)) (List.range l.length); simpa using this
  have h3 := check_size h
  show (sortR (gen l) (nonfree l)).length ≤ 16
  omega
/-- Between two rounds. -/
structure TLS (w Y : World) (r Rn : Nat) (ds : List Deferred) (W : World) : Prop where
  bel : Below Y.heap.size Y W
  rn : Boxed W Rn 3 (.int .i64 (r : Nat))
  lo : Y.heap.size ≤ Rn
  mks : Marks w.heap.size ds W
theorem TLS.next {w Y wr W : World} {r Rn : Nat} {ds : List Deferred} (h : TLS w Y r Rn ds wr) (hw : w.heap.size ≤ Y.heap.size) (hb : Below wr.heap.size wr W) {D' : Nat} (hD : wr.heap.size ≤ D') (hk : W.heap[D']? = some (.deferred (some []))) :
    TLS w Y (r + 1) W.heap.size ({ target := .collected D', args := #[] } :: ds) (W.alloc (.cells #[.int .i64 ((r + 1 : Nat) : Int)] 3)) := by
  have h1 := h.bel.size
  have h2 := hb.size
  have h3 : Below W.heap.size W (W.alloc (.cells #[.int .i64 ((r + 1 : Nat) : Int)] 3)) := (Below.refl _ _).alloc (Nat.le_refl _) _
  exact ⟨h.bel.trans ((hb.trans (h3.mono h2)).mono h1), Boxed.new W 3 _, by omega, (((h.mks.below hb).cons (by omega) hk (h.mks.lt hD)).below h3)⟩

set_option maxRecDepth 100000 in
set_option maxHeartbeats 20000000 in
theorem ringTells (w : World) (sec : Int) (v : Value) (l0 : List Seg) (h : SegsAt w v l0) :
    Calls Try.prog 5 #[ringV sec v] w fun e w' => e = .returned (.bool true) ∧ Below w.heap.size w w' := by
  obtain ⟨B, Rz, W0, HB, HRZ, HW, HK, HZ⟩ := boxed2 w #[.int .i64 sec, v] 25 #[.bool false] 4
  have HR0 := Lib.hid h
  have HWK := Lib.hid (wakes W0)
  clear h
  unfold ringV
  refine (callsIn_wide (n := 5)).1 ?_
  refine callsIn_of_wp_marks Try.func5 rfl trivial ?_ rfl
  simp only [Try.ntmps5, List.size_toArray, List.length_cons, List.length_nil, Nat.reduceAdd, Nat.reduceSub, Array.replicate_succ, Array.replicate_zero, List.push_toArray, List.append_toArray, List.nil_append, List.cons_append]
  refine wpIn_wide.2 ?_
  go_upto_region 1 with fail
  rw [HRZ.out, HB.out, HW.out]
  go_wp2_with fail
  refine HWK.out.mono ?_
  rintro e w1 ⟨rfl, hb⟩
  have HK1 := Lib.hid (HK.out.step hb)
  have HSH := Lib.hid (short w1 sec v l0 (RowAt.below HR0.out HK1.out.below (Nat.le_refl _)))
  have b0 : w1.cell? ⟨B, 0, none⟩ = some (.int .i64 sec) := blk_cell HK1.out.b0 0
  have b1 : w1.cell? ⟨B, 1, none⟩ = some v := blk_cell HK1.out.b0 1
  unfold ringV at HSH
  clear hb HWK HK
  go_wp2_with fail
  refine HSH.out.mono ?_
  rintro e w2 ⟨g, rfl, hs, hb⟩
  have HK2 := Lib.hid (HK1.out.step hb)
  have hle : (l0.take 40).length ≤ 40 := by rw [List.length_take]; omega
  have H40 : Hid ((l0.take 40).length ≤ 40) := hle
  generalize hl : l0.take 40 = l at *
  have HS := Lib.hid hs
  have HSW : Hid (w1.heap.size ≤ w2.heap.size ∧ B < w1.heap.size ∧ Rz < w1.heap.size ∧ Rz = B + 1) := ⟨hb.size, blk_lt HK1.out.b0, blk_lt HK1.out.b1, by have := HB.out; have := HRZ.out; omega⟩
  have d0 : w2.cell? ⟨B, 0, none⟩ = some (.int .i64 sec) := blk_cell HK2.out.b0 0
  have d1 : w2.cell? ⟨B, 1, none⟩ = some v := blk_cell HK2.out.b0 1
  have fd := fun r => blk_frozen HK2.out.b0 r
  clear hs hb b0 b1 HSH hl hle
  obtain ⟨n, hn⟩ : ∃ n, n = l.length := ⟨_, rfl⟩
  have HN := Lib.hid hn
  unfold shtV
  rw [← hn]
  clear hn
  go_upto_region 4 with fail
  obtain ⟨w3, hw3⟩ : ∃ w3, w3 = (w2.setCell ⟨B, 0, none⟩ (.int .i64 sec)).setCell ⟨B, 1, none⟩ (.slice (some ⟨g, 0, none⟩) n (n + 2)) := ⟨_, rfl⟩
  have HK3 : Hid (Kp w [(B, .cells #[.int .i64 sec, .slice (some ⟨g, 0, none⟩) n (n + 2)] 25), (Rz, .cells #[.bool false] 4)] w3) := by
    show Kp _ _ _
    rw [hw3]
    have := (HK2.out.set0 (k := 0) (Nat.le_of_eq HB.out) (fun p hp => by have := HSW.out; simp only [List.mem_cons, List.mem_nil_iff, or_false] at hp; subst hp; show Rz ≠ B; omega) (.int .i64 sec)).set0 (k := 1) (Nat.le_of_eq HB.out) (fun p hp => by have := HSW.out; simp only [List.mem_cons, List.mem_nil_iff, or_false] at hp; subst hp; show Rz ≠ B; omega) (.slice (some ⟨g, 0, none⟩) n (n + 2))
    simpa using this
  have HS3 : Hid (Sht w3 w1.heap.size g l) := by
    show Sht _ _ _ _
    rw [hw3]
    have h1 := (HS.out.lt g rfl).1
    exact ring_set2 HS.out (by have := HSW.out; omega) _ _
  rw [← hw3]
  have HC3 : Hid (Calls Try.prog 16 #[.agg #[.int .i64 sec, .slice (some ⟨g, 0, none⟩) n (n + 2)]] w3 fun e w' => ∃ u, e = .returned (ringV sec u) ∧ OwnSegs w' w3.heap.size u l ∧ Below w3.heap.size w3 w') := by
    have := copy w3 sec (shtV g l) l HS3.out.segs (by have := H40.out; omega)
    unfold shtV at this
    rw [← HN.out] at this
    exact this
  have b0 : w3.cell? ⟨B, 0, none⟩ = some (.int .i64 sec) := blk_cell HK3.out.b0 0
  have b1 : w3.cell? ⟨B, 1, none⟩ = some (.slice (some ⟨g, 0, none⟩) n (n + 2)) := blk_cell HK3.out.b0 1
  have HSW3 : Hid (w3.heap.size = w2.heap.size) := (show w3.heap.size = _ by rw [hw3]; simp [World.setCell])
  clear hw3 d0 d1 fd HK2 HS
  go_wp2_with fail
  refine HC3.out.mono ?_
  rintro e w4 ⟨vw, rfl, ho, hb⟩
  have HK4 := Lib.hid (HK3.out.step hb)
  have HS4 : Hid (Sht w4 w1.heap.size g l) := HS3.out.below hb
  have HO4 := Lib.hid ho
  have HW43 : Hid (w3.heap.size ≤ w4.heap.size) := hb.size
  obtain ⟨av, nv, cv, hvw⟩ := own_sl ho
  unfold ringV
  clear ho hb b0 b1 HC3 HK3 HS3
  subst hvw
  go_upto_region 5 with fail
  obtain ⟨D, hD⟩ : ∃ D, D = w4.heap.size := ⟨_, rfl⟩
  obtain ⟨Y0, hY0⟩ : ∃ Y, Y = w4.alloc (.cells #[.int .i64 sec, .slice av nv cv] 25) := ⟨_, rfl⟩
  have HY0 : Hid (TS w [(D, .cells #[.int .i64 sec, .slice av nv cv] 25), (B, .cells #[.int .i64 sec, .slice (some ⟨g, 0, none⟩) n (n + 2)] 25), (Rz, .cells #[.bool false] 4)] g l (.slice av nv cv) Y0) := by
    have hb4 : Below w4.heap.size w4 Y0 := by rw [hY0]; exact (Below.refl _ w4).alloc (Nat.le_refl _) _
    refine ⟨?_, own_base (own_below HS4.out hb4) (by have := HK1.out.below.size; omega), own_base (own_below HO4.out hb4) (by have := HK1.out.below.size; have := HSW.out; have := HSW3.out; omega)⟩
    rw [hY0, hD]; exact HK4.out.alloc _
  have HBW : Hid (B < D ∧ Rz < D ∧ B ≠ Rz ∧ w.heap.size ≤ B ∧ g ≠ Rz ∧ ∀ k, (Value.slice av nv cv).ownBlock = some k → k ≠ Rz) := by
    refine ⟨by rw [hD]; exact blk_lt HK4.out.b0, by rw [hD]; exact blk_lt HK4.out.b1, by have := HSW.out; omega, Nat.le_of_eq HB.out, by have := (HS4.out.lt g rfl).1; have := HSW.out; omega, fun k hk => by have := (HO4.out.lt k hk).1; have := HSW.out; have := HSW3.out; omega⟩
  have HRW : Hid (w.heap.size ≤ Rz) := (show w.heap.size ≤ Rz by have := HRZ.out; omega)
  rw [← hD, ← hY0]
  clear hD hY0 HK4 HS4 HO4 HW43 HSW3 HSW HK1 HR0 HZ HB HRZ
  obtain ⟨A1, E1, hA1, nA1, tA1⟩ := seek_num (checkB sec l) (openedP l)
  have HC17 : Hid (Calls Try.prog 17 #[.agg #[.int .i64 sec, .slice (some ⟨g, 0, none⟩) n (n + 2)]] Y0 fun e w' => e = .returned (.tuple #[.int .i64 A1, .int .i64 E1]) ∧ Below Y0.heap.size Y0 w') := by
    have := opend Y0 sec (shtV g l) l HY0.out.sht.segs
    unfold shtV at this
    rw [← HN.out, hA1] at this
    exact this
  have HNA1 := Lib.hid nA1
  have HTA1 := Lib.hid tA1
  have b0 : Y0.cell? ⟨B, 0, none⟩ = some (.int .i64 sec) := blk_cell HY0.out.kp.b1 0
  have b1 : Y0.cell? ⟨B, 1, none⟩ = some (.slice (some ⟨g, 0, none⟩) n (n + 2)) := blk_cell HY0.out.kp.b1 1
  clear hA1 nA1 tA1
  go_wp2_with fail
  refine HC17.out.mono ?_
  rintro e Y1 ⟨rfl, hb⟩
  have HY1 := Lib.hid (HY0.out.step hb)
  clear hb b0 b1 HC17 HY0
  obtain ⟨A2, E2, hA2, nA2, tA2⟩ := next_num (checkB sec l) (nextP l)
  have HC18 : Hid (Calls Try.prog 18 #[.agg #[.int .i64 sec, .slice (some ⟨g, 0, none⟩) n (n + 2)]] Y1 fun e w' => e = .returned (.tuple #[.int .i64 A2, .int .i64 E2]) ∧ Below Y1.heap.size Y1 w') := by
    have := next Y1 sec (shtV g l) l HY1.out.sht.segs
    unfold shtV at this
    rw [← HN.out, hA2] at this
    exact this
  have HNA2 := Lib.hid nA2
  have HTA2 := Lib.hid tA2
  have b0 : Y1.cell? ⟨B, 0, none⟩ = some (.int .i64 sec) := blk_cell HY1.out.kp.b1 0
  have b1 : Y1.cell? ⟨B, 1, none⟩ = some (.slice (some ⟨g, 0, none⟩) n (n + 2)) := blk_cell HY1.out.kp.b1 1
  clear hA2 nA2 tA2
  go_wp2_with fail
  refine HC18.out.mono ?_
  rintro e Y2 ⟨rfl, hb⟩
  have HY2 := Lib.hid (HY1.out.step hb)
  clear hb b0 b1 HC18 HY1
  obtain ⟨A3, E3, hA3, nA3, tA3⟩ := seek_num (checkB sec l) (oldestP l)
  have HC19 : Hid (Calls Try.prog 19 #[.agg #[.int .i64 sec, .slice (some ⟨g, 0, none⟩) n (n + 2)]] Y2 fun e w' => e = .returned (.tuple #[.int .i64 A3, .int .i64 E3]) ∧ Below Y2.heap.size Y2 w') := by
    have := oldst Y2 sec (shtV g l) l HY2.out.sht.segs
    unfold shtV at this
    rw [← HN.out, hA3] at this
    exact this
  have HNA3 := Lib.hid nA3
  have HTA3 := Lib.hid tA3
  have b0 : Y2.cell? ⟨B, 0, none⟩ = some (.int .i64 sec) := blk_cell HY2.out.kp.b1 0
  have b1 : Y2.cell? ⟨B, 1, none⟩ = some (.slice (some ⟨g, 0, none⟩) n (n + 2)) := blk_cell HY2.out.kp.b1 1
  clear hA3 nA3 tA3
  go_wp2_with fail
  refine HC19.out.mono ?_
  rintro e Y3 ⟨rfl, hb⟩
  have HY3 := Lib.hid (HY2.out.step hb)
  clear hb b0 b1 HC19 HY2
  obtain ⟨fN, hfN⟩ : ∃ fN : Int, fN = if checkB sec l then (n : Int) - ((Go.Ring.order l).length : Nat) else 0 := ⟨_, rfl⟩
  obtain ⟨lN, hlN⟩ : ∃ lN : Int, lN = if checkB sec l then leftP sec l else 0 := ⟨_, rfl⟩
  have HCE : Hid (∀ X, Below Y3.heap.size Y3 X → X.cell? ⟨B, 0, none⟩ = some (.int .i64 sec) ∧ X.cell? ⟨B, 1, none⟩ = some (.slice (some ⟨g, 0, none⟩) n (n + 2))) := fun X hX =>
    ⟨blk_cell (HY3.out.step hX).kp.b1 0, blk_cell (HY3.out.step hX).kp.b1 1⟩
  have HC1 : Hid (∀ X, Below Y3.heap.size Y3 X → Calls Try.prog 20 #[.agg #[.int .i64 sec, .slice (some ⟨g, 0, none⟩) n (n + 2)]] X fun e w' => e = .returned (.int .i64 fN) ∧ Below Y3.heap.size Y3 w') := fun X hX => by
    have := frees X sec (shtV g l) l (HY3.out.step hX).sht.segs
    unfold shtV freesV at this
    rw [← HN.out, ← hfN] at this
    exact this.mono fun e w' ⟨h1, h2⟩ => ⟨h1, hX.trans (h2.mono hX.size)⟩
  have HC2 : Hid (∀ X, Below Y3.heap.size Y3 X → Calls Try.prog 21 #[.agg #[.int .i64 sec, .slice (some ⟨g, 0, none⟩) n (n + 2)]] X fun e w' => e = .returned (.int .i64 lN) ∧ Below Y3.heap.size Y3 w') := fun X hX => by
    have := left X sec (shtV g l) l (HY3.out.step hX).sht.segs
    unfold shtV leftV at this
    rw [← HN.out, ← hlN] at this
    exact this.mono fun e w' ⟨h1, h2⟩ => ⟨h1, hX.trans (h2.mono hX.size)⟩
  have HFN := Lib.hid hfN
  have HLN := Lib.hid hlN
  clear hfN hlN
  obtain ⟨b0, b1⟩ := HCE.out Y3 (Below.refl _ _)
  go_upto_region 8 with fail
  go_cut [10, 11] from 39 to 42 (fun s10 s11 W => s10 = .int .i64 fN ∧ s11 = .int .i64 lN ∧ Hid (Below Y3.heap.size Y3 W))
  case first =>
    refine wp_calm ?_
    go_region_with (first
      | (go_at_call 20
         refine (HC1.out _ (drewN_below Y3 1)).mono ?_
         rintro e X1 ⟨rfl, hx⟩
         have HX1 := Lib.hid hx
         obtain ⟨d0, d1⟩ := HCE.out X1 HX1.out
         clear hx)
      | (go_at_call 21
         refine (HC2.out _ HX1.out).mono ?_
         rintro e X2 ⟨rfl, hx⟩
         have HX2 := Lib.hid hx
         obtain ⟨f0, f1⟩ := HCE.out X2 HX2.out
         clear hx))
    all_goals
      go_wp2_with fail
      go_meet
      case rel => exact ⟨rfl, rfl, HX2⟩
  case rest =>
    obtain ⟨rfl, rfl, HX⟩ := hcut
    have HY4 := Lib.hid (HY3.out.step HX.out)
    clear HX HCE HC1 HC2 HY3 b0 b1
    have b0 : wc.cell? ⟨B, 0, none⟩ = some (.int .i64 sec) := blk_cell HY4.out.kp.b1 0
    have b1 : wc.cell? ⟨B, 1, none⟩ = some (.slice (some ⟨g, 0, none⟩) n (n + 2)) := blk_cell HY4.out.kp.b1 1
    have HOV : Hid (Calls Try.prog 22 #[.agg #[.int .i64 sec, .slice (some ⟨g, 0, none⟩) n (n + 2)]] wc fun e w' => ∃ Bq uq, e = .returned (.func (.func 48) #[] #[.pointer (some ⟨Bq, 0, none⟩)]) ∧ OwnSegs w' wc.heap.size uq l ∧ Kp wc [(Bq, .cells #[.int .i64 sec, uq] 25)] w' ∧ wc.heap.size ≤ Bq ∧ (∀ k, uq.ownBlock = some k → k ≠ Bq)) := by
      have := orderV wc sec (shtV g l) l HY4.out.sht.segs (by have := H40.out; omega)
      unfold shtV at this
      rw [← HN.out] at this
      exact this
    go_wp2_with fail
    refine HOV.out.mono ?_
    rintro e Y5 ⟨Bq, uq, rfl, ho, hk, hq1, hq2⟩
    have HY5 := Lib.hid (HY4.out.step hk.below)
    have HQ : Hid (Kp wc [(Bq, .cells #[.int .i64 sec, uq] 25)] Y5 ∧ OwnSegs Y5 wc.heap.size uq l ∧ wc.heap.size ≤ Bq ∧ D < wc.heap.size) := ⟨hk, ho, hq1, blk_lt HY4.out.kp.b0⟩
    clear ho hk hq1 hq2 HOV HY4 b0 b1
    have hnil : ∀ (x : Array Value) (W : World), (binOp .eql 39 (.func (.func 48) #[] x) .nilFunc).run Try.prog W = .ok (.bool false) W := fun x W => by kernel_rfl
    have b0 : Y5.cell? ⟨B, 0, none⟩ = some (.int .i64 sec) := blk_cell HY5.out.kp.b1 0
    have b1 : Y5.cell? ⟨B, 1, none⟩ = some (.slice (some ⟨g, 0, none⟩) n (n + 2)) := blk_cell HY5.out.kp.b1 1
    have d0 : Y5.cell? ⟨D, 0, none⟩ = some (.int .i64 sec) := blk_cell HY5.out.kp.b0 0
    have d1 : Y5.cell? ⟨D, 1, none⟩ = some (.slice av nv cv) := blk_cell HY5.out.kp.b0 1
    have HWH : Hid (Calls Try.prog 23 #[.agg #[.int .i64 sec, .slice (some ⟨g, 0, none⟩) n (n + 2)], .agg #[.int .i64 sec, .slice av nv cv]] Y5 fun e w' => e = .returned (.bool true) ∧ Below Y5.heap.size Y5 w') := by
      have := whole Y5 w.heap.size g sec (.slice av nv cv) l HY5.out.sht HY5.out.was.segs (by have := H40.out; omega)
      unfold shtV at this
      rw [← HN.out] at this
      exact this
    go_wp2_with fail
    refine HWH.out.mono ?_
    rintro e Y6 ⟨rfl, hb⟩
    have HY6 := Lib.hid (HY5.out.step hb)
    have HQ6 : Hid (Kp wc [(Bq, .cells #[.int .i64 sec, uq] 25)] Y6 ∧ OwnSegs Y6 wc.heap.size uq l ∧ wc.heap.size ≤ Bq ∧ D < wc.heap.size) := ⟨HQ.out.1.step hb, own_below HQ.out.2.1 hb, HQ.out.2.2⟩
    clear hb b0 b1 d0 d1 HWH HQ HY5 hnil
    have b0 : Y6.cell? ⟨B, 0, none⟩ = some (.int .i64 sec) := blk_cell HY6.out.kp.b1 0
    have b1 : Y6.cell? ⟨B, 1, none⟩ = some (.slice (some ⟨g, 0, none⟩) n (n + 2)) := blk_cell HY6.out.kp.b1 1
    have HRR : Hid (Calls Try.prog 24 #[.agg #[.int .i64 sec, .slice (some ⟨g, 0, none⟩) n (n + 2)]] Y6 fun e w' => e = .returned (.bool (rightB sec l)) ∧ Below Y6.heap.size Y6 w') := by
      have := rightRef Y6 sec (shtV g l) l HY6.out.sht.segs
      unfold shtV at this
      rw [← HN.out] at this
      exact this
    rw [← check_right] at HRR
    go_wp2_with fail
    refine HRR.out.mono ?_
    rintro e Y7 ⟨rfl, hb⟩
    have HY7 := Lib.hid (HY6.out.step hb)
    have HQ7 : Hid (Kp wc [(Bq, .cells #[.int .i64 sec, uq] 25)] Y7 ∧ OwnSegs Y7 wc.heap.size uq l ∧ wc.heap.size ≤ Bq ∧ D < wc.heap.size) := ⟨HQ6.out.1.step hb, own_below HQ6.out.2.1 hb, HQ6.out.2.2⟩
    clear hb b0 b1 HRR HQ6 HY6
    cases hcb : checkB sec l with
    | false =>
      rw [hcb] at HNA1 HNA2 HNA3 HFN HLN
      obtain ⟨rfl, rfl⟩ := HNA1.out rfl
      obtain ⟨rfl, rfl⟩ := HNA2.out rfl
      obtain ⟨rfl, rfl⟩ := HNA3.out rfl
      simp only [Bool.false_eq_true, if_false] at HFN HLN
      obtain rfl := HFN.out
      obtain rfl := HLN.out
      have HTL : Hid (tellL sec l = []) := by show _ = _; unfold tellL; rw [hcb]; rfl
      have HCB := Lib.hid hcb
      have HSQ : Hid (SeqStopsK Fence.wide 4 Try.prog 48 #[.pointer (some ⟨Bq, 0, none⟩)] encS (CK (fun _ => False)) (fun ys => ys = tellL sec l) (fun pre => pre <+: tellL sec l) (tellL sec l).length Y7) :=
        order_stops 4 (by omega) Bq sec uq l (fun _ => False) Y7 HQ7.out.1.b0 HQ7.out.2.1.segs (fun h => h) (fun k _ h => h) (fun k _ h => h)
      clear hcb HTA1 HTA2 HTA3 HNA1 HNA2 HNA3
      go_wp2_with fail
      refine (wpIn_wide (n := 5)).1 ?_
      refine wpIn_rangeFunc_ownF rfl (by omega) (gf := 48) (lb := #[.pointer (some ⟨Bq, 0, none⟩)]) rfl trivial (enters_of Try.func48 (by kernel_rfl) rfl)
        HSQ.out (fun h k => CK.trans h k) (fun W l o o' hl h hc hw => CK.put W l o o' hl h hc hw) (Below.refl _ _) (fun _ => rfl)
        (fun pre W => Below Y7.heap.size Y7 W) (fun _ _ _ => False)
        (ownFrom_below (Nat.le_refl _) (Nat.le_refl _)) (fun _ _ _ _ _ hs _ _ => hs) (Below.refl _ _)
        (fun x => { tmps := #[.agg #[.int .i64 sec, v], .pointer (some ⟨B, 0, none⟩), .pointer (some ⟨Rz, 0, none⟩), .pointer (some ⟨D, 0, none⟩), .int .i64 0, .int .i64 180, .int .i64 0, .int .i64 180, .int .i64 0, .int .i64 180, .int .i64 0, .int .i64 0, .func (.func 48) #[] #[.pointer (some ⟨Bq, 0, none⟩)], undef, undef, undef, undef, undef, .bool true, .bool false, .agg #[.int .i64 sec, v], .agg #[.int .i64 sec, .slice (some ⟨g, 0, none⟩) n (n + 2)], .agg #[.int .i64 sec, .slice (some ⟨g, 0, none⟩) n (n + 2)], .agg #[.int .i64 sec, .slice av nv cv], .tuple #[.int .i64 0, .int .i64 180], .agg #[.int .i64 sec, .slice (some ⟨g, 0, none⟩) n (n + 2)], .tuple #[.int .i64 0, .int .i64 180], .int .i64 0, .int .i64 180, .tuple #[.int .i64 0, .int .i64 180], .agg #[.int .i64 sec, .slice (some ⟨g, 0, none⟩) n (n + 2)], .tuple #[.int .i64 0, .int .i64 180], .int .i64 0, .int .i64 180, .tuple #[.int .i64 0, .int .i64 180], .agg #[.int .i64 sec, .slice (some ⟨g, 0, none⟩) n (n + 2)], .tuple #[.int .i64 0, .int .i64 180], .int .i64 0, .int .i64 180, u39, u40, u41, u42, .agg #[.int .i64 sec, .slice (some ⟨g, 0, none⟩) n (n + 2)], .func (.func 48) #[] #[.pointer (some ⟨Bq, 0, none⟩)], .func (.func 48) #[] #[.pointer (some ⟨Bq, 0, none⟩)], .bool false, .bool false, .agg #[.int .i64 sec, .slice (some ⟨g, 0, none⟩) n (n + 2)], .agg #[.int .i64 sec, .slice av nv cv], .bool true, .bool false, .bool false, .agg #[.int .i64 sec, .slice (some ⟨g, 0, none⟩) n (n + 2)], .bool false, .bool true, .func (.func 48) #[] #[.pointer (some ⟨Bq, 0, none⟩)], .int .i64 x.1, .agg #[.int .i64 x.2.st, .int .u64 x.2.gen, .int .i64 x.2.used], undef, undef, undef, undef, undef, undef, undef, undef, undef, undef, undef, undef, undef, undef, undef, undef, undef, undef, undef, undef, undef, undef, undef, undef, undef, undef, undef, undef, undef, undef, undef, undef, undef, undef, undef, undef, undef, undef, undef, undef, undef, undef, undef, undef, undef, undef, undef, undef, undef, undef, undef, undef, undef, undef, undef, undef, undef, undef, undef, undef, undef, undef, undef, undef, undef, undef, undef, undef, undef, undef, undef, undef, undef, undef, undef, undef, undef, undef, undef, undef, undef, undef, undef, undef, undef, undef, undef, undef, undef, undef, undef, undef, undef, undef, undef, undef, undef, undef, undef, undef, undef, undef, undef, undef, undef, undef, undef, undef, undef, undef, undef, undef, undef, undef, undef, undef, undef, undef, undef, undef, undef, undef], defers := [] }) ?assign ?body ?done ?stop
      case assign =>
        intro l x W K hK
        unfold encS segV
        gi_wp2
        exact hK
      case body =>
        intro l' pre x W hI hlt
        rw [HTL.out] at hlt
        simp at hlt
      case stop =>
        rintro D' c pre W hD _ h _
        exact h.elim
      case done =>
        rintro D' ys W hD' hys hI hmk
        have HYW := Lib.hid (HY7.out.step hI)
        have HMW : Hid (W.heap[D']? = some (.deferred (some [])) ∧ Y7.heap.size ≤ D') := ⟨hmk, hD'⟩
        clear hmk hD' hI
        have HCK : Hid (Calls Try.prog 13 #[.agg #[.int .i64 sec, .slice (some ⟨g, 0, none⟩) n (n + 2)]] W fun e w' => e = .returned (.int .i64 180) ∧ Below W.heap.size W w') := by
          have := chek W sec (shtV g l) l HYW.out.sht.segs
          unfold shtV chekE at this
          rw [← HN.out, HCB.out] at this
          exact this
        have b0 : W.cell? ⟨B, 0, none⟩ = some (.int .i64 sec) := blk_cell HYW.out.kp.b1 0
        have b1 : W.cell? ⟨B, 1, none⟩ = some (.slice (some ⟨g, 0, none⟩) n (n + 2)) := blk_cell HYW.out.kp.b1 1
        go_wp2_with fail
        refine HCK.out.mono ?_
        rintro e W2 ⟨rfl, hb⟩
        have HY2 := Lib.hid (HYW.out.step hb)
        have HM2 : Hid (W2.heap[D']? = some (.deferred (some []))) := (hb.block _ (Array.getElem?_eq_some_iff.1 HMW.out.1).1).trans HMW.out.1
        have r0 : W2.cell? ⟨Rz, 0, none⟩ = some (.bool false) := blk_cell HY2.out.kp.b2 0
        have r1 : W2.frozen? ⟨Rz, 0, none⟩ = false := blk_frozen HY2.out.kp.b2 0
        clear hb b0 b1 HCK
        go_wp2_with fail
        have HM3 : Hid (Marks w.heap.size [{ target := .collected D', args := #[] }] (W2.setCell ⟨Rz, 0, none⟩ (.bool true))) := by
          refine ((Marks.nil w.heap.size _).cons (by have := HMW.out.2; have := HY7.out.kp.below.size; omega) ?_ (fun d hd => by cases hd))
          exact (Marks.set (e := 4) ⟨fun d hd => by simp only [List.mem_cons, List.mem_nil_iff, or_false] at hd; subst hd; exact ⟨D', rfl, Nat.zero_le _, HM2.out⟩, List.pairwise_singleton _ _⟩ HY2.out.kp.b2 0 (.bool true)).all _ (.head _) |>.elim fun D2 h => by
            obtain ⟨h1, h2, h3⟩ := h
            injection h1 with h1 _
            injection h1 with h1
            subst h1
            exact h3
        have hcell : (W2.setCell ⟨Rz, 0, none⟩ (.bool true)).cell? ⟨Rz, 0, none⟩ = some (.bool true) := World.cell?_setCell_same' W2 ⟨Rz, 0, none⟩ (.bool true) (by rw [r0]; rfl)
        have hbel : Below w.heap.size w (W2.setCell ⟨Rz, 0, none⟩ (.bool true)) := HY2.out.kp.below.setCell HRW.out _
        exact Marks.leave _ _ HM3.out hbel.size fun W3 hb hc => ⟨.bool true, by simp [results, Try.f5, go_sem, hc.cell (fun h => h) hcell], rfl, hbel.trans hb⟩
    | true =>
      rw [hcb] at HTA1 HTA2 HTA3 HFN HLN
      have hT1 := HTA1.out rfl
      have hT2 := HTA2.out rfl
      have hT3 := HTA3.out rfl
      simp only [if_true] at HFN HLN
      have HT1 := Lib.hid hT1
      have HT2 := Lib.hid hT2
      have HT3 := Lib.hid hT3
      have HCB := Lib.hid hcb
      have hsz := check_size hcb
      have HSZ : Hid (4 ≤ n ∧ n ≤ 16) := ⟨by rw [HN.out]; exact hsz.1, by rw [HN.out]; exact hsz.2.1⟩
      have HOR : Hid (Calls Try.prog 25 #[.agg #[.int .i64 sec, .slice (some ⟨g, 0, none⟩) n (n + 2)]] Y7 fun e w' => ∃ u, e = .returned u ∧ IsSl w' u ((Go.Ring.order l).map intV) ∧ Below Y7.heap.size Y7 w') := by
        have := orderRef Y7 sec (shtV g l) l HY7.out.sht.segs (by omega) (by omega)
        unfold shtV at this
        rw [← HN.out, ← order_eq hcb] at this
        exact this
      have b0 : Y7.cell? ⟨B, 0, none⟩ = some (.int .i64 sec) := blk_cell HY7.out.kp.b1 0
      have b1 : Y7.cell? ⟨B, 1, none⟩ = some (.slice (some ⟨g, 0, none⟩) n (n + 2)) := blk_cell HY7.out.kp.b1 1
      clear hcb hT1 hT2 hT3 HTA1 HTA2 HTA3 HNA1 HNA2 HNA3 hsz
      go_wp2_with fail
      refine HOR.out.mono ?_
      rintro e Ya ⟨u, rfl, hu, hb⟩
      have HYa := Lib.hid (HY7.out.step hb)
      have HQa : Hid (Kp wc [(Bq, .cells #[.int .i64 sec, uq] 25)] Ya ∧ OwnSegs Ya wc.heap.size uq l ∧ wc.heap.size ≤ Bq ∧ D < wc.heap.size) := ⟨HQ7.out.1.step hb, own_below HQ7.out.2.1 hb, HQ7.out.2.2⟩
      obtain ⟨ua, uc, rfl, hmu⟩ := hu.form
      rw [List.length_map] at hu hmu ⊢
      obtain ⟨N, hN⟩ : ∃ N, N = (Go.Ring.order l).length := ⟨_, rfl⟩
      rw [← hN] at hu hmu ⊢
      have HNN := Lib.hid hN
      have HU := Lib.hid hu
      rw [← hN] at HFN
      clear hb b0 b1 HOR HQ7 HY7 hN hu
      go_upto_region 17 with fail
      obtain ⟨Ob, hOb⟩ : ∃ x, x = Ya.heap.size := ⟨_, rfl⟩
      obtain ⟨Y8, hY8⟩ : ∃ x, x = Ya.alloc (.cells #[.slice ua N uc] 42) := ⟨_, rfl⟩
      have hba : Below Ya.heap.size Ya Y8 := by rw [hY8]; exact (Below.refl _ _).alloc (Nat.le_refl _) _
      have HY8 := Lib.hid (HYa.out.step hba)
      have HQ8 : Hid (Kp wc [(Bq, .cells #[.int .i64 sec, uq] 25)] Y8 ∧ OwnSegs Y8 wc.heap.size uq l ∧ wc.heap.size ≤ Bq ∧ D < wc.heap.size) := ⟨HQa.out.1.step hba, own_below HQa.out.2.1 hba, HQa.out.2.2⟩
      have HU8 : Hid (IsSl Y8 (.slice ua N uc) ((Go.Ring.order l).map intV)) := HU.out.below hba (Nat.le_refl _)
      have HOB : Hid (Y8.heap[Ob]? = some (.cells #[.slice ua N uc] 42 (0, 0))) := by show _ = _; rw [hY8, hOb]; exact heap_alloc_new Ya _
      rw [← hOb, ← hY8]
      clear hba hOb hY8 HYa HQa HU
      go_wp2_with fail
      refine wp_loop_ghost_k (fun gk a' W => ∃ (r Rn : Nat) (ds : List Deferred), ∃ z15 z16 z17 z96 z97 z98 z99 z100 z101 z102 z103 z104 z105 z106 z107 z108 z109 z110 z111 z112 z113 z114 z115 z116 z117 z118 z119 z120 z121 z122 z123 z124 z125 z126 z127 z128 z129 z130 z131 z132 z133 z134 z135 z136 z137 z138 z139 z140 : Value, (gk = 2 - r ∧ r ≤ 2 ∧ Hid (TLS w Y8 r Rn ds W)) ∧ a' = { tmps := #[.agg #[.int .i64 sec, v], .pointer (some ⟨B, 0, none⟩), .pointer (some ⟨Rz, 0, none⟩), .pointer (some ⟨D, 0, none⟩), .int .i64 A1, .int .i64 E1, .int .i64 A2, .int .i64 E2, .int .i64 A3, .int .i64 E3, .int .i64 fN, .int .i64 lN, .func (.func 48) #[] #[.pointer (some ⟨Bq, 0, none⟩)], .pointer (some ⟨Ob, 0, none⟩), .pointer (some ⟨Rn, 0, none⟩), z15, z16, z17, .bool true, .bool false, .agg #[.int .i64 sec, v], .agg #[.int .i64 sec, .slice (some ⟨g, 0, none⟩) n (n + 2)], .agg #[.int .i64 sec, .slice (some ⟨g, 0, none⟩) n (n + 2)], .agg #[.int .i64 sec, .slice av nv cv], .tuple #[.int .i64 A1, .int .i64 E1], .agg #[.int .i64 sec, .slice (some ⟨g, 0, none⟩) n (n + 2)], .tuple #[.int .i64 A1, .int .i64 E1], .int .i64 A1, .int .i64 E1, .tuple #[.int .i64 A2, .int .i64 E2], .agg #[.int .i64 sec, .slice (some ⟨g, 0, none⟩) n (n + 2)], .tuple #[.int .i64 A2, .int .i64 E2], .int .i64 A2, .int .i64 E2, .tuple #[.int .i64 A3, .int .i64 E3], .agg #[.int .i64 sec, .slice (some ⟨g, 0, none⟩) n (n + 2)], .tuple #[.int .i64 A3, .int .i64 E3], .int .i64 A3, .int .i64 E3, u39, u40, u41, u42, .agg #[.int .i64 sec, .slice (some ⟨g, 0, none⟩) n (n + 2)], .func (.func 48) #[] #[.pointer (some ⟨Bq, 0, none⟩)], .func (.func 48) #[] #[.pointer (some ⟨Bq, 0, none⟩)], .bool false, .bool false, .agg #[.int .i64 sec, .slice (some ⟨g, 0, none⟩) n (n + 2)], .agg #[.int .i64 sec, .slice av nv cv], .bool true, .bool false, .bool false, .agg #[.int .i64 sec, .slice (some ⟨g, 0, none⟩) n (n + 2)], .bool true, .bool false, undef, undef, undef, undef, undef, undef, undef, undef, undef, undef, undef, undef, undef, undef, undef, undef, undef, undef, undef, undef, undef, undef, undef, undef, undef, undef, undef, undef, undef, undef, undef, undef, undef, undef, undef, undef, undef, undef, .agg #[.int .i64 sec, .slice (some ⟨g, 0, none⟩) n (n + 2)], .slice ua N uc, z96, z97, z98, z99, z100, z101, z102, z103, z104, z105, z106, z107, z108, z109, z110, z111, z112, z113, z114, z115, z116, z117, z118, z119, z120, z121, z122, z123, z124, z125, z126, z127, z128, z129, z130, z131, z132, z133, z134, z135, z136, z137, z138, z139, z140, undef, undef, undef, undef, undef, undef, undef, undef, undef, undef, undef, undef, undef, undef, undef, undef, undef, undef, undef, undef, undef, undef, undef, undef, undef, undef, undef, undef, undef, undef, undef, undef, undef, undef, undef, undef, undef, undef, undef, undef], defers := ds }) 2 ?start ?round
      case start =>
        have HT0 : Hid (TLS w Y8 0 Y8.heap.size [] (Y8.alloc (.cells #[.int .i64 0] 3))) := ⟨(Below.refl _ _).alloc (Nat.le_refl _) _, Boxed.new Y8 3 _, Nat.le_refl _, Marks.nil _ _⟩
        refine ⟨0, Y8.heap.size, [], ?_⟩
        (repeat apply Exists.intro)
        refine ⟨?_, rfl⟩
        exact ⟨rfl, by omega, HT0⟩
      case round =>
        intro gk a' wr hinv
        obtain ⟨r, Rn, ds, hinv⟩ := hinv
        obtain ⟨z15, hinv⟩ := hinv
        obtain ⟨z16, hinv⟩ := hinv
        obtain ⟨z17, hinv⟩ := hinv
        obtain ⟨z96, hinv⟩ := hinv
        obtain ⟨z97, hinv⟩ := hinv
        obtain ⟨z98, hinv⟩ := hinv
        obtain ⟨z99, hinv⟩ := hinv
        obtain ⟨z100, hinv⟩ := hinv
        obtain ⟨z101, hinv⟩ := hinv
        obtain ⟨z102, hinv⟩ := hinv
        obtain ⟨z103, hinv⟩ := hinv
        obtain ⟨z104, hinv⟩ := hinv
        obtain ⟨z105, hinv⟩ := hinv
        obtain ⟨z106, hinv⟩ := hinv
        obtain ⟨z107, hinv⟩ := hinv
        obtain ⟨z108, hinv⟩ := hinv
        obtain ⟨z109, hinv⟩ := hinv
        obtain ⟨z110, hinv⟩ := hinv
        obtain ⟨z111, hinv⟩ := hinv
        obtain ⟨z112, hinv⟩ := hinv
        obtain ⟨z113, hinv⟩ := hinv
        obtain ⟨z114, hinv⟩ := hinv
        obtain ⟨z115, hinv⟩ := hinv
        obtain ⟨z116, hinv⟩ := hinv
        obtain ⟨z117, hinv⟩ := hinv
        obtain ⟨z118, hinv⟩ := hinv
        obtain ⟨z119, hinv⟩ := hinv
        obtain ⟨z120, hinv⟩ := hinv
        obtain ⟨z121, hinv⟩ := hinv
        obtain ⟨z122, hinv⟩ := hinv
        obtain ⟨z123, hinv⟩ := hinv
        obtain ⟨z124, hinv⟩ := hinv
        obtain ⟨z125, hinv⟩ := hinv
        obtain ⟨z126, hinv⟩ := hinv
        obtain ⟨z127, hinv⟩ := hinv
        obtain ⟨z128, hinv⟩ := hinv
        obtain ⟨z129, hinv⟩ := hinv
        obtain ⟨z130, hinv⟩ := hinv
        obtain ⟨z131, hinv⟩ := hinv
        obtain ⟨z132, hinv⟩ := hinv
        obtain ⟨z133, hinv⟩ := hinv
        obtain ⟨z134, hinv⟩ := hinv
        obtain ⟨z135, hinv⟩ := hinv
        obtain ⟨z136, hinv⟩ := hinv
        obtain ⟨z137, hinv⟩ := hinv
        obtain ⟨z138, hinv⟩ := hinv
        obtain ⟨z139, hinv⟩ := hinv
        obtain ⟨z140, hinv⟩ := hinv
        obtain ⟨⟨hgk, hr2, HS⟩, ha⟩ := hinv
        subst hgk
        subst ha
        try dsimp only
        intro J K hJ hK
        have c14 : wr.cell? ⟨Rn, 0, none⟩ = some (.int .i64 (r : Nat)) := HS.out.rn.cell
        by_cases hlt : r < 2
        · obtain ⟨Nb, hNb⟩ : ∃ x, x = wr.heap.size := ⟨_, rfl⟩
          obtain ⟨V0, hV0⟩ : ∃ x, x = wr.alloc (.cells #[.int .i64 0] 3) := ⟨_, rfl⟩
          have hbv : Below wr.heap.size wr V0 := by rw [hV0]; exact (Below.refl _ _).alloc (Nat.le_refl _) _
          have HVB : Hid (Below Y8.heap.size Y8 V0) := HS.out.bel.trans (hbv.mono HS.out.bel.size)
          have HNB : Hid (Boxed V0 Nb 3 (.int .i64 0)) := by show Boxed _ _ _ _; rw [hV0, hNb]; exact Boxed.new wr 3 _
          have HRB : Hid (Boxed V0 Rn 3 (.int .i64 (r : Nat))) := (hbv.block _ HS.out.rn.lt).trans HS.out.rn
          have HMK : Hid (Marks w.heap.size ds V0) := HS.out.mks.below hbv
          have HRN : Hid (Rn < Nb ∧ Y8.heap.size ≤ Rn ∧ Nb < V0.heap.size ∧ Nb = wr.heap.size) := ⟨by rw [hNb]; exact HS.out.rn.lt, HS.out.lo, HNB.out.lt, hNb⟩
          have HVW : Hid (Below wr.heap.size wr V0) := hbv
          have HSQ : Hid (SeqStopsK Fence.wide 4 Try.prog 48 #[.pointer (some ⟨Bq, 0, none⟩)] (fun x => encS (telF sec l N x)) (CK (· = Nb)) (fun ys => ys = List.range N) (fun pre => pre <+: List.range N) (List.range N).length V0) := by
            have h1 := HQ8.out.1.b0
            have hl1 := blk_lt h1
            have hx := HRN.out
            exact order_stopsG (telF sec l N) (List.range N) 4 (by omega) Bq sec uq l (· = Nb) V0 (telF_map HCB.out HNN.out) (blk_below h1 HVB.out hl1) (RowAt.below HQ8.out.2.1.segs HVB.out (Nat.le_refl _)) (by omega) (fun k hk => by have := (HQ8.out.2.1.lt k hk).2; omega) (fun k hk => by omega)
          have HV0 := Lib.hid hV0.symm
          have hnv : Nb < V0.heap.size := HNB.out.lt
          clear hNb hV0 hbv
          go_upto_region 21 with fail
          rw [HV0.out, ← HRN.out.2.2.2]
          clear c14 HV0
          go_wp2_with fail
          have hrd : decide ((r : Int) < 2) = true := by simp; omega
          go_wp2_with fail
          refine (wpIn_wide (n := 5)).1 ?_
          refine wpIn_rangeFunc_ownH rfl (by omega) (gf := 48) (lb := #[.pointer (some ⟨Bq, 0, none⟩)]) rfl trivial (enters_of Try.func48 (by kernel_rfl) rfl)
            HSQ.out (fun h k => CK.trans h k) (fun W l o o' hl h hc hw => CK.put W l o o' hl h hc hw) (Below.refl _ _) (fun _ => rfl)
            (fun pre W => (Below Nb V0 W ∧ Boxed W Nb 3 (.int .i64 pre.length)) ∧ pre.map (telF sec l N) = (tellL sec l).take pre.length)
            (fun c pre W => (c = .ret ∧ ¬ pre.map (telF sec l N) = (tellL sec l).take pre.length) ∨ (c = .exit 4 ∧ r = 1 ∧ Below Nb V0 W ∧ Boxed W Nb 3 (.int .i64 2)))
            (OwnFrom.and (OwnFrom.and (ownFrom_below (by omega) (by omega)) (Own.from (boxed_own _ _ (fun (pre : List Nat) => .int .i64 (pre.length : Int))) _)) (ownFrom_pure _ (fun (pre : List Nat) => pre.map (telF sec l N) = (tellL sec l).take pre.length)))
            (fun c s X Y row hs hg hr => by
              rcases hs with hs | ⟨h1, h2, h4, h5⟩
              · exact .inl hs
              · exact .inr ⟨h1, h2, (ownFrom_below (β := Unit) (n₀ := Nb) (B := V0.heap.size) (w₀ := V0) (by omega) (by omega)) () X Y row h4 hg hr, boxed_own Nb 3 (fun (_ : Unit) => Value.int .i64 2) () X Y row h5 hg (fun r e => (hr r e).2)⟩)
            ⟨⟨Below.refl _ _, HNB.out⟩, rfl⟩
            (fun x a' W => ∃ Bx, Nb < Bx ∧ W.heap[Bx]? = some (.cells #[.int .i64 (telF sec l N x).2.st, .int .u64 (telF sec l N x).2.gen, .int .i64 (telF sec l N x).2.used] 46 (0, 0)) ∧ a' = { tmps := #[.agg #[.int .i64 sec, v], .pointer (some ⟨B, 0, none⟩), .pointer (some ⟨Rz, 0, none⟩), .pointer (some ⟨D, 0, none⟩), .int .i64 A1, .int .i64 E1, .int .i64 A2, .int .i64 E2, .int .i64 A3, .int .i64 E3, .int .i64 fN, .int .i64 lN, .func (.func 48) #[] #[.pointer (some ⟨Bq, 0, none⟩)], .pointer (some ⟨Ob, 0, none⟩), .pointer (some ⟨Rn, 0, none⟩), .pointer (some ⟨Nb, 0, none⟩), .int .i64 ((telF sec l N x).1 : Nat), .pointer (some ⟨Bx, 0, none⟩), .bool true, .bool false, .agg #[.int .i64 sec, v], .agg #[.int .i64 sec, .slice (some ⟨g, 0, none⟩) n (n + 2)], .agg #[.int .i64 sec, .slice (some ⟨g, 0, none⟩) n (n + 2)], .agg #[.int .i64 sec, .slice av nv cv], .tuple #[.int .i64 A1, .int .i64 E1], .agg #[.int .i64 sec, .slice (some ⟨g, 0, none⟩) n (n + 2)], .tuple #[.int .i64 A1, .int .i64 E1], .int .i64 A1, .int .i64 E1, .tuple #[.int .i64 A2, .int .i64 E2], .agg #[.int .i64 sec, .slice (some ⟨g, 0, none⟩) n (n + 2)], .tuple #[.int .i64 A2, .int .i64 E2], .int .i64 A2, .int .i64 E2, .tuple #[.int .i64 A3, .int .i64 E3], .agg #[.int .i64 sec, .slice (some ⟨g, 0, none⟩) n (n + 2)], .tuple #[.int .i64 A3, .int .i64 E3], .int .i64 A3, .int .i64 E3, u39, u40, u41, u42, .agg #[.int .i64 sec, .slice (some ⟨g, 0, none⟩) n (n + 2)], .func (.func 48) #[] #[.pointer (some ⟨Bq, 0, none⟩)], .func (.func 48) #[] #[.pointer (some ⟨Bq, 0, none⟩)], .bool false, .bool false, .agg #[.int .i64 sec, .slice (some ⟨g, 0, none⟩) n (n + 2)], .agg #[.int .i64 sec, .slice av nv cv], .bool true, .bool false, .bool false, .agg #[.int .i64 sec, .slice (some ⟨g, 0, none⟩) n (n + 2)], .bool true, .bool false, undef, undef, undef, undef, undef, undef, undef, undef, undef, undef, undef, undef, undef, undef, undef, undef, undef, undef, undef, undef, undef, undef, undef, undef, undef, undef, undef, undef, undef, undef, undef, undef, undef, undef, undef, undef, undef, undef, .agg #[.int .i64 sec, .slice (some ⟨g, 0, none⟩) n (n + 2)], .slice ua N uc, .int .i64 (r : Nat), .bool true, z98, z99, .func (.func 48) #[] #[.pointer (some ⟨Bq, 0, none⟩)], .int .i64 ((telF sec l N x).1 : Nat), .agg #[.int .i64 (telF sec l N x).2.st, .int .u64 (telF sec l N x).2.gen, .int .i64 (telF sec l N x).2.used], z103, z104, z105, z106, z107, z108, z109, z110, z111, z112, z113, z114, z115, z116, z117, z118, z119, z120, z121, z122, z123, z124, z125, z126, z127, z128, z129, z130, z131, z132, z133, z134, z135, z136, z137, z138, z139, z140, undef, undef, undef, undef, undef, undef, undef, undef, undef, undef, undef, undef, undef, undef, undef, undef, undef, undef, undef, undef, undef, undef, undef, undef, undef, undef, undef, undef, undef, undef, undef, undef, undef, undef, undef, undef, undef, undef, undef, undef], defers := [] })
            (fun x a' _ X Y row hs hg hr => by
              obtain ⟨Bx, h1, h2, h3⟩ := hs
              refine ⟨Bx, h1, (hg.block Bx (Array.getElem?_eq_some_iff.1 h2).1 (fun e => ?_)).trans h2, h3⟩
              obtain ⟨_, o, ho, hc⟩ := hr Bx e.symm
              rw [h2] at ho; injection ho with ho; rw [← ho] at hc; cases hc)
            ?assign ?body ?done ?stop
          case assign =>
            rintro l' pre x W K ⟨⟨hI1, hI2⟩, hI3⟩ hK
            unfold encS segV
            gi_wp2
            have hs := hI1.size
            exact hK _ _ ((KeepsOthers.alloc _ _).from _) (CK.below ((Below.refl _ W).alloc (Nat.le_refl _) _)) ⟨⟨hI1.alloc (by omega) _, hI2.alloc _⟩, hI3⟩ ⟨W.heap.size, hI2.lt, heap_alloc_new W _, rfl⟩
          case body =>
            rintro l' pre x a' W hl' _ ⟨⟨hI1, hI2⟩, hI3⟩ ⟨Bx, hBx, hbx, rfl⟩ hplt
            rw [List.length_range] at hplt
            have hsW := hI1.size
            have hx := HRN.out
            have hF := fun (b : Nat) (ob : Obj) (h : Y8.heap[b]? = some ob) => blk_below (blk_below h HVB.out (blk_lt h)) hI1 (show b < Nb by have := blk_lt h; omega)
            have hx8 := HVB.out.size
            have kz := hF _ _ HY8.out.kp.b2
            have kd := hF _ _ HY8.out.kp.b0
            have ko := hF _ _ HOB.out
            have e1 : W.cell? ⟨Ob, 0, none⟩ = some (.slice ua N uc) := blk_cell ko 0
            have e2 : W.cell? ⟨D, 1, none⟩ = some (.slice av nv cv) := blk_cell kd 1
            have e3 : W.cell? ⟨Rz, 0, none⟩ = some (.bool false) := blk_cell kz 0
            have e4 : W.frozen? ⟨Rz, 0, none⟩ = false := blk_frozen kz 0
            have e5 : W.cell? ⟨Nb, 0, none⟩ = some (.int .i64 pre.length) := hI2.cell
            have e6 : W.frozen? ⟨Nb, 0, none⟩ = false := hI2.frozen
            have e7 : W.cell? ⟨Bx, 0, none⟩ = some (.int .i64 (telF sec l N x).2.st) := blk_cell hbx 0
            have e8 : W.cell? ⟨Bx, 1, none⟩ = some (.int .u64 (telF sec l N x).2.gen) := blk_cell hbx 1
            have e9 : W.cell? ⟨Bx, 2, none⟩ = some (.int .i64 (telF sec l N x).2.used) := blk_cell hbx 2
            have f1 : W.cell? ⟨Rn, 0, none⟩ = some (.int .i64 (r : Nat)) := (hI1.cell (p := ⟨Rn, 0, none⟩) hx.1).trans HRB.out.cell
            have hcs := telF_cases HCB.out HNN.out x hplt
            have hon : ordN l pre.length < n := by rw [HN.out]; exact ordN_lt (by rw [← HNN.out]; exact hplt)
            have HNX : Hid (telF sec l N x = (ordN l pre.length, at' l (ordN l pre.length)) → (pre ++ [x]).map (telF sec l N) = (tellL sec l).take (pre ++ [x]).length) := fun h => tell_next HCB.out HNN.out hplt hI3 h
            have HNT : Hid ((telF sec l N x).1 ≠ ordN l pre.length → ¬ (pre ++ [x]).map (telF sec l N) = (tellL sec l).take (pre ++ [x]).length) := fun h => tell_not HCB.out HNN.out hplt h
            obtain ⟨b, off, cap', hsl, g1, g2, g3, hc⟩ : ∃ b off cap', Value.slice ua N uc = .slice (some ⟨b, off, none⟩) N cap' ∧ N ≤ cap' ∧ cap' ≤ maxLen ∧ b < Y8.heap.size ∧ ∀ j, j < N → Y8.cell? ⟨b, off + j, none⟩ = some (.int .i64 (ordN l j : Nat)) := by
              rcases HU8.out with ⟨h7, _⟩ | ⟨h7, b', off', cap', h8, h9, h10, h11, h12⟩
              · rw [List.map_eq_nil_iff] at h7; have := HNN.out; rw [h7] at this; simp at this; omega
              · rw [List.length_map, ← HNN.out] at h8 h9 h12
                refine ⟨b', off', cap', h8, h9, h10, h11, fun j hj => ?_⟩
                have h16 := h12 j hj
                rw [List.getElem?_map, List.getElem?_eq_getElem (by have := HNN.out; omega)] at h16
                rw [h16]
                simp [intV, ordN, List.getD_eq_getElem?_getD, HNN.out ▸ hj]
            obtain ⟨rfl, rfl⟩ : ua = some ⟨b, off, none⟩ ∧ uc = cap' := by injection hsl with x1 x2 x3; exact ⟨x1, x3⟩
            have hc0 := hc pre.length hplt
            rw [← HVB.out.cell (p := ⟨b, _, none⟩) g3, ← hI1.cell (p := ⟨b, _, none⟩) (by show b < Nb; omega)] at hc0
            obtain ⟨bw, ow, cw, hsw, w1, w2, w3, hw⟩ := HY8.out.was.segs.cell (by rw [← HN.out]; have := HSZ.out; omega)
            rw [← HN.out] at hsw w1 hw
            obtain ⟨rfl, rfl, rfl⟩ : av = some ⟨bw, ow, none⟩ ∧ nv = n ∧ cv = cw := by injection hsw with x1 x2 x3; exact ⟨x1, x2, x3⟩
            obtain ⟨c0, c1, c2⟩ := hw _ hon
            rw [← HVB.out.cell (p := ⟨bw, _, none⟩) w3, ← hI1.cell (p := ⟨bw, _, none⟩) (by show bw < Nb; omega)] at c0 c1 c2
            have HI1 := Lib.hid hI1
            have HI2 := Lib.hid hI2
            obtain ⟨y, hy⟩ : ∃ y, y = telF sec l N x := ⟨_, rfl⟩
            rw [← hy] at hcs HNX HNT e7 e8 e9
            obtain ⟨o, ho⟩ : ∃ o, o = ordN l pre.length := ⟨_, rfl⟩
            rw [← ho] at hcs HNX HNT hc0 c0 c1 c2 hon
            obtain ⟨sg, hsg⟩ : ∃ sg, sg = at' l o := ⟨_, rfl⟩
            rw [← hsg] at hcs HNX c0 c1 c2
            obtain ⟨k, hk⟩ : ∃ k, k = pre.length := ⟨_, rfl⟩
            rw [← hk] at e5 hc0 hplt
            have HK := Lib.hid hk
            have HYE := Lib.hid hy
            rw [HYE.out] at e7 e8 e9
            rw [← hy] at e7 e8 e9 ⊢
            clear hc hsl hsw hw hI1 hI2 hI3 hbx kz kd ko hF hy ho hsg hk hx
            have hne1 : Rn ≠ Nb := by have := HRN.out; omega
            have hne2 : Nb ≠ Rn := by have := HRN.out; omega
            have hgeq : ¬ (N : Int) ≤ (k : Int) := by omega
            have hgd : decide ((N : Int) ≤ (k : Int)) = false := by simp; omega
            rcases hcs with he | hne
            · obtain ⟨y1, ys⟩ := y
              obtain ⟨rfl, rfl⟩ : y1 = o ∧ ys = sg := by injection he with h1 h2; exact ⟨h1, h2⟩
              have HNX2 := Lib.hid (HNX.out he)
              clear he HNX HNT HYE
              dsimp only at e7 e8 e9 ⊢
              gi_wp2_with fail
              refine wpIn_region_inv (by kernel_rfl) (hord_of2 (by kernel_rfl)) (fun done ac WW => ac = { tmps := #[.agg #[.int .i64 sec, v], .pointer (some ⟨B, 0, none⟩), .pointer (some ⟨Rz, 0, none⟩), .pointer (some ⟨D, 0, none⟩), .int .i64 A1, .int .i64 E1, .int .i64 A2, .int .i64 E2, .int .i64 A3, .int .i64 E3, .int .i64 fN, .int .i64 lN, .func (.func 48) #[] #[.pointer (some ⟨Bq, 0, none⟩)], .pointer (some ⟨Ob, 0, none⟩), .pointer (some ⟨Rn, 0, none⟩), .pointer (some ⟨Nb, 0, none⟩), .int .i64 (y1 : Nat), .pointer (some ⟨Bx, 0, none⟩), .bool true, .bool false, .agg #[.int .i64 sec, v], .agg #[.int .i64 sec, .slice (some ⟨g, 0, none⟩) nv (nv + 2)], .agg #[.int .i64 sec, .slice (some ⟨g, 0, none⟩) nv (nv + 2)], .agg #[.int .i64 sec, .slice (some ⟨bw, ow, none⟩) nv cv], .tuple #[.int .i64 A1, .int .i64 E1], .agg #[.int .i64 sec, .slice (some ⟨g, 0, none⟩) nv (nv + 2)], .tuple #[.int .i64 A1, .int .i64 E1], .int .i64 A1, .int .i64 E1, .tuple #[.int .i64 A2, .int .i64 E2], .agg #[.int .i64 sec, .slice (some ⟨g, 0, none⟩) nv (nv + 2)], .tuple #[.int .i64 A2, .int .i64 E2], .int .i64 A2, .int .i64 E2, .tuple #[.int .i64 A3, .int .i64 E3], .agg #[.int .i64 sec, .slice (some ⟨g, 0, none⟩) nv (nv + 2)], .tuple #[.int .i64 A3, .int .i64 E3], .int .i64 A3, .int .i64 E3, u39, u40, u41, u42, .agg #[.int .i64 sec, .slice (some ⟨g, 0, none⟩) nv (nv + 2)], .func (.func 48) #[] #[.pointer (some ⟨Bq, 0, none⟩)], .func (.func 48) #[] #[.pointer (some ⟨Bq, 0, none⟩)], .bool false, .bool false, .agg #[.int .i64 sec, .slice (some ⟨g, 0, none⟩) nv (nv + 2)], .agg #[.int .i64 sec, .slice (some ⟨bw, ow, none⟩) nv cv], .bool true, .bool false, .bool false, .agg #[.int .i64 sec, .slice (some ⟨g, 0, none⟩) nv (nv + 2)], .bool true, .bool false, undef, undef, undef, undef, undef, undef, undef, undef, undef, undef, undef, undef, undef, undef, undef, undef, undef, undef, undef, undef, undef, undef, undef, undef, undef, undef, undef, undef, undef, undef, undef, undef, undef, undef, undef, undef, undef, undef, .agg #[.int .i64 sec, .slice (some ⟨g, 0, none⟩) nv (nv + 2)], .slice (some ⟨b, off, none⟩) N uc, .int .i64 (r : Nat), .bool true, z98, z99, .func (.func 48) #[] #[.pointer (some ⟨Bq, 0, none⟩)], .int .i64 (y1 : Nat), .agg #[.int .i64 ys.st, .int .u64 ys.gen, .int .i64 ys.used], if done 0 then (.int .i64 (k : Nat)) else z103, if done 1 then (.slice (some ⟨b, off, none⟩) N uc) else z104, if done 2 then (.int .i64 (N : Nat)) else z105, if done 3 then (.bool false) else z106, if done 4 then (.bool false) else z107, if done 5 then (.int .i64 (y1 : Nat)) else z108, if done 6 then (.slice (some ⟨b, off, none⟩) N uc) else z109, if done 7 then (.int .i64 (k : Nat)) else z110, if done 8 then (.pointer (some ⟨b, off + k, none⟩)) else z111, if done 9 then (.int .i64 (y1 : Nat)) else z112, if done 10 then (.bool false) else z113, if done 11 then (.bool false) else z114, if done 12 then (.bool false) else z115, if done 13 then (.agg #[.int .i64 ys.st, .int .u64 ys.gen, .int .i64 ys.used]) else z116, if done 14 then (.pointer (some ⟨D, 1, none⟩)) else z117, if done 15 then (.slice (some ⟨bw, ow, none⟩) nv cv) else z118, if done 16 then (.int .i64 (y1 : Nat)) else z119, if done 17 then (.pointer (some ⟨bw, ow + y1 * 3, none⟩)) else z120, if done 18 then (.agg #[.int .i64 ys.st, .int .u64 ys.gen, .int .i64 ys.used]) else z121, if done 19 then (.bool false) else z122, if done 20 then (.bool false) else z123, z124, z125, z126, z127, z128, z129, z130, z131, z132, z133, z134, z135, z136, z137, z138, z139, z140, undef, undef, undef, undef, undef, undef, undef, undef, undef, undef, undef, undef, undef, undef, undef, undef, undef, undef, undef, undef, undef, undef, undef, undef, undef, undef, undef, undef, undef, undef, undef, undef, undef, undef, undef, undef, undef, undef, undef, undef], defers := [] } ∧ WW = W.drew) ?_ ?_ ?_
              · exact ⟨by simp, rfl⟩
              · intro done ac WW j oq ho hd hdep hcl ⟨hlit, hww⟩
                have hj : j < 21 := (Array.getElem?_eq_some_iff.1 ho).1
                subst hlit hww
                obtain rfl | rfl | rfl | rfl | rfl | rfl | rfl | rfl | rfl | rfl | rfl | rfl | rfl | rfl | rfl | rfl | rfl | rfl | rfl | rfl | rfl : j = 0 ∨ j = 1 ∨ j = 2 ∨ j = 3 ∨ j = 4 ∨ j = 5 ∨ j = 6 ∨ j = 7 ∨ j = 8 ∨ j = 9 ∨ j = 10 ∨ j = 11 ∨ j = 12 ∨ j = 13 ∨ j = 14 ∨ j = 15 ∨ j = 16 ∨ j = 17 ∨ j = 18 ∨ j = 19 ∨ j = 20 := by omega
                · refine wpOpIn_val ho (by cases ho; rfl) (w' := W.drew) (v := (.int .i64 (k : Nat))) (by cases ho; rfl) (by cases ho; exact fun c h => by cases h) (by cases ho; simp [execOp, go_sem, e5]) ?_
                  cases ho
                  exact ⟨by simp [Act.put], rfl⟩
                · refine wpOpIn_val ho (by cases ho; rfl) (w' := W.drew) (v := (.slice (some ⟨b, off, none⟩) N uc)) (by cases ho; rfl) (by cases ho; exact fun c h => by cases h) (by cases ho; simp [execOp, go_sem, e1]) ?_
                  cases ho
                  exact ⟨by simp [Act.put], rfl⟩
                · have p1 : done 1 = true := by cases ho; exact hdep ⟨1, .data⟩ (by simp) rfl
                  refine wpOpIn_val ho (by cases ho; rfl) (w' := W.drew) (v := (.int .i64 (N : Nat))) (by cases ho; simp [Oper.about, go_sem]) (by cases ho; exact fun c h => by cases h) (by cases ho; simp [execOp, go_sem, p1]) ?_
                  cases ho
                  exact ⟨by simp [Act.put], rfl⟩
                · have p0 : done 0 = true := by cases ho; exact hdep ⟨0, .data⟩ (by simp) rfl
                  have p2 : done 2 = true := by cases ho; exact hdep ⟨2, .data⟩ (by simp) rfl
                  refine wpOpIn_val ho (by cases ho; rfl) (w' := W.drew) (v := (.bool false)) (by cases ho; rfl) (by cases ho; exact fun c h => by cases h) (by cases ho; simp [execOp, go_sem, p0, p2, hgeq, hgd, hplt]) ?_
                  cases ho
                  exact ⟨by simp [Act.put], rfl⟩
                · have p3 : done 3 = true := by cases ho; exact hdep ⟨3, .data⟩ (by simp) rfl
                  refine wpOpIn_val ho (by cases ho; rfl) (w' := W.drew) (v := (.bool false)) (by cases ho; rfl) (by cases ho; exact fun c h => by cases h) (by cases ho; simp [execOp, go_sem, p3]) ?_
                  cases ho
                  exact ⟨by simp [Act.put], rfl⟩
                · have p4 : done 4 = true := by cases ho; exact hdep ⟨4, .guard⟩ (by simp) rfl
                  refine wpOpIn_val ho (by cases ho; simp [Region.wanted, yielded, go_sem, p4]) (w' := W.drew) (v := (.int .i64 (y1 : Nat))) (by cases ho; rfl) (by cases ho; exact fun c h => by cases h) (by cases ho; simp [execOp, go_sem, p4]) ?_
                  cases ho
                  exact ⟨by simp [Act.put], rfl⟩
                · have p4 : done 4 = true := by cases ho; exact hdep ⟨4, .guard⟩ (by simp) rfl
                  refine wpOpIn_val ho (by cases ho; simp [Region.wanted, yielded, go_sem, p4, e1]) (w' := W.drew) (v := (.slice (some ⟨b, off, none⟩) N uc)) (by cases ho; rfl) (by cases ho; exact fun c h => by cases h) (by cases ho; simp [execOp, go_sem, p4, e1]) ?_
                  cases ho
                  exact ⟨by simp [Act.put], rfl⟩
                · have p4 : done 4 = true := by cases ho; exact hdep ⟨4, .guard⟩ (by simp) rfl
                  refine wpOpIn_val ho (by cases ho; simp [Region.wanted, yielded, go_sem, p4, e5]) (w' := W.drew) (v := (.int .i64 (k : Nat))) (by cases ho; rfl) (by cases ho; exact fun c h => by cases h) (by cases ho; simp [execOp, go_sem, p4, e5]) ?_
                  cases ho
                  exact ⟨by simp [Act.put], rfl⟩
                · have p4 : done 4 = true := by cases ho; exact hdep ⟨4, .guard⟩ (by simp) rfl
                  have p6 : done 6 = true := by cases ho; exact hdep ⟨6, .data⟩ (by simp) rfl
                  have p7 : done 7 = true := by cases ho; exact hdep ⟨7, .data⟩ (by simp) rfl
                  refine wpOpIn_val ho (by cases ho; simp [Region.wanted, yielded, go_sem, p4, p6, p7, hplt]) (w' := W.drew) (v := (.pointer (some ⟨b, off + k, none⟩))) (by cases ho; rfl) (by cases ho; exact fun c h => by cases h) (by cases ho; simp [execOp, go_sem, p4, p6, p7, hplt]) ?_
                  cases ho
                  exact ⟨by simp [Act.put], rfl⟩
                · have p4 : done 4 = true := by cases ho; exact hdep ⟨4, .guard⟩ (by simp) rfl
                  have p8 : done 8 = true := by cases ho; exact hdep ⟨8, .data⟩ (by simp) rfl
                  refine wpOpIn_val ho (by cases ho; simp [Region.wanted, yielded, go_sem, p4, p8, hc0]) (w' := W.drew) (v := (.int .i64 (y1 : Nat))) (by cases ho; rfl) (by cases ho; exact fun c h => by cases h) (by cases ho; simp [execOp, go_sem, p4, p8, hc0]) ?_
                  cases ho
                  exact ⟨by simp [Act.put], rfl⟩
                · have p4 : done 4 = true := by cases ho; exact hdep ⟨4, .guard⟩ (by simp) rfl
                  have p5 : done 5 = true := by cases ho; exact hdep ⟨5, .data⟩ (by simp) rfl
                  have p9 : done 9 = true := by cases ho; exact hdep ⟨9, .data⟩ (by simp) rfl
                  refine wpOpIn_val ho (by cases ho; simp [Region.wanted, yielded, go_sem, p4, p5, p9]) (w' := W.drew) (v := (.bool false)) (by cases ho; rfl) (by cases ho; exact fun c h => by cases h) (by cases ho; simp [execOp, go_sem, p4, p5, p9]) ?_
                  cases ho
                  exact ⟨by simp [Act.put], rfl⟩
                · have p4 : done 4 = true := by cases ho; exact hdep ⟨4, .data⟩ (by simp) rfl
                  have p10 : done 10 = true := by cases ho; exact hdep ⟨10, .data⟩ (by simp) rfl
                  refine wpOpIn_val ho (by cases ho; rfl) (w' := W.drew) (v := (.bool false)) (by cases ho; rfl) (by cases ho; exact fun c h => by cases h) (by cases ho; simp [execOp, go_sem, p4, p10]) ?_
                  cases ho
                  exact ⟨by simp [Act.put], rfl⟩
                · have p11 : done 11 = true := by cases ho; exact hdep ⟨11, .data⟩ (by simp) rfl
                  refine wpOpIn_val ho (by cases ho; rfl) (w' := W.drew) (v := (.bool false)) (by cases ho; rfl) (by cases ho; exact fun c h => by cases h) (by cases ho; simp [execOp, go_sem, p11]) ?_
                  cases ho
                  exact ⟨by simp [Act.put], rfl⟩
                · have p12 : done 12 = true := by cases ho; exact hdep ⟨12, .guard⟩ (by simp) rfl
                  refine wpOpIn_val ho (by cases ho; simp [Region.wanted, yielded, go_sem, p12, e7, e8, e9]) (w' := W.drew) (v := (.agg #[.int .i64 ys.st, .int .u64 ys.gen, .int .i64 ys.used])) (by cases ho; rfl) (by cases ho; exact fun c h => by cases h) (by cases ho; simp [execOp, go_sem, p12, e7, e8, e9]) ?_
                  cases ho
                  exact ⟨by simp [Act.put], rfl⟩
                · have p12 : done 12 = true := by cases ho; exact hdep ⟨12, .guard⟩ (by simp) rfl
                  refine wpOpIn_val ho (by cases ho; simp [Region.wanted, yielded, go_sem, p12]) (w' := W.drew) (v := (.pointer (some ⟨D, 1, none⟩))) (by cases ho; rfl) (by cases ho; exact fun c h => by cases h) (by cases ho; simp [execOp, go_sem, p12]) ?_
                  cases ho
                  exact ⟨by simp [Act.put], rfl⟩
                · have p12 : done 12 = true := by cases ho; exact hdep ⟨12, .guard⟩ (by simp) rfl
                  have p14 : done 14 = true := by cases ho; exact hdep ⟨14, .data⟩ (by simp) rfl
                  refine wpOpIn_val ho (by cases ho; simp [Region.wanted, yielded, go_sem, p12, p14, e2]) (w' := W.drew) (v := (.slice (some ⟨bw, ow, none⟩) nv cv)) (by cases ho; rfl) (by cases ho; exact fun c h => by cases h) (by cases ho; simp [execOp, go_sem, p12, p14, e2]) ?_
                  cases ho
                  exact ⟨by simp [Act.put], rfl⟩
                · have p12 : done 12 = true := by cases ho; exact hdep ⟨12, .guard⟩ (by simp) rfl
                  refine wpOpIn_val ho (by cases ho; simp [Region.wanted, yielded, go_sem, p12]) (w' := W.drew) (v := (.int .i64 (y1 : Nat))) (by cases ho; rfl) (by cases ho; exact fun c h => by cases h) (by cases ho; simp [execOp, go_sem, p12]) ?_
                  cases ho
                  exact ⟨by simp [Act.put], rfl⟩
                · have p12 : done 12 = true := by cases ho; exact hdep ⟨12, .guard⟩ (by simp) rfl
                  have p15 : done 15 = true := by cases ho; exact hdep ⟨15, .data⟩ (by simp) rfl
                  have p16 : done 16 = true := by cases ho; exact hdep ⟨16, .data⟩ (by simp) rfl
                  refine wpOpIn_val ho (by cases ho; simp [Region.wanted, yielded, go_sem, p12, p15, p16, hon]) (w' := W.drew) (v := (.pointer (some ⟨bw, ow + y1 * 3, none⟩))) (by cases ho; rfl) (by cases ho; exact fun c h => by cases h) (by cases ho; simp [execOp, go_sem, p12, p15, p16, hon]) ?_
                  cases ho
                  exact ⟨by simp [Act.put], rfl⟩
                · have p12 : done 12 = true := by cases ho; exact hdep ⟨12, .guard⟩ (by simp) rfl
                  have p17 : done 17 = true := by cases ho; exact hdep ⟨17, .data⟩ (by simp) rfl
                  refine wpOpIn_val ho (by cases ho; simp [Region.wanted, yielded, go_sem, p12, p17, c0, c1, c2]) (w' := W.drew) (v := (.agg #[.int .i64 ys.st, .int .u64 ys.gen, .int .i64 ys.used])) (by cases ho; rfl) (by cases ho; exact fun c h => by cases h) (by cases ho; simp [execOp, go_sem, p12, p17, c0, c1, c2]) ?_
                  cases ho
                  exact ⟨by simp [Act.put], rfl⟩
                · have p12 : done 12 = true := by cases ho; exact hdep ⟨12, .guard⟩ (by simp) rfl
                  have p13 : done 13 = true := by cases ho; exact hdep ⟨13, .data⟩ (by simp) rfl
                  have p18 : done 18 = true := by cases ho; exact hdep ⟨18, .data⟩ (by simp) rfl
                  refine wpOpIn_val ho (by cases ho; simp [Region.wanted, yielded, go_sem, p12, p13, p18]) (w' := W.drew) (v := (.bool false)) (by cases ho; rfl) (by cases ho; exact fun c h => by cases h) (by cases ho; simp [execOp, go_sem, p12, p13, p18]) ?_
                  cases ho
                  exact ⟨by simp [Act.put], rfl⟩
                · have p12 : done 12 = true := by cases ho; exact hdep ⟨12, .data⟩ (by simp) rfl
                  have p19 : done 19 = true := by cases ho; exact hdep ⟨19, .data⟩ (by simp) rfl
                  refine wpOpIn_val ho (by cases ho; rfl) (w' := W.drew) (v := (.bool false)) (by cases ho; rfl) (by cases ho; exact fun c h => by cases h) (by cases ho; simp [execOp, go_sem, p12, p19]) ?_
                  cases ho
                  exact ⟨by simp [Act.put], rfl⟩
              · rintro done ac WW hall ⟨rfl, rfl⟩
                have e0 := hall 0 (by decide)
                have e1 := hall 1 (by decide)
                have e2 := hall 2 (by decide)
                have e3 := hall 3 (by decide)
                have e4 := hall 4 (by decide)
                have e5 := hall 5 (by decide)
                have e6 := hall 6 (by decide)
                have e7 := hall 7 (by decide)
                have e8 := hall 8 (by decide)
                have e9 := hall 9 (by decide)
                have e10 := hall 10 (by decide)
                have e11 := hall 11 (by decide)
                have e12 := hall 12 (by decide)
                have e13 := hall 13 (by decide)
                have e14 := hall 14 (by decide)
                have e15 := hall 15 (by decide)
                have e16 := hall 16 (by decide)
                have e17 := hall 17 (by decide)
                have e18 := hall 18 (by decide)
                have e19 := hall 19 (by decide)
                have e20 := hall 20 (by decide)
                simp only [e0, e1, e2, e3, e4, e5, e6, e7, e8, e9, e10, e11, e12, e13, e14, e15, e16, e17, e18, e19, e20, if_true]
                clear hall e0 e1 e2 e3 e4 e5 e6 e7 e8 e9 e10 e11 e12 e13 e14 e15 e16 e17 e18 e19 e20
                have hbx2 : Boxed (W.drew.setCell ⟨Nb, 0, none⟩ (.int .i64 ((k : Int) + 1))) Nb 3 (.int .i64 ((pre ++ [x]).length : Nat)) := by
                  have h1 := (show Boxed W.drew Nb 3 (.int .i64 pre.length) from HI2.out).set (.int .i64 ((k : Int) + 1))
                  rw [List.length_append, ← HK.out]
                  simpa using h1
                have hbl2 : Below Nb V0 (W.drew.setCell ⟨Nb, 0, none⟩ (.int .i64 ((k : Int) + 1))) := HI1.out.drew.setCell (p := ⟨Nb, 0, none⟩) (Nat.le_refl _) _
                have hck2 : CK (· = Nb) W (W.drew.setCell ⟨Nb, 0, none⟩ (.int .i64 ((k : Int) + 1))) := CK.trans (CK.below (Below.refl _ W).drew) (CK.frm (frm_set W.drew Nb 0 _))
                have HXX := Lib.hid (And.intro hbx2 (And.intro hbl2 hck2))
                clear hbx2 hbl2 hck2
                have hkw : (k : Int) + 1 ≤ 16 := by have := HNN.out; have := order_le HCB.out; omega
                by_cases hr1 : r = 1
                · have hr3 : ((r : Int) == 1) = true := beq_iff_eq.2 (by omega)
                  have HR1 := Lib.hid hr1
                  clear hr1
                  by_cases hk2 : k + 1 = 2
                  · have hk3 : ((k : Int) + 1 == 2) = true := beq_iff_eq.2 (by omega)
                    have HK2 := Lib.hid hk2
                    clear hk2
                    gi_wp2_with fail
                    exact ⟨((KeepsOthers.drew _).trans (KeepsOthers.setCell _ _ _)).from _, .inr ⟨rfl, HR1.out, HXX.out.2.1, by have h1 := HXX.out.1; rw [List.length_append, List.length_singleton, ← HK.out, HK2.out] at h1; exact h1⟩⟩
                  · have hk3 : ((k : Int) + 1 == 2) = false := beq_eq_false_iff_ne.2 (by omega)
                    clear hk2
                    gi_wp2_with fail
                    exact ⟨((KeepsOthers.drew _).trans (KeepsOthers.setCell _ _ _)).from _, HXX.out.2.2, ⟨HXX.out.2.1, HXX.out.1⟩, HNX2.out⟩
                · have hr3 : ((r : Int) == 1) = false := beq_eq_false_iff_ne.2 (by omega)
                  clear hr1
                  gi_wp2_with fail
                  exact ⟨((KeepsOthers.drew _).trans (KeepsOthers.setCell _ _ _)).from _, HXX.out.2.2, ⟨HXX.out.2.1, HXX.out.1⟩, HNX2.out⟩
            · have hnb : ((y.1 : Int) != (o : Int)) = true := by simp; omega
              have HNT2 := Lib.hid (HNT.out hne)
              clear hne HNX HNT HYE
              gi_wp2_with fail
              refine wpIn_region_inv (by kernel_rfl) (hord_of2 (by kernel_rfl)) (fun done ac WW => ac = { tmps := #[.agg #[.int .i64 sec, v], .pointer (some ⟨B, 0, none⟩), .pointer (some ⟨Rz, 0, none⟩), .pointer (some ⟨D, 0, none⟩), .int .i64 A1, .int .i64 E1, .int .i64 A2, .int .i64 E2, .int .i64 A3, .int .i64 E3, .int .i64 fN, .int .i64 lN, .func (.func 48) #[] #[.pointer (some ⟨Bq, 0, none⟩)], .pointer (some ⟨Ob, 0, none⟩), .pointer (some ⟨Rn, 0, none⟩), .pointer (some ⟨Nb, 0, none⟩), .int .i64 (y.1 : Nat), .pointer (some ⟨Bx, 0, none⟩), .bool true, .bool false, .agg #[.int .i64 sec, v], .agg #[.int .i64 sec, .slice (some ⟨g, 0, none⟩) nv (nv + 2)], .agg #[.int .i64 sec, .slice (some ⟨g, 0, none⟩) nv (nv + 2)], .agg #[.int .i64 sec, .slice (some ⟨bw, ow, none⟩) nv cv], .tuple #[.int .i64 A1, .int .i64 E1], .agg #[.int .i64 sec, .slice (some ⟨g, 0, none⟩) nv (nv + 2)], .tuple #[.int .i64 A1, .int .i64 E1], .int .i64 A1, .int .i64 E1, .tuple #[.int .i64 A2, .int .i64 E2], .agg #[.int .i64 sec, .slice (some ⟨g, 0, none⟩) nv (nv + 2)], .tuple #[.int .i64 A2, .int .i64 E2], .int .i64 A2, .int .i64 E2, .tuple #[.int .i64 A3, .int .i64 E3], .agg #[.int .i64 sec, .slice (some ⟨g, 0, none⟩) nv (nv + 2)], .tuple #[.int .i64 A3, .int .i64 E3], .int .i64 A3, .int .i64 E3, u39, u40, u41, u42, .agg #[.int .i64 sec, .slice (some ⟨g, 0, none⟩) nv (nv + 2)], .func (.func 48) #[] #[.pointer (some ⟨Bq, 0, none⟩)], .func (.func 48) #[] #[.pointer (some ⟨Bq, 0, none⟩)], .bool false, .bool false, .agg #[.int .i64 sec, .slice (some ⟨g, 0, none⟩) nv (nv + 2)], .agg #[.int .i64 sec, .slice (some ⟨bw, ow, none⟩) nv cv], .bool true, .bool false, .bool false, .agg #[.int .i64 sec, .slice (some ⟨g, 0, none⟩) nv (nv + 2)], .bool true, .bool false, undef, undef, undef, undef, undef, undef, undef, undef, undef, undef, undef, undef, undef, undef, undef, undef, undef, undef, undef, undef, undef, undef, undef, undef, undef, undef, undef, undef, undef, undef, undef, undef, undef, undef, undef, undef, undef, undef, .agg #[.int .i64 sec, .slice (some ⟨g, 0, none⟩) nv (nv + 2)], .slice (some ⟨b, off, none⟩) N uc, .int .i64 (r : Nat), .bool true, z98, z99, .func (.func 48) #[] #[.pointer (some ⟨Bq, 0, none⟩)], .int .i64 (y.1 : Nat), .agg #[.int .i64 y.2.st, .int .u64 y.2.gen, .int .i64 y.2.used], if done 0 then (.int .i64 (k : Nat)) else z103, if done 1 then (.slice (some ⟨b, off, none⟩) N uc) else z104, if done 2 then (.int .i64 (N : Nat)) else z105, if done 3 then (.bool false) else z106, if done 4 then (.bool false) else z107, if done 5 then (.int .i64 (y.1 : Nat)) else z108, if done 6 then (.slice (some ⟨b, off, none⟩) N uc) else z109, if done 7 then (.int .i64 (k : Nat)) else z110, if done 8 then (.pointer (some ⟨b, off + k, none⟩)) else z111, if done 9 then (.int .i64 (o : Nat)) else z112, if done 10 then (.bool true) else z113, if done 11 then (.bool true) else z114, if done 12 then (.bool true) else z115, if done 13 then undef else z116, if done 14 then undef else z117, if done 15 then undef else z118, if done 16 then undef else z119, if done 17 then undef else z120, if done 18 then undef else z121, if done 19 then undef else z122, if done 20 then (.bool true) else z123, z124, z125, z126, z127, z128, z129, z130, z131, z132, z133, z134, z135, z136, z137, z138, z139, z140, undef, undef, undef, undef, undef, undef, undef, undef, undef, undef, undef, undef, undef, undef, undef, undef, undef, undef, undef, undef, undef, undef, undef, undef, undef, undef, undef, undef, undef, undef, undef, undef, undef, undef, undef, undef, undef, undef, undef, undef], defers := [] } ∧ WW = W.drew) ?_ ?_ ?_
              · exact ⟨by simp, rfl⟩
              · intro done ac WW j oq ho hd hdep hcl ⟨hlit, hww⟩
                have hj : j < 21 := (Array.getElem?_eq_some_iff.1 ho).1
                subst hlit hww
                obtain rfl | rfl | rfl | rfl | rfl | rfl | rfl | rfl | rfl | rfl | rfl | rfl | rfl | rfl | rfl | rfl | rfl | rfl | rfl | rfl | rfl : j = 0 ∨ j = 1 ∨ j = 2 ∨ j = 3 ∨ j = 4 ∨ j = 5 ∨ j = 6 ∨ j = 7 ∨ j = 8 ∨ j = 9 ∨ j = 10 ∨ j = 11 ∨ j = 12 ∨ j = 13 ∨ j = 14 ∨ j = 15 ∨ j = 16 ∨ j = 17 ∨ j = 18 ∨ j = 19 ∨ j = 20 := by omega
                · refine wpOpIn_val ho (by cases ho; rfl) (w' := W.drew) (v := (.int .i64 (k : Nat))) (by cases ho; rfl) (by cases ho; exact fun c h => by cases h) (by cases ho; simp [execOp, go_sem, e5]) ?_
                  cases ho
                  exact ⟨by simp [Act.put], rfl⟩
                · refine wpOpIn_val ho (by cases ho; rfl) (w' := W.drew) (v := (.slice (some ⟨b, off, none⟩) N uc)) (by cases ho; rfl) (by cases ho; exact fun c h => by cases h) (by cases ho; simp [execOp, go_sem, e1]) ?_
                  cases ho
                  exact ⟨by simp [Act.put], rfl⟩
                · have p1 : done 1 = true := by cases ho; exact hdep ⟨1, .data⟩ (by simp) rfl
                  refine wpOpIn_val ho (by cases ho; rfl) (w' := W.drew) (v := (.int .i64 (N : Nat))) (by cases ho; simp [Oper.about, go_sem]) (by cases ho; exact fun c h => by cases h) (by cases ho; simp [execOp, go_sem, p1]) ?_
                  cases ho
                  exact ⟨by simp [Act.put], rfl⟩
                · have p0 : done 0 = true := by cases ho; exact hdep ⟨0, .data⟩ (by simp) rfl
                  have p2 : done 2 = true := by cases ho; exact hdep ⟨2, .data⟩ (by simp) rfl
                  refine wpOpIn_val ho (by cases ho; rfl) (w' := W.drew) (v := (.bool false)) (by cases ho; rfl) (by cases ho; exact fun c h => by cases h) (by cases ho; simp [execOp, go_sem, p0, p2, hgeq, hgd, hplt]) ?_
                  cases ho
                  exact ⟨by simp [Act.put], rfl⟩
                · have p3 : done 3 = true := by cases ho; exact hdep ⟨3, .data⟩ (by simp) rfl
                  refine wpOpIn_val ho (by cases ho; rfl) (w' := W.drew) (v := (.bool false)) (by cases ho; rfl) (by cases ho; exact fun c h => by cases h) (by cases ho; simp [execOp, go_sem, p3]) ?_
                  cases ho
                  exact ⟨by simp [Act.put], rfl⟩
                · have p4 : done 4 = true := by cases ho; exact hdep ⟨4, .guard⟩ (by simp) rfl
                  refine wpOpIn_val ho (by cases ho; simp [Region.wanted, yielded, go_sem, p4]) (w' := W.drew) (v := (.int .i64 (y.1 : Nat))) (by cases ho; rfl) (by cases ho; exact fun c h => by cases h) (by cases ho; simp [execOp, go_sem, p4]) ?_
                  cases ho
                  exact ⟨by simp [Act.put], rfl⟩
                · have p4 : done 4 = true := by cases ho; exact hdep ⟨4, .guard⟩ (by simp) rfl
                  refine wpOpIn_val ho (by cases ho; simp [Region.wanted, yielded, go_sem, p4, e1]) (w' := W.drew) (v := (.slice (some ⟨b, off, none⟩) N uc)) (by cases ho; rfl) (by cases ho; exact fun c h => by cases h) (by cases ho; simp [execOp, go_sem, p4, e1]) ?_
                  cases ho
                  exact ⟨by simp [Act.put], rfl⟩
                · have p4 : done 4 = true := by cases ho; exact hdep ⟨4, .guard⟩ (by simp) rfl
                  refine wpOpIn_val ho (by cases ho; simp [Region.wanted, yielded, go_sem, p4, e5]) (w' := W.drew) (v := (.int .i64 (k : Nat))) (by cases ho; rfl) (by cases ho; exact fun c h => by cases h) (by cases ho; simp [execOp, go_sem, p4, e5]) ?_
                  cases ho
                  exact ⟨by simp [Act.put], rfl⟩
                · have p4 : done 4 = true := by cases ho; exact hdep ⟨4, .guard⟩ (by simp) rfl
                  have p6 : done 6 = true := by cases ho; exact hdep ⟨6, .data⟩ (by simp) rfl
                  have p7 : done 7 = true := by cases ho; exact hdep ⟨7, .data⟩ (by simp) rfl
                  refine wpOpIn_val ho (by cases ho; simp [Region.wanted, yielded, go_sem, p4, p6, p7, hplt]) (w' := W.drew) (v := (.pointer (some ⟨b, off + k, none⟩))) (by cases ho; rfl) (by cases ho; exact fun c h => by cases h) (by cases ho; simp [execOp, go_sem, p4, p6, p7, hplt]) ?_
                  cases ho
                  exact ⟨by simp [Act.put], rfl⟩
                · have p4 : done 4 = true := by cases ho; exact hdep ⟨4, .guard⟩ (by simp) rfl
                  have p8 : done 8 = true := by cases ho; exact hdep ⟨8, .data⟩ (by simp) rfl
                  refine wpOpIn_val ho (by cases ho; simp [Region.wanted, yielded, go_sem, p4, p8, hc0]) (w' := W.drew) (v := (.int .i64 (o : Nat))) (by cases ho; rfl) (by cases ho; exact fun c h => by cases h) (by cases ho; simp [execOp, go_sem, p4, p8, hc0]) ?_
                  cases ho
                  exact ⟨by simp [Act.put], rfl⟩
                · have p4 : done 4 = true := by cases ho; exact hdep ⟨4, .guard⟩ (by simp) rfl
                  have p5 : done 5 = true := by cases ho; exact hdep ⟨5, .data⟩ (by simp) rfl
                  have p9 : done 9 = true := by cases ho; exact hdep ⟨9, .data⟩ (by simp) rfl
                  refine wpOpIn_val ho (by cases ho; simp [Region.wanted, yielded, go_sem, p4, p5, p9, hnb]) (w' := W.drew) (v := (.bool true)) (by cases ho; rfl) (by cases ho; exact fun c h => by cases h) (by cases ho; simp [execOp, go_sem, p4, p5, p9, hnb]) ?_
                  cases ho
                  exact ⟨by simp [Act.put], rfl⟩
                · have p4 : done 4 = true := by cases ho; exact hdep ⟨4, .data⟩ (by simp) rfl
                  have p10 : done 10 = true := by cases ho; exact hdep ⟨10, .data⟩ (by simp) rfl
                  refine wpOpIn_val ho (by cases ho; rfl) (w' := W.drew) (v := (.bool true)) (by cases ho; rfl) (by cases ho; exact fun c h => by cases h) (by cases ho; simp [execOp, go_sem, p4, p10]) ?_
                  cases ho
                  exact ⟨by simp [Act.put], rfl⟩
                · have p11 : done 11 = true := by cases ho; exact hdep ⟨11, .data⟩ (by simp) rfl
                  refine wpOpIn_val ho (by cases ho; rfl) (w' := W.drew) (v := (.bool true)) (by cases ho; rfl) (by cases ho; exact fun c h => by cases h) (by cases ho; simp [execOp, go_sem, p11]) ?_
                  cases ho
                  exact ⟨by simp [Act.put], rfl⟩
                · have p12 : done 12 = true := by cases ho; exact hdep ⟨12, .guard⟩ (by simp) rfl
                  refine wpOpIn_pass ho (by cases ho; simp [Region.wanted, yielded, go_sem, p12, e7, e8, e9]) (by cases ho; rfl) ?_
                  cases ho
                  exact ⟨by simp [Act.put], rfl⟩
                · have p12 : done 12 = true := by cases ho; exact hdep ⟨12, .guard⟩ (by simp) rfl
                  refine wpOpIn_pass ho (by cases ho; simp [Region.wanted, yielded, go_sem, p12]) (by cases ho; rfl) ?_
                  cases ho
                  exact ⟨by simp [Act.put], rfl⟩
                · have p12 : done 12 = true := by cases ho; exact hdep ⟨12, .guard⟩ (by simp) rfl
                  have p14 : done 14 = true := by cases ho; exact hdep ⟨14, .data⟩ (by simp) rfl
                  refine wpOpIn_pass ho (by cases ho; simp [Region.wanted, yielded, go_sem, p12, p14, e2]) (by cases ho; rfl) ?_
                  cases ho
                  exact ⟨by simp [Act.put], rfl⟩
                · have p12 : done 12 = true := by cases ho; exact hdep ⟨12, .guard⟩ (by simp) rfl
                  refine wpOpIn_pass ho (by cases ho; simp [Region.wanted, yielded, go_sem, p12]) (by cases ho; rfl) ?_
                  cases ho
                  exact ⟨by simp [Act.put], rfl⟩
                · have p12 : done 12 = true := by cases ho; exact hdep ⟨12, .guard⟩ (by simp) rfl
                  have p15 : done 15 = true := by cases ho; exact hdep ⟨15, .data⟩ (by simp) rfl
                  have p16 : done 16 = true := by cases ho; exact hdep ⟨16, .data⟩ (by simp) rfl
                  refine wpOpIn_pass ho (by cases ho; simp [Region.wanted, yielded, go_sem, p12, p15, p16, hon]) (by cases ho; rfl) ?_
                  cases ho
                  exact ⟨by simp [Act.put], rfl⟩
                · have p12 : done 12 = true := by cases ho; exact hdep ⟨12, .guard⟩ (by simp) rfl
                  have p17 : done 17 = true := by cases ho; exact hdep ⟨17, .data⟩ (by simp) rfl
                  refine wpOpIn_pass ho (by cases ho; simp [Region.wanted, yielded, go_sem, p12, p17, c0, c1, c2]) (by cases ho; rfl) ?_
                  cases ho
                  exact ⟨by simp [Act.put], rfl⟩
                · have p12 : done 12 = true := by cases ho; exact hdep ⟨12, .guard⟩ (by simp) rfl
                  have p13 : done 13 = true := by cases ho; exact hdep ⟨13, .data⟩ (by simp) rfl
                  have p18 : done 18 = true := by cases ho; exact hdep ⟨18, .data⟩ (by simp) rfl
                  refine wpOpIn_pass ho (by cases ho; simp [Region.wanted, yielded, go_sem, p12, p13, p18]) (by cases ho; rfl) ?_
                  cases ho
                  exact ⟨by simp [Act.put], rfl⟩
                · have p12 : done 12 = true := by cases ho; exact hdep ⟨12, .data⟩ (by simp) rfl
                  have p19 : done 19 = true := by cases ho; exact hdep ⟨19, .data⟩ (by simp) rfl
                  refine wpOpIn_val ho (by cases ho; rfl) (w' := W.drew) (v := (.bool true)) (by cases ho; rfl) (by cases ho; exact fun c h => by cases h) (by cases ho; simp [execOp, go_sem, p12, p19]) ?_
                  cases ho
                  exact ⟨by simp [Act.put], rfl⟩
              · rintro done ac WW hall ⟨rfl, rfl⟩
                have e0 := hall 0 (by decide)
                have e1 := hall 1 (by decide)
                have e2 := hall 2 (by decide)
                have e3 := hall 3 (by decide)
                have e4 := hall 4 (by decide)
                have e5 := hall 5 (by decide)
                have e6 := hall 6 (by decide)
                have e7 := hall 7 (by decide)
                have e8 := hall 8 (by decide)
                have e9 := hall 9 (by decide)
                have e10 := hall 10 (by decide)
                have e11 := hall 11 (by decide)
                have e12 := hall 12 (by decide)
                have e13 := hall 13 (by decide)
                have e14 := hall 14 (by decide)
                have e15 := hall 15 (by decide)
                have e16 := hall 16 (by decide)
                have e17 := hall 17 (by decide)
                have e18 := hall 18 (by decide)
                have e19 := hall 19 (by decide)
                have e20 := hall 20 (by decide)
                simp only [e0, e1, e2, e3, e4, e5, e6, e7, e8, e9, e10, e11, e12, e13, e14, e15, e16, e17, e18, e19, e20, if_true]
                clear hall e0 e1 e2 e3 e4 e5 e6 e7 e8 e9 e10 e11 e12 e13 e14 e15 e16 e17 e18 e19 e20
                gi_wp2_with fail
                exact ⟨((KeepsOthers.drew _).trans (KeepsOthers.setCell _ _ _)).from _, .inl ⟨rfl, HNT2.out⟩⟩
          case stop =>
            rintro D' c pre W hD hp hx2 hK2
            rcases hx2 with ⟨rfl, hn⟩ | ⟨rfl, hr1, hI1, hI2⟩
            · exact absurd (tell_pre HCB.out HNN.out hp) hn
            refine wpIn_wide.2 ?_
            have hr0 : ((r : Int) == 0) = false := beq_eq_false_iff_ne.2 (by omega)
            have HR1 := Lib.hid hr1
            clear hr1
            have hbw : Below wr.heap.size wr W := HVW.out.trans (hI1.mono (by have := HRN.out; omega))
            have HBW2 := Lib.hid hbw
            have HYW := Lib.hid (HY8.out.step (HVB.out.trans (hI1.mono (by have := HRN.out; omega))))
            have hx := HRN.out
            have HTN := Lib.hid (HS.out.next HY8.out.kp.below.size hbw (by have := HVW.out.size; omega) hK2)
            have k1 : W.cell? ⟨Rn, 0, none⟩ = some (.int .i64 (r : Nat)) := (hI1.cell (p := ⟨Rn, 0, none⟩) hx.1).trans HRB.out.cell
            have k2 : W.cell? ⟨Nb, 0, none⟩ = some (.int .i64 (2 : Nat)) := hI2.cell
            have k3 : W.cell? ⟨Ob, 0, none⟩ = some (.slice ua N uc) := blk_cell (blk_below (blk_below HOB.out HVB.out (blk_lt HOB.out)) hI1 (by have := blk_lt HOB.out; omega)) 0
            have hnn : ((2 : Int) != (2 : Int)) = false := by simp
            clear hbw hI1 hI2 hK2 hx
            go_wp2_with fail
            all_goals
              refine Handed.intro (2 - (r + 1)) (by omega) ?_
              go_step
              refine ⟨r + 1, W.heap.size, { target := .collected D', args := #[] } :: ds, ?_⟩
              (repeat apply Exists.intro)
              refine ⟨?_, rfl⟩
              exact ⟨rfl, by omega, HTN⟩
          case done =>
            rintro D' ys W hD hys ⟨⟨hI1, hI2⟩, _⟩ hK2
            rw [hys, List.length_range] at hI2
            clear hys
            have hbw : Below wr.heap.size wr W := HVW.out.trans (hI1.mono (by have := HRN.out; omega))
            have HBW2 := Lib.hid hbw
            have HYW := Lib.hid (HY8.out.step (HVB.out.trans (hI1.mono (by have := HRN.out; omega))))
            have hx := HRN.out
            have HTN := Lib.hid (HS.out.next HY8.out.kp.below.size hbw (by have := HVW.out.size; omega) hK2)
            have k1 : W.cell? ⟨Rn, 0, none⟩ = some (.int .i64 (r : Nat)) := (hI1.cell (p := ⟨Rn, 0, none⟩) hx.1).trans HRB.out.cell
            have k2 : W.cell? ⟨Nb, 0, none⟩ = some (.int .i64 (N : Nat)) := hI2.cell
            have k3 : W.cell? ⟨Ob, 0, none⟩ = some (.slice ua N uc) := blk_cell (blk_below (blk_below HOB.out HVB.out (blk_lt HOB.out)) hI1 (by have := blk_lt HOB.out; omega)) 0
            have hnn : ((N : Int) != (N : Int)) = false := by simp
            clear hbw hI1 hI2 hK2 hx
            go_wp2_with fail
            all_goals
              refine Handed.intro (2 - (r + 1)) (by omega) ?_
              go_step
              refine ⟨r + 1, W.heap.size, { target := .collected D', args := #[] } :: ds, ?_⟩
              (repeat apply Exists.intro)
              refine ⟨?_, rfl⟩
              first
                | exact ⟨rfl, by omega, HTN⟩
                | (have hr0 : r = 0 := by assumption
                   subst hr0
                   exact ⟨rfl, by omega, HTN⟩)
        · obtain rfl : r = 2 := by omega
          have hcd : decide ((2 : Int) < 2) = false := by decide
          have HYL := Lib.hid (HY8.out.step HS.out.bel)
          have HOL : Hid (wr.heap[Ob]? = some (.cells #[.slice ua N uc] 42 (0, 0))) := blk_below HOB.out HS.out.bel (blk_lt HOB.out)
          go_upto_region 32 with fail
          have HTA := Lib.hid (HYL.out)
          have HS0 : Hid (Below wr.heap.size wr wr) := Below.refl _ _
          have HSwr : Hid (Below wr.heap.size wr wr) := Below.refl _ _
          have Hwr := HYL
          rw [opened_eq HCB.out] at HT1
          rw [oldest_eq HCB.out] at HT3
          rw [← nextR_eq HCB.out] at HT2
          have HLR : Hid (leftR sec l = lN) := by show _ = _; rw [HLN.out]; unfold leftR leftP; rw [opened_eq HCB.out]; cases openedR l <;> rfl
          have hfe : (fN == (n : Int) - (N : Int)) = true := by rw [HFN.out]; simp
          have hll : (lN == lN) = true := by simp
          obtain ⟨hn4, hn16⟩ := HSZ.out
          have hNn : N ≤ n := by rw [HNN.out, HN.out]; exact order_le2 l
          clear hcd HYL HTA c14
          have HC13X1 : Hid (Calls Try.prog 13 #[.agg #[.int .i64 sec, .slice (some ⟨g, 0, none⟩) n (n + 2)]] wr fun e w' => e = .returned (.int .i64 0) ∧ Below wr.heap.size wr w') := by
            have := chek wr sec (shtV g l) l Hwr.out.sht.segs
            unfold shtV chekE at this
            rw [← HN.out, HCB.out] at this
            exact this
          have b0 : wr.cell? ⟨B, 0, none⟩ = some (.int .i64 sec) := blk_cell Hwr.out.kp.b1 0
          have b1 : wr.cell? ⟨B, 1, none⟩ = some (.slice (some ⟨g, 0, none⟩) n (n + 2)) := blk_cell Hwr.out.kp.b1 1
          go_wp2_with fail
          refine HC13X1.out.mono ?_
          rintro e X1 ⟨rfl, hb⟩
          have HX1 := Lib.hid (Hwr.out.step hb)
          have HSX1 := Lib.hid (HSwr.out.trans (hb.mono HSwr.out.size))
          clear hb b0 b1 HC13X1 Hwr
          have HC27X2 : Hid (Calls Try.prog 27 #[.agg #[.int .i64 sec, .slice (some ⟨g, 0, none⟩) n (n + 2)]] X1 fun e w' => e = .returned (.int .i64 (refI (openedR l))) ∧ Below X1.heap.size X1 w') := by
            have := openedRef X1 sec (shtV g l) l HX1.out.sht.segs
            unfold shtV at this
            rw [← HN.out] at this
            exact this
          have b0 : X1.cell? ⟨B, 0, none⟩ = some (.int .i64 sec) := blk_cell HX1.out.kp.b1 0
          have b1 : X1.cell? ⟨B, 1, none⟩ = some (.slice (some ⟨g, 0, none⟩) n (n + 2)) := blk_cell HX1.out.kp.b1 1
          go_wp2_with fail
          refine HC27X2.out.mono ?_
          rintro e X2 ⟨rfl, hb⟩
          have HX2 := Lib.hid (HX1.out.step hb)
          have HSX2 := Lib.hid (HSX1.out.trans (hb.mono HSX1.out.size))
          clear hb b0 b1 HC27X2 HX1
          have HTDA1 := Lib.hid (told A1 E1 (refI (openedR l)) 4 X2)
          rw [HT1.out] at HTDA1
          go_wp2_with fail
          refine HTDA1.out.mono ?_
          rintro e _ ⟨rfl, rfl⟩
          clear HTDA1
          have HC28X3 : Hid (Calls Try.prog 28 #[.agg #[.int .i64 sec, .slice (some ⟨g, 0, none⟩) n (n + 2)]] X2 fun e w' => e = .returned (.int .i64 (refI (nextR l))) ∧ Below X2.heap.size X2 w') := by
            have := nextRef X2 sec (shtV g l) l HX2.out.sht.segs (by rw [← HN.out]; have := HSZ.out; omega) (by have := H40.out; omega)
            unfold shtV at this
            rw [← HN.out] at this
            exact this
          have b0 : X2.cell? ⟨B, 0, none⟩ = some (.int .i64 sec) := blk_cell HX2.out.kp.b1 0
          have b1 : X2.cell? ⟨B, 1, none⟩ = some (.slice (some ⟨g, 0, none⟩) n (n + 2)) := blk_cell HX2.out.kp.b1 1
          go_wp2_with fail
          refine HC28X3.out.mono ?_
          rintro e X3 ⟨rfl, hb⟩
          have HX3 := Lib.hid (HX2.out.step hb)
          have HSX3 := Lib.hid (HSX2.out.trans (hb.mono HSX2.out.size))
          clear hb b0 b1 HC28X3 HX2
          have HTDA2 := Lib.hid (told A2 E2 (refI (nextR l)) 6 X3)
          rw [HT2.out] at HTDA2
          go_wp2_with fail
          refine HTDA2.out.mono ?_
          rintro e _ ⟨rfl, rfl⟩
          clear HTDA2
          have HC29X4 : Hid (Calls Try.prog 29 #[.agg #[.int .i64 sec, .slice (some ⟨g, 0, none⟩) n (n + 2)]] X3 fun e w' => e = .returned (.int .i64 (refI (oldestR l))) ∧ Below X3.heap.size X3 w') := by
            have := oldestRef X3 sec (shtV g l) l HX3.out.sht.segs
            unfold shtV at this
            rw [← HN.out] at this
            exact this
          have b0 : X3.cell? ⟨B, 0, none⟩ = some (.int .i64 sec) := blk_cell HX3.out.kp.b1 0
          have b1 : X3.cell? ⟨B, 1, none⟩ = some (.slice (some ⟨g, 0, none⟩) n (n + 2)) := blk_cell HX3.out.kp.b1 1
          go_wp2_with fail
          refine HC29X4.out.mono ?_
          rintro e X4 ⟨rfl, hb⟩
          have HX4 := Lib.hid (HX3.out.step hb)
          have HSX4 := Lib.hid (HSX3.out.trans (hb.mono HSX3.out.size))
          clear hb b0 b1 HC29X4 HX3
          have HTDA3 := Lib.hid (told A3 E3 (refI (oldestR l)) 4 X4)
          rw [HT3.out] at HTDA3
          go_wp2_with fail
          refine HTDA3.out.mono ?_
          rintro e _ ⟨rfl, rfl⟩
          clear HTDA3
          have c13 : X4.cell? ⟨Ob, 0, none⟩ = some (.slice ua N uc) := blk_cell (blk_below HOL.out HSX4.out (blk_lt HOL.out)) 0
          have HC30X5 : Hid (Calls Try.prog 30 #[.agg #[.int .i64 sec, .slice (some ⟨g, 0, none⟩) n (n + 2)]] X4 fun e w' => e = .returned (.int .i64 lN) ∧ Below X4.heap.size X4 w') := by
            have := leftRef X4 sec (shtV g l) l HX4.out.sht.segs
            unfold shtV leftV at this
            rw [← HN.out, HCB.out, HLR.out] at this
            exact this
          have b0 : X4.cell? ⟨B, 0, none⟩ = some (.int .i64 sec) := blk_cell HX4.out.kp.b1 0
          have b1 : X4.cell? ⟨B, 1, none⟩ = some (.slice (some ⟨g, 0, none⟩) n (n + 2)) := blk_cell HX4.out.kp.b1 1
          go_wp2_with fail
          refine HC30X5.out.mono ?_
          rintro e X5 ⟨rfl, hb⟩
          have HX5 := Lib.hid (HX4.out.step hb)
          have HSX5 := Lib.hid (HSX4.out.trans (hb.mono HSX4.out.size))
          clear hb b0 b1 HC30X5 HX4
          have r0 : X5.cell? ⟨Rz, 0, none⟩ = some (.bool false) := blk_cell HX5.out.kp.b2 0
          have r1 : X5.frozen? ⟨Rz, 0, none⟩ = false := blk_frozen HX5.out.kp.b2 0
          go_wp2_with fail
          have hmk := (HS.out.mks.below HSX5.out).set HX5.out.kp.b2 0 (.bool true)
          have hcell : (X5.setCell ⟨Rz, 0, none⟩ (.bool true)).cell? ⟨Rz, 0, none⟩ = some (.bool true) := World.cell?_setCell_same' X5 ⟨Rz, 0, none⟩ (.bool true) (by rw [r0]; rfl)
          have hbel : Below w.heap.size w (X5.setCell ⟨Rz, 0, none⟩ (.bool true)) := HX5.out.kp.below.setCell HRW.out _
          exact Marks.leave _ _ hmk hbel.size fun W3 hb hc => ⟨.bool true, by simp [results, Try.f5, go_sem, hc.cell (fun h => h) hcell], rfl, hbel.trans hb⟩

theorem ringTellsW.walk (v0 : Value) (w : World) {H : Type} {enc : TypeId × Value → H} {base b0 : Nat} {spare : Nat → Bool} {held : Bool} {d0 : DataW H} {p0 : List MemPlace} {r : Reach}
    (w0 : Value.okWide Try.prog w r b0 25 v0) (h0 : DataW.Trod enc Try.prog w base spare held 25 v0 d0 p0) :
    Calls Try.prog 5 #[v0] w fun e w' => e = .returned (.bool true) ∧ Below w.heap.size w w' := by
  obtain ⟨sa, va, la, rfl, ha⟩ := open_ring w0 h0
  exact ringTells w sa va la ha
end Go.Proofs.Ytlcdadnfcdjglaa
