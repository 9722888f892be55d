/- The walk of the law RingGoes. No condition. -/
import Derived.Test.YtlcdadnfcdjglaaPlain5
import Derived.Test.YtlcdadnfcdjglaaTurnsW
import Derived.Test.YtlcdadnfcdjglaaOld
set_option linter.unusedVariables false
set_option linter.unusedSimpArgs false
namespace Go.Proofs.Ytlcdadnfcdjglaa
open Go.RowKit Go.Ice Go.Ring Go.ChangeShapes Go.WideShapes

/-- The ring at hand, in a block of the call's own. -/
structure GS (w : World) (sec : Int) (P : Nat) (v : Value) (l : List Seg) (W : World) : Prop where
  kp : Kp w [(P, .cells #[.int .i64 sec, v] 25)] W
  own : OwnSegs W w.heap.size v l
  hP : w.heap.size ≤ P
  ap : ∀ k, v.ownBlock = some k → k ≠ P
theorem GS.step {w W W' : World} {sec : Int} {P : Nat} {v : Value} {l : List Seg} (h : GS w sec P v l W) (hb : Below W.heap.size W W') : GS w sec P v l W' :=
  ⟨h.kp.step hb, h.own.below hb, h.hP, h.ap⟩
theorem GS.segs {w W : World} {sec : Int} {P : Nat} {v : Value} {l : List Seg} (h : GS w sec P v l W) : SegsAt W v l := h.own.segs
theorem GS.c0 {w W : World} {sec : Int} {P : Nat} {v : Value} {l : List Seg} (h : GS w sec P v l W) : W.cell? ⟨P, 0, none⟩ = some (.int .i64 sec) := blk_cell h.kp.b0 0
theorem GS.c1 {w W : World} {sec : Int} {P : Nat} {v : Value} {l : List Seg} (h : GS w sec P v l W) : W.cell? ⟨P, 1, none⟩ = some v := blk_cell h.kp.b0 1
theorem GS.fr {w W : World} {sec : Int} {P : Nat} {v : Value} {l : List Seg} (h : GS w sec P v l W) (r : Nat) : W.frozen? ⟨P, r, none⟩ = false := blk_frozen h.kp.b0 r
theorem GS.plt {w W : World} {sec : Int} {P : Nat} {v : Value} {l : List Seg} (h : GS w sec P v l W) : P < W.heap.size := blk_lt h.kp.b0
/-- The ring is laid anew. -/
theorem GS.lay {w W : World} {sec sec' : Int} {P : Nat} {v v' : Value} {l l' : List Seg} (h : GS w sec P v l W) (ho : OwnSegs W (P + 1) v' l') : GS w sec' P v' l' ((W.setCell ⟨P, 0, none⟩ (.int .i64 sec')).setCell ⟨P, 1, none⟩ v') :=
  ⟨⟨(h.kp.below.setCell h.hP _).setCell h.hP _, fun p hp => by
      simp only [List.mem_cons, List.mem_nil_iff, or_false] at hp
      subst hp
      exact set_two h.kp.b0 rfl _ _⟩,
   own_base (own_set (own_set ho (Nat.lt_succ_self P) _) (Nat.lt_succ_self P) _) (by have := h.hP; omega), h.hP, fun k hk => by have := (ho.lt k hk).1; omega⟩
theorem GS.lay' {w W : World} {sec' : Int} {P E : Nat} {v' : Value} {l' : List Seg} {cs : Array Value} {c0 c1 : Value} (h : Kp w [(E, .cells cs 25), (P, .cells #[c0, c1] 25)] W) (hP : w.heap.size ≤ P) (ho : OwnSegs W (P + 1) v' l') : GS w sec' P v' l' ((W.setCell ⟨P, 0, none⟩ (.int .i64 sec')).setCell ⟨P, 1, none⟩ v') :=
  ⟨⟨(h.below.setCell hP _).setCell hP _, fun p hp => by
      simp only [List.mem_cons, List.mem_nil_iff, or_false] at hp
      subst hp
      exact set_two h.b1 rfl _ _⟩,
   own_base (own_set (own_set ho (Nat.lt_succ_self P) _) (Nat.lt_succ_self P) _) (by omega), hP, fun k hk => by have := (ho.lt k hk).1; omega⟩
theorem GS.new {w W : World} {sec : Int} {v : Value} {l : List Seg} (hk : Kp w [] W) (ho : OwnSegs W w.heap.size v l) : GS w sec W.heap.size v l (W.alloc (.cells #[.int .i64 sec, v] 25)) :=
  ⟨hk.alloc _, ho.alloc _, hk.below.size, fun k hk => by have := (ho.lt k hk).2; omega⟩
theorem sized_n (n0 : Int) : ∃ n : Nat, wrap64 (4 + wrap64 ((IntKind.u64.wrap n0).tmod 13)) = (n : Int) ∧ 4 ≤ n ∧ n ≤ 16 := by
  have h0 : 0 ≤ IntKind.u64.wrap n0 := by rw [IntKind.wrap_u64]; omega
  obtain ⟨x, hx⟩ : ∃ x, x = IntKind.u64.wrap n0 := ⟨_, rfl⟩
  rw [← hx] at h0 ⊢
  rw [Int.tmod_eq_emod_of_nonneg h0]
  have e1 : wrap64 (x % 13) = x % 13 := by unfold wrap64; omega
  rw [e1]
  have e2 : wrap64 (4 + x % 13) = 4 + x % 13 := by unfold wrap64; omega
  rw [e2]
  exact ⟨(4 + x % 13).toNat, by omega, by omega, by omega⟩

set_option maxRecDepth 100000 in
set_option maxHeartbeats 20000000 in
theorem ringGoesW.walk (n0 laps : Int) (w : World) (w0 : (Lit.int .i64 n0).wf = true) (w1 : (Lit.int .i64 laps).wf = true) :
    Calls Try.prog 7 #[.int .i64 n0, .int .i64 laps] w fun e w' => e = .returned (.bool true) ∧ Below w.heap.size w w' := by
  have HWK := Lib.hid (wakes w)
  have hlp := w1
  clear w0 w1
  go_enter Try.func7, Try.ntmps7
  go_wp2_with fail
  refine HWK.out.mono ?_
  rintro e w1 ⟨rfl, hb⟩
  have HK := Lib.hid ((Kp.nil w).step hb)
  clear hb HWK
  go_upto_region 4 with fail
  obtain ⟨n, hnn, hn4⟩ := sized_n n0
  rw [hnn]
  have HH := Lib.hid hn4
  have HN := Lib.hid (new w1 n 64)
  rw [show sizedI n 64 = true from by unfold sizedI; simp; omega] at HN
  simp only [if_true, Int.toNat_natCast] at HN
  unfold ringV at HN
  clear hnn hn4
  go_wp2_with fail
  refine HN.out.mono ?_
  rintro e w2 ⟨u, rfl, ho, hb⟩
  obtain ⟨a, nn, c, rfl⟩ := own_sl ho
  have HK2 := Lib.hid (HK.out.step hb)
  have HO := Lib.hid (own_base ho HK.out.below.size)
  clear ho hb HN HK
  go_upto_region 5 with fail
  obtain ⟨P, hP⟩ : ∃ P, P = w2.heap.size := ⟨_, rfl⟩
  obtain ⟨Wp, hWp⟩ : ∃ Wp, Wp = w2.alloc (.cells #[.int .i64 64, .slice a nn c] 25) := ⟨_, rfl⟩
  have HS : Hid (GS w 64 P (.slice a nn c) (List.replicate n zero) Wp) := by
    show GS _ _ _ _ _ _
    rw [hWp, hP]; exact GS.new HK2.out HO.out
  have HG : Hid (GoI n 0 (List.replicate n zero)) := GoI.new HH.out
  rw [← hP, ← hWp]
  clear hP hWp HK2 HO
  obtain ⟨M, hM⟩ : ∃ M : Nat, (if laps < 0 then 0 else laps) = (M : Int) := ⟨(if laps < 0 then 0 else laps).toNat, by split <;> omega⟩
  obtain ⟨K, hK⟩ : ∃ K : Nat, (M : Int) % 50 = (K : Int) := ⟨M % 50, by omega⟩
  have HM := Lib.hid hM
  have HMK := Lib.hid hK
  have HK50 : Hid (K < 50) := by show K < 50; omega
  clear hM hK hlp
  go_wp2_with fail
  go_loopg [8, 9, 10, 11, 12, 13] K (fun g kv s9 s10 s11 s12 s13 wr => ∃ (k : Nat) (v : Value) (l : List Seg), g = K - k ∧ k ≤ K ∧ kv = .int .i64 k ∧ Hid (GS w 64 P v l wr) ∧ Hid (GoI n k l))
  case atStart => exact ⟨0, _, _, rfl, Nat.zero_le _, rfl, HS, HG⟩
  case round =>
    clear HS HG
    obtain ⟨k, v, l, rfl, hk, rfl, HRS, HGO⟩ := hrel
    by_cases hlt : k < K
    · have hmx : (if laps < 0 then 0 else laps) = (M : Int) := HM.out
      have hmk : (M : Int) % 50 = (K : Int) := HMK.out
      have HFR := Lib.hid (frees wr 64 v l HRS.out.segs)
      rw [HGO.out.check, HGO.out.len, HGO.out.olen] at HFR
      unfold ringV freesV at HFR
      simp only [if_true] at HFR
      have b0 := HRS.out.c0
      have b1 := HRS.out.c1
      go_wp2_with fail
      refine HFR.out.mono ?_
      rintro e Wf ⟨rfl, hb⟩
      have HRF := Lib.hid (HRS.out.step hb)
      clear hb b0 b1 HFR HRS hmx hmk
      by_cases hful : n ≤ k
      · obtain ⟨ho1, ho2, hga⟩ := HGO.out.full hful
        have HO1 := Lib.hid ho1
        have HO2 := Lib.hid ho2
        have HGA := Lib.hid hga
        clear ho1 ho2 hga
        have hzz : ((n : Int) - ((min k n : Nat) : Int) == 0) = true := by simp; omega
        have b0 := HRF.out.c0
        have b1 := HRF.out.c1
        have HOL := Lib.hid (oldst Wf 64 v l HRF.out.segs)
        rw [HGO.out.check, HO1.out] at HOL
        unfold ringV seekV at HOL
        simp only [if_true] at HOL
        go_wp2_with fail
        refine HOL.out.mono ?_
        rintro e Wg ⟨rfl, hb⟩
        have HRG := Lib.hid (HRF.out.step hb)
        clear hb b0 b1 HOL HRF hzz
        have hmod : ((k : Int) % (n : Int)) = ((k % n : Nat) : Int) := by omega
        have HMOD := Lib.hid hmod
        have HNF : Hid (((k % n : Nat) : Int) = (k : Int) % (n : Int)) := hmod.symm
        clear hmod
        have hnn : 0 < n := by have := HH.out; omega
        have b0 := HRG.out.c0
        have b1 := HRG.out.c1
        have fb := HRG.out.fr
        have HFD := Lib.hid (freed Wg 64 v l (k % n : Nat) HRG.out.segs)
        rw [HO2.out] at HFD
        simp only [secOf, segsOf, Option.isSome_some, if_true, Option.getD_some] at HFD
        unfold ringV at HFD
        rw [HMOD.out.symm] at HFD
        go_upto_region 12 with fail
        have hkk : (((k : Int) % (n : Int)) != ((k : Int) % (n : Int))) = false := by simp
        go_wp2_with fail
        refine HFD.out.mono ?_
        rintro e Wh ⟨ug, rfl, hog, hb⟩
        obtain ⟨ag, ng, cg, rfl⟩ := own_sl hog
        have HRH := Lib.hid (HRG.out.step hb)
        have HOG : Hid (OwnSegs Wh (P + 1) (.slice ag ng cg) (l.set (k % n) zero)) := own_base hog HRG.out.plt
        have HLY := Lib.hid (HRH.out.lay (sec' := 64) HOG.out)
        clear hog hb b0 b1 fb HFD HRG hkk
        have b0 := HRH.out.c0
        have b1 := HRH.out.c1
        have fb := HRH.out.fr
        go_upto_region 15 with fail
        obtain ⟨Wi, hWi⟩ : ∃ Wi, Wi = (Wh.setCell ⟨P, 0, none⟩ (.int .i64 64)).setCell ⟨P, 1, none⟩ (.slice ag ng cg) := ⟨_, rfl⟩
        have HRA : Hid (GS w 64 P (.slice ag ng cg) (l.set (k % n) zero) Wi) := by show GS _ _ _ _ _ _; rw [hWi]; exact HLY.out
        rw [← hWi]
        clear hWi HRH HOG HLY b0 b1 fb HMOD HNF hnn
        go_upto_region 17 with fail
        obtain ⟨l2, l3, l4, hop, hc2, hl2, hus, hc3, hl3, hse, hgo4⟩ := HGA.out.step
        have HC2 := Lib.hid hc2
        have HL2 := Lib.hid hl2
        have HUS := Lib.hid hus
        have HC3 := Lib.hid hc3
        have HL3 := Lib.hid hl3
        have HSE := Lib.hid hse
        have HGO4 := Lib.hid hgo4
        have HOP := Lib.hid (openg Wi 64 _ _ (k + 1) HRA.out.segs)
        rw [hop] at HOP
        simp only [Option.map_some, secOf, segsOf, idxOf, Option.isSome_some, if_true, Option.getD_some] at HOP
        unfold ringV at HOP
        have a0 := HRA.out.c0
        have a1 := HRA.out.c1
        have hcv : IntKind.u64.wrap ((k : Int) + 1) = ((k + 1 : Nat) : Int) := by rw [IntKind.wrap_u64]; omega
        clear hop hc2 hl2 hus hc3 hl3 hse hgo4
        go_wp2_with fail
        refine HOP.out.mono ?_
        rintro e Wo ⟨u2, rfl, ho, hb⟩
        have HRB := Lib.hid (HRA.out.step hb)
        obtain ⟨a2, n2, c2, rfl⟩ := own_sl ho
        have HO2 := Lib.hid ho
        clear hb ho HOP a0 a1 hcv
        have hmod : ((k : Int) % (n : Int)) = ((k % n : Nat) : Int) := by omega
        have HMOD := Lib.hid hmod
        clear hmod
        go_upto_region 18 with fail
        obtain ⟨E, hE⟩ : ∃ E, E = Wo.heap.size := ⟨_, rfl⟩
        obtain ⟨We, hWe⟩ : ∃ We, We = Wo.alloc (.cells #[.int .i64 64, .slice a2 n2 c2] 25) := ⟨_, rfl⟩
        have HKE : Hid (Kp w [(E, .cells #[.int .i64 64, .slice a2 n2 c2] 25), (P, .cells #[.int .i64 64, .slice ag ng cg] 25)] We) := by show Kp _ _ _; rw [hWe, hE]; exact HRB.out.kp.alloc _
        have HSE2 : Hid (SegsAt We (.slice a2 n2 c2) l2) := by
          have : OwnSegs We Wi.heap.size (.slice a2 n2 c2) l2 := by show World.ownsRow _ _ _ _ _ _ _; rw [hWe]; exact HO2.out.alloc _
          exact this.segs
        have HPE : Hid (P < E ∧ E < We.heap.size ∧ w.heap.size ≤ E) := ⟨by rw [hE]; exact blk_lt HRB.out.kp.b0, blk_lt HKE.out.b0, by rw [hE]; exact HRB.out.kp.below.size⟩
        have HPW : Hid (w.heap.size ≤ P) := HRB.out.hP
        rw [← hE, ← hWe]
        clear hE hWe HO2 HRB HRA
        have hkk : (((k : Int) % (n : Int)) != ((k : Int) % (n : Int))) = false := by simp
        have hnn : 0 < n := by have := HH.out; omega
        go_upto_region 20 with fail
        clear hkk hnn
        have HCE : Hid (∀ X, Below We.heap.size We X → X.cell? ⟨E, 0, none⟩ = some (.int .i64 64) ∧ X.cell? ⟨E, 1, none⟩ = some (.slice a2 n2 c2) ∧ ∀ r, X.frozen? ⟨E, r, none⟩ = false) := fun X hX =>
          ⟨blk_cell (HKE.out.step hX).b0 0, blk_cell (HKE.out.step hX).b0 1, fun r => blk_frozen (HKE.out.step hX).b0 r⟩
        have HLF : Hid (∀ X, Below We.heap.size We X → Calls Try.prog 21 #[.agg #[.int .i64 64, .slice a2 n2 c2]] X fun e w' => e = .returned (.int .i64 63) ∧ Below We.heap.size We w') := fun X hX => by
          have := left X 64 _ l2 (RowAt.below HSE2.out hX (Nat.le_refl _))
          rw [HC2.out, HL2.out] at this
          exact this.mono fun e w' ⟨h1, h2⟩ => ⟨h1, hX.trans (h2.mono hX.size)⟩
        have HUF : Hid (∀ X, Below We.heap.size We X → Calls Try.prog 34 #[.agg #[.int .i64 64, .slice a2 n2 c2], .int .i64 63] X fun e w' => ∃ u, e = .returned (.tuple #[.agg #[.int .i64 64, u], .int .i64 0]) ∧ OwnSegs w' We.heap.size u l3 ∧ Below We.heap.size We w') := fun X hX => by
          have := used X 64 _ l2 63 (RowAt.below HSE2.out hX (Nat.le_refl _))
          rw [HUS.out] at this
          simp only [secOf, segsOf, Option.isSome_some, if_true, Option.getD_some] at this
          exact this.mono fun e w' ⟨u, h1, h2, h3⟩ => ⟨u, h1, own_base h2 hX.size, hX.trans (h3.mono hX.size)⟩
        obtain ⟨c0, c1, c2'⟩ := HCE.out We (Below.refl _ _)
        go_region_with (first
          | (go_at_call 21
             refine (HLF.out _ (drewN_below We 1)).mono ?_
             rintro e X1 ⟨rfl, hx⟩
             have HX1 := Lib.hid hx
             obtain ⟨d0, d1, d2⟩ := HCE.out X1 HX1.out
             clear hx)
          | (go_at_call 34
             refine (HUF.out _ HX1.out).mono ?_
             rintro e X2 ⟨u3, rfl, ho3, hx⟩
             have HX2 := Lib.hid hx
             have HO3 := Lib.hid ho3
             obtain ⟨a3, n3, c3, rfl⟩ := own_sl ho3
             obtain ⟨f0, f1, f2⟩ := HCE.out X2 HX2.out
             clear hx ho3)
          | (go_at_call 34
             refine (HUF.out _ (HX1.out.trans ((drewN_below X1 _).mono HX1.out.size))).mono ?_
             rintro e X2 ⟨u3, rfl, ho3, hx⟩
             have HX2 := Lib.hid hx
             have HO3 := Lib.hid ho3
             obtain ⟨a3, n3, c3, rfl⟩ := own_sl ho3
             obtain ⟨f0, f1, f2⟩ := HCE.out X2 HX2.out
             clear hx ho3))
        all_goals
          clear HLF HUF c0 c1 c2' d0 d1 d2
          have HKX := Lib.hid (HKE.out.step HX2.out)
          go_upto_region 21 with fail
          obtain ⟨Wu, hWu⟩ : ∃ Wu, Wu = (X2.setCell ⟨E, 0, none⟩ (.int .i64 64)).setCell ⟨E, 1, none⟩ (.slice a3 n3 c3) := ⟨_, rfl⟩
          have HKU : Hid (Kp w [(E, .cells #[.int .i64 64, .slice a3 n3 c3] 25), (P, .cells #[.int .i64 64, .slice ag ng cg] 25)] Wu) := by
            show Kp _ _ _
            rw [hWu]
            have hPE := HPE.out
            have := (HKX.out.set0 (k := 0) hPE.2.2 (fun p hp => by simp only [List.mem_cons, List.mem_nil_iff, or_false] at hp; subst hp; exact Nat.ne_of_lt hPE.1) (.int .i64 64)).set0 (k := 1) hPE.2.2 (fun p hp => by simp only [List.mem_cons, List.mem_nil_iff, or_false] at hp; subst hp; exact Nat.ne_of_lt hPE.1) (.slice a3 n3 c3)
            simpa using this
          have HOU : Hid (OwnSegs Wu We.heap.size (.slice a3 n3 c3) l3) := by
            show World.ownsRow _ _ _ _ _ _ _
            rw [hWu]
            exact own_set (own_set HO3.out HPE.out.2.1 _) HPE.out.2.1 _
          have HPU : Hid (P < Wu.heap.size) := blk_lt HKU.out.b1
          rw [← hWu]
          clear hWu HKX HO3 HX1 HX2 HKE HSE2 HCE f0 f1 f2
          have HLV := Lib.hid (left Wu 64 _ l3 HOU.out.segs)
          rw [HC3.out, HL3.out] at HLV
          unfold leftV ringV at HLV
          simp only [if_true] at HLV
          have e0 : Wu.cell? ⟨E, 0, none⟩ = some (.int .i64 64) := blk_cell HKU.out.b0 0
          have e1 : Wu.cell? ⟨E, 1, none⟩ = some (.slice a3 n3 c3) := blk_cell HKU.out.b0 1
          go_wp2_with fail
          refine HLV.out.mono ?_
          rintro e Wv ⟨rfl, hb⟩
          have HKV := Lib.hid (HKU.out.step hb)
          have HOV : Hid (OwnSegs Wv We.heap.size (.slice a3 n3 c3) l3) := own_below HOU.out hb
          have HSL := Lib.hid (seald Wv 64 _ l3 HOV.out.segs)
          rw [HSE.out] at HSL
          simp only [secOf, segsOf, Option.isSome_some, if_true, Option.getD_some] at HSL
          unfold ringV at HSL
          clear hb e0 e1 HLV HKU HOU
          have e0 : Wv.cell? ⟨E, 0, none⟩ = some (.int .i64 64) := blk_cell HKV.out.b0 0
          have e1 : Wv.cell? ⟨E, 1, none⟩ = some (.slice a3 n3 c3) := blk_cell HKV.out.b0 1
          go_wp2_with fail
          refine HSL.out.mono ?_
          rintro e Wx ⟨u4, rfl, ho4, hb⟩
          obtain ⟨a4, n4, c4, rfl⟩ := own_sl ho4
          have HKX := Lib.hid (HKV.out.step hb)
          have HOX : Hid (OwnSegs Wx (P + 1) (.slice a4 n4 c4) l4) := own_base ho4 (blk_lt HKV.out.b1)
          have hpw : w.heap.size ≤ P := HPW.out
          have HGX : Hid (GS w 64 P (.slice a4 n4 c4) l4 ((Wx.setCell ⟨P, 0, none⟩ (.int .i64 64)).setCell ⟨P, 1, none⟩ (.slice a4 n4 c4))) := GS.lay' HKX.out hpw HOX.out
          clear ho4 hb e0 e1 HSL HKV HOV hpw
          have p0 : Wx.cell? ⟨P, 0, none⟩ = some (.int .i64 64) := blk_cell HKX.out.b1 0
          have p1 : Wx.cell? ⟨P, 1, none⟩ = some (.slice ag ng cg) := blk_cell HKX.out.b1 1
          have fp := fun r => blk_frozen HKX.out.b1 r
          go_upto_region 24 with fail
          obtain ⟨Wy, hWy⟩ : ∃ Wy, Wy = (Wx.setCell ⟨P, 0, none⟩ (.int .i64 64)).setCell ⟨P, 1, none⟩ (.slice a4 n4 c4) := ⟨_, rfl⟩
          rw [← hWy] at HGX ⊢
          clear hWy p0 p1 fp HKX HOX
          go_wp2_with fail
          go_roundg (K - (k + 1))
          case rel => exact ⟨k + 1, _, _, rfl, by omega, by go_num, HGX, HGO4⟩
          case measure => omega

      · have hne : ((n : Int) - ((min k n : Nat) : Int) == 0) = false := by simp; omega
        have HGA := Lib.hid (HGO.out.room (by omega))
        have HRA := HRF
        go_upto_region 17 with fail
        clear hne
        obtain ⟨l2, l3, l4, hop, hc2, hl2, hus, hc3, hl3, hse, hgo4⟩ := HGA.out.step
        have HC2 := Lib.hid hc2
        have HL2 := Lib.hid hl2
        have HUS := Lib.hid hus
        have HC3 := Lib.hid hc3
        have HL3 := Lib.hid hl3
        have HSE := Lib.hid hse
        have HGO4 := Lib.hid hgo4
        have HOP := Lib.hid (openg Wf 64 _ _ (k + 1) HRA.out.segs)
        rw [hop] at HOP
        simp only [Option.map_some, secOf, segsOf, idxOf, Option.isSome_some, if_true, Option.getD_some] at HOP
        unfold ringV at HOP
        have a0 := HRA.out.c0
        have a1 := HRA.out.c1
        have hcv : IntKind.u64.wrap ((k : Int) + 1) = ((k + 1 : Nat) : Int) := by rw [IntKind.wrap_u64]; omega
        clear hop hc2 hl2 hus hc3 hl3 hse hgo4
        go_wp2_with fail
        refine HOP.out.mono ?_
        rintro e Wo ⟨u2, rfl, ho, hb⟩
        have HRB := Lib.hid (HRA.out.step hb)
        obtain ⟨a2, n2, c2, rfl⟩ := own_sl ho
        have HO2 := Lib.hid ho
        clear hb ho HOP a0 a1 hcv
        have hmod : ((k : Int) % (n : Int)) = ((k % n : Nat) : Int) := by omega
        have HMOD := Lib.hid hmod
        clear hmod
        go_upto_region 18 with fail
        obtain ⟨E, hE⟩ : ∃ E, E = Wo.heap.size := ⟨_, rfl⟩
        obtain ⟨We, hWe⟩ : ∃ We, We = Wo.alloc (.cells #[.int .i64 64, .slice a2 n2 c2] 25) := ⟨_, rfl⟩
        have HKE : Hid (Kp w [(E, .cells #[.int .i64 64, .slice a2 n2 c2] 25), (P, .cells #[.int .i64 64, v] 25)] We) := by show Kp _ _ _; rw [hWe, hE]; exact HRB.out.kp.alloc _
        have HSE2 : Hid (SegsAt We (.slice a2 n2 c2) l2) := by
          have : OwnSegs We Wf.heap.size (.slice a2 n2 c2) l2 := by show World.ownsRow _ _ _ _ _ _ _; rw [hWe]; exact HO2.out.alloc _
          exact this.segs
        have HPE : Hid (P < E ∧ E < We.heap.size ∧ w.heap.size ≤ E) := ⟨by rw [hE]; exact blk_lt HRB.out.kp.b0, blk_lt HKE.out.b0, by rw [hE]; exact HRB.out.kp.below.size⟩
        have HPW : Hid (w.heap.size ≤ P) := HRB.out.hP
        rw [← hE, ← hWe]
        clear hE hWe HO2 HRB HRA
        have hkk : (((k : Int) % (n : Int)) != ((k : Int) % (n : Int))) = false := by simp
        have hnn : 0 < n := by have := HH.out; omega
        go_upto_region 20 with fail
        clear hkk hnn
        have HCE : Hid (∀ X, Below We.heap.size We X → X.cell? ⟨E, 0, none⟩ = some (.int .i64 64) ∧ X.cell? ⟨E, 1, none⟩ = some (.slice a2 n2 c2) ∧ ∀ r, X.frozen? ⟨E, r, none⟩ = false) := fun X hX =>
          ⟨blk_cell (HKE.out.step hX).b0 0, blk_cell (HKE.out.step hX).b0 1, fun r => blk_frozen (HKE.out.step hX).b0 r⟩
        have HLF : Hid (∀ X, Below We.heap.size We X → Calls Try.prog 21 #[.agg #[.int .i64 64, .slice a2 n2 c2]] X fun e w' => e = .returned (.int .i64 63) ∧ Below We.heap.size We w') := fun X hX => by
          have := left X 64 _ l2 (RowAt.below HSE2.out hX (Nat.le_refl _))
          rw [HC2.out, HL2.out] at this
          exact this.mono fun e w' ⟨h1, h2⟩ => ⟨h1, hX.trans (h2.mono hX.size)⟩
        have HUF : Hid (∀ X, Below We.heap.size We X → Calls Try.prog 34 #[.agg #[.int .i64 64, .slice a2 n2 c2], .int .i64 63] X fun e w' => ∃ u, e = .returned (.tuple #[.agg #[.int .i64 64, u], .int .i64 0]) ∧ OwnSegs w' We.heap.size u l3 ∧ Below We.heap.size We w') := fun X hX => by
          have := used X 64 _ l2 63 (RowAt.below HSE2.out hX (Nat.le_refl _))
          rw [HUS.out] at this
          simp only [secOf, segsOf, Option.isSome_some, if_true, Option.getD_some] at this
          exact this.mono fun e w' ⟨u, h1, h2, h3⟩ => ⟨u, h1, own_base h2 hX.size, hX.trans (h3.mono hX.size)⟩
        obtain ⟨c0, c1, c2'⟩ := HCE.out We (Below.refl _ _)
        go_region_with (first
          | (go_at_call 21
             refine (HLF.out _ (drewN_below We 1)).mono ?_
             rintro e X1 ⟨rfl, hx⟩
             have HX1 := Lib.hid hx
             obtain ⟨d0, d1, d2⟩ := HCE.out X1 HX1.out
             clear hx)
          | (go_at_call 34
             refine (HUF.out _ HX1.out).mono ?_
             rintro e X2 ⟨u3, rfl, ho3, hx⟩
             have HX2 := Lib.hid hx
             have HO3 := Lib.hid ho3
             obtain ⟨a3, n3, c3, rfl⟩ := own_sl ho3
             obtain ⟨f0, f1, f2⟩ := HCE.out X2 HX2.out
             clear hx ho3)
          | (go_at_call 34
             refine (HUF.out _ (HX1.out.trans ((drewN_below X1 _).mono HX1.out.size))).mono ?_
             rintro e X2 ⟨u3, rfl, ho3, hx⟩
             have HX2 := Lib.hid hx
             have HO3 := Lib.hid ho3
             obtain ⟨a3, n3, c3, rfl⟩ := own_sl ho3
             obtain ⟨f0, f1, f2⟩ := HCE.out X2 HX2.out
             clear hx ho3))
        all_goals
          clear HLF HUF c0 c1 c2' d0 d1 d2
          have HKX := Lib.hid (HKE.out.step HX2.out)
          go_upto_region 21 with fail
          obtain ⟨Wu, hWu⟩ : ∃ Wu, Wu = (X2.setCell ⟨E, 0, none⟩ (.int .i64 64)).setCell ⟨E, 1, none⟩ (.slice a3 n3 c3) := ⟨_, rfl⟩
          have HKU : Hid (Kp w [(E, .cells #[.int .i64 64, .slice a3 n3 c3] 25), (P, .cells #[.int .i64 64, v] 25)] Wu) := by
            show Kp _ _ _
            rw [hWu]
            have hPE := HPE.out
            have := (HKX.out.set0 (k := 0) hPE.2.2 (fun p hp => by simp only [List.mem_cons, List.mem_nil_iff, or_false] at hp; subst hp; exact Nat.ne_of_lt hPE.1) (.int .i64 64)).set0 (k := 1) hPE.2.2 (fun p hp => by simp only [List.mem_cons, List.mem_nil_iff, or_false] at hp; subst hp; exact Nat.ne_of_lt hPE.1) (.slice a3 n3 c3)
            simpa using this
          have HOU : Hid (OwnSegs Wu We.heap.size (.slice a3 n3 c3) l3) := by
            show World.ownsRow _ _ _ _ _ _ _
            rw [hWu]
            exact own_set (own_set HO3.out HPE.out.2.1 _) HPE.out.2.1 _
          have HPU : Hid (P < Wu.heap.size) := blk_lt HKU.out.b1
          rw [← hWu]
          clear hWu HKX HO3 HX1 HX2 HKE HSE2 HCE f0 f1 f2
          have HLV := Lib.hid (left Wu 64 _ l3 HOU.out.segs)
          rw [HC3.out, HL3.out] at HLV
          unfold leftV ringV at HLV
          simp only [if_true] at HLV
          have e0 : Wu.cell? ⟨E, 0, none⟩ = some (.int .i64 64) := blk_cell HKU.out.b0 0
          have e1 : Wu.cell? ⟨E, 1, none⟩ = some (.slice a3 n3 c3) := blk_cell HKU.out.b0 1
          go_wp2_with fail
          refine HLV.out.mono ?_
          rintro e Wv ⟨rfl, hb⟩
          have HKV := Lib.hid (HKU.out.step hb)
          have HOV : Hid (OwnSegs Wv We.heap.size (.slice a3 n3 c3) l3) := own_below HOU.out hb
          have HSL := Lib.hid (seald Wv 64 _ l3 HOV.out.segs)
          rw [HSE.out] at HSL
          simp only [secOf, segsOf, Option.isSome_some, if_true, Option.getD_some] at HSL
          unfold ringV at HSL
          clear hb e0 e1 HLV HKU HOU
          have e0 : Wv.cell? ⟨E, 0, none⟩ = some (.int .i64 64) := blk_cell HKV.out.b0 0
          have e1 : Wv.cell? ⟨E, 1, none⟩ = some (.slice a3 n3 c3) := blk_cell HKV.out.b0 1
          go_wp2_with fail
          refine HSL.out.mono ?_
          rintro e Wx ⟨u4, rfl, ho4, hb⟩
          obtain ⟨a4, n4, c4, rfl⟩ := own_sl ho4
          have HKX := Lib.hid (HKV.out.step hb)
          have HOX : Hid (OwnSegs Wx (P + 1) (.slice a4 n4 c4) l4) := own_base ho4 (blk_lt HKV.out.b1)
          have hpw : w.heap.size ≤ P := HPW.out
          have HGX : Hid (GS w 64 P (.slice a4 n4 c4) l4 ((Wx.setCell ⟨P, 0, none⟩ (.int .i64 64)).setCell ⟨P, 1, none⟩ (.slice a4 n4 c4))) := GS.lay' HKX.out hpw HOX.out
          clear ho4 hb e0 e1 HSL HKV HOV hpw
          have p0 : Wx.cell? ⟨P, 0, none⟩ = some (.int .i64 64) := blk_cell HKX.out.b1 0
          have p1 : Wx.cell? ⟨P, 1, none⟩ = some (v) := blk_cell HKX.out.b1 1
          have fp := fun r => blk_frozen HKX.out.b1 r
          go_upto_region 24 with fail
          obtain ⟨Wy, hWy⟩ : ∃ Wy, Wy = (Wx.setCell ⟨P, 0, none⟩ (.int .i64 64)).setCell ⟨P, 1, none⟩ (.slice a4 n4 c4) := ⟨_, rfl⟩
          rw [← hWy] at HGX ⊢
          clear hWy p0 p1 fp HKX HOX
          go_wp2_with fail
          go_roundg (K - (k + 1))
          case rel => exact ⟨k + 1, _, _, rfl, by omega, by go_num, HGX, HGO4⟩
          case measure => omega
    · obtain rfl : k = K := by omega
      have hmx : (if laps < 0 then 0 else laps) = (M : Int) := HM.out
      have hmk : (M : Int) % 50 = (k : Int) := HMK.out
      have HCK := Lib.hid (chek wr 64 v l HRS.out.segs)
      rw [HGO.out.check] at HCK
      unfold ringV chekE at HCK
      simp only [if_true] at HCK
      have b0 := HRS.out.c0
      have b1 := HRS.out.c1
      go_wp2_with fail
      refine HCK.out.mono ?_
      rintro e Wf ⟨rfl, hb⟩
      have HB := Lib.hid (HRS.out.kp.step hb).below
      clear hb
      go_wp2_with fail
      go_ret
      exact ⟨rfl, HB.out⟩
end Go.Proofs.Ytlcdadnfcdjglaa
