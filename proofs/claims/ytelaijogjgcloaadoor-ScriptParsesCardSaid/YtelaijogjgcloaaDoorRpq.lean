/- The document's Parse. No condition. -/
import Derived.Test.YtelaijogjgcloaaDoorRsp
import Derived.Test.YtelaijogjgcloaaDoorRsv
import Derived.Test.YtelaijogjgcloaaDoorRre
import Derived.Test.YtelaijogjgcloaaDoorRri
import Derived.Test.YtelaijogjgcloaaDoorPrs
import Derived.Deep.CutBlock
set_option linter.unusedVariables false
set_option linter.unusedSimpArgs false
namespace Go.Proofs.YtelaijogjgcloaaDoor
open Go.RowKit Go.Ice Go.Scr

theorem extract_pre (t : Txt) (e : Nat) : (⟨t.toArray⟩ : ByteArray).extract 0 e = ⟨(t.take e).toArray⟩ := by
  rw [extract_mid, List.drop_zero, Nat.sub_zero]

set_option maxHeartbeats 16000000 in
set_option maxRecDepth 100000 in
theorem parse16 (t : Txt) (w : World) :
    Calls Tryd.prog 16 #[.string ⟨t.toArray⟩] w fun e w' => ∃ sv k n, e = .returned (.tuple #[sv, .int .i64 k, .int .i64 n]) ∧ Below w.heap.size w w' ∧ ParOut w.heap.size w' t sv k n := by
  obtain ⟨A, W0, HA, HW, HK, HZ⟩ := boxed1 w #[.int .i64 0, .int .i64 0, .int .i64 0, .int .i64 0, .int .i64 0, .slice none 0 0] 26
  have hwA : w.heap.size = A := HA.out
  have HAW := Lib.hid hwA.symm
  have hAW : w.heap.size ≤ A := by omega
  clear hwA
  go_enter Tryd.func16, Tryd.ntmps16
  go_upto_region 1 with fail
  rw [HA.out, HW.out]
  have HK0 := Lib.hid HK.out.b0
  have HPO : Hid (262144 < t.length → ∀ W', ParOut w.heap.size W' t zeroS 0 3) := fun h W' => by unfold ParOut; rw [if_pos h]; exact ⟨rfl, rfl, rfl⟩
  have HPN : Hid (¬ 262144 < t.length → ∀ W' j, parseP t = .error j → ParOut w.heap.size W' t zeroS (j : Nat) 360) := fun h W' j hj => by unfold ParOut; rw [if_neg h, hj]; exact ⟨rfl, rfl, rfl⟩
  have HPY : Hid (¬ 262144 < t.length → ∀ W' s v, parseP t = .ok s → EvsOwn w.heap.size W' v s.evs → ParOut w.heap.size W' t (scrV s.plan v) 0 0) := fun h W' s v hs hv => by unfold ParOut; rw [if_neg h, hs]; exact ⟨⟨v, rfl, hv⟩, rfl, rfl⟩
  by_cases hlen : 262144 < t.length
  · have a0 : W0.cell? ⟨A, 0, none⟩ = some (.int .i64 0) := blk_cell HK0.out 0
    have a1 : W0.cell? ⟨A, 1, none⟩ = some (.int .i64 0) := blk_cell HK0.out 1
    have a2 : W0.cell? ⟨A, 2, none⟩ = some (.int .i64 0) := blk_cell HK0.out 2
    have a3 : W0.cell? ⟨A, 3, none⟩ = some (.int .i64 0) := blk_cell HK0.out 3
    have a4 : W0.cell? ⟨A, 4, none⟩ = some (.int .i64 0) := blk_cell HK0.out 4
    have a5 : W0.cell? ⟨A, 5, none⟩ = some (.slice none 0 0) := blk_cell HK0.out 5
    have fa := fun r => blk_frozen HK0.out r
    have hlen' : (262144 : Int) < (t.length : Nat) := by omega
    go_wp2_with fail
    have e6 := set6 (v0 := .int .i64 0) (v1 := .int .i64 0) (v2 := .int .i64 0) (v3 := .int .i64 0) (v4 := .int .i64 0) (v5 := .slice none 0 0) HK0.out
    have r0 := blk_cell e6 0
    have r1 := blk_cell e6 1
    have r2 := blk_cell e6 2
    have r3 := blk_cell e6 3
    have r4 := blk_cell e6 4
    have r5 := blk_cell e6 5
    refine bodyPost_ret (v := .tuple #[zeroS, .int .i64 0, .int .i64 3]) (by simp [results, Tryd.f16, go_sem, r0, r1, r2, r3, r4, r5, zeroS, scrV]) rfl ?_
    exact ⟨_, 0, 3, rfl, Below.trans HK.out.below (below_frm (frm_set6 A _ _ _ _ _ _) hAW HK.out.below.size), HPO.out hlen _⟩
  · have hlen' : ¬ (262144 : Int) < (t.length : Nat) := by omega
    by_cases ht : t = []
    · subst ht
      have HPE : Hid (parseP [] = .error 0) := by show _ = _; rfl
      have a0 : W0.cell? ⟨A, 0, none⟩ = some (.int .i64 0) := blk_cell HK0.out 0
      have a1 : W0.cell? ⟨A, 1, none⟩ = some (.int .i64 0) := blk_cell HK0.out 1
      have a2 : W0.cell? ⟨A, 2, none⟩ = some (.int .i64 0) := blk_cell HK0.out 2
      have a3 : W0.cell? ⟨A, 3, none⟩ = some (.int .i64 0) := blk_cell HK0.out 3
      have a4 : W0.cell? ⟨A, 4, none⟩ = some (.int .i64 0) := blk_cell HK0.out 4
      have a5 : W0.cell? ⟨A, 5, none⟩ = some (.slice none 0 0) := blk_cell HK0.out 5
      have fa := fun r => blk_frozen HK0.out r
      go_wp2_with fail
      have e6 := set6 (v0 := .int .i64 0) (v1 := .int .i64 0) (v2 := .int .i64 0) (v3 := .int .i64 0) (v4 := .int .i64 0) (v5 := .slice none 0 0) HK0.out
      have r0 := blk_cell e6 0
      have r1 := blk_cell e6 1
      have r2 := blk_cell e6 2
      have r3 := blk_cell e6 3
      have r4 := blk_cell e6 4
      have r5 := blk_cell e6 5
      refine bodyPost_ret (v := .tuple #[zeroS, .int .i64 0, .int .i64 360]) (by simp [results, Tryd.f16, go_sem, r0, r1, r2, r3, r4, r5, zeroS, scrV]) rfl ?_
      exact ⟨_, 0, 360, rfl, Below.trans HK.out.below (below_frm (frm_set6 A _ _ _ _ _ _) hAW HK.out.below.size), HPN.out hlen _ 0 HPE.out⟩
    · have hte : (t == []) = false := by simp [ht]
      have HT0 : Hid (t ≠ []) := ht
      clear ht
      go_upto_region 6 with fail
      obtain ⟨S, W1, hS, hW1, HS, HSO, HSB, HSZ⟩ := boxed W0 #[.int .i64 0, .int .i64 0, .int .i64 0, .int .i64 0, .int .i64 0, .slice none 0 0] 26
      rw [← hS, ← hW1]
      have HP1 : Hid (PrT w A S plan0 (.slice none 0 0) [] W1) := ⟨HK.out.below.trans ((HS.out ▸ HSB.out : Below W0.heap.size W0 W1).mono HK.out.below.size), (((HS.out ▸ HSB.out : Below W0.heap.size W0 W1)).block A (blk_lt HK0.out)).trans HK0.out, HSO.out, EvsOwn.nil _ _, HAW.out, by have := HS.out; have := HZ.out; have := HAW.out; omega⟩
      clear hS hW1 HK HK0 HS HSO HSB HSZ HA HZ HW hte
      have hlt3 : ((t.length : Nat) : Int) ≤ 262144 := by omega
      go_wp2_with fail
      go_loopg [6, 7, 8, 9, 10] t.length (fun g av ev ov xv iv wr => ∃ (a : Nat) (p : Plan) (v : Value) (evs : List Ev), g = t.length - a ∧ a ≤ t.length ∧ av = .int .i64 a ∧ Hid (ParS t a p evs) ∧ Hid (PrT w A S p v evs wr))
      case atStart => exact ⟨0, plan0, .slice none 0 0, [], rfl, by omega, rfl, .inl ⟨rfl, HT0.out, rfl, rfl⟩, HP1.out⟩
      case round =>
        obtain ⟨a, p, v, evs, rfl, ha, rfl, HPS, HPT⟩ := hrel
        clear HP1
        by_cases hlt : a < t.length
        · obtain ⟨wo, rfl⟩ : ∃ wo : World, wo = wr := ⟨_, rfl⟩
          have hAS : A ≠ S := by have := HPT.out.hA; have := HPT.out.hS; omega
          have hSA : S ≠ A := fun e => hAS e.symm
          go_upto_block 2 with fail
          go_cut [7] from 23 to 34 (fun s7 wi => ∃ e : Nat, s7 = .int .i64 e ∧ wi = wo ∧ Hid (a ≤ e ∧ e ≤ t.length ∧ (10 : UInt8) ∉ (t.drop a).take (e - a) ∧ (e < t.length → t[e]? = some 10)))
          case first =>
            go_wp2_with fail
            go_loopg [7] (t.length - a) (fun g ev wi => ∃ e : Nat, g = t.length - e ∧ a ≤ e ∧ e ≤ t.length ∧ ev = .int .i64 e ∧ wi = wo ∧ Hid ((10 : UInt8) ∉ (t.drop a).take (e - a)))
            case atStart => exact ⟨a, rfl, Nat.le_refl _, by omega, rfl, rfl, by show _ ∉ _; simp⟩
            case round =>
              obtain ⟨e, rfl, hae, het, rfl, rfl, HNO⟩ := hrel
              by_cases hel : e < t.length
              · obtain ⟨c, hc⟩ : ∃ c, t[e]? = some c := ⟨t[e], List.getElem?_eq_getElem hel⟩
                have HC := Lib.hid hc
                have hcc : (⟨t.toArray⟩ : ByteArray)[e]'(by rw [txt_size]; exact hel) = c := byte_at hc
                have hel' : (e : Int) < (t.length : Nat) := by omega
                clear hc
                by_cases h10 : (c.toNat : Int) = 10
                · have HC10 : Hid (c = 10) := UInt8.toNat_inj.1 (by show c.toNat = 10; omega)
                  have h10b : ((c.toNat : Int) == 10) = true := by simp [h10]
                  go_wp2_with fail
                  go_meet
                  case rel => exact ⟨e, rfl, rfl, hae, het, HNO.out, fun _ => by rw [HC.out, HC10.out]⟩
                · have HC10 : Hid (c ≠ 10) := fun e => h10 (by rw [e]; rfl)
                  have h10b : ((c.toNat : Int) == 10) = false := by simp [h10]
                  go_wp2_with fail
                  go_roundg (t.length - (e + 1))
                  case measure => omega
                  case rel => exact ⟨e + 1, rfl, by omega, by omega, by go_num, rfl, no10_step hae HC.out HC10.out HNO.out⟩
              · have hel' : ¬ (e : Int) < (t.length : Nat) := by omega
                go_wp2_with fail
                go_meet
                case rel => exact ⟨e, rfl, rfl, hae, het, HNO.out, fun h => absurd h hel⟩
          case rest =>
            obtain ⟨e, rfl, rfl, HE⟩ := hcut
            have hae : a ≤ e := HE.out.1
            have het : e ≤ t.length := HE.out.2.1
            by_cases hel : e < t.length
            · have hel' : (e : Int) < (t.length : Nat) := by omega
              obtain ⟨line, hline⟩ : ∃ l, l = (t.drop a).take (e - a) := ⟨_, rfl⟩
              have HCL : Hid (cutL (t.drop a) = some (line, t.drop (e + 1))) := by rw [hline]; exact cut_at hae (HE.out.2.2.2 hel) HE.out.2.2.1
              have HLL : Hid (line.length = e - a) := by show _ = _; rw [hline, List.length_take, List.length_drop]; omega
              have HEX : Hid ((⟨t.toArray⟩ : ByteArray).extract a e = ⟨line.toArray⟩) := by show _ = _; rw [extract_mid, hline]
              have hll : line.length ≤ 1000000 := by have := HLL.out; omega
              clear hline HE
              by_cases ha0 : a = 0
              · have HCL0 : Hid (cutL t = some (line, t.drop (e + 1))) := by have h := HCL.out; rw [ha0] at h; exact h
                have HEX0 : Hid ((⟨t.toArray⟩ : ByteArray).extract 0 e = ⟨line.toArray⟩) := by have h := HEX.out; rw [ha0] at h; exact h
                have HLL0 : Hid (line.length = e) := by have h := HLL.out; rw [ha0] at h; exact h
                have HEV0 : Hid (evs = []) := by
                  rcases HPS.out with ⟨_, _, _, h⟩ | ⟨h, _⟩
                  · exact h
                  · omega
                have hz : ((a : Int) == 0) = true := by simp [ha0]
                have HA0 : Hid (a = 0) := ha0
                clear ha0
                go_wp2_with fail
                rw [HEX0.out]
                refine (plan38 wc line hll).mono ?_
                rintro e9 w5 ⟨⟨⟨pg, ps, pl, pp, pc⟩, b, rfl, hpr⟩, hb5⟩
                have HPR := Lib.hid hpr
                have HRP := Lib.hid (rpar_plan HCL0.out hpr)
                have HP5 := Lib.hid (HPT.out.step hb5)
                obtain ⟨va, vc, rfl⟩ := HP5.out.ev.form
                obtain ⟨ne, hne⟩ : ∃ ne, ne = evs.length := ⟨_, rfl⟩
                rw [← hne] at HP5
                have HSS := HP5.out.s
                unfold scrO at HSS
                have s0 : w5.cell? ⟨S, 0, none⟩ = some (.int .i64 p.g) := blk_cell HSS 0
                have s1 : w5.cell? ⟨S, 1, none⟩ = some (.int .i64 p.s) := blk_cell HSS 1
                have s2 : w5.cell? ⟨S, 2, none⟩ = some (.int .i64 p.l) := blk_cell HSS 2
                have s3 : w5.cell? ⟨S, 3, none⟩ = some (.int .i64 p.p) := blk_cell HSS 3
                have s4 : w5.cell? ⟨S, 4, none⟩ = some (.int .i64 p.c) := blk_cell HSS 4
                have s5 : w5.cell? ⟨S, 5, none⟩ = some (.slice va ne vc) := blk_cell HSS 5
                have fs := fun r => blk_frozen HSS r
                have HP6 := Lib.hid (HP5.out.plan (frm_set5 S (.int .i64 pg) (.int .i64 ps) (.int .i64 pl) (.int .i64 pp) (.int .i64 pc)) (p' := ⟨pg, ps, pl, pp, pc⟩) (set56 HSS))
                dsimp only
                clear hpr hb5 hne HSS HPT
                cases b with
                | false =>
                  have HPE : Hid (parseP t = .error 0) := by have h := HRP.out; rw [Bool.false_and, if_neg (by simp)] at h; exact h
                  have a0 : w5.cell? ⟨A, 0, none⟩ = some (.int .i64 0) := blk_cell HP5.out.a 0
                  have a1 : w5.cell? ⟨A, 1, none⟩ = some (.int .i64 0) := blk_cell HP5.out.a 1
                  have a2 : w5.cell? ⟨A, 2, none⟩ = some (.int .i64 0) := blk_cell HP5.out.a 2
                  have a3 : w5.cell? ⟨A, 3, none⟩ = some (.int .i64 0) := blk_cell HP5.out.a 3
                  have a4 : w5.cell? ⟨A, 4, none⟩ = some (.int .i64 0) := blk_cell HP5.out.a 4
                  have a5 : w5.cell? ⟨A, 5, none⟩ = some (.slice none 0 0) := blk_cell HP5.out.a 5
                  have fa := fun r => blk_frozen HP5.out.a r
                  go_wp2_with fail
                  have e6 := set6 (v0 := .int .i64 0) (v1 := .int .i64 0) (v2 := .int .i64 0) (v3 := .int .i64 0) (v4 := .int .i64 0) (v5 := .slice none 0 0) HP6.out.a
                  have r0 := blk_cell e6 0
                  have r1 := blk_cell e6 1
                  have r2 := blk_cell e6 2
                  have r3 := blk_cell e6 3
                  have r4 := blk_cell e6 4
                  have r5 := blk_cell e6 5
                  refine bodyPost_ret (v := .tuple #[zeroS, .int .i64 (a : Nat), .int .i64 360]) (by simp [results, Tryd.f16, go_sem, r0, r1, r2, r3, r4, r5, zeroS, scrV]) rfl ?_
                  exact ⟨_, (a : Nat), 360, rfl, Below.trans HP6.out.bel (below_frm (frm_set6 A _ _ _ _ _ _) hAW HP6.out.bel.size), HPN.out hlen _ a (by rw [HA0.out]; exact HPE.out)⟩
                | true =>
                  go_wp2_with fail
                  refine (rightPlan34 _ ⟨pg, ps, pl, pp, pc⟩).mono ?_
                  rintro e9 w7 ⟨rfl, hb7⟩
                  have HP7 := Lib.hid (HP6.out.step hb7)
                  clear hb7 s0 s1 s2 s3 s4 s5 fs HP6 HP5
                  obtain ⟨pb, hpb⟩ : ∃ pb, pb = planB ⟨pg, ps, pl, pp, pc⟩ := ⟨_, rfl⟩
                  rw [← hpb] at HRP ⊢
                  have HPB := Lib.hid hpb
                  clear hpb
                  cases pb with
                  | true =>
                    have HN2 : Hid (ParS t (e + 1) ⟨pg, ps, pl, pp, pc⟩ evs) := by have h := HRP.out; rw [Bool.true_and, if_pos rfl, HLL0.out] at h; rw [HEV0.out]; exact h
                    go_wp2_with fail
                    go_roundg (t.length - (e + 1))
                    case measure => omega
                    case rel => exact ⟨e + 1, ⟨pg, ps, pl, pp, pc⟩, _, evs, rfl, by omega, by go_num, HN2, HP7⟩
                  | false =>
                    have HPE : Hid (parseP t = .error 0) := by have h := HRP.out; rw [Bool.true_and, if_neg (by simp)] at h; exact h
                    have a0 : w7.cell? ⟨A, 0, none⟩ = some (.int .i64 0) := blk_cell HP7.out.a 0
                    have a1 : w7.cell? ⟨A, 1, none⟩ = some (.int .i64 0) := blk_cell HP7.out.a 1
                    have a2 : w7.cell? ⟨A, 2, none⟩ = some (.int .i64 0) := blk_cell HP7.out.a 2
                    have a3 : w7.cell? ⟨A, 3, none⟩ = some (.int .i64 0) := blk_cell HP7.out.a 3
                    have a4 : w7.cell? ⟨A, 4, none⟩ = some (.int .i64 0) := blk_cell HP7.out.a 4
                    have a5 : w7.cell? ⟨A, 5, none⟩ = some (.slice none 0 0) := blk_cell HP7.out.a 5
                    have fa := fun r => blk_frozen HP7.out.a r
                    go_wp2_with fail
                    have e6 := set6 (v0 := .int .i64 0) (v1 := .int .i64 0) (v2 := .int .i64 0) (v3 := .int .i64 0) (v4 := .int .i64 0) (v5 := .slice none 0 0) HP7.out.a
                    have r0 := blk_cell e6 0
                    have r1 := blk_cell e6 1
                    have r2 := blk_cell e6 2
                    have r3 := blk_cell e6 3
                    have r4 := blk_cell e6 4
                    have r5 := blk_cell e6 5
                    refine bodyPost_ret (v := .tuple #[zeroS, .int .i64 (a : Nat), .int .i64 360]) (by simp [results, Tryd.f16, go_sem, r0, r1, r2, r3, r4, r5, zeroS, scrV]) rfl ?_
                    exact ⟨_, (a : Nat), 360, rfl, Below.trans HP7.out.bel (below_frm (frm_set6 A _ _ _ _ _ _) hAW HP7.out.bel.size), HPN.out hlen _ a (by rw [HA0.out]; exact HPE.out)⟩
              · have hz : ((a : Int) == 0) = false := by simp [ha0]
                have HA0 : Hid (0 < a) := Nat.pos_of_ne_zero ha0
                clear ha0
                have HE2 : Hid (evs.length ≤ 200) := by
                  show _ ≤ _
                  rcases HPS.out with ⟨h, _⟩ | ⟨_, _, _, h, _⟩
                  · have := HA0.out; omega
                  · exact h
                go_wp2_with fail
                rw [HEX.out]
                refine (event39 wc line hll).mono ?_
                rintro e9 w5 ⟨⟨⟨xk, xc, xn, xb, xp⟩, ab, nb, cb, ak, nk, ck, b, rfl, hef, hxr⟩, hb5⟩
                have HXR := Lib.hid hxr
                have HP5 := Lib.hid (HPT.out.step hb5)
                have hS1 : S + 1 ≤ wc.heap.size := by have := blk_lt HPT.out.s; omega
                have HE5 : Hid (EvF (S + 1) w5 ⟨xk, xc, xn, xb, xp⟩ (evC ⟨xk, xc, xn, xb, xp⟩ (.slice ab nb cb) (.slice ak nk ck))) := ⟨rfl, rfl, rfl, hef.bs, hef.ks, hef.fb.mono hS1, hef.fk.mono hS1⟩
                dsimp only
                clear hef hxr hb5
                obtain ⟨X, W6, HX, HW6, HK6, HZ6⟩ := boxed1 w5 #[.int .i64 xk, .int .i64 xc, .int .i64 xn, .slice ab nb cb, .slice ak nk ck] 41
                have HP6 := Lib.hid (HP5.out.step HK6.out.below)
                have HE6 := Lib.hid (HE5.out.below HK6.out.below)
                have HXB := Lib.hid HK6.out.b0
                obtain ⟨va, vc, rfl⟩ := HP6.out.ev.form
                obtain ⟨ne, hne⟩ : ∃ ne, ne = evs.length := ⟨_, rfl⟩
                rw [← hne] at HP6
                have HNE := Lib.hid hne
                clear hne HP5 HE5 HPT hS1
                have HSS := HP6.out.s
                unfold scrO at HSS
                have s0 : W6.cell? ⟨S, 0, none⟩ = some (.int .i64 p.g) := blk_cell HSS 0
                have s1 : W6.cell? ⟨S, 1, none⟩ = some (.int .i64 p.s) := blk_cell HSS 1
                have s2 : W6.cell? ⟨S, 2, none⟩ = some (.int .i64 p.l) := blk_cell HSS 2
                have s3 : W6.cell? ⟨S, 3, none⟩ = some (.int .i64 p.p) := blk_cell HSS 3
                have s4 : W6.cell? ⟨S, 4, none⟩ = some (.int .i64 p.c) := blk_cell HSS 4
                have s5 : W6.cell? ⟨S, 5, none⟩ = some (.slice va ne vc) := blk_cell HSS 5
                have y0 : W6.cell? ⟨X, 0, none⟩ = some (.int .i64 xk) := blk_cell HXB.out 0
                have y1 : W6.cell? ⟨X, 1, none⟩ = some (.int .i64 xc) := blk_cell HXB.out 1
                have y2 : W6.cell? ⟨X, 2, none⟩ = some (.int .i64 xn) := blk_cell HXB.out 2
                have y3 : W6.cell? ⟨X, 3, none⟩ = some (.slice ab nb cb) := blk_cell HXB.out 3
                have y4 : W6.cell? ⟨X, 4, none⟩ = some (.slice ak nk ck) := blk_cell HXB.out 4
                clear HSS
                go_upto_region 17 with fail
                rw [HW6.out, HX.out]
                clear HW6 HX HZ6 HK6
                go_cut [8] from 67 to 79 (fun s8 wd => ∃ ok : Bool, s8 = .bool ok ∧ Hid (Below W6.heap.size W6 wd) ∧ Hid (ok = (b && rightE p ⟨xk, xc, xn, xb, xp⟩ && decide (ne < 200))))
                case first =>
                  have HR35 : Hid (Calls Tryd.prog 35 #[.agg #[.int .i64 p.g, .int .i64 p.s, .int .i64 p.l, .int .i64 p.p, .int .i64 p.c], .agg #[.int .i64 xk, .int .i64 xc, .int .i64 xn, .slice ab nb cb, .slice ak nk ck]] W6 fun e w' => e = .returned (.bool (rightE p ⟨xk, xc, xn, xb, xp⟩)) ∧ Below W6.heap.size W6 w') := event35 W6 p _ _ HE6.out.at
                  obtain ⟨rr, hrr⟩ : ∃ rr, rr = rightE p ⟨xk, xc, xn, xb, xp⟩ := ⟨_, rfl⟩
                  rw [← hrr] at HR35
                  have HRR := Lib.hid hrr
                  clear hrr
                  cases b with
                  | false =>
                    go_wp2_with fail
                    go_meet
                    case rel => exact ⟨false, rfl, Below.refl _ _, by rfl⟩
                  | true =>
                    go_wp2_with fail
                    refine HR35.out.mono ?_
                    rintro e9 w7 ⟨rfl, hb7⟩
                    have t5 : w7.cell? ⟨S, 5, none⟩ = some (.slice va ne vc) := by
                      have h := (HP6.out.step hb7).s
                      unfold scrO at h
                      exact blk_cell h 5
                    have HB7 := Lib.hid hb7
                    clear hb7
                    cases rr with
                    | false =>
                      go_wp2_with fail
                      go_meet
                      case rel => exact ⟨false, rfl, HB7, by show _ = _; rw [← HRR.out]; rfl⟩
                    | true =>
                      by_cases h2 : ne < 200
                      · have h2' : (ne : Int) < 200 := by omega
                        go_wp2_with fail
                        go_meet
                        case rel => exact ⟨true, rfl, HB7, by show _ = _; rw [← HRR.out, decide_eq_true h2]; rfl⟩
                      · have h2' : ¬ (ne : Int) < 200 := by omega
                        go_wp2_with fail
                        go_meet
                        case rel => exact ⟨false, by rw [decide_eq_false (by omega)], HB7, by show _ = _; rw [← HRR.out, decide_eq_false h2]; rfl⟩
                case rest =>
                  rename_i wd
                  obtain ⟨ok, rfl, HB13, HWG⟩ := hcut
                  have HP7 := Lib.hid (HP6.out.step HB13.out)
                  have HE7 := Lib.hid (HE6.out.below HB13.out)
                  have hXB : wc.heap[X]? = some (.cells #[.int .i64 xk, .int .i64 xc, .int .i64 xn, .slice ab nb cb, .slice ak nk ck] 41 (0, 0)) := (HB13.out.block X (blk_lt HXB.out)).trans HXB.out
                  have HSS := HP7.out.s
                  unfold scrO at HSS
                  clear s0 s1 s2 s3 s4 s5 y0 y1 y2 y3 y4
                  have s0 : wc.cell? ⟨S, 0, none⟩ = some (.int .i64 p.g) := blk_cell HSS 0
                  have s1 : wc.cell? ⟨S, 1, none⟩ = some (.int .i64 p.s) := blk_cell HSS 1
                  have s2 : wc.cell? ⟨S, 2, none⟩ = some (.int .i64 p.l) := blk_cell HSS 2
                  have s3 : wc.cell? ⟨S, 3, none⟩ = some (.int .i64 p.p) := blk_cell HSS 3
                  have s4 : wc.cell? ⟨S, 4, none⟩ = some (.int .i64 p.c) := blk_cell HSS 4
                  have s5 : wc.cell? ⟨S, 5, none⟩ = some (.slice va ne vc) := blk_cell HSS 5
                  have y0 : wc.cell? ⟨X, 0, none⟩ = some (.int .i64 xk) := blk_cell hXB 0
                  have y1 : wc.cell? ⟨X, 1, none⟩ = some (.int .i64 xc) := blk_cell hXB 1
                  have y2 : wc.cell? ⟨X, 2, none⟩ = some (.int .i64 xn) := blk_cell hXB 2
                  have y3 : wc.cell? ⟨X, 3, none⟩ = some (.slice ab nb cb) := blk_cell hXB 3
                  have y4 : wc.cell? ⟨X, 4, none⟩ = some (.slice ak nk ck) := blk_cell hXB 4
                  have hb8 : Below wc.heap.size wc (wc.alloc (.cells #[.int .i64 xk, .int .i64 xc, .int .i64 xn, .slice ab nb cb, .slice ak nk ck] 41)) := (Below.refl _ wc).alloc (Nat.le_refl _) _
                  have hnew := heap_alloc_new wc (.cells #[.int .i64 xk, .int .i64 xc, .int .i64 xn, .slice ab nb cb, .slice ak nk ck] 41)
                  obtain ⟨v', w9, hrun, hown, hfr⟩ := EvsOwn.append (sx := .slice (some ⟨wc.heap.size, 0, none⟩) 1 1) (HP7.out.ev.below hb8) (HE7.out.below hb8) (⟨rfl, .inr ⟨by decide, wc.heap.size, 0, 1, rfl, by decide, by decide, blk_lt hnew, fun j hj => by
                    rw [Nat.zero_add, blk_cell hnew]
                    obtain rfl | rfl | rfl | rfl | rfl : j = 0 ∨ j = 1 ∨ j = 2 ∨ j = 3 ∨ j = 4 := by simp at hj; omega
                    all_goals rfl⟩⟩) (fun j hj => by
                    obtain rfl | rfl | rfl | rfl | rfl : j = 0 ∨ j = 1 ∨ j = 2 ∨ j = 3 ∨ j = 4 := by omega
                    all_goals rfl) (by have := blk_lt HP7.out.s; have := hb8.size; omega) (by have := HE2.out; omega)
                  obtain ⟨va', vc', rfl⟩ := hown.form
                  have HP8 := Lib.hid ((HP7.out.step hb8).app hown hfr)
                  have hS9 : w9.heap[S]? = some (scrO p (.slice va ne vc)) := by
                    have h8 := (HP7.out.step hb8).s
                    exact (hfr.block S (blk_lt h8) ((HP7.out.ev.below hb8).ne h8 (by decide))).trans h8
                  have hA9 : w9.heap[A]? = some (.cells #[.int .i64 0, .int .i64 0, .int .i64 0, .int .i64 0, .int .i64 0, .slice none 0 0] 26 (0, 0)) := by
                    have h8 := (HP7.out.step hb8).a
                    exact (hfr.block A (blk_lt h8) ((HP7.out.ev.below hb8).ne h8 (by decide))).trans h8
                  have HA9 := Lib.hid hA9
                  have t5 : w9.cell? ⟨S, 5, none⟩ = some (.slice va ne vc) := by unfold scrO at hS9; exact blk_cell hS9 5
                  have ft : ∀ r, w9.frozen? ⟨S, r, none⟩ = false := fun r => by unfold scrO at hS9; exact blk_frozen hS9 r
                  have HRUN := Lib.hid hrun
                  have HEV := Lib.hid (rpar_ev HPS.out HA0.out hlt HCL.out HXR.out)
                  rw [← HNE.out, ← HWG.out] at HEV
                  obtain ⟨ne1, hne1⟩ : ∃ ne1, ne1 = (evs ++ [(⟨xk, xc, xn, xb, xp⟩ : Ev)]).length := ⟨_, rfl⟩
                  rw [← hne1] at HRUN HP8
                  clear hrun hown hfr hS9 hA9 hnew hb8 hXB HSS hne1
                  cases ok with
                  | true =>
                    have HN2 : Hid (ParS t (e + 1) p (evs ++ [⟨xk, xc, xn, xb, xp⟩])) := by
                      have h := HEV.out
                      rw [if_pos rfl, HLL.out, show a + (e - a) + 1 = e + 1 by omega] at h
                      exact h
                    go_wp2_with (refine wpList_append_eq rfl _ _ 24 rfl (by first | rfl | simp [go_sem]) (by first | rfl | simp [go_sem]) HRUN.out ?_)
                    go_roundg (t.length - (e + 1))
                    case measure => omega
                    case rel => exact ⟨e + 1, p, _, evs ++ [⟨xk, xc, xn, xb, xp⟩], rfl, by omega, by go_num, HN2, HP8⟩
                  | false =>
                    have HPE : Hid (parseP t = .error a) := by have h := HEV.out; rw [if_neg (by simp)] at h; exact h
                    have a0 : w9.cell? ⟨A, 0, none⟩ = some (.int .i64 0) := blk_cell HA9.out 0
                    have a1 : w9.cell? ⟨A, 1, none⟩ = some (.int .i64 0) := blk_cell HA9.out 1
                    have a2 : w9.cell? ⟨A, 2, none⟩ = some (.int .i64 0) := blk_cell HA9.out 2
                    have a3 : w9.cell? ⟨A, 3, none⟩ = some (.int .i64 0) := blk_cell HA9.out 3
                    have a4 : w9.cell? ⟨A, 4, none⟩ = some (.int .i64 0) := blk_cell HA9.out 4
                    have a5 : w9.cell? ⟨A, 5, none⟩ = some (.slice none 0 0) := blk_cell HA9.out 5
                    have fa := fun r => blk_frozen HA9.out r
                    go_wp2_with (refine wpList_append_eq rfl _ _ 24 rfl (by first | rfl | simp [go_sem]) (by first | rfl | simp [go_sem]) HRUN.out ?_)
                    have e6 := set6 (v0 := .int .i64 0) (v1 := .int .i64 0) (v2 := .int .i64 0) (v3 := .int .i64 0) (v4 := .int .i64 0) (v5 := .slice none 0 0) HP8.out.a
                    have r0 := blk_cell e6 0
                    have r1 := blk_cell e6 1
                    have r2 := blk_cell e6 2
                    have r3 := blk_cell e6 3
                    have r4 := blk_cell e6 4
                    have r5 := blk_cell e6 5
                    refine bodyPost_ret (v := .tuple #[zeroS, .int .i64 (a : Nat), .int .i64 360]) (by simp [results, Tryd.f16, go_sem, r0, r1, r2, r3, r4, r5, zeroS, scrV]) rfl ?_
                    exact ⟨_, (a : Nat), 360, rfl, Below.trans HP8.out.bel (below_frm (frm_set6 A _ _ _ _ _ _) hAW HP8.out.bel.size), HPN.out hlen _ a HPE.out⟩
            · have hel' : ¬ (e : Int) < (t.length : Nat) := by omega
              have hcn : cutL (t.drop a) = none := cut_end (by omega) HE.out.2.2.1
              have HPE : Hid (parseP t = .error a) := by
                show _ = _
                rcases Nat.eq_zero_or_pos a with h | h
                · rw [h] at hcn ⊢; exact rpar_no0 hcn
                · exact rpar_no HPS.out h hlt hcn
              clear hcn HE
              by_cases ha0 : a = 0
              · have hz : ((a : Int) == 0) = true := by simp [ha0]
                clear ha0
                have a0 : wc.cell? ⟨A, 0, none⟩ = some (.int .i64 0) := blk_cell HPT.out.a 0
                have a1 : wc.cell? ⟨A, 1, none⟩ = some (.int .i64 0) := blk_cell HPT.out.a 1
                have a2 : wc.cell? ⟨A, 2, none⟩ = some (.int .i64 0) := blk_cell HPT.out.a 2
                have a3 : wc.cell? ⟨A, 3, none⟩ = some (.int .i64 0) := blk_cell HPT.out.a 3
                have a4 : wc.cell? ⟨A, 4, none⟩ = some (.int .i64 0) := blk_cell HPT.out.a 4
                have a5 : wc.cell? ⟨A, 5, none⟩ = some (.slice none 0 0) := blk_cell HPT.out.a 5
                have fa := fun r => blk_frozen HPT.out.a r
                go_wp2_with fail
                have e6 := set6 (v0 := .int .i64 0) (v1 := .int .i64 0) (v2 := .int .i64 0) (v3 := .int .i64 0) (v4 := .int .i64 0) (v5 := .slice none 0 0) HPT.out.a
                have r0 := blk_cell e6 0
                have r1 := blk_cell e6 1
                have r2 := blk_cell e6 2
                have r3 := blk_cell e6 3
                have r4 := blk_cell e6 4
                have r5 := blk_cell e6 5
                refine bodyPost_ret (v := .tuple #[zeroS, .int .i64 (a : Nat), .int .i64 360]) (by simp [results, Tryd.f16, go_sem, r0, r1, r2, r3, r4, r5, zeroS, scrV]) rfl ?_
                exact ⟨_, (a : Nat), 360, rfl, Below.trans HPT.out.bel (below_frm (frm_set6 A _ _ _ _ _ _) hAW HPT.out.bel.size), HPN.out hlen _ a HPE.out⟩
              · have hz : ((a : Int) == 0) = false := by simp [ha0]
                clear ha0
                have a0 : wc.cell? ⟨A, 0, none⟩ = some (.int .i64 0) := blk_cell HPT.out.a 0
                have a1 : wc.cell? ⟨A, 1, none⟩ = some (.int .i64 0) := blk_cell HPT.out.a 1
                have a2 : wc.cell? ⟨A, 2, none⟩ = some (.int .i64 0) := blk_cell HPT.out.a 2
                have a3 : wc.cell? ⟨A, 3, none⟩ = some (.int .i64 0) := blk_cell HPT.out.a 3
                have a4 : wc.cell? ⟨A, 4, none⟩ = some (.int .i64 0) := blk_cell HPT.out.a 4
                have a5 : wc.cell? ⟨A, 5, none⟩ = some (.slice none 0 0) := blk_cell HPT.out.a 5
                have fa := fun r => blk_frozen HPT.out.a r
                go_wp2_with fail
                have e6 := set6 (v0 := .int .i64 0) (v1 := .int .i64 0) (v2 := .int .i64 0) (v3 := .int .i64 0) (v4 := .int .i64 0) (v5 := .slice none 0 0) HPT.out.a
                have r0 := blk_cell e6 0
                have r1 := blk_cell e6 1
                have r2 := blk_cell e6 2
                have r3 := blk_cell e6 3
                have r4 := blk_cell e6 4
                have r5 := blk_cell e6 5
                refine bodyPost_ret (v := .tuple #[zeroS, .int .i64 (a : Nat), .int .i64 360]) (by simp [results, Tryd.f16, go_sem, r0, r1, r2, r3, r4, r5, zeroS, scrV]) rfl ?_
                exact ⟨_, (a : Nat), 360, rfl, Below.trans HPT.out.bel (below_frm (frm_set6 A _ _ _ _ _ _) hAW HPT.out.bel.size), HPN.out hlen _ a HPE.out⟩
        · obtain ⟨va, vc, rfl⟩ := HPT.out.ev.form
          have hge : t.length ≤ a := by omega
          have HPE : Hid (parseP t = .ok ⟨p, evs⟩) := par_end HPS.out hge
          have HSS := HPT.out.s
          unfold scrO at HSS
          obtain ⟨ne, hnev⟩ : ∃ ne, ne = evs.length := ⟨_, rfl⟩
          rw [← hnev] at HSS HPT
          have s0 : wr.cell? ⟨S, 0, none⟩ = some (.int .i64 p.g) := blk_cell HSS 0
          have s1 : wr.cell? ⟨S, 1, none⟩ = some (.int .i64 p.s) := blk_cell HSS 1
          have s2 : wr.cell? ⟨S, 2, none⟩ = some (.int .i64 p.l) := blk_cell HSS 2
          have s3 : wr.cell? ⟨S, 3, none⟩ = some (.int .i64 p.p) := blk_cell HSS 3
          have s4 : wr.cell? ⟨S, 4, none⟩ = some (.int .i64 p.c) := blk_cell HSS 4
          have s5 : wr.cell? ⟨S, 5, none⟩ = some (.slice va ne vc) := blk_cell HSS 5
          have a0 : wr.cell? ⟨A, 0, none⟩ = some (.int .i64 0) := blk_cell HPT.out.a 0
          have a1 : wr.cell? ⟨A, 1, none⟩ = some (.int .i64 0) := blk_cell HPT.out.a 1
          have a2 : wr.cell? ⟨A, 2, none⟩ = some (.int .i64 0) := blk_cell HPT.out.a 2
          have a3 : wr.cell? ⟨A, 3, none⟩ = some (.int .i64 0) := blk_cell HPT.out.a 3
          have a4 : wr.cell? ⟨A, 4, none⟩ = some (.int .i64 0) := blk_cell HPT.out.a 4
          have a5 : wr.cell? ⟨A, 5, none⟩ = some (.slice none 0 0) := blk_cell HPT.out.a 5
          have fa := fun r => blk_frozen HPT.out.a r
          have hage : ¬ ((a : Int) < (t.length : Int)) := by omega
          clear HSS hnev
          go_wp2_with fail
          have e6 := set6 (v0 := .int .i64 p.g) (v1 := .int .i64 p.s) (v2 := .int .i64 p.l) (v3 := .int .i64 p.p) (v4 := .int .i64 p.c) (v5 := .slice va ne vc) HPT.out.a
          have r0 := blk_cell e6 0
          have r1 := blk_cell e6 1
          have r2 := blk_cell e6 2
          have r3 := blk_cell e6 3
          have r4 := blk_cell e6 4
          have r5 := blk_cell e6 5
          refine bodyPost_ret (v := .tuple #[scrV p (.slice va ne vc), .int .i64 0, .int .i64 0]) (by simp [results, Tryd.f16, go_sem, r0, r1, r2, r3, r4, r5, scrV]) rfl ?_
          have hAS1 : A < S + 1 := by have := HPT.out.hA; have := HPT.out.hS; omega
          exact ⟨_, 0, 0, rfl, HPT.out.bel.trans (below_frm (frm_set6 A _ _ _ _ _ _) hAW HPT.out.bel.size), HPY.out hlen _ ⟨p, evs⟩ _ HPE.out ((HPT.out.ev.keep hAS1 (frm_set6 A _ _ _ _ _ _)).mono (by have := HPT.out.hS; omega))⟩
end Go.Proofs.YtelaijogjgcloaaDoor
