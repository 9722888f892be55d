/- The document's Decode: the record that bytes begin with. Conditions: at most a million bytes are given. -/
import Derived.Test.YtjmocjcjiiopnaaGreatLogScans32
import Derived.Test.YtjmocjcjiiopnaaGreatLogScans22
import Derived.Test.YtjmocjcjiiopnaaGreatLogScans09

section
set_option linter.unusedVariables false
set_option linter.unusedSimpArgs false
namespace Go.Proofs.YtjmocjcjiiopnaaGreat
open Go.RowKit Go.Ice Go.Oct Go.Lg
theorem buildE_run (W : World) : (Instr.buildSlice 60 0 #[]).run Tryz.prog W = .ok (.slice (some ⟨W.heap.size, 0, none⟩) 0 0) (W.alloc (.cells #[] 5)) := by kernel_rfl
set_option maxHeartbeats 16000000 in
set_option maxRecDepth 20000 in
theorem rdecode (a : Option Addr) (c : Nat) (b : List UInt8) (hb : b.length ≤ 1000000) : Meets Tryz.prog 97 #[.slice a b.length c] [] [bytA (.slice a b.length c) b] fun v L => decQ b v L := by
  intro w B H
  have hs0 : bytA (.slice a b.length c) b ∈ [bytA (.slice a b.length c) b] := by simp
  have HNE := rneed a c b hb
  have H1 := H.alloc [.int .i64 0, .int .u32 0, .int .u32 0, .int .u64 0, .slice none 0 0, .slice none 0 0] 62
  obtain ⟨rb, hrb⟩ : ∃ rb, rb = w.heap.size := ⟨_, rfl⟩
  rw [← hrb] at H1
  have HRB := Lib.hid hrb
  clear hrb
  have hbA : ∀ W M, St w B M [bytA (.slice a b.length c) b] W → BytesAt W (.slice a b.length c) b := fun _ _ h => (h.getS hs0).elim fun _ h => h.2
  obtain ⟨n, hn⟩ : ∃ n, n = b.length := ⟨_, rfl⟩
  by_cases hE : headE b = 0
  · by_cases hlt : b.length < needB b
    · have HQ : decQ b (.tuple #[recV ⟨0, 0, 0, 0⟩ (.slice none 0 0) (.slice none 0 0), .int .i64 0, .int .i64 9]) [] := by
        have hd : decE b = 9 := by unfold decE; rw [if_pos hE, if_pos hlt]
        unfold decQ
        rw [hd, if_neg (by decide)]
        exact ⟨rfl, rfl⟩
      have HQ := Lib.hid HQ
      obtain ⟨nb, hnb⟩ : ∃ nb, nb = needB b := ⟨_, rfl⟩
      rw [← hnb] at HNE hlt
      rw [hE] at HNE
      rw [← hn] at hlt HNE ⊢
      clear hbA hs0 hE
      have hq : (n : Int) < (nb : Int) := by omega
      have HNE := Lib.hid HNE
      rw [← hn] at H1
      generalize hSS : [bytA (.slice a n c) b] = S at *
      clear hn
      go_enter Tryz.func97, Tryz.ntmps97
      go_upto_region 1 with fail
      rw [← HRB.out]
      refine wp_world (fun W => St w B _ _ W) H1 ?_
      intro w1 H2
      clear H1 HRB
      go_wp2_with fail
      subst hSS
      refine (HNE.out.call (L := []) (M := [_]) H2 (sub_imp (by simp))).mono ?_
      rintro e w2 ⟨_, _, rfl, ⟨rfl, rfl⟩, H3⟩
      clear H2
      simp only [List.nil_append] at H3
      obtain ⟨hc, hf⟩ := St.cells H3 0
      have HZ := (((((H3.set_ 0 0 (.int .i64 0)).set_ 0 1 (.int .u32 0)).set_ 0 2 (.int .u32 0)).set_ 0 3 (.int .u64 0)).set_ 0 4 (.slice none 0 0)).set_ 0 5 (.slice none 0 0)
      go_wp2_with fail
      exact bodyPost_ret (results_ctt rfl rfl bigRec (St.range HZ 0) rfl) rfl (Back.mk (L' := []) HQ.out (St.pick HZ []))
    · have hnm := headNM b hE
      have hnb : needB b = 21 + headN b + headM b := by unfold needB; rw [if_pos hE]
      have HQ : ∀ x y d1 d2, decQ b (.tuple #[recV (headR b) (.slice x (headN b) d1) (.slice y (headM b) d2), .int .i64 (needB b), .int .i64 0]) [ownA 5 1 (.slice x (headN b) d1) (headN b) (((b.drop 21).take (headN b)).map u8v), ownA 5 1 (.slice y (headM b) d2) (headM b) (((b.drop (21 + headN b)).take (headM b)).map u8v)] := fun x y d1 d2 => by
        have hd : decE b = 0 := by unfold decE; rw [if_pos hE, if_neg hlt]
        unfold decQ
        rw [hd, if_pos rfl]
        exact ⟨x, y, d1, d2, rfl, rfl⟩
      have hd0 : decE b = 0 := by unfold decE; rw [if_pos hE, if_neg hlt]
      obtain ⟨hl1, hl2, _, _⟩ := dec_len hd0
      rw [hE] at HNE
      rw [hnb] at HNE HQ hlt
      clear hd0 hE hnb
      unfold recV headR at HQ
      have hcut : ∀ W M, St w B M [bytA (.slice a b.length c) b] W → ∀ i m, i + m ≤ b.length → BytesAt W (subV a c i m) ((b.drop i).take m) := fun W M h i m hm => sub_bytes (hbA W M h) hm
      obtain ⟨b0, o0, cap, hv, hc1, hc2, _, _⟩ := byt_at (hbA _ _ H) (by omega)
      injection hv with hv1 hv2 hv3
      subst hv1 hv3
      have hcell : ∀ W M, St w B M [bytA (.slice (some ⟨b0, o0, none⟩) b.length c) b] W → W.cell? ⟨b0, o0, none⟩ = some (.int .u8 ((b.getD 0 0).toNat : Int)) := fun W M h => by
        obtain ⟨b', o', e, hh⟩ := byt_cell (hbA W M h) (by omega)
        injection e with e
        injection e with e1 e2
        subst e1 e2
        exact hh 0 (by omega)
      have him : ∀ i m, i + m ≤ b.length → c ≠ i → (bytA (.slice (some ⟨b0, o0, none⟩) b.length c) b).imp (bytA (.slice (some ⟨b0, o0 + i, none⟩) m (c - i)) ((b.drop i).take m)) := fun i m h1 h2 => by
        have := byt_sub_imp (a := some ⟨b0, o0, none⟩) (c := c) (i := i) (n := m) (l := b) fun w h => sub_bytes h h1
        rwa [sub_some h2] at this
      have hl4 : ∀ i m, i + m ≤ b.length → ((b.drop i).take m).length = m := fun i m h => by rw [List.length_take, List.length_drop]; omega
      have hnum : ∀ i m, i + m ≤ b.length → m ≤ 8 → c ≠ i → Meets Tryz.prog 124 #[.slice (some ⟨b0, o0 + i, none⟩) m (c - i)] [] [bytA (.slice (some ⟨b0, o0 + i, none⟩) m (c - i)) ((b.drop i).take m)] fun v L => v = .int .u64 (numB ((b.drop i).take m) : Int) ∧ L = [] := fun i m h1 h2 h3 => by
        have := rnum (some ⟨b0, o0 + i, none⟩) (c - i) ((b.drop i).take m) (by rw [hl4 i m h1]; exact h2)
        rwa [hl4 i m h1] at this
      have hbnd : ∀ i m, i + m ≤ b.length → numB ((b.drop i).take m) < 256 ^ m := fun i m h => by
        have := numB_lt ((b.drop i).take m)
        rwa [hl4 i m h] at this
      have hrf := hbnd 1 4 (by omega)
      have hre := hbnd 5 4 (by omega)
      have hrs := hbnd 9 8 (by omega)
      have hk0 : numB (b.take 1) = (b.getD 0 0).toNat := by
        have := numB_step b 0 (by omega)
        simpa [numB] using this
      have HN1 := Lib.hid (And.intro (hnum 1 4 (by omega) (by decide) (by omega)) (him 1 4 (by omega) (by omega)))
      have HN2 := Lib.hid (And.intro (hnum 5 4 (by omega) (by decide) (by omega)) (him 5 4 (by omega) (by omega)))
      have HN3 := Lib.hid (And.intro (hnum 9 8 (by omega) (by decide) (by omega)) (him 9 8 (by omega) (by omega)))
      have hN4 := And.intro (hnum 17 2 (by omega) (by decide) (by omega)) (him 17 2 (by omega) (by omega))
      rw [hk0] at HQ
      have hc0 := (b.getD 0 0).toNat_lt
      have hbK : ∀ W M, St w B M [bytA (.slice (some ⟨b0, o0, none⟩) b.length c) b] W → BytesAt W (.slice (some ⟨b0, o0 + 21, none⟩) (headN b) (c - 21)) ((b.drop 21).take (headN b)) := fun W M h => by
        have := hcut W M h 21 (headN b) (by omega)
        rwa [sub_some (by omega)] at this
      obtain ⟨av2, hav2⟩ : ∃ av2, subV (some ⟨b0, o0, none⟩) c (21 + headN b) (headM b) = .slice av2 (headM b) (c - (21 + headN b)) := ⟨_, rfl⟩
      have hbV : ∀ W M, St w B M [bytA (.slice (some ⟨b0, o0, none⟩) b.length c) b] W → BytesAt W (.slice av2 (headM b) (c - (21 + headN b))) ((b.drop (21 + headN b)).take (headM b)) := fun W M h => by
        have := hcut W M h (21 + headN b) (headM b) (by omega)
        rwa [hav2] at this
      obtain ⟨kn, hkn⟩ : ∃ kn, kn = headN b := ⟨_, rfl⟩
      obtain ⟨km, hkm⟩ : ∃ km, km = headM b := ⟨_, rfl⟩
      have hkn' : numB ((b.drop 17).take 2) = kn := by rw [hkn]; rfl
      rw [hkn'] at hN4
      rw [← hkn, ← hkm] at hlt HNE HQ hbV hl2 hnm hav2
      rw [← hkn] at hbK hl1
      clear hkn' hkn hkm
      have hkn : kn ≤ 250 := by omega
      have hkm : km ≤ 512 := by omega
      have hk1 : 1 ≤ kn := by omega
      clear hnm
      have hn21 : 21 + kn + km ≤ n := by omega
      have hnc : n ≤ c := by omega
      have hs1 : ∀ W, (Instr.sliceAt 60 (.slice (some ⟨b0, o0, none⟩) n c) (some (.int .i64 1)) (some (.int .i64 5)) none).run Tryz.prog W = .ok (.slice (some ⟨b0, o0 + 1, none⟩) 4 (c - 1)) W := fun W => run_sl W b0 o0 n c 1 5 (by decide) (by omega) (by omega)
      have hs2 : ∀ W, (Instr.sliceAt 60 (.slice (some ⟨b0, o0, none⟩) n c) (some (.int .i64 5)) (some (.int .i64 9)) none).run Tryz.prog W = .ok (.slice (some ⟨b0, o0 + 5, none⟩) 4 (c - 5)) W := fun W => run_sl W b0 o0 n c 5 9 (by decide) (by omega) (by omega)
      have hs3 : ∀ W, (Instr.sliceAt 60 (.slice (some ⟨b0, o0, none⟩) n c) (some (.int .i64 9)) (some (.int .i64 17)) none).run Tryz.prog W = .ok (.slice (some ⟨b0, o0 + 9, none⟩) 8 (c - 9)) W := fun W => run_sl W b0 o0 n c 9 17 (by decide) (by omega) (by omega)
      have hs4 : ∀ W, (Instr.sliceAt 60 (.slice (some ⟨b0, o0, none⟩) n c) (some (.int .i64 17)) (some (.int .i64 19)) none).run Tryz.prog W = .ok (.slice (some ⟨b0, o0 + 17, none⟩) 2 (c - 17)) W := fun W => run_sl W b0 o0 n c 17 19 (by decide) (by omega) (by omega)
      have hs6 : ∀ W, (Instr.sliceAt 60 (.slice (some ⟨b0, o0, none⟩) n c) (some (.int .i64 21)) (some (.int .i64 (21 + (kn : Int)))) none).run Tryz.prog W = .ok (.slice (some ⟨b0, o0 + 21, none⟩) kn (c - 21)) W := fun W => by
        have := run_sl W b0 o0 n c 21 (21 + kn) (by omega) (by omega) (by omega)
        rwa [Nat.add_sub_cancel_left, show ((21 + kn : Nat) : Int) = 21 + (kn : Int) by omega] at this
      have hs7 : ∀ W, (Instr.sliceAt 60 (.slice (some ⟨b0, o0, none⟩) n c) (some (.int .i64 (21 + (kn : Int)))) (some (.int .i64 (21 + (kn : Int) + (km : Int)))) none).run Tryz.prog W = .ok (.slice av2 km (c - (21 + kn))) W := fun W => by
        have := run_subB W (some ⟨b0, o0, none⟩) n c (21 + kn) (21 + kn + km) (by omega) (by omega) (fun e => by cases e)
        rwa [Nat.add_sub_cancel_left, hav2, show ((21 + kn : Nat) : Int) = 21 + (kn : Int) by omega, show ((21 + kn + km : Nat) : Int) = 21 + (kn : Int) + (km : Int) by omega] at this
      rw [show (((21 + kn + km : Nat) : Int)) = 21 + (kn : Int) + (km : Int) by omega] at HNE HQ
      clear hav2 hcut him hnum hbnd hl4 hk0 hlt
      rw [← hn] at HNE HN1 HN2 HN3 hN4 hcell hbK hbV hs0 H1 ⊢
      clear hbA hv2 hc1 hc2
      generalize (b.getD 0 0).toNat = k at *
      generalize numB ((b.drop 1).take 4) = rf at *
      generalize numB ((b.drop 5).take 4) = re at *
      generalize numB ((b.drop 9).take 8) = rs at *
      generalize (b.drop 21).take kn = KA at *
      generalize (b.drop (21 + kn)).take km = VA at *
      generalize hSS : [bytA (.slice (some ⟨b0, o0, none⟩) n c) b] = S at *
      have HSS := Lib.hid hSS
      clear hSS
      have HQ := Lib.hid HQ
      have HNE := Lib.hid HNE
      have HCL := Lib.hid hcell
      have HS0 := Lib.hid hs0
      have HBK := Lib.hid hbK
      have HBV := Lib.hid hbV
      have HKL := Lib.hid hl1
      have HVL := Lib.hid hl2
      have HN4 := Lib.hid hN4
      have HS1 := Lib.hid hs1
      have HS2 := Lib.hid hs2
      have HS3 := Lib.hid hs3
      have HS4 := Lib.hid hs4
      have HS6 := Lib.hid hs6
      have HS7 := Lib.hid hs7
      clear hs1 hs2 hs3 hs4 hs6 hs7 hcell hs0 hbK hbV hl1 hl2 hN4
      have hn0 : (0 : Int) < (n : Int) := by omega
      have hnz : ¬ n = 0 := by omega
      have hk64 : IntKind.i64.wrap (k : Int) = k := by rw [IntKind.wrap_i64]; omega
      have hf32 : IntKind.u32.wrap (rf : Int) = rf := by rw [IntKind.wrap_u32]; omega
      have he32 : IntKind.u32.wrap (re : Int) = re := by rw [IntKind.wrap_u32]; omega
      have hq : ¬ (n : Int) < 21 + (kn : Int) + (km : Int) := by omega
      clear hn
      go_enter Tryz.func97, Tryz.ntmps97
      go_upto_region 1 with fail
      rw [← HRB.out]
      refine wp_world (fun W => St w B _ _ W) H1 ?_
      intro w1 H2
      clear H1 HRB
      go_wp2_with fail
      refine (HNE.out.call (L := []) (M := [_]) H2 (fun A hA => ⟨A, List.mem_append_left _ hA, .refl _⟩)).mono ?_
      rintro e w2 ⟨_, _, rfl, ⟨rfl, rfl⟩, H3⟩
      clear H2
      simp only [List.nil_append] at H3
      go_wp2_with (first | rw [HS4.out] | fail)
      refine (HN4.out.1.call (L := []) (M := [_]) H3 (fun _ hA => ⟨bytA (.slice (some ⟨b0, o0, none⟩) n c) b, List.mem_append_left _ HS0.out, by cases List.mem_singleton.1 hA; exact HN4.out.2⟩)).mono ?_
      rintro e w3 ⟨_, _, rfl, ⟨rfl, rfl⟩, H6⟩
      clear H3
      simp only [List.nil_append] at H6
      go_upto_region 7 with fail
      refine wp_region_gh (Θ := Nat × Nat × Option Addr × Nat × Option Addr × Nat) (fun (z1, z2, x1, c1, x2, c2) => [(0, 27, (.slice (some ⟨b0, o0, none⟩) n c)), (1, 28, (.pointer (some ⟨b0, o0, none⟩))), (2, 29, (.int .u8 (k : Int))), (3, 30, (.int .i64 (k : Int))), (4, 31, (.slice (some ⟨b0, o0, none⟩) n c)), (5, 32, (.slice (some ⟨b0, o0 + 1, none⟩) 4 (c - 1))), (6, 33, (.int .u64 (rf : Int))), (7, 34, (.int .u32 (rf : Int))), (8, 35, (.slice (some ⟨b0, o0, none⟩) n c)), (9, 36, (.slice (some ⟨b0, o0 + 5, none⟩) 4 (c - 5))), (10, 37, (.int .u64 (re : Int))), (11, 38, (.int .u32 (re : Int))), (12, 39, (.slice (some ⟨b0, o0, none⟩) n c)), (13, 40, (.slice (some ⟨b0, o0 + 9, none⟩) 8 (c - 9))), (14, 41, (.int .u64 (rs : Int))), (15, 42, (.slice (some ⟨z1, 0, none⟩) 0 0)), (16, 43, (.slice (some ⟨b0, o0, none⟩) n c)), (17, 44, (.int .i64 (21 + (kn : Int)))), (18, 45, (.slice (some ⟨b0, o0 + 21, none⟩) kn (c - 21))), (19, 46, (.slice x1 kn c1)), (20, 47, (.slice (some ⟨z2, 0, none⟩) 0 0)), (21, 48, (.slice (some ⟨b0, o0, none⟩) n c)), (22, 49, (.int .i64 (21 + (kn : Int)))), (23, 50, (.int .i64 (21 + (kn : Int) + (km : Int)))), (24, 51, (.slice av2 km (c - (21 + kn)))), (25, 52, (.slice x2 km c2)), (26, 53, (.agg #[.int .i64 (k : Int), .int .u32 (rf : Int), .int .u32 (re : Int), .int .u64 (rs : Int), .slice x1 kn c1, .slice x2 km c2])), (27, 54, (.int .i64 (21 + (kn : Int) + (km : Int)))), (29, 3, (.int .i64 (21 + (kn : Int) + (km : Int)))), (30, 4, (.int .i64 0))]) (fun (z1, z2, x1, c1, x2, c2) done WW => St w B (bif done 28 then [ownA 5 1 (.slice x1 kn c1) kn ((KA).map u8v), ownA 5 1 (.slice x2 km c2) km ((VA).map u8v), blkA rb [.int .i64 (k : Int), .int .u32 (rf : Int), .int .u32 (re : Int), .int .u64 (rs : Int), .slice x1 kn c1, .slice x2 km c2] 62] else ((bif done 19 then [ownA 5 1 (.slice x1 kn c1) kn ((KA).map u8v)] else (bif done 15 then [ownA 5 1 (.slice (some ⟨z1, 0, none⟩) 0 0) 0 (([] : List UInt8).map u8v)] else [])) ++ ((bif done 25 then [ownA 5 1 (.slice x2 km c2) km ((VA).map u8v)] else (bif done 20 then [ownA 5 1 (.slice (some ⟨z2, 0, none⟩) 0 0) 0 (([] : List UInt8).map u8v)] else [])) ++ [blkA rb [.int .i64 0, .int .u32 0, .int .u32 0, .int .u64 0, .slice none 0 0, .slice none 0 0] 62]))) S WW) (by kernel_rfl) (hord_of2 (by kernel_rfl)) (fun _ => by kernel_rfl) (fun _ => by kernel_rfl) (fun _ => by kernel_rfl) ⟨(0, 0, none, 0, none, 0), (show St w B ([] ++ ([] ++ [blkA rb [.int .i64 0, .int .u32 0, .int .u32 0, .int .u64 0, .slice none 0 0, .slice none 0 0] 62])) S _ from H6.drew)⟩ ?_ ?_
      · intro (z1, z2, x1, c1, x2, c2) done zb WW j oq ho hd hdep hcl HA HJ
        have hj : j < 31 := (Array.getElem?_eq_some_iff.1 ho).1
        obtain rfl | rfl | rfl | rfl | rfl | rfl | rfl | rfl | rfl | rfl | rfl | rfl | rfl | rfl | rfl | rfl | rfl | rfl | rfl | rfl | rfl | rfl | rfl | rfl | rfl | rfl | rfl | rfl | rfl | rfl | rfl : j = 0 ∨ j = 1 ∨ j = 2 ∨ j = 3 ∨ j = 4 ∨ j = 5 ∨ j = 6 ∨ j = 7 ∨ j = 8 ∨ j = 9 ∨ j = 10 ∨ j = 11 ∨ j = 12 ∨ j = 13 ∨ j = 14 ∨ j = 15 ∨ j = 16 ∨ j = 17 ∨ j = 18 ∨ j = 19 ∨ j = 20 ∨ j = 21 ∨ j = 22 ∨ j = 23 ∨ j = 24 ∨ j = 25 ∨ j = 26 ∨ j = 27 ∨ j = 28 ∨ j = 29 ∨ j = 30 := by omega
        · exact valG (θ := (z1, z2, x1, c1, x2, c2)) (.slice (some ⟨b0, o0, none⟩) n c) ho (by cases ho; rfl) (by cases ho; simp [execOp, go_sem, HA.tm, lookT]) (by cases ho; exact fun d hd => by cases hd; exact List.mem_of_getElem? (i := 0) rfl) HJ
        · have p0 : done 0 = true := by cases ho; exact hdep ⟨0, .data⟩ (by simp) rfl
          exact valG (θ := (z1, z2, x1, c1, x2, c2)) (.pointer (some ⟨b0, o0, none⟩)) ho (by cases ho; rfl) (by cases ho; simp [execOp, go_sem, HA.tm, lookT, p0, hn0, hnz]) (by cases ho; exact fun d hd => by cases hd; exact List.mem_of_getElem? (i := 1) rfl) HJ
        · have p1 : done 1 = true := by cases ho; exact hdep ⟨1, .data⟩ (by simp) rfl
          have n3 : done 3 = false := by cases hx : done 3 with | false => rfl | true => have := hcl 3 _ rfl hx ⟨2, .data⟩ (by simp) rfl; rw [hd] at this; cases this
          have n26 : done 26 = false := by cases hx : done 26 with | false => rfl | true => have := hcl 26 _ rfl hx ⟨3, .data⟩ (by simp) rfl; rw [n3] at this; cases this
          have n28 : done 28 = false := by cases hx : done 28 with | false => rfl | true => have := hcl 28 _ rfl hx ⟨26, .data⟩ (by simp) rfl; rw [n26] at this; cases this
          have hcx : WW.cell? ⟨b0, o0, none⟩ = some (.int .u8 (k : Int)) := HCL.out _ _ HJ
          exact valG (θ := (z1, z2, x1, c1, x2, c2)) (.int .u8 (k : Int)) ho (by cases ho; rfl) (by cases ho; simp [execOp, go_sem, HA.tm, lookT, hcx, p1]) (by cases ho; exact fun d hd => by cases hd; exact List.mem_of_getElem? (i := 2) rfl) HJ
        · have p2 : done 2 = true := by cases ho; exact hdep ⟨2, .data⟩ (by simp) rfl
          exact valG (θ := (z1, z2, x1, c1, x2, c2)) (.int .i64 (k : Int)) ho (by cases ho; rfl) (by cases ho; simp [execOp, go_sem, HA.tm, lookT, p2, hk64]) (by cases ho; exact fun d hd => by cases hd; exact List.mem_of_getElem? (i := 3) rfl) HJ
        · exact valG (θ := (z1, z2, x1, c1, x2, c2)) (.slice (some ⟨b0, o0, none⟩) n c) ho (by cases ho; rfl) (by cases ho; simp [execOp, go_sem, HA.tm, lookT]) (by cases ho; exact fun d hd => by cases hd; exact List.mem_of_getElem? (i := 4) rfl) HJ
        · have p4 : done 4 = true := by cases ho; exact hdep ⟨4, .data⟩ (by simp) rfl
          exact sliceG (θ := (z1, z2, x1, c1, x2, c2)) (v := (.slice (some ⟨b0, o0 + 1, none⟩) 4 (c - 1))) _ _ _ _ ho (by cases ho; rfl) (by cases ho; rfl) (by simp [HA.ev, HA.tm, lookT, Act.eval, p4]) (by simp [HA.ev, HA.tm, lookT, Act.eval, p4]; try rfl) (by simp [HA.ev, HA.tm, lookT, Act.eval, p4]; try rfl) (HS1.out WW) (by cases ho; exact fun d hd => by cases hd; exact List.mem_of_getElem? (i := 5) rfl) HJ
        · have p5 : done 5 = true := by cases ho; exact hdep ⟨5, .data⟩ (by simp) rfl
          have n7 : done 7 = false := by cases hx : done 7 with | false => rfl | true => have := hcl 7 _ rfl hx ⟨6, .data⟩ (by simp) rfl; rw [hd] at this; cases this
          have n26 : done 26 = false := by cases hx : done 26 with | false => rfl | true => have := hcl 26 _ rfl hx ⟨7, .data⟩ (by simp) rfl; rw [n7] at this; cases this
          have n28 : done 28 = false := by cases hx : done 28 with | false => rfl | true => have := hcl 28 _ rfl hx ⟨26, .data⟩ (by simp) rfl; rw [n26] at this; cases this
          have n10 : done 10 = false := by cases hx : done 10 with | false => rfl | true => have := hcl 10 _ rfl hx ⟨6, .chain⟩ (by simp) rfl; rw [hd] at this; cases this
          have n14 : done 14 = false := by cases hx : done 14 with | false => rfl | true => have := hcl 14 _ rfl hx ⟨10, .chain⟩ (by simp) rfl; rw [n10] at this; cases this
          have n19 : done 19 = false := by cases hx : done 19 with | false => rfl | true => have := hcl 19 _ rfl hx ⟨14, .chain⟩ (by simp) rfl; rw [n14] at this; cases this
          have n25 : done 25 = false := by cases hx : done 25 with | false => rfl | true => have := hcl 25 _ rfl hx ⟨19, .chain⟩ (by simp) rfl; rw [n19] at this; cases this
          have HK := HJ
          simp only [n28, cond_false] at HK
          exact callG (θ := (z1, z2, x1, c1, x2, c2)) (f := 124) (args := #[.slice (some ⟨b0, o0 + 1, none⟩) 4 (c - 1)]) ho (by cases ho; rfl) (by cases ho; simp [execOp, go_sem, HA.tm, lookT, p5]) (HN1.out.1.call (L := []) (M := (bif done 19 then [ownA 5 1 (.slice x1 kn c1) kn ((KA).map u8v)] else (bif done 15 then [ownA 5 1 (.slice (some ⟨z1, 0, none⟩) 0 0) 0 (([] : List UInt8).map u8v)] else [])) ++ ((bif done 25 then [ownA 5 1 (.slice x2 km c2) km ((VA).map u8v)] else (bif done 20 then [ownA 5 1 (.slice (some ⟨z2, 0, none⟩) 0 0) 0 (([] : List UInt8).map u8v)] else [])) ++ [blkA rb [.int .i64 0, .int .u32 0, .int .u32 0, .int .u64 0, .slice none 0 0, .slice none 0 0] 62])) HK (fun _ hA => ⟨bytA (.slice (some ⟨b0, o0, none⟩) n c) b, List.mem_append_left _ HS0.out, by cases List.mem_singleton.1 hA; exact HN1.out.2⟩)) (by
            rintro e w' ⟨_, _, rfl, ⟨rfl, rfl⟩, HS'⟩
            exact ⟨_, (z1, z2, x1, c1, x2, c2), rfl, by cases ho; exact fun d hd => by cases hd; exact List.mem_of_getElem? (i := 6) rfl, .inl rfl, St.cast (by simp [n28]) HS'⟩)
        · have p6 : done 6 = true := by cases ho; exact hdep ⟨6, .data⟩ (by simp) rfl
          exact valG (θ := (z1, z2, x1, c1, x2, c2)) (.int .u32 (rf : Int)) ho (by cases ho; rfl) (by cases ho; simp [execOp, go_sem, HA.tm, lookT, p6, hf32]) (by cases ho; exact fun d hd => by cases hd; exact List.mem_of_getElem? (i := 7) rfl) HJ
        · exact valG (θ := (z1, z2, x1, c1, x2, c2)) (.slice (some ⟨b0, o0, none⟩) n c) ho (by cases ho; rfl) (by cases ho; simp [execOp, go_sem, HA.tm, lookT]) (by cases ho; exact fun d hd => by cases hd; exact List.mem_of_getElem? (i := 8) rfl) HJ
        · have p8 : done 8 = true := by cases ho; exact hdep ⟨8, .data⟩ (by simp) rfl
          exact sliceG (θ := (z1, z2, x1, c1, x2, c2)) (v := (.slice (some ⟨b0, o0 + 5, none⟩) 4 (c - 5))) _ _ _ _ ho (by cases ho; rfl) (by cases ho; rfl) (by simp [HA.ev, HA.tm, lookT, Act.eval, p8]) (by simp [HA.ev, HA.tm, lookT, Act.eval, p8]; try rfl) (by simp [HA.ev, HA.tm, lookT, Act.eval, p8]; try rfl) (HS2.out WW) (by cases ho; exact fun d hd => by cases hd; exact List.mem_of_getElem? (i := 9) rfl) HJ
        · have p9 : done 9 = true := by cases ho; exact hdep ⟨9, .data⟩ (by simp) rfl
          have n11 : done 11 = false := by cases hx : done 11 with | false => rfl | true => have := hcl 11 _ rfl hx ⟨10, .data⟩ (by simp) rfl; rw [hd] at this; cases this
          have n26 : done 26 = false := by cases hx : done 26 with | false => rfl | true => have := hcl 26 _ rfl hx ⟨11, .data⟩ (by simp) rfl; rw [n11] at this; cases this
          have n28 : done 28 = false := by cases hx : done 28 with | false => rfl | true => have := hcl 28 _ rfl hx ⟨26, .data⟩ (by simp) rfl; rw [n26] at this; cases this
          have n14 : done 14 = false := by cases hx : done 14 with | false => rfl | true => have := hcl 14 _ rfl hx ⟨10, .chain⟩ (by simp) rfl; rw [hd] at this; cases this
          have n19 : done 19 = false := by cases hx : done 19 with | false => rfl | true => have := hcl 19 _ rfl hx ⟨14, .chain⟩ (by simp) rfl; rw [n14] at this; cases this
          have n25 : done 25 = false := by cases hx : done 25 with | false => rfl | true => have := hcl 25 _ rfl hx ⟨19, .chain⟩ (by simp) rfl; rw [n19] at this; cases this
          have HK := HJ
          simp only [n28, cond_false] at HK
          exact callG (θ := (z1, z2, x1, c1, x2, c2)) (f := 124) (args := #[.slice (some ⟨b0, o0 + 5, none⟩) 4 (c - 5)]) ho (by cases ho; rfl) (by cases ho; simp [execOp, go_sem, HA.tm, lookT, p9]) (HN2.out.1.call (L := []) (M := (bif done 19 then [ownA 5 1 (.slice x1 kn c1) kn ((KA).map u8v)] else (bif done 15 then [ownA 5 1 (.slice (some ⟨z1, 0, none⟩) 0 0) 0 (([] : List UInt8).map u8v)] else [])) ++ ((bif done 25 then [ownA 5 1 (.slice x2 km c2) km ((VA).map u8v)] else (bif done 20 then [ownA 5 1 (.slice (some ⟨z2, 0, none⟩) 0 0) 0 (([] : List UInt8).map u8v)] else [])) ++ [blkA rb [.int .i64 0, .int .u32 0, .int .u32 0, .int .u64 0, .slice none 0 0, .slice none 0 0] 62])) HK (fun _ hA => ⟨bytA (.slice (some ⟨b0, o0, none⟩) n c) b, List.mem_append_left _ HS0.out, by cases List.mem_singleton.1 hA; exact HN2.out.2⟩)) (by
            rintro e w' ⟨_, _, rfl, ⟨rfl, rfl⟩, HS'⟩
            exact ⟨_, (z1, z2, x1, c1, x2, c2), rfl, by cases ho; exact fun d hd => by cases hd; exact List.mem_of_getElem? (i := 10) rfl, .inl rfl, St.cast (by simp [n28]) HS'⟩)
        · have p10 : done 10 = true := by cases ho; exact hdep ⟨10, .data⟩ (by simp) rfl
          exact valG (θ := (z1, z2, x1, c1, x2, c2)) (.int .u32 (re : Int)) ho (by cases ho; rfl) (by cases ho; simp [execOp, go_sem, HA.tm, lookT, p10, he32]) (by cases ho; exact fun d hd => by cases hd; exact List.mem_of_getElem? (i := 11) rfl) HJ
        · exact valG (θ := (z1, z2, x1, c1, x2, c2)) (.slice (some ⟨b0, o0, none⟩) n c) ho (by cases ho; rfl) (by cases ho; simp [execOp, go_sem, HA.tm, lookT]) (by cases ho; exact fun d hd => by cases hd; exact List.mem_of_getElem? (i := 12) rfl) HJ
        · have p12 : done 12 = true := by cases ho; exact hdep ⟨12, .data⟩ (by simp) rfl
          exact sliceG (θ := (z1, z2, x1, c1, x2, c2)) (v := (.slice (some ⟨b0, o0 + 9, none⟩) 8 (c - 9))) _ _ _ _ ho (by cases ho; rfl) (by cases ho; rfl) (by simp [HA.ev, HA.tm, lookT, Act.eval, p12]) (by simp [HA.ev, HA.tm, lookT, Act.eval, p12]; try rfl) (by simp [HA.ev, HA.tm, lookT, Act.eval, p12]; try rfl) (HS3.out WW) (by cases ho; exact fun d hd => by cases hd; exact List.mem_of_getElem? (i := 13) rfl) HJ
        · have p13 : done 13 = true := by cases ho; exact hdep ⟨13, .data⟩ (by simp) rfl
          have n26 : done 26 = false := by cases hx : done 26 with | false => rfl | true => have := hcl 26 _ rfl hx ⟨14, .data⟩ (by simp) rfl; rw [hd] at this; cases this
          have n28 : done 28 = false := by cases hx : done 28 with | false => rfl | true => have := hcl 28 _ rfl hx ⟨26, .data⟩ (by simp) rfl; rw [n26] at this; cases this
          have n19 : done 19 = false := by cases hx : done 19 with | false => rfl | true => have := hcl 19 _ rfl hx ⟨14, .chain⟩ (by simp) rfl; rw [hd] at this; cases this
          have n25 : done 25 = false := by cases hx : done 25 with | false => rfl | true => have := hcl 25 _ rfl hx ⟨19, .chain⟩ (by simp) rfl; rw [n19] at this; cases this
          have HK := HJ
          simp only [n28, cond_false] at HK
          exact callG (θ := (z1, z2, x1, c1, x2, c2)) (f := 124) (args := #[.slice (some ⟨b0, o0 + 9, none⟩) 8 (c - 9)]) ho (by cases ho; rfl) (by cases ho; simp [execOp, go_sem, HA.tm, lookT, p13]) (HN3.out.1.call (L := []) (M := (bif done 19 then [ownA 5 1 (.slice x1 kn c1) kn ((KA).map u8v)] else (bif done 15 then [ownA 5 1 (.slice (some ⟨z1, 0, none⟩) 0 0) 0 (([] : List UInt8).map u8v)] else [])) ++ ((bif done 25 then [ownA 5 1 (.slice x2 km c2) km ((VA).map u8v)] else (bif done 20 then [ownA 5 1 (.slice (some ⟨z2, 0, none⟩) 0 0) 0 (([] : List UInt8).map u8v)] else [])) ++ [blkA rb [.int .i64 0, .int .u32 0, .int .u32 0, .int .u64 0, .slice none 0 0, .slice none 0 0] 62])) HK (fun _ hA => ⟨bytA (.slice (some ⟨b0, o0, none⟩) n c) b, List.mem_append_left _ HS0.out, by cases List.mem_singleton.1 hA; exact HN3.out.2⟩)) (by
            rintro e w' ⟨_, _, rfl, ⟨rfl, rfl⟩, HS'⟩
            exact ⟨_, (z1, z2, x1, c1, x2, c2), rfl, by cases ho; exact fun d hd => by cases hd; exact List.mem_of_getElem? (i := 14) rfl, .inl rfl, St.cast (by simp [n28]) HS'⟩)
        · have n19 : done 19 = false := by cases hx : done 19 with | false => rfl | true => have := hcl 19 _ rfl hx ⟨15, .data⟩ (by simp) rfl; rw [hd] at this; cases this
          have n26 : done 26 = false := by cases hx : done 26 with | false => rfl | true => have := hcl 26 _ rfl hx ⟨19, .data⟩ (by simp) rfl; rw [n19] at this; cases this
          have n28 : done 28 = false := by cases hx : done 28 with | false => rfl | true => have := hcl 28 _ rfl hx ⟨26, .data⟩ (by simp) rfl; rw [n26] at this; cases this
          have n25 : done 25 = false := by cases hx : done 25 with | false => rfl | true => have := hcl 25 _ rfl hx ⟨19, .chain⟩ (by simp) rfl; rw [n19] at this; cases this
          have HK := HJ
          simp only [hd, n19, n28, cond_false, List.nil_append] at HK
          have HK2 : St w B (ownA 5 1 (.slice (some ⟨WW.heap.size, 0, none⟩) 0 0) 0 (([] : List UInt8).map u8v) :: ((bif done 25 then [ownA 5 1 (.slice x2 km c2) km ((VA).map u8v)] else (bif done 20 then [ownA 5 1 (.slice (some ⟨z2, 0, none⟩) 0 0) 0 (([] : List UInt8).map u8v)] else [])) ++ [blkA rb [.int .i64 0, .int .u32 0, .int .u32 0, .int .u64 0, .slice none 0 0, .slice none 0 0] 62])) S (WW.alloc (.cells #[] 5)) := (HK.alloc [] 5).toOwn 0 (n := 0) (size := 1) rfl rfl (by decide)
          exact buildSliceG (θ := (z1, z2, x1, c1, x2, c2)) (WW.heap.size, z2, x1, c1, x2, c2) (vals := #[]) _ _ _ ho (by cases ho; rfl) (by cases ho; rfl) (by simp) (buildE_run WW) (by cases ho; exact fun d hd => by cases hd; exact List.mem_of_getElem? (i := 15) rfl) (.inr (.cons (.inl rfl) (.cons (.inl rfl) (.cons (.inl rfl) (.cons (.inl rfl) (.cons (.inl rfl) (.cons (.inl rfl) (.cons (.inl rfl) (.cons (.inl rfl) (.cons (.inl rfl) (.cons (.inl rfl) (.cons (.inl rfl) (.cons (.inl rfl) (.cons (.inl rfl) (.cons (.inl rfl) (.cons (.inl rfl) (.cons (.inr ⟨rfl, hd⟩) (.cons (.inl rfl) (.cons (.inl rfl) (.cons (.inl rfl) (.cons (.inr ⟨rfl, n19⟩) (.cons (.inl rfl) (.cons (.inl rfl) (.cons (.inl rfl) (.cons (.inl rfl) (.cons (.inl rfl) (.cons (.inr ⟨rfl, n25⟩) (.cons (.inr ⟨rfl, n26⟩) (.cons (.inl rfl) (.cons (.inl rfl) (.cons (.inl rfl) (.nil)))))))))))))))))))))))))))))))) (St.cast (by simp [n19, n28]) HK2)
        · exact valG (θ := (z1, z2, x1, c1, x2, c2)) (.slice (some ⟨b0, o0, none⟩) n c) ho (by cases ho; rfl) (by cases ho; simp [execOp, go_sem, HA.tm, lookT]) (by cases ho; exact fun d hd => by cases hd; exact List.mem_of_getElem? (i := 16) rfl) HJ
        · exact valG (θ := (z1, z2, x1, c1, x2, c2)) (.int .i64 (21 + (kn : Int))) ho (by cases ho; rfl) (by cases ho; simp [execOp, go_sem, HA.tm, lookT]) (by cases ho; exact fun d hd => by cases hd; exact List.mem_of_getElem? (i := 17) rfl) HJ
        · have p16 : done 16 = true := by cases ho; exact hdep ⟨16, .data⟩ (by simp) rfl
          have p17 : done 17 = true := by cases ho; exact hdep ⟨17, .data⟩ (by simp) rfl
          exact sliceG (θ := (z1, z2, x1, c1, x2, c2)) (v := (.slice (some ⟨b0, o0 + 21, none⟩) kn (c - 21))) _ _ _ _ ho (by cases ho; rfl) (by cases ho; rfl) (by simp [HA.ev, HA.tm, lookT, Act.eval, p16, p17]) (by simp [HA.ev, HA.tm, lookT, Act.eval, p16, p17]; try rfl) (by simp [HA.ev, HA.tm, lookT, Act.eval, p16, p17]; try rfl) (HS6.out WW) (by cases ho; exact fun d hd => by cases hd; exact List.mem_of_getElem? (i := 18) rfl) HJ
        · have p15 : done 15 = true := by cases ho; exact hdep ⟨15, .data⟩ (by simp) rfl
          have p18 : done 18 = true := by cases ho; exact hdep ⟨18, .data⟩ (by simp) rfl
          have n26 : done 26 = false := by cases hx : done 26 with | false => rfl | true => have := hcl 26 _ rfl hx ⟨19, .data⟩ (by simp) rfl; rw [hd] at this; cases this
          have n28 : done 28 = false := by cases hx : done 28 with | false => rfl | true => have := hcl 28 _ rfl hx ⟨26, .data⟩ (by simp) rfl; rw [n26] at this; cases this
          have n25 : done 25 = false := by cases hx : done 25 with | false => rfl | true => have := hcl 25 _ rfl hx ⟨19, .chain⟩ (by simp) rfl; rw [hd] at this; cases this
          have p14 : done 14 = true := by cases ho; exact hdep ⟨14, .chain⟩ (by simp) rfl
          have HK : St w B (ownA 5 1 (.slice (some ⟨z1, 0, none⟩) 0 0) 0 (([] : List UInt8).map u8v) :: ((bif done 25 then [ownA 5 1 (.slice x2 km c2) km ((VA).map u8v)] else (bif done 20 then [ownA 5 1 (.slice (some ⟨z2, 0, none⟩) 0 0) 0 (([] : List UInt8).map u8v)] else [])) ++ [blkA rb [.int .i64 0, .int .u32 0, .int .u32 0, .int .u64 0, .slice none 0 0, .slice none 0 0] 62])) S WW := St.cast (by simp [p15, hd, n28]) HJ
          obtain ⟨a', c', w', hr, HS'⟩ := St.appB (ty := 60) elemByte HK 0 rfl (HBK.out _ _ HK) (by decide) (by rw [HKL.out]; omega)
          rw [HKL.out, Nat.zero_add, List.nil_append] at HS'
          rw [HKL.out, Nat.zero_add] at hr
          exact appG (θ := (z1, z2, x1, c1, x2, c2)) (v := (.slice (some ⟨z1, 0, none⟩) 0 0)) (vx := (.slice (some ⟨b0, o0 + 21, none⟩) kn (c - 21))) (z1, z2, a', c', x2, c2) (.tmp 42) (.tmp 45) _ ho (by cases ho; rfl) (by cases ho; rfl) (by simp [HA.ev, HA.tm, lookT, Act.eval, p14, p15, p18]) (by simp [HA.ev, HA.tm, lookT, Act.eval, p14, p15, p18]) hr (by cases ho; exact fun d hd => by cases hd; exact List.mem_of_getElem? (i := 19) rfl) (.inr (.cons (.inl rfl) (.cons (.inl rfl) (.cons (.inl rfl) (.cons (.inl rfl) (.cons (.inl rfl) (.cons (.inl rfl) (.cons (.inl rfl) (.cons (.inl rfl) (.cons (.inl rfl) (.cons (.inl rfl) (.cons (.inl rfl) (.cons (.inl rfl) (.cons (.inl rfl) (.cons (.inl rfl) (.cons (.inl rfl) (.cons (.inl rfl) (.cons (.inl rfl) (.cons (.inl rfl) (.cons (.inl rfl) (.cons (.inr ⟨rfl, hd⟩) (.cons (.inl rfl) (.cons (.inl rfl) (.cons (.inl rfl) (.cons (.inl rfl) (.cons (.inl rfl) (.cons (.inr ⟨rfl, n25⟩) (.cons (.inr ⟨rfl, n26⟩) (.cons (.inl rfl) (.cons (.inl rfl) (.cons (.inl rfl) (.nil)))))))))))))))))))))))))))))))) (St.cast (by simp [n28]) HS')
        · have n25 : done 25 = false := by cases hx : done 25 with | false => rfl | true => have := hcl 25 _ rfl hx ⟨20, .data⟩ (by simp) rfl; rw [hd] at this; cases this
          have n26 : done 26 = false := by cases hx : done 26 with | false => rfl | true => have := hcl 26 _ rfl hx ⟨25, .data⟩ (by simp) rfl; rw [n25] at this; cases this
          have n28 : done 28 = false := by cases hx : done 28 with | false => rfl | true => have := hcl 28 _ rfl hx ⟨26, .data⟩ (by simp) rfl; rw [n26] at this; cases this
          have HK := HJ
          simp only [hd, n25, n28, cond_false, List.nil_append] at HK
          have HK1 : St w B (ownA 5 1 (.slice (some ⟨WW.heap.size, 0, none⟩) 0 0) 0 (([] : List UInt8).map u8v) :: ((bif done 19 then [ownA 5 1 (.slice x1 kn c1) kn ((KA).map u8v)] else (bif done 15 then [ownA 5 1 (.slice (some ⟨z1, 0, none⟩) 0 0) 0 (([] : List UInt8).map u8v)] else [])) ++ [blkA rb [.int .i64 0, .int .u32 0, .int .u32 0, .int .u64 0, .slice none 0 0, .slice none 0 0] 62])) S (WW.alloc (.cells #[] 5)) := (HK.alloc [] 5).toOwn 0 (n := 0) (size := 1) rfl rfl (by decide)
          have HK2 := HK1.perm List.perm_middle.symm
          exact buildSliceG (θ := (z1, z2, x1, c1, x2, c2)) (z1, WW.heap.size, x1, c1, x2, c2) (vals := #[]) _ _ _ ho (by cases ho; rfl) (by cases ho; rfl) (by simp) (buildE_run WW) (by cases ho; exact fun d hd => by cases hd; exact List.mem_of_getElem? (i := 20) rfl) (.inr (.cons (.inl rfl) (.cons (.inl rfl) (.cons (.inl rfl) (.cons (.inl rfl) (.cons (.inl rfl) (.cons (.inl rfl) (.cons (.inl rfl) (.cons (.inl rfl) (.cons (.inl rfl) (.cons (.inl rfl) (.cons (.inl rfl) (.cons (.inl rfl) (.cons (.inl rfl) (.cons (.inl rfl) (.cons (.inl rfl) (.cons (.inl rfl) (.cons (.inl rfl) (.cons (.inl rfl) (.cons (.inl rfl) (.cons (.inl rfl) (.cons (.inr ⟨rfl, hd⟩) (.cons (.inl rfl) (.cons (.inl rfl) (.cons (.inl rfl) (.cons (.inl rfl) (.cons (.inr ⟨rfl, n25⟩) (.cons (.inr ⟨rfl, n26⟩) (.cons (.inl rfl) (.cons (.inl rfl) (.cons (.inl rfl) (.nil)))))))))))))))))))))))))))))))) (St.cast (by simp [n25, n28]) HK2)
        · exact valG (θ := (z1, z2, x1, c1, x2, c2)) (.slice (some ⟨b0, o0, none⟩) n c) ho (by cases ho; rfl) (by cases ho; simp [execOp, go_sem, HA.tm, lookT]) (by cases ho; exact fun d hd => by cases hd; exact List.mem_of_getElem? (i := 21) rfl) HJ
        · exact valG (θ := (z1, z2, x1, c1, x2, c2)) (.int .i64 (21 + (kn : Int))) ho (by cases ho; rfl) (by cases ho; simp [execOp, go_sem, HA.tm, lookT]) (by cases ho; exact fun d hd => by cases hd; exact List.mem_of_getElem? (i := 22) rfl) HJ
        · exact valG (θ := (z1, z2, x1, c1, x2, c2)) (.int .i64 (21 + (kn : Int) + (km : Int))) ho (by cases ho; rfl) (by cases ho; simp [execOp, go_sem, HA.tm, lookT]) (by cases ho; exact fun d hd => by cases hd; exact List.mem_of_getElem? (i := 23) rfl) HJ
        · have p21 : done 21 = true := by cases ho; exact hdep ⟨21, .data⟩ (by simp) rfl
          have p22 : done 22 = true := by cases ho; exact hdep ⟨22, .data⟩ (by simp) rfl
          have p23 : done 23 = true := by cases ho; exact hdep ⟨23, .data⟩ (by simp) rfl
          exact sliceG (θ := (z1, z2, x1, c1, x2, c2)) (v := (.slice av2 km (c - (21 + kn)))) _ _ _ _ ho (by cases ho; rfl) (by cases ho; rfl) (by simp [HA.ev, HA.tm, lookT, Act.eval, p21, p22, p23]) (by simp [HA.ev, HA.tm, lookT, Act.eval, p21, p22, p23]; try rfl) (by simp [HA.ev, HA.tm, lookT, Act.eval, p21, p22, p23]; try rfl) (HS7.out WW) (by cases ho; exact fun d hd => by cases hd; exact List.mem_of_getElem? (i := 24) rfl) HJ
        · have p20 : done 20 = true := by cases ho; exact hdep ⟨20, .data⟩ (by simp) rfl
          have p24 : done 24 = true := by cases ho; exact hdep ⟨24, .data⟩ (by simp) rfl
          have n26 : done 26 = false := by cases hx : done 26 with | false => rfl | true => have := hcl 26 _ rfl hx ⟨25, .data⟩ (by simp) rfl; rw [hd] at this; cases this
          have n28 : done 28 = false := by cases hx : done 28 with | false => rfl | true => have := hcl 28 _ rfl hx ⟨26, .data⟩ (by simp) rfl; rw [n26] at this; cases this
          have p19 : done 19 = true := by cases ho; exact hdep ⟨19, .chain⟩ (by simp) rfl
          have p15 : done 15 = true := hcl 19 _ rfl p19 ⟨15, .data⟩ (by simp) rfl
          have HK : St w B [ownA 5 1 (.slice x1 kn c1) kn ((KA).map u8v), ownA 5 1 (.slice (some ⟨z2, 0, none⟩) 0 0) 0 (([] : List UInt8).map u8v), blkA rb [.int .i64 0, .int .u32 0, .int .u32 0, .int .u64 0, .slice none 0 0, .slice none 0 0] 62] S WW := St.cast (by simp [p19, p20, hd, n28]) HJ
          obtain ⟨a', c', w', hr, HS'⟩ := St.appB (ty := 60) elemByte HK 1 rfl (HBV.out _ _ HK) (by decide) (by rw [HVL.out]; omega)
          rw [HVL.out, Nat.zero_add, List.nil_append] at HS'
          rw [HVL.out, Nat.zero_add] at hr
          exact appG (θ := (z1, z2, x1, c1, x2, c2)) (v := (.slice (some ⟨z2, 0, none⟩) 0 0)) (vx := (.slice av2 km (c - (21 + kn)))) (z1, z2, x1, c1, a', c') (.tmp 47) (.tmp 51) _ ho (by cases ho; rfl) (by cases ho; rfl) (by simp [HA.ev, HA.tm, lookT, Act.eval, p15, p19, p20, p24]) (by simp [HA.ev, HA.tm, lookT, Act.eval, p15, p19, p20, p24]) hr (by cases ho; exact fun d hd => by cases hd; exact List.mem_of_getElem? (i := 25) rfl) (.inr (.cons (.inl rfl) (.cons (.inl rfl) (.cons (.inl rfl) (.cons (.inl rfl) (.cons (.inl rfl) (.cons (.inl rfl) (.cons (.inl rfl) (.cons (.inl rfl) (.cons (.inl rfl) (.cons (.inl rfl) (.cons (.inl rfl) (.cons (.inl rfl) (.cons (.inl rfl) (.cons (.inl rfl) (.cons (.inl rfl) (.cons (.inl rfl) (.cons (.inl rfl) (.cons (.inl rfl) (.cons (.inl rfl) (.cons (.inl rfl) (.cons (.inl rfl) (.cons (.inl rfl) (.cons (.inl rfl) (.cons (.inl rfl) (.cons (.inl rfl) (.cons (.inr ⟨rfl, hd⟩) (.cons (.inr ⟨rfl, n26⟩) (.cons (.inl rfl) (.cons (.inl rfl) (.cons (.inl rfl) (.nil)))))))))))))))))))))))))))))))) (St.cast (by simp [p19, n28]) HS')
        · have p3 : done 3 = true := by cases ho; exact hdep ⟨3, .data⟩ (by simp) rfl
          have p7 : done 7 = true := by cases ho; exact hdep ⟨7, .data⟩ (by simp) rfl
          have p11 : done 11 = true := by cases ho; exact hdep ⟨11, .data⟩ (by simp) rfl
          have p14 : done 14 = true := by cases ho; exact hdep ⟨14, .data⟩ (by simp) rfl
          have p19 : done 19 = true := by cases ho; exact hdep ⟨19, .data⟩ (by simp) rfl
          have p25 : done 25 = true := by cases ho; exact hdep ⟨25, .data⟩ (by simp) rfl
          exact valG (θ := (z1, z2, x1, c1, x2, c2)) (.agg #[.int .i64 (k : Int), .int .u32 (rf : Int), .int .u32 (re : Int), .int .u64 (rs : Int), .slice x1 kn c1, .slice x2 km c2]) ho (by cases ho; rfl) (by cases ho; simp [execOp, go_sem, HA.tm, lookT, p3, p7, p11, p14, p19, p25]) (by cases ho; exact fun d hd => by cases hd; exact List.mem_of_getElem? (i := 26) rfl) HJ
        · exact valG (θ := (z1, z2, x1, c1, x2, c2)) (.int .i64 (21 + (kn : Int) + (km : Int))) ho (by cases ho; rfl) (by cases ho; simp [execOp, go_sem, HA.tm, lookT]) (by cases ho; exact fun d hd => by cases hd; exact List.mem_of_getElem? (i := 27) rfl) HJ
        · have p26 : done 26 = true := by cases ho; exact hdep ⟨26, .data⟩ (by simp) rfl
          have p19 : done 19 = true := hcl 26 _ rfl p26 ⟨19, .data⟩ (by simp) rfl
          have p15 : done 15 = true := hcl 19 _ rfl p19 ⟨15, .data⟩ (by simp) rfl
          have p25 : done 25 = true := hcl 26 _ rfl p26 ⟨25, .data⟩ (by simp) rfl
          have p20 : done 20 = true := hcl 25 _ rfl p25 ⟨20, .data⟩ (by simp) rfl
          have HK : St w B [ownA 5 1 (.slice x1 kn c1) kn ((KA).map u8v), ownA 5 1 (.slice x2 km c2) km ((VA).map u8v), blkA rb [.int .i64 0, .int .u32 0, .int .u32 0, .int .u64 0, .slice none 0 0, .slice none 0 0] 62] S WW := St.cast (by simp [p19, p25, hd]) HJ
          exact storeG (θ := (z1, z2, x1, c1, x2, c2)) _ (.tmp 2) (.tmp 53) ho (by cases ho; rfl) (by cases ho; rfl) (by cases ho; rfl) (by simp [HA.ev, HA.tm, lookT, Act.eval, p15, p19, p20, p25, p26]) (by first | (simp [HA.ev, HA.tm, lookT, Act.eval, p15, p19, p20, p25, p26]; done) | (simp [HA.ev, HA.tm, lookT, Act.eval, p15, p19, p20, p25, p26]; rfl)) (bigRec.store (show ([.int .i64 (k : Int), .int .u32 (rf : Int), .int .u32 (re : Int), .int .u64 (rs : Int), .slice x1 kn c1, .slice x2 km c2] : List Value).length = 6 from rfl) (St.there HK 2 6) (by simp [Value.oneCell'])) (St.cast (by simp) (St.setAllAt HK 2 (vs := [.int .i64 (k : Int), .int .u32 (rf : Int), .int .u32 (re : Int), .int .u64 (rs : Int), .slice x1 kn c1, .slice x2 km c2]) rfl rfl))
        · have p27 : done 27 = true := by cases ho; exact hdep ⟨27, .data⟩ (by simp) rfl
          exact valG (θ := (z1, z2, x1, c1, x2, c2)) (.int .i64 (21 + (kn : Int) + (km : Int))) ho (by cases ho; rfl) (by cases ho; simp [execOp, go_sem, HA.tm, lookT, p27]) (by cases ho; exact fun d hd => by cases hd; exact List.mem_of_getElem? (i := 28) rfl) HJ
        · exact valG (θ := (z1, z2, x1, c1, x2, c2)) (.int .i64 0) ho (by cases ho; rfl) (by cases ho; simp [execOp, go_sem, HA.tm, lookT]) (by cases ho; exact fun d hd => by cases hd; exact List.mem_of_getElem? (i := 29) rfl) HJ
      · intro (z1, z2, x1, c1, x2, c2) done WW hall HJ
        have z28 := hall 28 (by decide)
        have z15 := hall 15 (by decide)
        have z19 := hall 19 (by decide)
        have z20 := hall 20 (by decide)
        have z25 := hall 25 (by decide)
        have HE : St w B [ownA 5 1 (.slice x1 kn c1) kn ((KA).map u8v), ownA 5 1 (.slice x2 km c2) km ((VA).map u8v), blkA rb [.int .i64 (k : Int), .int .u32 (rf : Int), .int .u32 (re : Int), .int .u64 (rs : Int), .slice x1 kn c1, .slice x2 km c2] 62] S WW := St.cast (by simp [z28, z15, z19, z20, z25]) HJ
        clear HJ hall z28 z15 z19 z20 z25
        simp only [putAll, Act.put, List.setIfInBounds_toArray, List.set_cons_succ, List.set_cons_zero]
        go_wp2_with fail
        exact bodyPost_ret (results_ctt rfl rfl bigRec (St.range HE 2) rfl) rfl (Back.mk (L' := [_, _]) (HQ.out x1 x2 c1 c2) (St.pick HE [0, 1]))
  · have HQ : decQ b (.tuple #[recV ⟨0, 0, 0, 0⟩ (.slice none 0 0) (.slice none 0 0), .int .i64 0, .int .i64 (headE b)]) [] := by
      have hd : decE b = headE b := by unfold decE; rw [if_neg hE]
      unfold decQ
      rw [hd, if_neg hE]
      exact ⟨rfl, rfl⟩
    have HQ := Lib.hid HQ
    have hnb : needB b = 0 := by unfold needB; rw [if_neg hE]
    rw [hnb] at HNE
    generalize headE b = he at *
    rw [← hn] at HNE H1 ⊢
    clear hbA hs0 hnb
    have hq : ((he : Int) == 0) = false := by simp; omega
    have HNE := Lib.hid HNE
    generalize hSS : [bytA (.slice a n c) b] = S at *
    clear hn
    go_enter Tryz.func97, Tryz.ntmps97
    go_upto_region 1 with fail
    rw [← HRB.out]
    refine wp_world (fun W => St w B _ _ W) H1 ?_
    intro w1 H2
    clear H1 HRB
    go_wp2_with fail
    subst hSS
    refine (HNE.out.call (L := []) (M := [_]) H2 (sub_imp (by simp))).mono ?_
    rintro e w2 ⟨_, _, rfl, ⟨rfl, rfl⟩, H3⟩
    clear H2
    simp only [List.nil_append] at H3
    obtain ⟨hc, hf⟩ := St.cells H3 0
    have HZ := (((((H3.set_ 0 0 (.int .i64 0)).set_ 0 1 (.int .u32 0)).set_ 0 2 (.int .u32 0)).set_ 0 3 (.int .u64 0)).set_ 0 4 (.slice none 0 0)).set_ 0 5 (.slice none 0 0)
    go_wp2_with fail
    exact bodyPost_ret (results_ctt rfl rfl bigRec (St.range HZ 0) rfl) rfl (Back.mk (L' := []) HQ.out (St.pick HZ []))
end Go.Proofs.YtjmocjcjiiopnaaGreat
end
