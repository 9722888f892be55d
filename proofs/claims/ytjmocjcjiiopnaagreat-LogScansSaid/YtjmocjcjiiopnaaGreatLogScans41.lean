/- The law LogScans, walked. Conditions: every block has 64 bytes. Arguments that came in, read leaf by leaf: structs and slices of structs, nested however deep, whose leaves take one cell each. No condition. Records that came in, read off the argument. No condition. -/
import Derived.Test.YtjmocjcjiiopnaaGreatLogScans30
import Derived.Test.YtjmocjcjiiopnaaGreatLogScans31
import Derived.Test.YtjmocjcjiiopnaaGreatLogScans39
import Derived.Test.YtjmocjcjiiopnaaGreatLogScans40
import Derived.Test.YtjmocjcjiiopnaaGreatLogScans01
import Derived.Deep.Slices
import Derived.SizedLaws
import Derived.Test.YtjmocjcjiiopnaaGreatLogScans04
import Derived.Test.YtjmocjcjiiopnaaGreatLogScans09

section
set_option linter.unusedVariables false
set_option linter.unusedSimpArgs false
namespace Go.Proofs.YtjmocjcjiiopnaaGreat
open Go.RowKit Go.Ice Go.Oct Go.Dsk Go.Ring Go.Lg
set_option maxHeartbeats 32000000 in
set_option maxRecDepth 100000 in
theorem logScans (sg na sa : Int) (a : Option Addr) (c : Nat) (bs : List (List UInt8)) (hb : ∀ x ∈ bs, x.length = 64) : Meets Tryz.prog 3 #[.agg #[.int .i64 sg, .int .i64 na, .int .i64 sa, .slice a bs.length c]] [] [slA 64 (.slice a bs.length c) bs.length (bs.flatMap fun x => x.map u8v)] fun v L => v = .bool true ∧ L = [] := by
  intro w B H
  have hsl : IsSlK w 64 bs.length (.slice a bs.length c) (bs.flatMap fun x => x.map u8v) := St.sl H 0
  obtain ⟨nb, hnb⟩ : ∃ nb, nb = bs.length := ⟨_, rfl⟩
  have hmx : nb ≤ maxLen := by
    obtain ⟨_, _, _, h⟩ := hsl.form
    rw [hnb]; exact h
  rw [← hnb] at hsl
  have HSL := Lib.hid hsl
  have HMX := Lib.hid hmx
  have HS0 := Lib.hid (show slA 64 (.slice a nb c) nb (bs.flatMap fun x => x.map u8v) ∈ [slA 64 (.slice a nb c) nb (bs.flatMap fun x => x.map u8v)] from List.mem_singleton.2 rfl)
  rw [← hnb] at H ⊢
  generalize [slA 64 (.slice a nb c) nb (bs.flatMap fun x => x.map u8v)] = S at *
  have HNB := Lib.hid hnb
  have HB64 := Lib.hid hb
  clear hnb hb hsl hmx
  have HW := wakes
  have HSZ := sized0 na sa
  have H0 := H.alloc [.int .i64 sg, .int .i64 na, .int .i64 sa, .slice a nb c] 24
  obtain ⟨xr, hxr⟩ : ∃ xr, xr = w.heap.size := ⟨_, rfl⟩
  rw [← hxr] at H0
  go_enter Tryz.func3, Tryz.ntmps3
  go_upto_region 1 with fail
  rw [← hxr]
  clear hxr
  refine wp_world (fun W => St w B _ _ W) H0 ?_
  intro w0 H1
  clear H H0
  go_wp2_with fail
  refine (HW.call (L := []) (M := [_]) H1 (by simp)).mono ?_
  rintro e w1 ⟨_, L1, rfl, ⟨rfl, rfl⟩, H2⟩
  clear HW H1
  obtain ⟨hc, hf⟩ := St.cells H2 0
  go_wp2_with fail
  refine (HSZ.call (L := []) (M := [_]) H2 (by simp)).mono ?_
  rintro e w2 ⟨_, L1, rfl, ⟨⟨n, m, rfl, hn, hm⟩, rfl⟩, H3⟩
  clear HSZ H2 hc hf
  have HBO := born n m hn hm
  go_wp2_with fail
  refine (HBO.call (L := []) (M := [_]) H3 (by simp)).mono ?_
  rintro e w3 ⟨_, L1, rfl, ⟨g, s, p, rfl, rfl⟩, H4⟩
  clear HBO H3
  have H5 : St w B [logA g s p (L0 n m), blkA xr [.int .i64 sg, .int .i64 na, .int .i64 sa, .slice a nb c] 24] S w3 := H4
  clear H4
  obtain ⟨hc, hf⟩ := St.cells H5 1
  obtain ⟨k, hk⟩ : ∃ k : Nat, (if sg < 0 then 0 else sg) % (n : Int) = (k : Int) := ⟨((if sg < 0 then 0 else sg) % (n : Int)).toNat, (Int.toNat_of_nonneg (Int.emod_nonneg _ (by omega))).symm⟩
  have hkn : k < n := by
    have := Int.emod_lt_of_pos (if sg < 0 then 0 else sg) (show (0 : Int) < (n : Int) by omega)
    omega
  go_upto_region 8 with fail
  rw [hk]
  clear hk hc hf
  generalize (if sg < 0 then (0 : Int) else sg) = mx0
  have HSU := lsuper g s p (L0 n m)
  go_wp2_with fail
  refine (HSU.call (L := [_]) (M := [_]) H5 (by simp)).mono ?_
  rintro e w4 ⟨_, L1, rfl, ⟨rfl, rfl⟩, H6⟩
  clear H5 HSU
  obtain ⟨av, cv, H7⟩ := logA.open (M := [_]) H6
  clear H6
  have hmay : (x0 n m).may = true := by unfold Sp.may x0; simp; omega
  have HMAY := Lib.hid hmay
  have HBS := sbase s (x0 n m) 0 p k hmay
  obtain ⟨bp, hbp⟩ : ∃ bp, bp = 2 + k * m := ⟨_, rfl⟩
  have hbm : bp + m ≤ 1026 := by
    have h1 : (k + 1) * m ≤ 16 * 64 := Nat.mul_le_mul (by omega) (by omega)
    rw [Nat.add_mul, Nat.one_mul] at h1
    omega
  have HBM := Lib.hid hbm
  rw [show baseV (x0 n m) k = .tuple #[.int .i64 (bp : Int), .int .i64 0] by
    unfold baseV x0
    rw [hbp, if_pos (by dsimp only; omega)]
    simp] at HBS
  have HBP := Lib.hid hbp
  clear hbp hmay hbm
  go_wp2_with fail
  refine (HBS.call (L := [_]) (M := [_, _, _, _]) (St.pick (M := [_, _, _, _, _]) H7 [1, 0, 2, 3, 4]) (by simp)).mono ?_
  rintro e w5 ⟨_, L1, rfl, ⟨rfl, rfl⟩, H8⟩
  clear HBS H7
  have H8 : St w B [blkA s (stoC (x0 n m) 0 p) 102, blkA g (logC s m (.slice av (L0 n m).segs.length cv) false) 100, dskA p (D0 n m), segsA (.slice av (L0 n m).segs.length cv) (L0 n m).segs, blkA xr [.int .i64 sg, .int .i64 na, .int .i64 sa, .slice a nb c] 24] S w5 := H8
  generalize (L0 n m).segs = zz at H8
  obtain ⟨hg, w6, hr, H9⟩ := H8.make elemBlock (f := fun b : List UInt8 => b.map u8v) zB rfl m (by omega) (by unfold maxLen; omega)
  have HR := Lib.hid hr
  clear hr
  obtain ⟨hc, hf⟩ := St.cells H9 5
  go_upto_region 13 with (refine wpl_make rfl _ _ _ rfl rfl rfl HR.out ?_)
  clear hc hf H8 HR
  generalize hfB : (fun b : List UInt8 => b.map u8v) = fB at *
  have HFB := Lib.hid hfB
  have hf64 : ∀ x : List UInt8, x.length = 64 → (fB x).length = 64 := fun x hx => by rw [← hfB, List.length_map, hx]
  clear hfB
  obtain ⟨sto, hsto⟩ : ∃ sto, sto = stoC (x0 n m) 0 p := ⟨_, rfl⟩
  rw [← hsto] at H9
  have HSTO := Lib.hid hsto
  clear hsto
  have H10 : St w B [ownA 38 64 (.slice (some ⟨hg, 0, none⟩) m m) m ((heldB m (bs.take 0)).flatMap fB), blkA s sto 102, blkA g (logC s m (.slice av zz.length cv) false) 100, dskA p (putsD (D0 n m) bp ((bs.take 0).take m)), segsA (.slice av zz.length cv) zz] S w6 := by
    rw [List.take_zero, heldB_nil, List.take_nil]
    exact St.pick H9 [0, 1, 2, 3, 4]
  clear H9
  have HF64 := Lib.hid hf64
  clear hf64
  go_loopg [51] nb (fun gg b51 wr => ∃ i, i ≤ nb ∧ gg = nb - i ∧ b51 = .int .i64 i ∧ Hid (St w B [ownA 38 64 (.slice (some ⟨hg, 0, none⟩) m m) m ((heldB m (bs.take i)).flatMap fB), blkA s sto 102, blkA g (logC s m (.slice av zz.length cv) false) 100, dskA p (putsD (D0 n m) bp ((bs.take i).take m)), segsA (.slice av zz.length cv) zz] S wr))
  case atStart => exact ⟨0, Nat.zero_le _, rfl, rfl, Lib.hid H10⟩
  case round =>
  obtain ⟨i, hi, rfl, rfl, HI⟩ := hrel
  clear H10
  have HI := HI.out
  by_cases hin : i = nb
  · have e0 : decide ((i : Int) < (nb : Int)) = false := decide_eq_false (by omega)
    have e1 : ¬ i < nb := by omega
    have H11 : St w B [ownA 38 64 (.slice (some ⟨hg, 0, none⟩) m m) m ((heldB m bs).flatMap fB), blkA s sto 102, blkA g (logC s m (.slice av zz.length cv) false) 100, dskA p (putsD (D0 n m) bp (bs.take m)), segsA (.slice av zz.length cv) zz] S wr := by
      have e2 : bs.take i = bs := List.take_of_length_le (by rw [hin, HNB.out]; exact Nat.le_refl _)
      rw [e2] at HI
      exact HI
    clear HI hi hin
    have hP := (put_holds hn hm hkn HB64.out (l := bs.take m) rfl).2
    rw [← HBP.out] at hP
    generalize putsD (D0 n m) bp (bs.take m) = D' at *
    have H12 : St w B [logA g s p ⟨x0 n m, 0, D', zz, false⟩, ownA 38 64 (.slice (some ⟨hg, 0, none⟩) m m) m ((heldB m bs).flatMap fB)] S wr := by
      have h1 := St.pick H11 [2, 1, 3, 4, 0]
      rw [HSTO.out] at h1
      exact logA.close (L := ⟨x0 n m, 0, D', zz, false⟩) h1
    clear H11
    have hsca : scanF (x0 n m) D' k = (D', 0, docScan (heldB m bs) k) := by
      refine HoldsB.scan (bs := heldB m bs) (by rw [heldB_len]; rfl) (by rw [heldB_len, ← HBP.out]; exact hP) (by rw [heldB_len]; omega) (by rw [heldB_len]; omega)
    have HLS := lscan s p (x0 n m) 0 D' k HMAY.out (by show (k : Int) < (n : Int); omega)
    have HRS := rscan (some ⟨hg, 0, none⟩) m m (heldB m bs) k (heldB_64 HB64.out) (heldB_len m bs) (by omega) (by omega) (by omega)
    rw [hsca] at HLS
    rw [HFB.out] at HRS
    generalize docScan (heldB m bs) k = R at *
    obtain ⟨gg, uu, ll⟩ := R
    have HSU := lsuper g s p ⟨x0 n m, 0, D', zz, false⟩
    unfold scaQ at HLS
    unfold dscQ at HRS
    dsimp only at HLS HRS
    have HLS := Lib.hid HLS
    have HRS := Lib.hid HRS
    clear hsca hP
    go_wp2_with fail
    refine (HSU.call (L := [_]) (M := [_]) H12 (by simp)).mono ?_
    rintro e w13 ⟨_, L1, rfl, ⟨rfl, rfl⟩, H13⟩
    obtain ⟨av2, cv2, H14⟩ := logA.open (M := [_]) H13
    clear H12 H13 HSU
    go_wp2_with fail
    refine (HLS.out.call (L := [_, _]) (M := [_]) (St.pick (M := [_, _, _, _, _]) H14 [1, 2, 4]) (by simp)).mono ?_
    rintro e w15 ⟨_, L1, rfl, ⟨vs, rfl, rfl⟩, H15⟩
    clear H14 HLS
    obtain ⟨av3, cv3, rfl⟩ := plsA.form (M := [_, _, _]) (St.pick (M := [_, _, _, _]) H15 [2, 0, 1, 3])
    generalize ll.length = nl at *
    obtain ⟨cs3, hcs3⟩ : ∃ cs3, cs3 = [.int .u64 (gg : Int), .int .i64 (uu : Int), Value.slice av3 nl cv3] := ⟨_, rfl⟩
    have hcl3 : cs3.length = 3 := by rw [hcs3]; rfl
    have hco3 : ∀ u ∈ cs3, u.oneCell' = true := by rw [hcs3]; simp [Value.oneCell']
    have HCS3 := Lib.hid hcs3
    go_upto_region 21 with ((refine wpl_store rfl _ _ _ rfl w15.heap.size 0 (by rfl) cs3 (by rw [HCS3.out]; rfl) 3 hcl3 (there_whole _ _ _ _ (by decide)) bigScan0 hco3 ?_); (refine wpl_world _ (H15.whole _ _ cs3 (by rw [hcl3]; rfl)) ?_); intro w17 H17)
    rw [hcs3] at H17
    clear HCS3 hcs3 hcl3 hco3
    obtain ⟨sc, hsc⟩ : ∃ sc, sc = w15.heap.size := ⟨_, rfl⟩
    rw [← hsc] at H17 ⊢
    clear hsc H15
    have H18 : St w B [blkA sc [.int .u64 (gg : Int), .int .i64 (uu : Int), .slice av3 nl cv3] 43, plsA k gg (.slice av3 nl cv3) ll, ownA 38 64 (.slice (some ⟨hg, 0, none⟩) m m) m ((heldB m bs).flatMap fB)] S w17 := St.pick (M := [_, _, _, _, _]) H17 [0, 3, 4]
    clear H17
    refine wp_region_gh (Θ := Value) (fun v2 => [(0, 78, (.int .i64 0)), (1, 79, (.bool true)), (2, 80, (.bool true)), (3, 81, (.agg #[.int .u64 (gg : Int), .int .i64 (uu : Int), .slice av3 nl cv3])), (4, 82, (.slice (some ⟨hg, 0, none⟩) m m)), (5, 83, (.int .i64 (k : Int))), (6, 84, (.agg #[.int .u64 (gg : Int), .int .i64 (uu : Int), v2])), (7, 85, (.bool true)), (8, 86, (.bool true)), (9, 2, (.bool true))]) (fun v2 done WW => St w B (bif done 7 then [] else (bif done 6 then (plsA k gg v2 ll :: [blkA sc [.int .u64 (gg : Int), .int .i64 (uu : Int), .slice av3 nl cv3] 43, plsA k gg (.slice av3 nl cv3) ll, ownA 38 64 (.slice (some ⟨hg, 0, none⟩) m m) m ((heldB m bs).flatMap fB)]) else ([blkA sc [.int .u64 (gg : Int), .int .i64 (uu : Int), .slice av3 nl cv3] 43, plsA k gg (.slice av3 nl cv3) ll, ownA 38 64 (.slice (some ⟨hg, 0, none⟩) m m) m ((heldB m bs).flatMap fB)]))) S WW) (by kernel_rfl) (hord_of2 (by kernel_rfl)) (fun _ => by kernel_rfl) (fun _ => by kernel_rfl) (fun _ => by kernel_rfl) ⟨(.pointer none), H18.drew⟩ ?_ ?_
    · intro v2 done zb WW j oq ho hd hdep hcl HA HJ
      have hj : j < 10 := (Array.getElem?_eq_some_iff.1 ho).1
      obtain rfl | rfl | rfl | rfl | rfl | rfl | rfl | rfl | rfl | rfl : j = 0 ∨ j = 1 ∨ j = 2 ∨ j = 3 ∨ j = 4 ∨ j = 5 ∨ j = 6 ∨ j = 7 ∨ j = 8 ∨ j = 9 := by omega
      · exact valG (θ := v2) (.int .i64 0) ho (by cases ho; rfl) (by cases ho; simp [execOp, go_sem, HA.tm, lookT]) (by cases ho; exact fun d hd => by cases hd; exact List.mem_of_getElem? (i := 0) rfl) HJ
      · have p0 : done 0 = true := by cases ho; exact hdep ⟨0, .data⟩ (by simp) rfl
        exact valG (θ := v2) (.bool true) ho (by cases ho; rfl) (by cases ho; simp [execOp, go_sem, HA.tm, lookT, p0]) (by cases ho; exact fun d hd => by cases hd; exact List.mem_of_getElem? (i := 1) rfl) HJ
      · have p1 : done 1 = true := by cases ho; exact hdep ⟨1, .data⟩ (by simp) rfl
        exact valG (θ := v2) (.bool true) ho (by cases ho; rfl) (by cases ho; simp [execOp, go_sem, HA.tm, lookT, p1]) (by cases ho; exact fun d hd => by cases hd; exact List.mem_of_getElem? (i := 2) rfl) HJ
      · have p2 : done 2 = true := by cases ho; exact hdep ⟨2, .guard⟩ (by simp) rfl
        have n7 : done 7 = false := by cases hx : done 7 with | false => rfl | true => have := hcl 7 _ rfl hx ⟨3, .data⟩ (by simp) rfl; rw [hd] at this; cases this
        have HRg : WW.rangeAt sc (0) ([.int .u64 (gg : Int), .int .i64 (uu : Int), .slice av3 nl cv3]) := by
          have HQ := HJ
          cases g6 : done 6 <;> (try simp only [n7, g6, hd, cond_true, cond_false] at HQ) <;> first | exact (St.range HQ 0) | exact (St.range HQ 1)
        exact loadG (θ := v2) (v := (.agg #[.int .u64 (gg : Int), .int .i64 (uu : Int), .slice av3 nl cv3])) _ ((.tmp 13)) ho (by cases ho; simp [Region.wanted, yielded, HA.tm, lookT, go_sem, p2]) (by cases ho; rfl) (by simp [HA.ev, HA.tm, lookT, Act.eval, p2]) (bigScan0.load (rfl) HRg) (by cases ho; exact fun d hd => by cases hd; exact List.mem_of_getElem? (i := 3) rfl) HJ
      · have p2 : done 2 = true := by cases ho; exact hdep ⟨2, .guard⟩ (by simp) rfl
        exact valG (θ := v2) (.slice (some ⟨hg, 0, none⟩) m m) ho (by cases ho; simp [Region.wanted, yielded, HA.tm, lookT, go_sem, p2]) (by cases ho; simp [execOp, go_sem, HA.tm, lookT, p2]) (by cases ho; exact fun d hd => by cases hd; exact List.mem_of_getElem? (i := 4) rfl) HJ
      · have p2 : done 2 = true := by cases ho; exact hdep ⟨2, .guard⟩ (by simp) rfl
        exact valG (θ := v2) (.int .i64 (k : Int)) ho (by cases ho; simp [Region.wanted, yielded, HA.tm, lookT, go_sem, p2]) (by cases ho; simp [execOp, go_sem, HA.tm, lookT, p2]) (by cases ho; exact fun d hd => by cases hd; exact List.mem_of_getElem? (i := 5) rfl) HJ
      · have p4 : done 4 = true := by cases ho; exact hdep ⟨4, .data⟩ (by simp) rfl
        have p5 : done 5 = true := by cases ho; exact hdep ⟨5, .data⟩ (by simp) rfl
        have p2 : done 2 = true := hcl 4 _ rfl p4 ⟨2, .guard⟩ (by simp) rfl
        have n7 : done 7 = false := by cases hx : done 7 with | false => rfl | true => have := hcl 7 _ rfl hx ⟨6, .data⟩ (by simp) rfl; rw [hd] at this; cases this
        have HK : St w B [blkA sc [.int .u64 (gg : Int), .int .i64 (uu : Int), .slice av3 nl cv3] 43, plsA k gg (.slice av3 nl cv3) ll, ownA 38 64 (.slice (some ⟨hg, 0, none⟩) m m) m ((heldB m bs).flatMap fB)] S WW := St.cast (by simp [hd, n7]) HJ
        exact callG (θ := v2) (f := 14) (args := #[.slice (some ⟨hg, 0, none⟩) m m, .int .i64 (k : Int)]) ho (by cases ho; simp [Region.wanted, yielded, HA.tm, lookT, go_sem, p2, p4, p5]) (by cases ho; simp [execOp, go_sem, HA.tm, lookT, p2, p4, p5]) (HRS.out.call (L := []) (M := [blkA sc [.int .u64 (gg : Int), .int .i64 (uu : Int), .slice av3 nl cv3] 43, plsA k gg (.slice av3 nl cv3) ll, ownA 38 64 (.slice (some ⟨hg, 0, none⟩) m m) m ((heldB m bs).flatMap fB)]) HK (share1 (own_imp_sl (by decide)) (List.mem_append_right _ (List.mem_cons_of_mem _ (List.mem_cons_of_mem _ List.mem_cons_self))))) (by
          rintro e w' ⟨_, _, rfl, ⟨v2', rfl, rfl⟩, HS'⟩
          exact ⟨_, v2', rfl, by cases ho; exact fun d hd => by cases hd; exact List.mem_of_getElem? (i := 6) rfl, (.inr (.cons (.inl rfl) (.cons (.inl rfl) (.cons (.inl rfl) (.cons (.inl rfl) (.cons (.inl rfl) (.cons (.inl rfl) (.cons (.inr ⟨rfl, hd⟩) (.cons (.inl rfl) (.cons (.inl rfl) (.cons (.inl rfl) (.nil)))))))))))), St.cast (by simp [n7]) HS'⟩)
      · have p3 : done 3 = true := by cases ho; exact hdep ⟨3, .data⟩ (by simp) rfl
        have p6 : done 6 = true := by cases ho; exact hdep ⟨6, .data⟩ (by simp) rfl
        have p2 : done 2 = true := hcl 3 _ rfl p3 ⟨2, .guard⟩ (by simp) rfl
        have HK : St w B (plsA k gg v2 ll :: [blkA sc [.int .u64 (gg : Int), .int .i64 (uu : Int), .slice av3 nl cv3] 43, plsA k gg (.slice av3 nl cv3) ll, ownA 38 64 (.slice (some ⟨hg, 0, none⟩) m m) m ((heldB m bs).flatMap fB)]) S WW := St.cast (by simp [p6, hd]) HJ
        exact callG (θ := v2) (f := 13) (args := #[.agg #[.int .u64 (gg : Int), .int .i64 (uu : Int), .slice av3 nl cv3], .agg #[.int .u64 (gg : Int), .int .i64 (uu : Int), v2]]) ho (by cases ho; simp [Region.wanted, yielded, HA.tm, lookT, go_sem, p2, p3, p6]) (by cases ho; simp [execOp, go_sem, HA.tm, lookT, p2, p3, p6]) (samescan2 (St.pick (M := [_, _, _, _]) HK [2, 0, 1, 3])) (by
          rintro e w' ⟨rfl, HS'⟩
          exact ⟨_, v2, rfl, by cases ho; exact fun d hd => by cases hd; exact List.mem_of_getElem? (i := 7) rfl, .inl rfl, St.cast (by simp [p6] <;> rfl) (St.pick HS' [])⟩)
      · have p2 : done 2 = true := by cases ho; exact hdep ⟨2, .data⟩ (by simp) rfl
        have p7 : done 7 = true := by cases ho; exact hdep ⟨7, .data⟩ (by simp) rfl
        exact valG (θ := v2) (.bool true) ho (by cases ho; rfl) (by cases ho; simp [execOp, go_sem, HA.tm, lookT, p2, p7]) (by cases ho; exact fun d hd => by cases hd; exact List.mem_of_getElem? (i := 8) rfl) HJ
      · have p8 : done 8 = true := by cases ho; exact hdep ⟨8, .data⟩ (by simp) rfl
        exact valG (θ := v2) (.bool true) ho (by cases ho; rfl) (by cases ho; simp [execOp, go_sem, HA.tm, lookT, p8]) (by cases ho; exact fun d hd => by cases hd; exact List.mem_of_getElem? (i := 9) rfl) HJ
    · intro v2 done WW hall HJ
      have z6 := hall 6 (by decide)
      have z7 := hall 7 (by decide)
      have HE : St w B [] S WW := St.cast (by simp [z6, z7]) HJ
      clear HJ hall z6 z7
      simp only [putAll, Act.put, List.setIfInBounds_toArray, List.set_cons_succ, List.set_cons_zero]
      go_wp2_with fail
      exact bodyPost_ret (results_tmp rfl _ _ _) rfl (Back.mk (L' := []) ⟨rfl, rfl⟩ HE)
  · have hil : i < nb := by omega
    have e0 : decide ((i : Int) < (nb : Int)) = true := decide_eq_true (by omega)
    obtain ⟨x, hx⟩ : ∃ x, bs[i]? = some x := ⟨_, List.getElem?_eq_getElem (by rw [← HNB.out]; exact hil)⟩
    have hx64 := HB64.out x (List.mem_of_getElem? hx)
    obtain ⟨ab, ao, _, e, _, _, _, _⟩ := HSL.out.at (by omega)
    cases e
    have hrg : wr.rangeAt ab (ao + i * 64) (fB x) := by
      obtain ⟨F, hF⟩ := HI.getS HS0.out
      exact hF.2.2.elem (by omega) (fun q hq => HF64.out q (HB64.out q hq)) hx
    obtain ⟨cb, hcb⟩ : ∃ cb, cb = fB x := ⟨_, rfl⟩
    rw [← hcb] at hrg
    have hcl : cb.length = 64 := by rw [hcb]; exact HF64.out x hx64
    have hc1 : ∀ u ∈ cb, u.oneCell' = true := by rw [hcb, ← HFB.out]; exact u8v_one _
    have hblk : blkV x = .agg cb.toArray := by rw [hcb, ← HFB.out]; rfl
    have HCB := Lib.hid hcb
    have HX := Lib.hid hx
    have HX64 := Lib.hid hx64
    have HIN := Lib.hid hil
    have HI0 := HI
    have hjn2 : (i : Int) < (nb : Int) := by omega
    have hnj : ¬ nb ≤ i := by omega
    clear hcb hx hx64
    go_upto_region 15 with (first | ((refine wpl_store rfl _ _ _ rfl wr.heap.size 0 (by rfl) cb (by rfl) 64 hcl (there_whole _ _ _ _ (by decide)) bigBlock hc1 ?_); (refine wpl_world _ (HI.whole _ _ cb (by rw [hcl]; rfl)) ?_); intro w11 H11) | (refine wpl_load rfl _ _ rfl ab (ao + i * 64) (by rfl) cb 64 hcl hrg bigBlock ?_))
    clear HI
    have hmx := HMX.out
    unfold maxLen at hmx
    have H12 := H11
    clear H11
    by_cases him : i < m
    · have hdc : decide ((i : Int) < (m : Int)) = true := decide_eq_true (by omega)
      obtain ⟨bk, hbk⟩ : ∃ bk, bk = wr.heap.size := ⟨_, rfl⟩
      rw [← hbk] at H12 ⊢
      clear hbk
      have hrg2 := St.range H12 0
      have hst : Hid (putsD (D0 n m) bp ((bs.take (i + 1)).take m) = (putsD (D0 n m) bp ((bs.take i).take m)).put (bp + i) x) := Lib.hid (putsD_step HX.out him)
      have hhe := heldB_step HX.out him
      have HHE := Lib.hid hhe
      have hP := (put_holds hn hm hkn (bs := bs.take i) (fun q hq => HB64.out q (List.mem_of_mem_take hq)) (l := (bs.take i).take m) rfl).1
      rw [← HBP.out] at hP
      obtain ⟨DD, hDD⟩ : ∃ DD, DD = putsD (D0 n m) bp ((bs.take i).take m) := ⟨_, rfl⟩
      rw [← hDD] at H12 hP hst
      have hlen : DD.safe.length = 1026 := by rw [hP.len]; exact (D0_at (n := n) (sec := m) (q := 2) (by omega) (by omega)).2.2.2.1
      have hpl : DD.pend.length < 1000000 := by
        rw [hP.pend, (D0_at (n := n) (sec := m) (q := 2) (by omega) (by omega)).2.2.2.2, List.length_take]
        simp only [List.length_nil]
        omega
      have hwr := hP.calm.write (i := bp + i) (by rw [hlen]; have := HBM.out; omega) x
      have HWR := write p DD ((bp + i : Nat) : Int) x HX64.out hpl
      rw [hwr, hblk] at HWR
      have HWR := Lib.hid HWR
      have hwb : IntKind.i64.wrap ((bp : Int) + (i : Int)) = ((bp + i : Nat) : Int) := by rw [IntKind.wrap_i64]; have := HBM.out; omega
      clear hlen hpl hwr hP hblk hDD hhe
      have HT : w11.there hg (i * 64) 64 := own_there (St.own H12 1) (by omega)
      have him2 : (i : Int) < (m : Int) := by omega
      have hnm2 : ¬ m ≤ i := by omega
      have hset := H12.setElem (f := fB) 1 i x rfl (fun q hq => HF64.out q (heldB_64 (fun q2 h2 => HB64.out q2 (List.mem_of_mem_take h2)) q hq)) (heldB_len _ _) him (HF64.out x HX64.out)
      rw [← HCB.out, HHE.out] at hset
      go_upto_region 17 with (first | (refine wpl_load rfl _ _ rfl bk 0 (by rfl) cb 64 hcl hrg2 bigBlock ?_) | ((refine wpl_store rfl _ _ _ rfl hg (i * 64) (by first | rfl | simp) cb (by rfl) 64 hcl HT bigBlock hc1 ?_); (refine wpl_world (fun W => St w B _ S W) hset ?_); intro w12 H13))
      have hrg3 := St.range (M := [_, _, _, _, _, _]) H13 0
      clear hrg2 HT H12
      go_wp2_with (first | (refine wpl_load rfl _ _ rfl bk 0 (by rfl) cb 64 hcl hrg3 bigBlock ?_) | fail)
      refine (HWR.out.call (L := [_]) (M := [_, _, _, _]) (St.pick (M := [_, _, _, _, _, _]) H13 [4, 1, 2, 3, 5]) (by simp)).mono ?_
      rintro e w13 ⟨_, L1, rfl, ⟨rfl, rfl⟩, H14⟩
      clear H13 hrg3
      go_wp2_with fail
      go_roundg (nb - (i + 1))
      case measure => have := HIN.out; omega
      case rel =>
        refine ⟨i + 1, HIN.out, rfl, by first | rfl | simp, Lib.hid ?_⟩
        rw [hst.out]
        exact St.pick (M := [_, _, _, _, _]) H14 [1, 2, 3, 0, 4]
    · have hdc : decide ((i : Int) < (m : Int)) = false := decide_eq_false (by omega)
      have hov := heldB_over1 (n := m) (i := i) (bs := bs) (by omega)
      have hto := take_over (m := m) (i := i) (bs := bs) (by omega)
      have HOV := Lib.hid hov
      have HTO := Lib.hid hto
      clear hov hto
      go_wp2_with fail
      go_roundg (nb - (i + 1))
      case measure => have := HIN.out; omega
      case rel =>
        refine ⟨i + 1, HIN.out, rfl, by first | rfl | simp, Lib.hid ?_⟩
        rw [HOV.out, HTO.out]
        exact St.pick (M := [_, _, _, _, _, _]) H12 [1, 2, 3, 4, 5]
end Go.Proofs.YtjmocjcjiiopnaaGreat
end

section
set_option linter.unusedVariables false
namespace Go.Ice
open Go.ChangeShapes Go.WideShapes Go.Deep Go.RowKit

/-- The leaves of a row of fields, one behind the other from a place on. -/
def leavesFs (P : Program) (L : TypeId → Option (List TypeId)) : Nat → List Field → Option (List TypeId)
  | _, [] => some []
  | off, f :: r => match L f.type, leavesFs P L (off + P.cellsOf f.type) r with
    | some a, some b => if f.offset = off ∧ a.length = P.cellsOf f.type then some (a ++ b) else none
    | _, _ => none
/-- The types of a type's leaves, in their order. -/
def leavesOf (P : Program) : Nat → TypeId → Option (List TypeId)
  | 0, _ => none
  | d + 1, t => match P.underlying t with
    | some (.struct fs) => leavesFs P (leavesOf P d) 0 fs.toList
    | some _ => if P.cellsOf t = 1 then some [t] else none
    | none => none

section
variable {H : Type} {enc : TypeId × Value → H} {P : Program} {w : World} {base : Nat} {spare : Nat → Bool} {held : Bool}

/-- A leaf's reading. -/
def LeafAt (enc : TypeId × Value → H) (P : Program) (w : World) (base : Nat) (spare : Nat → Bool) (held : Bool) (t : TypeId) (v : Value) : Prop :=
  ∃ n y, DataW.trod enc P w base spare held n t [v] = some y

theorem leavesFs_trod {L : TypeId → Option (List TypeId)} {n : Nat} {cs : List Value}
    (hL : ∀ t ts cs x, L t = some ts → cs.length = ts.length → DataW.trod enc P w base spare held n t cs = some x → ∀ (j : Nat) (t' : TypeId), ts[j]? = some t' → ∃ v, cs[j]? = some v ∧ LeafAt enc P w base spare held t' v) :
    ∀ (fs : List Field) (off : Nat) (ts : List TypeId), leavesFs P L off fs = some ts → off + ts.length ≤ cs.length → (∀ f ∈ fs, ∃ y, DataW.trod enc P w base spare held n f.type ((cs.drop f.offset).take (P.cellsOf f.type)) = some y) →
      ∀ (j : Nat) (t' : TypeId), ts[j]? = some t' → ∃ v, cs[off + j]? = some v ∧ LeafAt enc P w base spare held t' v
  | [], off, ts, h, _, _, j, t', hj => by simp [leavesFs] at h; subst h; simp at hj
  | f :: r, off, ts, h, hl, hf, j, t', hj => by
    unfold leavesFs at h
    split at h
    · rename_i a b ha hb
      split at h
      · rename_i hab
        obtain ⟨hof, hal⟩ := hab
        obtain rfl : a ++ b = ts := by simpa using h
        rw [List.length_append] at hl
        obtain ⟨y, hy⟩ := hf f (by simp)
        by_cases hja : j < a.length
        · rw [List.getElem?_append_left hja] at hj
          obtain ⟨v, hv, hl2⟩ := hL _ _ _ _ ha (by rw [List.length_take, List.length_drop]; omega) hy j t' hj
          rw [List.getElem?_take_of_lt (by omega), List.getElem?_drop, hof] at hv
          exact ⟨v, hv, hl2⟩
        · rw [List.getElem?_append_right (by omega)] at hj
          obtain ⟨v, hv, hl2⟩ := leavesFs_trod hL r _ _ hb (by omega) (fun g hg => hf g (by simp [hg])) _ t' hj
          rw [show off + P.cellsOf f.type + (j - a.length) = off + j from by omega] at hv
          exact ⟨v, hv, hl2⟩
      · simp at h
    · simp at h

theorem leaves_trod : ∀ (d : Nat) (n : Nat) (t : TypeId) (ts : List TypeId) (cs : List Value) (x : DataW H × List MemPlace), leavesOf P d t = some ts → cs.length = ts.length → DataW.trod enc P w base spare held n t cs = some x →
    ∀ (j : Nat) (t' : TypeId), ts[j]? = some t' → ∃ v, cs[j]? = some v ∧ LeafAt enc P w base spare held t' v
  | 0, n, t, ts, cs, x, h, _, _, _, _, _ => by simp [leavesOf] at h
  | d + 1, n, t, ts, cs, x, h, hl, ht, j, t', hj => by
    unfold leavesOf at h
    split at h
    · rename_i fs hu
      obtain ⟨xs, m, rfl, hx, hlen, hxl, hf⟩ := DataW.trod_struct hu ht
      have := leavesFs_trod (cs := cs) (n := m) (enc := enc) (P := P) (w := w) (base := base) (spare := spare) (held := held) (fun t ts cs x h1 h2 h3 => leaves_trod d m t ts cs x h1 h2 h3) fs.toList 0 ts h (by omega) (fun f hfm => by
        obtain ⟨i, hi, rfl⟩ := List.getElem_of_mem hfm
        have h4 := hf i fs.toList[i] (by simp)
        rw [h4, List.getElem?_eq_getElem (by rw [hxl]; simpa using hi)]
        exact ⟨_, rfl⟩) j t' hj
      simpa using this
    · split at h
      · obtain rfl : [t] = ts := by simpa using h
        match cs, hl with
        | [c], _ =>
          match j, hj with
          | 0, hj =>
            obtain rfl : t = t' := by simpa using hj
            exact ⟨c, rfl, n, x, ht⟩
      · simp at h
    · simp at h

theorem LeafAt.int {t : TypeId} {k : IntKind} {v : Value} (h : LeafAt enc P w base spare held t v) (ht : P.underlying t = some (.int k)) : ∃ n, v = .int k n ∧ (Lit.int k n).wf = true := by
  obtain ⟨n, y, h⟩ := h
  obtain ⟨z, h1, h2, h3⟩ := DataW.trod_int ht h
  exact ⟨z, by simpa using h1, h3⟩

/-- A struct by value: its leaves. -/
theorem open_flat {t : TypeId} {fs : Array Field} {v : Value} {dd : DataW H} {ps : List MemPlace} {b0 : Nat} {r : Reach} (hs : P.underlying t = some (.struct fs)) (d : Nat) (ts : List TypeId) (hts : leavesOf P d t = some ts) (hc : P.cellsOf t = ts.length)
    (hv : Value.okWide P w r b0 t v) (h : DataW.Trod enc P w base spare held t v dd ps) : ∃ cs : List Value, v = .agg cs.toArray ∧ cs.length = ts.length ∧ ∀ (j : Nat) (t' : TypeId), ts[j]? = some t' → ∃ u, cs[j]? = some u ∧ LeafAt enc P w base spare held t' u := by
  obtain ⟨cs, rfl, hsz⟩ := okWide_struct hs hv
  obtain ⟨n, hn⟩ := h
  refine ⟨cs.toList, rfl, by rw [← hc, ← hsz]; simp, ?_⟩
  have : (Value.agg cs).cells.toList = cs.toList := rfl
  rw [this] at hn
  exact leaves_trod d n t ts _ _ hts (by rw [← hc, ← hsz]; simp) hn

/-- A slice of such structs: its elements' leaves; the bytes that it takes. -/
theorem open_flat_slice {F : Func} {ds : List (DataW H)} {t e : TypeId} {v : Value} {dd : DataW H} {ps : List MemPlace} {b0 : Nat} {r : Reach} (hs : P.underlying t = some (.slice e)) (d : Nat) (ts : List TypeId) (hts : leavesOf P d e = some ts) (hc : P.cellsOf e = ts.length) (h0 : 0 < ts.length)
    (hv : Value.okWide P w r b0 t v) (h : DataW.Trod enc P w base spare held t v dd ps) :
    (v = .slice none 0 0 ∧ dd = .nil) ∨ ∃ (x : Addr) (len cap : Nat) (elems sp : List (DataW H)), v = .slice (some x) len cap ∧ dd = .slice elems sp ∧ len ≤ elems.length + sp.length ∧ len ≤ cap ∧ cap ≤ maxLen ∧ (0 < len → ∃ b off, x = ⟨b, off, none⟩ ∧ b < w.heap.size ∧
      ∀ i, i < len → ∀ (j : Nat) (t' : TypeId), ts[j]? = some t' → ∃ u, w.cell? ⟨b, off + (i * ts.length + j), none⟩ = some u ∧ LeafAt enc P w base spare held t' u) := by
  obtain ⟨a, len, cap, rfl⟩ := okWide_slice hs hv
  obtain ⟨n, hn⟩ := h
  rcases open_slice hs hn with ⟨hcs, hx⟩ | ⟨x, l, c, m, n', D, Pl, hcs, hb, hl, hm, hmm, hx, hel⟩
  · simp [Value.cells] at hcs
    obtain ⟨rfl, rfl, rfl⟩ := hcs
    left
    exact ⟨rfl, (Prod.mk.inj hx).1⟩
  · simp [Value.cells] at hcs
    obtain ⟨rfl, rfl, rfl⟩ := hcs
    right
    have hlm : len ≤ m := by rw [hmm]; split <;> omega
    refine ⟨x, len, cap, _, _, rfl, (Prod.mk.inj hx).1, by simp, hl, hm, fun hlen => ?_⟩
    have key : ∀ i, i < len → ∀ (j : Nat) (t' : TypeId), ts[j]? = some t' → ∃ u, w.cell? (x.add (i * ts.length + j)) = some u ∧ LeafAt enc P w base spare held t' u := by
      intro i hi j t' hj
      obtain ⟨cs', h1, h2⟩ := hel i (by omega)
      rw [hc] at h1
      obtain ⟨_, h3, h4⟩ := World.cells?_some h1
      have hjl : j < ts.length := (List.getElem?_eq_some_iff.1 hj).1
      obtain ⟨u, hu, hlf⟩ := leaves_trod d n' e ts cs' _ hts (by omega) h2 j t' hj
      have := h4 j hjl
      rw [add_add, hu] at this
      exact ⟨u, this, hlf⟩
    obtain ⟨u, hu, _⟩ := key 0 hlen 0 ts[0] (List.getElem?_eq_getElem h0)
    obtain ⟨b, off, spot⟩ := x
    have hspot : spot = none := by simpa [Addr.add] using World.cell?_spot hu
    subst hspot
    refine ⟨b, off, rfl, ?_, fun i hi j t' hj => ?_⟩
    · have := World.block_lt_of_cell? w _ hu
      simpa [Addr.add] using this
    · have := key i hi j t' hj
      rw [Go.WideShapes.add_plain] at this
      exact this

/-- A leaf that is a slice of such structs. -/
theorem LeafAt.structs {t e : TypeId} {v : Value} (hlf : LeafAt enc P w base spare held t v) (hs : P.underlying t = some (.slice e)) (d : Nat) (ts : List TypeId) (hts : leavesOf P d e = some ts) (hc : P.cellsOf e = ts.length) (h0 : 0 < ts.length) :
    v = .slice none 0 0 ∨ ∃ (x : Addr) (len cap : Nat), v = .slice (some x) len cap ∧ len ≤ cap ∧ cap ≤ maxLen ∧ (0 < len → ∃ b off, x = ⟨b, off, none⟩ ∧ b < w.heap.size ∧
      ∀ i, i < len → ∀ (j : Nat) (t' : TypeId), ts[j]? = some t' → ∃ u, w.cell? ⟨b, off + (i * ts.length + j), none⟩ = some u ∧ LeafAt enc P w base spare held t' u) := by
  obtain ⟨n, y, hn⟩ := hlf
  rcases open_slice hs hn with ⟨hcs, hx⟩ | ⟨x, l, c, m, n', D, Pl, hcs, hb, hl, hm, hmm, hx, hel⟩
  · left
    simpa using hcs
  · right
    have hlm : l ≤ m := by rw [hmm]; split <;> omega
    refine ⟨x, l, c, by simpa using hcs, hl, hm, fun hlen => ?_⟩
    have key : ∀ i, i < l → ∀ (j : Nat) (t' : TypeId), ts[j]? = some t' → ∃ u, w.cell? (x.add (i * ts.length + j)) = some u ∧ LeafAt enc P w base spare held t' u := by
      intro i hi j t' hj
      obtain ⟨cs', h1, h2⟩ := hel i (by omega)
      rw [hc] at h1
      obtain ⟨_, h3, h4⟩ := World.cells?_some h1
      have hjl : j < ts.length := (List.getElem?_eq_some_iff.1 hj).1
      obtain ⟨u, hu, hlf⟩ := leaves_trod d n' e ts cs' _ hts (by omega) h2 j t' hj
      have := h4 j hjl
      rw [add_add, hu] at this
      exact ⟨u, this, hlf⟩
    obtain ⟨u, hu, _⟩ := key 0 hlen 0 ts[0] (List.getElem?_eq_getElem h0)
    obtain ⟨b, off, spot⟩ := x
    have hspot : spot = none := by simpa [Addr.add] using World.cell?_spot hu
    subst hspot
    refine ⟨b, off, rfl, ?_, fun i hi j t' hj => ?_⟩
    · have := World.block_lt_of_cell? w _ hu
      simpa [Addr.add] using this
    · have := key i hi j t' hj
      rw [Go.WideShapes.add_plain] at this
      exact this
end
end Go.Ice
end

section
set_option linter.unusedVariables false
set_option linter.unusedSimpArgs false
namespace Go.Proofs.YtjmocjcjiiopnaaGreat
open Go.ChangeShapes Go.WideShapes Go.Deep Go.RowKit Go.Ice Go.Oct
/-- A record that came in: where its bytes lie. -/
structure RIn where
  rc : Rc
  ka : List UInt8
  va : List UInt8
  x : Option Addr
  c : Nat
  y : Option Addr
  d : Nat
instance : Inhabited RIn := ⟨⟨⟨0, 0, 0, 0⟩, [], [], none, 0, none, 0⟩⟩
def rinC (z : RIn) : List Value := [.int .i64 z.rc.k, .int .u32 z.rc.f, .int .u32 z.rc.e, .int .u64 z.rc.s, .slice z.x z.ka.length z.c, .slice z.y z.va.length z.d]
def rinS (l : List RIn) : List Asn := l.flatMap fun z => [bytA (.slice z.x z.ka.length z.c) z.ka, bytA (.slice z.y z.va.length z.d) z.va]
theorem rinS_mem {l : List RIn} {z : RIn} (h : z ∈ l) : bytA (.slice z.x z.ka.length z.c) z.ka ∈ rinS l ∧ bytA (.slice z.y z.va.length z.d) z.va ∈ rinS l := by
  unfold rinS
  exact ⟨List.mem_flatMap.2 ⟨z, h, by simp⟩, List.mem_flatMap.2 ⟨z, h, by simp⟩⟩
section
variable {H : Type} {enc : TypeId × Value → H} {w : World} {base : Nat} {spare : Nat → Bool} {held : Bool}
theorem leaf_bytes {v : Value} (h : LeafAt enc Tryz.prog w base spare held 60 v) : ∃ l a c, v = .slice a l.length c ∧ BytesAt w (.slice a l.length c) l := by
  have : ∃ l, BytesAt w v l := by
    rcases h.structs Tryz.underlying60 1 [5] (by kernel_rfl) (by kernel_rfl) (by decide) with rfl | ⟨x, len, cap, rfl, k1, k2, k3⟩
    · exact ⟨[], .inl ⟨rfl, .inl rfl⟩⟩
    · rcases Nat.eq_zero_or_pos len with rfl | hpos
      · exact ⟨[], .inl ⟨rfl, .inr ⟨_, _, rfl⟩⟩⟩
      · obtain ⟨b, off, rfl, hb, hcell⟩ := k3 hpos
        have key : ∀ i, ∃ c : UInt8, i < len → w.cell? ⟨b, off + i, none⟩ = some (u8v c) := fun i => by
          by_cases hi : i < len
          · obtain ⟨u, c0, m0⟩ := hcell i hi 0 5 rfl
            obtain ⟨n, rfl, hw⟩ := m0.int Tryz.underlying5
            have hbd := bounds_u8 hw
            refine ⟨UInt8.ofNat n.toNat, fun _ => ?_⟩
            have e : off + (i * [5].length + 0) = off + i := by simp
            rw [e] at c0
            rw [c0]
            unfold u8v
            congr 2
            rw [UInt8.toNat_ofNat']
            omega
          · exact ⟨0, fun h => absurd h hi⟩
        obtain ⟨f, hf⟩ := Classical.axiomOfChoice key
        have hlen : (((List.range len).map f).map u8v).length = len := by simp
        refine ⟨(List.range len).map f, ?_⟩
        show IsSl _ _ _
        have := isSl_mk (w := w) (cs := ((List.range len).map f).map u8v) (b := b) (off := off) (cap := cap) (by rw [hlen]; exact k1) k2 hb (fun j hj => by
          rw [hlen] at hj
          rw [hf j hj]; simp [hj])
        rw [hlen] at this
        exact this
  obtain ⟨l, hl⟩ := this
  obtain ⟨a, c, rfl, _⟩ := BytesAt.form hl
  exact ⟨l, a, c, rfl, hl⟩
theorem bytes_share {v : Value} {l : List UInt8} (h : BytesAt w v l) : ∃ F, (bytA v l).p F w ∧ ∀ b, F b → (fun _ => True) b ∧ b < w.heap.size :=
  ⟨fun b => l ≠ [] ∧ v.ownBlock = some b, ⟨fun _ => Iff.rfl, h⟩, fun b hb => ⟨trivial, (bytA v l).inn _ w ⟨fun _ => Iff.rfl, h⟩ b hb⟩⟩
def recTs : List TypeId := [3, 59, 59, 40, 60, 60]
end
end Go.Proofs.YtjmocjcjiiopnaaGreat
end
