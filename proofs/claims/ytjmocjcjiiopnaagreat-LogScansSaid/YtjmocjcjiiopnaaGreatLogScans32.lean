/- The document's Need: how many bytes the record has that begins so. Conditions: at most a million bytes are given. -/
import Derived.Test.YtjmocjcjiiopnaaGreatLogScans31
import Derived.Test.YtjmocjcjiiopnaaGreatLogScans10
import Derived.Test.YtjmocjcjiiopnaaGreatLogScans08
import Derived.Test.YtjmocjcjiiopnaaGreatLogScans15

section
set_option linter.unusedVariables false
set_option linter.unusedSimpArgs false
namespace Go.Proofs.YtjmocjcjiiopnaaGreat
open Go.RowKit Go.Ice Go.Oct
theorem allocRe_run (W : World) : (Instr.alloc 62 true (.tuple #[])).run Tryz.prog W = .ok (.pointer (some ⟨W.heap.size, 0, none⟩)) (W.alloc (.cells [.int .i64 0, .int .u32 0, .int .u32 0, .int .u64 0, .slice none 0 0, .slice none 0 0].toArray 62)) := by kernel_rfl
theorem sub_some {b o c i n : Nat} (h : c ≠ i) : subV (some ⟨b, o, none⟩) c i n = .slice (some ⟨b, o + i, none⟩) n (c - i) := by
  unfold subV
  rw [if_neg h]
  simp [Addr.add]
theorem run_sl (w : World) (b o n c i j : Nat) (h1 : i ≤ j) (h2 : j ≤ c) (h3 : c ≠ i) : (Instr.sliceAt 60 (.slice (some ⟨b, o, none⟩) n c) (some (.int .i64 (i : Int))) (some (.int .i64 (j : Int))) none).run Tryz.prog w = .ok (.slice (some ⟨b, o + i, none⟩) (j - i) (c - i)) w := by
  rw [run_subB w _ n c i j h1 h2 (fun e => by cases e), sub_some h3]
/-- make([]byte, n) of a number without a sign. -/
theorem St.makeU {w0 : World} {B : Nat → Prop} {M S : List Asn} {w : World} (h : St w0 B M S w) (n : Nat) (hn : n ≤ 65535) : ∃ g w', (Instr.makeSlice 60 (.int .u64 (n : Int)) (.int .u64 (n : Int))).run Tryz.prog w = .ok (.slice (some ⟨g, 0, none⟩) n n) w' ∧ St w0 B (ownA 5 1 (.slice (some ⟨g, 0, none⟩) n n) n ((List.replicate n (0 : UInt8)).flatMap fun _ => [.int .u8 0]) :: M) S w' := by
  obtain ⟨ht, ⟨i, hi, hz0, hz1, hz2⟩, hzs, hsz⟩ := elemByte
  obtain ⟨w', hrun, ho, hg⟩ := run_make_full (P := Tryz.prog) w w.heap.size 60 5 i (.int .u8 0) 1 ht hi hz0 hz1 .u64 .u64 n (by rw [hz2]; omega) (by unfold maxLen; omega) (Nat.le_refl _)
  refine ⟨_, w', hrun, h.newOwn ((Below.refl _ w).grown hg (Nat.le_refl _) (fun k hk => by cases hk)) ?_⟩
  have := madeCells_flat (f := fun _ : UInt8 => [Value.int .u8 0]) (0 : UInt8) (Value.int .u8 0).cells rfl (by decide) n
  rw [show (Value.int .u8 0).cells.size = 1 from rfl] at this
  rwa [this] at ho
set_option maxHeartbeats 16000000 in
set_option maxRecDepth 20000 in
theorem rneed (a : Option Addr) (c : Nat) (b : List UInt8) (hb : b.length ≤ 1000000) : Meets Tryz.prog 95 #[.slice a b.length c] [] [bytA (.slice a b.length c) b] fun v L => v = .tuple #[.int .i64 (needB b : Int), .int .i64 (headE b : Int)] ∧ L = [] := by
  intro w B H
  have hs0 : bytA (.slice a b.length c) b ∈ [bytA (.slice a b.length c) b] := by simp
  generalize [bytA (.slice a b.length c) b] = S at *
  have hbA : ∀ W M, St w B M S W → BytesAt W (.slice a b.length c) b := fun _ _ h => (h.getS hs0).elim fun _ h => h.2
  obtain ⟨n, hn⟩ : ∃ n, n = b.length := ⟨_, rfl⟩
  by_cases hlt : b.length < 21
  · have he : headE b = 9 := by unfold headE; rw [if_pos hlt]
    have hnd : needB b = 0 := by unfold needB; rw [if_neg (by rw [he]; decide)]
    rw [he, hnd, ← hn]
    have hq : (n : Int) < 21 := by omega
    clear he hnd hbA hs0
    go_enter Tryz.func95, Tryz.ntmps95
    go_wp2_with fail
    exact bodyPost_ret (results_tmp2 rfl _ _ _) rfl (Back.mk (L' := []) ⟨rfl, rfl⟩ H)
  · have hcut : ∀ W M, St w B M S W → ∀ i m, i + m ≤ b.length → BytesAt W (subV a c i m) ((b.drop i).take m) := fun W M h i m hm => sub_bytes (hbA W M h) hm
    obtain ⟨b0, o0, cap, hv, hc1, hc2, _, _⟩ := byt_at (hbA _ _ H) (by omega)
    injection hv with hv1 hv2 hv3
    subst hv1 hv3
    have hcell : ∀ W M, St w B M S W → W.cell? ⟨b0, o0, none⟩ = some (.int .u8 ((b.getD 0 0).toNat : Int)) := fun W M h => by
      obtain ⟨b', o', e, hh⟩ := byt_cell (hbA W M h) (by omega)
      injection e with e
      injection e with e1 e2
      subst e1 e2
      exact hh 0 (by omega)
    have him : ∀ i m, i + m ≤ b.length → c ≠ i → (bytA (.slice (some ⟨b0, o0, none⟩) b.length c) b).imp (bytA (.slice (some ⟨b0, o0 + i, none⟩) m (c - i)) ((b.drop i).take m)) := fun i m h1 h2 => by
      have := byt_sub_imp (a := some ⟨b0, o0, none⟩) (c := c) (i := i) (n := m) (l := b) fun w h => sub_bytes h h1
      rwa [sub_some h2] at this
    have hl4 : ∀ i m, i + m ≤ b.length → ((b.drop i).take m).length = m := fun i m h => by rw [List.length_take, List.length_drop]; omega
    have hnum : ∀ i m, i + m ≤ b.length → m ≤ 8 → c ≠ i → Meets Tryz.prog 124 #[.slice (some ⟨b0, o0 + i, none⟩) m (c - i)] [] [bytA (.slice (some ⟨b0, o0 + i, none⟩) m (c - i)) ((b.drop i).take m)] fun v L => v = .int .u64 (numB ((b.drop i).take m) : Int) ∧ L = [] := fun i m h1 h2 h3 => by
      have := rnum (some ⟨b0, o0 + i, none⟩) (c - i) ((b.drop i).take m) (by rw [hl4 i m h1]; exact h2)
      rwa [hl4 i m h1] at this
    have hbnd : ∀ i m, i + m ≤ b.length → numB ((b.drop i).take m) < 256 ^ m := fun i m h => by
      have := numB_lt ((b.drop i).take m)
      rwa [hl4 i m h] at this
    have hrf := hbnd 1 4 (by omega)
    have hre := hbnd 5 4 (by omega)
    have hrs := hbnd 9 8 (by omega)
    have hkn := hbnd 17 2 (by omega)
    have hkm := hbnd 19 2 (by omega)
    have hk0 : numB (b.take 1) = (b.getD 0 0).toNat := by
      have := numB_step b 0 (by omega)
      simpa [numB] using this
    have HN1 := Lib.hid (And.intro (hnum 1 4 (by omega) (by decide) (by omega)) (him 1 4 (by omega) (by omega)))
    have HN2 := Lib.hid (And.intro (hnum 5 4 (by omega) (by decide) (by omega)) (him 5 4 (by omega) (by omega)))
    have HN3 := Lib.hid (And.intro (hnum 9 8 (by omega) (by decide) (by omega)) (him 9 8 (by omega) (by omega)))
    have HN4 := Lib.hid (And.intro (hnum 17 2 (by omega) (by decide) (by omega)) (him 17 2 (by omega) (by omega)))
    have HN5 := Lib.hid (And.intro (hnum 19 2 (by omega) (by decide) (by omega)) (him 19 2 (by omega) (by omega)))
    have hres : needB b = (if (headR b).right (headN b) (headM b) = true then 21 + headN b + headM b else 0) ∧ headE b = if (headR b).right (headN b) (headM b) = true then 0 else 160 := by
      have he : headE b = if (headR b).right (headN b) (headM b) = true then 0 else 160 := by unfold headE; rw [if_neg hlt]
      refine ⟨?_, he⟩
      unfold needB
      rw [he]
      by_cases h : (headR b).right (headN b) (headM b) = true
      · rw [if_pos h, if_pos rfl, if_pos h]
      · rw [if_neg h, if_neg (by decide), if_neg h]
    unfold headR headN headM at hres
    rw [hk0] at hres
    have hc0 := (b.getD 0 0).toNat_lt
    have HRES := Lib.hid hres
    have hn21 : 21 ≤ n := by omega
    have hnc : n ≤ c := by omega
    have HCL := Lib.hid hcell
    have HS0 := Lib.hid hs0
    rw [← hn] at HS0
    have hs1 : ∀ W, (Instr.sliceAt 60 (.slice (some ⟨b0, o0, none⟩) n c) (some (.int .i64 1)) (some (.int .i64 5)) none).run Tryz.prog W = .ok (.slice (some ⟨b0, o0 + 1, none⟩) 4 (c - 1)) W := fun W => run_sl W b0 o0 n c 1 5 (by decide) (by omega) (by omega)
    have hs2 : ∀ W, (Instr.sliceAt 60 (.slice (some ⟨b0, o0, none⟩) n c) (some (.int .i64 5)) (some (.int .i64 9)) none).run Tryz.prog W = .ok (.slice (some ⟨b0, o0 + 5, none⟩) 4 (c - 5)) W := fun W => run_sl W b0 o0 n c 5 9 (by decide) (by omega) (by omega)
    have hs3 : ∀ W, (Instr.sliceAt 60 (.slice (some ⟨b0, o0, none⟩) n c) (some (.int .i64 9)) (some (.int .i64 17)) none).run Tryz.prog W = .ok (.slice (some ⟨b0, o0 + 9, none⟩) 8 (c - 9)) W := fun W => run_sl W b0 o0 n c 9 17 (by decide) (by omega) (by omega)
    have hs4 : ∀ W, (Instr.sliceAt 60 (.slice (some ⟨b0, o0, none⟩) n c) (some (.int .i64 17)) (some (.int .i64 19)) none).run Tryz.prog W = .ok (.slice (some ⟨b0, o0 + 17, none⟩) 2 (c - 17)) W := fun W => run_sl W b0 o0 n c 17 19 (by decide) (by omega) (by omega)
    have hs5 : ∀ W, (Instr.sliceAt 60 (.slice (some ⟨b0, o0, none⟩) n c) (some (.int .i64 19)) (some (.int .i64 21)) none).run Tryz.prog W = .ok (.slice (some ⟨b0, o0 + 19, none⟩) 2 (c - 19)) W := fun W => run_sl W b0 o0 n c 19 21 (by decide) (by omega) (by omega)
    rw [← hn]
    have HS1 := Lib.hid hs1
    have HS2 := Lib.hid hs2
    have HS3 := Lib.hid hs3
    have HS4 := Lib.hid hs4
    have HS5 := Lib.hid hs5
    rw [← hn] at HN1 HN2 HN3 HN4 HN5
    clear hs1 hs2 hs3 hs4 hs5 hres hk0 hnum him hl4 hcell hcut hbA hbnd hs0 hv2
    generalize (b.getD 0 0).toNat = k at *
    generalize numB ((b.drop 1).take 4) = rf at *
    generalize numB ((b.drop 5).take 4) = re at *
    generalize numB ((b.drop 9).take 8) = rs at *
    generalize numB ((b.drop 17).take 2) = kn at *
    generalize numB ((b.drop 19).take 2) = km at *
    have hn0 : (0 : Int) < (n : Int) := by omega
    have hnz : ¬ n = 0 := by omega
    have hk64 : IntKind.i64.wrap (k : Int) = k := by rw [IntKind.wrap_i64]; omega
    have hf32 : IntKind.u32.wrap (rf : Int) = rf := by rw [IntKind.wrap_u32]; omega
    have he32 : IntKind.u32.wrap (re : Int) = re := by rw [IntKind.wrap_u32]; omega
    have hq : ¬ (n : Int) < 21 := by omega
    go_enter Tryz.func95, Tryz.ntmps95
    go_upto_region 3 with fail
    refine wp_region_gh (Θ := Nat) (fun sx => [(0, 8, (.slice (some ⟨b0, o0, none⟩) n c)), (1, 9, (.pointer (some ⟨b0, o0, none⟩))), (2, 10, (.int .u8 (k : Int))), (3, 11, (.int .i64 (k : Int))), (4, 12, (.slice (some ⟨b0, o0, none⟩) n c)), (5, 13, (.slice (some ⟨b0, o0 + 1, none⟩) 4 (c - 1))), (6, 14, (.int .u64 (rf : Int))), (7, 15, (.int .u32 (rf : Int))), (8, 16, (.slice (some ⟨b0, o0, none⟩) n c)), (9, 17, (.slice (some ⟨b0, o0 + 5, none⟩) 4 (c - 5))), (10, 18, (.int .u64 (re : Int))), (11, 19, (.int .u32 (re : Int))), (12, 20, (.slice (some ⟨b0, o0, none⟩) n c)), (13, 21, (.slice (some ⟨b0, o0 + 9, none⟩) 8 (c - 9))), (14, 22, (.int .u64 (rs : Int))), (15, 23, (.agg #[.int .i64 (k : Int), .int .u32 (rf : Int), .int .u32 (re : Int), .int .u64 (rs : Int), .slice none 0 0, .slice none 0 0])), (16, 4, (.pointer (some ⟨sx, 0, none⟩)))]) (fun sx done WW => St w B (bif done 17 then [blkA sx [.int .i64 (k : Int), .int .u32 (rf : Int), .int .u32 (re : Int), .int .u64 (rs : Int), .slice none 0 0, .slice none 0 0] 62] else ((bif done 16 then [blkA sx [.int .i64 0, .int .u32 0, .int .u32 0, .int .u64 0, .slice none 0 0, .slice none 0 0] 62] else []))) S WW) (by kernel_rfl) (hord_of2 (by kernel_rfl)) (fun _ => by kernel_rfl) (fun _ => by kernel_rfl) (fun _ => by kernel_rfl) ⟨0, (show St w B [] S _ from H.drew)⟩ ?_ ?_
    · intro sx done zb WW j oq ho hd hdep hcl HA HJ
      have hj : j < 18 := (Array.getElem?_eq_some_iff.1 ho).1
      obtain rfl | rfl | rfl | rfl | rfl | rfl | rfl | rfl | rfl | rfl | rfl | rfl | rfl | rfl | rfl | rfl | rfl | rfl : j = 0 ∨ j = 1 ∨ j = 2 ∨ j = 3 ∨ j = 4 ∨ j = 5 ∨ j = 6 ∨ j = 7 ∨ j = 8 ∨ j = 9 ∨ j = 10 ∨ j = 11 ∨ j = 12 ∨ j = 13 ∨ j = 14 ∨ j = 15 ∨ j = 16 ∨ j = 17 := by omega
      · exact valG (θ := sx) (.slice (some ⟨b0, o0, none⟩) n c) ho (by cases ho; rfl) (by cases ho; simp [execOp, go_sem, HA.tm, lookT]) (by cases ho; exact fun d hd => by cases hd; exact List.mem_of_getElem? (i := 0) rfl) HJ
      · have p0 : done 0 = true := by cases ho; exact hdep ⟨0, .data⟩ (by simp) rfl
        exact valG (θ := sx) (.pointer (some ⟨b0, o0, none⟩)) ho (by cases ho; rfl) (by cases ho; simp [execOp, go_sem, HA.tm, lookT, p0, hn0, hnz]) (by cases ho; exact fun d hd => by cases hd; exact List.mem_of_getElem? (i := 1) rfl) HJ
      · have p1 : done 1 = true := by cases ho; exact hdep ⟨1, .data⟩ (by simp) rfl
        have n3 : done 3 = false := by cases hx : done 3 with | false => rfl | true => have := hcl 3 _ rfl hx ⟨2, .data⟩ (by simp) rfl; rw [hd] at this; cases this
        have n15 : done 15 = false := by cases hx : done 15 with | false => rfl | true => have := hcl 15 _ rfl hx ⟨3, .data⟩ (by simp) rfl; rw [n3] at this; cases this
        have n17 : done 17 = false := by cases hx : done 17 with | false => rfl | true => have := hcl 17 _ rfl hx ⟨15, .data⟩ (by simp) rfl; rw [n15] at this; cases this
        have hcx : WW.cell? ⟨b0, o0, none⟩ = some (.int .u8 (k : Int)) := HCL.out _ _ HJ
        exact valG (θ := sx) (.int .u8 (k : Int)) ho (by cases ho; rfl) (by cases ho; simp [execOp, go_sem, HA.tm, lookT, hcx, p1]) (by cases ho; exact fun d hd => by cases hd; exact List.mem_of_getElem? (i := 2) rfl) HJ
      · have p2 : done 2 = true := by cases ho; exact hdep ⟨2, .data⟩ (by simp) rfl
        exact valG (θ := sx) (.int .i64 (k : Int)) ho (by cases ho; rfl) (by cases ho; simp [execOp, go_sem, HA.tm, lookT, p2, hk64]) (by cases ho; exact fun d hd => by cases hd; exact List.mem_of_getElem? (i := 3) rfl) HJ
      · exact valG (θ := sx) (.slice (some ⟨b0, o0, none⟩) n c) ho (by cases ho; rfl) (by cases ho; simp [execOp, go_sem, HA.tm, lookT]) (by cases ho; exact fun d hd => by cases hd; exact List.mem_of_getElem? (i := 4) rfl) HJ
      · have p4 : done 4 = true := by cases ho; exact hdep ⟨4, .data⟩ (by simp) rfl
        exact sliceG (θ := sx) (v := (.slice (some ⟨b0, o0 + 1, none⟩) 4 (c - 1))) _ _ _ _ ho (by cases ho; rfl) (by cases ho; rfl) (by simp [HA.ev, HA.tm, lookT, Act.eval, p4]) (by simp [HA.ev, HA.tm, lookT, Act.eval, p4]; try rfl) (by simp [HA.ev, HA.tm, lookT, Act.eval, p4]; try rfl) (HS1.out WW) (by cases ho; exact fun d hd => by cases hd; exact List.mem_of_getElem? (i := 5) rfl) HJ
      · have p5 : done 5 = true := by cases ho; exact hdep ⟨5, .data⟩ (by simp) rfl
        have n7 : done 7 = false := by cases hx : done 7 with | false => rfl | true => have := hcl 7 _ rfl hx ⟨6, .data⟩ (by simp) rfl; rw [hd] at this; cases this
        have n15 : done 15 = false := by cases hx : done 15 with | false => rfl | true => have := hcl 15 _ rfl hx ⟨7, .data⟩ (by simp) rfl; rw [n7] at this; cases this
        have n17 : done 17 = false := by cases hx : done 17 with | false => rfl | true => have := hcl 17 _ rfl hx ⟨15, .data⟩ (by simp) rfl; rw [n15] at this; cases this
        have HK := HJ
        simp only [n17, cond_false] at HK
        exact callG (θ := sx) (f := 124) (args := #[.slice (some ⟨b0, o0 + 1, none⟩) 4 (c - 1)]) ho (by cases ho; rfl) (by cases ho; simp [execOp, go_sem, HA.tm, lookT, p5]) (HN1.out.1.call (L := []) (M := (bif done 16 then [blkA sx [.int .i64 0, .int .u32 0, .int .u32 0, .int .u64 0, .slice none 0 0, .slice none 0 0] 62] else [])) HK (fun _ hA => ⟨bytA (.slice (some ⟨b0, o0, none⟩) n c) b, List.mem_append_left _ HS0.out, by cases List.mem_singleton.1 hA; exact HN1.out.2⟩)) (by
          rintro e w' ⟨_, _, rfl, ⟨rfl, rfl⟩, HS'⟩
          exact ⟨_, sx, rfl, by cases ho; exact fun d hd => by cases hd; exact List.mem_of_getElem? (i := 6) rfl, .inl rfl, St.cast (by simp [n17]) HS'⟩)
      · have p6 : done 6 = true := by cases ho; exact hdep ⟨6, .data⟩ (by simp) rfl
        exact valG (θ := sx) (.int .u32 (rf : Int)) ho (by cases ho; rfl) (by cases ho; simp [execOp, go_sem, HA.tm, lookT, p6, hf32]) (by cases ho; exact fun d hd => by cases hd; exact List.mem_of_getElem? (i := 7) rfl) HJ
      · exact valG (θ := sx) (.slice (some ⟨b0, o0, none⟩) n c) ho (by cases ho; rfl) (by cases ho; simp [execOp, go_sem, HA.tm, lookT]) (by cases ho; exact fun d hd => by cases hd; exact List.mem_of_getElem? (i := 8) rfl) HJ
      · have p8 : done 8 = true := by cases ho; exact hdep ⟨8, .data⟩ (by simp) rfl
        exact sliceG (θ := sx) (v := (.slice (some ⟨b0, o0 + 5, none⟩) 4 (c - 5))) _ _ _ _ ho (by cases ho; rfl) (by cases ho; rfl) (by simp [HA.ev, HA.tm, lookT, Act.eval, p8]) (by simp [HA.ev, HA.tm, lookT, Act.eval, p8]; try rfl) (by simp [HA.ev, HA.tm, lookT, Act.eval, p8]; try rfl) (HS2.out WW) (by cases ho; exact fun d hd => by cases hd; exact List.mem_of_getElem? (i := 9) rfl) HJ
      · have p9 : done 9 = true := by cases ho; exact hdep ⟨9, .data⟩ (by simp) rfl
        have n11 : done 11 = false := by cases hx : done 11 with | false => rfl | true => have := hcl 11 _ rfl hx ⟨10, .data⟩ (by simp) rfl; rw [hd] at this; cases this
        have n15 : done 15 = false := by cases hx : done 15 with | false => rfl | true => have := hcl 15 _ rfl hx ⟨11, .data⟩ (by simp) rfl; rw [n11] at this; cases this
        have n17 : done 17 = false := by cases hx : done 17 with | false => rfl | true => have := hcl 17 _ rfl hx ⟨15, .data⟩ (by simp) rfl; rw [n15] at this; cases this
        have HK := HJ
        simp only [n17, cond_false] at HK
        exact callG (θ := sx) (f := 124) (args := #[.slice (some ⟨b0, o0 + 5, none⟩) 4 (c - 5)]) ho (by cases ho; rfl) (by cases ho; simp [execOp, go_sem, HA.tm, lookT, p9]) (HN2.out.1.call (L := []) (M := (bif done 16 then [blkA sx [.int .i64 0, .int .u32 0, .int .u32 0, .int .u64 0, .slice none 0 0, .slice none 0 0] 62] else [])) HK (fun _ hA => ⟨bytA (.slice (some ⟨b0, o0, none⟩) n c) b, List.mem_append_left _ HS0.out, by cases List.mem_singleton.1 hA; exact HN2.out.2⟩)) (by
          rintro e w' ⟨_, _, rfl, ⟨rfl, rfl⟩, HS'⟩
          exact ⟨_, sx, rfl, by cases ho; exact fun d hd => by cases hd; exact List.mem_of_getElem? (i := 10) rfl, .inl rfl, St.cast (by simp [n17]) HS'⟩)
      · have p10 : done 10 = true := by cases ho; exact hdep ⟨10, .data⟩ (by simp) rfl
        exact valG (θ := sx) (.int .u32 (re : Int)) ho (by cases ho; rfl) (by cases ho; simp [execOp, go_sem, HA.tm, lookT, p10, he32]) (by cases ho; exact fun d hd => by cases hd; exact List.mem_of_getElem? (i := 11) rfl) HJ
      · exact valG (θ := sx) (.slice (some ⟨b0, o0, none⟩) n c) ho (by cases ho; rfl) (by cases ho; simp [execOp, go_sem, HA.tm, lookT]) (by cases ho; exact fun d hd => by cases hd; exact List.mem_of_getElem? (i := 12) rfl) HJ
      · have p12 : done 12 = true := by cases ho; exact hdep ⟨12, .data⟩ (by simp) rfl
        exact sliceG (θ := sx) (v := (.slice (some ⟨b0, o0 + 9, none⟩) 8 (c - 9))) _ _ _ _ ho (by cases ho; rfl) (by cases ho; rfl) (by simp [HA.ev, HA.tm, lookT, Act.eval, p12]) (by simp [HA.ev, HA.tm, lookT, Act.eval, p12]; try rfl) (by simp [HA.ev, HA.tm, lookT, Act.eval, p12]; try rfl) (HS3.out WW) (by cases ho; exact fun d hd => by cases hd; exact List.mem_of_getElem? (i := 13) rfl) HJ
      · have p13 : done 13 = true := by cases ho; exact hdep ⟨13, .data⟩ (by simp) rfl
        have n15 : done 15 = false := by cases hx : done 15 with | false => rfl | true => have := hcl 15 _ rfl hx ⟨14, .data⟩ (by simp) rfl; rw [hd] at this; cases this
        have n17 : done 17 = false := by cases hx : done 17 with | false => rfl | true => have := hcl 17 _ rfl hx ⟨15, .data⟩ (by simp) rfl; rw [n15] at this; cases this
        have HK := HJ
        simp only [n17, cond_false] at HK
        exact callG (θ := sx) (f := 124) (args := #[.slice (some ⟨b0, o0 + 9, none⟩) 8 (c - 9)]) ho (by cases ho; rfl) (by cases ho; simp [execOp, go_sem, HA.tm, lookT, p13]) (HN3.out.1.call (L := []) (M := (bif done 16 then [blkA sx [.int .i64 0, .int .u32 0, .int .u32 0, .int .u64 0, .slice none 0 0, .slice none 0 0] 62] else [])) HK (fun _ hA => ⟨bytA (.slice (some ⟨b0, o0, none⟩) n c) b, List.mem_append_left _ HS0.out, by cases List.mem_singleton.1 hA; exact HN3.out.2⟩)) (by
          rintro e w' ⟨_, _, rfl, ⟨rfl, rfl⟩, HS'⟩
          exact ⟨_, sx, rfl, by cases ho; exact fun d hd => by cases hd; exact List.mem_of_getElem? (i := 14) rfl, .inl rfl, St.cast (by simp [n17]) HS'⟩)
      · have p3 : done 3 = true := by cases ho; exact hdep ⟨3, .data⟩ (by simp) rfl
        have p7 : done 7 = true := by cases ho; exact hdep ⟨7, .data⟩ (by simp) rfl
        have p11 : done 11 = true := by cases ho; exact hdep ⟨11, .data⟩ (by simp) rfl
        have p14 : done 14 = true := by cases ho; exact hdep ⟨14, .data⟩ (by simp) rfl
        exact valG (θ := sx) (.agg #[.int .i64 (k : Int), .int .u32 (rf : Int), .int .u32 (re : Int), .int .u64 (rs : Int), .slice none 0 0, .slice none 0 0]) ho (by cases ho; rfl) (by cases ho; simp [execOp, go_sem, HA.tm, lookT, p3, p7, p11, p14]) (by cases ho; exact fun d hd => by cases hd; exact List.mem_of_getElem? (i := 15) rfl) HJ
      · have n17 : done 17 = false := by cases hx : done 17 with | false => rfl | true => have := hcl 17 _ rfl hx ⟨16, .data⟩ (by simp) rfl; rw [hd] at this; cases this
        have HK := HJ
        simp only [hd, n17, cond_false] at HK
        exact allocG (θ := sx) WW.heap.size _ ho (by cases ho; rfl) (by cases ho; rfl) (allocRe_run WW) (by cases ho; exact fun d hd => by cases hd; exact List.mem_of_getElem? (i := 16) rfl) (.inr (.cons (.inl rfl) (.cons (.inl rfl) (.cons (.inl rfl) (.cons (.inl rfl) (.cons (.inl rfl) (.cons (.inl rfl) (.cons (.inl rfl) (.cons (.inl rfl) (.cons (.inl rfl) (.cons (.inl rfl) (.cons (.inl rfl) (.cons (.inl rfl) (.cons (.inl rfl) (.cons (.inl rfl) (.cons (.inl rfl) (.cons (.inl rfl) (.cons (.inr ⟨rfl, hd⟩) (.nil))))))))))))))))))) (St.cast (by simp [n17]) (HK.alloc [.int .i64 0, .int .u32 0, .int .u32 0, .int .u64 0, .slice none 0 0, .slice none 0 0] 62))
      · have p16 : done 16 = true := by cases ho; exact hdep ⟨16, .data⟩ (by simp) rfl
        have p15 : done 15 = true := by cases ho; exact hdep ⟨15, .data⟩ (by simp) rfl
        have HK := HJ
        simp only [p16, hd, cond_true, cond_false] at HK
        exact storeG (θ := sx) _ (.tmp 4) (.tmp 23) ho (by cases ho; rfl) (by cases ho; rfl) (by cases ho; rfl) (by simp [HA.ev, HA.tm, lookT, Act.eval, p15, p16]) (by first | (simp [HA.ev, HA.tm, lookT, Act.eval, p15, p16]; done) | (simp [HA.ev, HA.tm, lookT, Act.eval, p15, p16]; rfl)) (bigRec.store (show ([.int .i64 (k : Int), .int .u32 (rf : Int), .int .u32 (re : Int), .int .u64 (rs : Int), .slice none 0 0, .slice none 0 0] : List Value).length = 6 from rfl) (St.there HK 0 6) (by simp [Value.oneCell'])) (St.cast (by simp) (St.setAllAt HK 0 (vs := [.int .i64 (k : Int), .int .u32 (rf : Int), .int .u32 (re : Int), .int .u64 (rs : Int), .slice none 0 0, .slice none 0 0]) rfl rfl))
    · intro sx done WW hall HJ
      have z17 := hall 17 (by decide)
      have z16 := hall 16 (by decide)
      have HE : St w B [blkA sx [.int .i64 (k : Int), .int .u32 (rf : Int), .int .u32 (re : Int), .int .u64 (rs : Int), .slice none 0 0, .slice none 0 0] 62] S WW := St.cast (by simp [z17, z16]) HJ
      clear HJ hall z17 z16
      simp only [putAll, Act.put, List.setIfInBounds_toArray, List.set_cons_succ, List.set_cons_zero]
      have H4 : St w B [blkA sx [.int .i64 (k : Int), .int .u32 (rf : Int), .int .u32 (re : Int), .int .u64 (rs : Int), .slice none 0 0, .slice none 0 0] 62] S WW := HE
      clear HE H
      go_wp2_with (first | rw [HS4.out] | fail)
      refine (HN4.out.1.call (L := []) (M := [_]) H4 (fun _ hA => ⟨bytA (.slice (some ⟨b0, o0, none⟩) n c) b, List.mem_append_left _ HS0.out, by cases List.mem_singleton.1 hA; exact HN4.out.2⟩)).mono ?_
      rintro e w5 ⟨_, _, rfl, ⟨rfl, rfl⟩, H5⟩
      clear H4
      obtain ⟨g1, w6, hr1, H6⟩ := St.makeU H5 kn (by omega)
      have HR1 := Lib.hid hr1
      have H7 := H6.set_ 1 4 (.slice (some ⟨g1, 0, none⟩) kn kn)
      obtain ⟨hc, hf⟩ := St.cells H6 1
      clear hr1
      go_upto_region 5 with (first | rw [HR1.out] | fail)
      refine wp_world (fun W => St w B _ _ W) H7 ?_
      intro w7 H8
      clear H5 H6 H7 hc hf HR1
      go_wp2_with (first | rw [HS5.out] | fail)
      refine (HN5.out.1.call (L := []) (M := [_, _]) H8 (fun _ hA => ⟨bytA (.slice (some ⟨b0, o0, none⟩) n c) b, List.mem_append_left _ HS0.out, by cases List.mem_singleton.1 hA; exact HN5.out.2⟩)).mono ?_
      rintro e w8 ⟨_, _, rfl, ⟨rfl, rfl⟩, H9⟩
      clear H8
      obtain ⟨g2, w9, hr2, H10⟩ := St.makeU H9 km (by omega)
      have HR2 := Lib.hid hr2
      have H11 := H10.set_ 2 5 (.slice (some ⟨g2, 0, none⟩) km km)
      obtain ⟨hc, hf⟩ := St.cells H10 2
      clear hr2
      go_upto_region 6 with (first | rw [HR2.out] | fail)
      refine wp_world (fun W => St w B _ _ W) H11 ?_
      intro w10 H12
      clear H9 H10 H11 hc hf HR2
      have H13 : St w B [blkA sx [.int .i64 (k : Int), .int .u32 (rf : Int), .int .u32 (re : Int), .int .u64 (rs : Int), .slice (some ⟨g1, 0, none⟩) kn kn, .slice (some ⟨g2, 0, none⟩) km km] 62] S w10 := St.pick H12 [2]
      clear H12
      have HRG : w10.rangeAt sx 0 [.int .i64 (k : Int), .int .u32 (rf : Int), .int .u32 (re : Int), .int .u64 (rs : Int), .slice (some ⟨g1, 0, none⟩) kn kn, .slice (some ⟨g2, 0, none⟩) km km] := St.range H13 0
      have HRI := rright ⟨(k : Int), rf, re, rs⟩ (some ⟨g1, 0, none⟩) (some ⟨g2, 0, none⟩) kn kn km km (by unfold maxLen; omega) (by unfold maxLen; omega)
      unfold recV at HRI
      have hres := HRES.out
      obtain ⟨q, hq⟩ : ∃ q, q = (Rc.right ⟨(k : Int), rf, re, rs⟩ kn km) := ⟨_, rfl⟩
      rw [← hq] at HRI hres
      have HRI := Lib.hid HRI
      have HRES2 := Lib.hid hres
      clear hres hq HRES
      obtain ⟨hc, hf⟩ := St.cells H13 0
      go_wp2_with (first | (refine wpl_load rfl _ _ rfl sx 0 (by rfl) [.int .i64 (k : Int), .int .u32 (rf : Int), .int .u32 (re : Int), .int .u64 (rs : Int), .slice (some ⟨g1, 0, none⟩) kn kn, .slice (some ⟨g2, 0, none⟩) km km] 6 rfl HRG bigRec ?_) | fail)
      refine (HRI.out.call (L := []) (M := [_]) H13 (by simp)).mono ?_
      rintro e w11 ⟨_, _, rfl, ⟨rfl, rfl⟩, H14⟩
      clear H13 hc hf HRG
      obtain ⟨hc, hf⟩ := St.cells H14 0
      cases q with
      | true =>
        have h1 : needB b = 21 + kn + km := HRES2.out.1
        have h2 : headE b = 0 := HRES2.out.2
        have HH := Lib.hid (And.intro h1 h2)
        clear h1 h2
        go_wp2_with fail
        exact bodyPost_ret (results_tmp2 rfl _ _ _) rfl (Back.mk (L' := []) ⟨by rw [HH.out.1, HH.out.2]; simp [Act.put]; try omega, rfl⟩ (St.pick H14 []))
      | false =>
        have h1 : needB b = 0 := HRES2.out.1
        have h2 : headE b = 160 := HRES2.out.2
        have HH := Lib.hid (And.intro h1 h2)
        clear h1 h2
        go_wp2_with fail
        exact bodyPost_ret (results_tmp2 rfl _ _ _) rfl (Back.mk (L' := []) ⟨by rw [HH.out.1, HH.out.2]; rfl, rfl⟩ (St.pick H14 []))
end Go.Proofs.YtjmocjcjiiopnaaGreat
end
