/- The document's Scan. Conditions: at least one sector, at most 64, of 64 bytes each. -/
import Derived.Test.YtjmocjcjiiopnaaGreatLogScans37
import Derived.Test.YtjmocjcjiiopnaaGreatLogScans23

section
set_option linter.unusedVariables false
set_option linter.unusedSimpArgs false
namespace Go.Lg
open Go.Ring Go.Dsk Go.Oct Go.Proofs.YtjmocjcjiiopnaaGreat
/-- A record's parts, as they are told. -/
def docT (r : Option (List UInt8 × Nat)) : Rc × List UInt8 × List UInt8 × Nat := match r with
  | none => (⟨0, 0, 0, 0⟩, [], [], 0)
  | some z => (headR z.1, (z.1.drop 21).take (headN z.1), (z.1.drop (21 + headN z.1)).take (headM z.1), z.2)
theorem docRec_some {bs : List (List UInt8)} {g at_ : Nat} {b : List UInt8} {k : Nat} (h : docRec bs g at_ = some (b, k)) : decE b = 0 ∧ 1 ≤ k ∧ at_ + k ≤ bs.length := by
  unfold docRec at h
  split at h
  · cases h
  · rename_i x hx
    have hlt := (List.getElem?_eq_some_iff.1 hx).1
    split at h
    · cases h
    · rename_i z hz
      split at h
      · cases h
      · split at h
        · cases h
        · split at h
          · cases h
          · have ha := allF_some h
            have hsp := secs_pos (needB z.2.2)
            have hk := ha.2.1
            rw [List.length_take, List.length_drop] at hk
            exact ⟨ha.1, by omega, by omega⟩
theorem docT_ns {bs : List (List UInt8)} {g u : Nat} (h : (docT (docRec bs g u)).2.2.2 ≠ 0) : u + (docT (docRec bs g u)).2.2.2 ≤ bs.length := by
  cases hr : docRec bs g u with
  | none => rw [hr] at h; exact absurd rfl h
  | some z => obtain ⟨b, k⟩ := z; exact (docRec_some hr).2.2
/-- Records read one behind the other. -/
def docScanGo (bs : List (List UInt8)) (g : Nat) : Nat → Nat → List PlT → List PlT × Nat
  | 0, u, acc => (acc, u)
  | f + 1, u, acc => if (docT (docRec bs g u)).2.2.2 = 0 then (acc, u) else docScanGo bs g f (u + (docT (docRec bs g u)).2.2.2) (acc ++ [(u, (docT (docRec bs g u)).1, (docT (docRec bs g u)).2.1, (docT (docRec bs g u)).2.2.1)])
theorem docScanGo_succ (bs : List (List UInt8)) (g f u : Nat) (acc : List PlT) : docScanGo bs g (f + 1) u acc = if (docT (docRec bs g u)).2.2.2 = 0 then (acc, u) else docScanGo bs g f (u + (docT (docRec bs g u)).2.2.2) (acc ++ [(u, (docT (docRec bs g u)).1, (docT (docRec bs g u)).2.1, (docT (docRec bs g u)).2.2.1)]) := rfl
/-- What sectors hold, by the document: the generation, how much is used, the records. -/
def docScan (bs : List (List UInt8)) (i : Nat) : Nat × Nat × List PlT := match bs[0]? with
  | none => (0, 0, [])
  | some x => match readB x with
    | none => (0, 0, [])
    | some z => if x = headS z.1 i then (z.1, (docScanGo bs z.1 64 1 []).2, (docScanGo bs z.1 64 1 []).1) else (0, 0, [])
end Go.Lg
namespace Go.Proofs.YtjmocjcjiiopnaaGreat
open Go.RowKit Go.Ice Go.Oct Go.Dsk Go.Ring Go.Lg
/-- What the document's record tells, in one form. -/
def urQ (T : Rc × List UInt8 × List UInt8 × Nat) (v : Value) (L : List Asn) : Prop := ∃ x y c d, v = .tuple #[recV T.1 (.slice x T.2.1.length c) (.slice y T.2.2.1.length d), .int .i64 (T.2.2.2 : Int)] ∧ L = [ownA 5 1 (.slice x T.2.1.length c) T.2.1.length (T.2.1.map u8v), ownA 5 1 (.slice y T.2.2.1.length d) T.2.2.1.length (T.2.2.1.map u8v)]
theorem urrecord (a : Option Addr) (n c : Nat) (bs : List (List UInt8)) (g at_ : Nat) (hb : ∀ x ∈ bs, x.length = 64) (hn : bs.length = n) (hm : n ≤ 20000) (hat : at_ ≤ 100000) (hg : g ≤ 18446744073709551615) : Meets Tryz.prog 48 #[.slice a n c, .int .u64 (g : Int), .int .i64 (at_ : Int)] [] [slA 64 (.slice a n c) n (bs.flatMap fun x => x.map u8v)] fun u L => urQ (docT (docRec bs g at_)) u L := by
  intro w B H
  refine (rrecord a n c bs g at_ hb hn hm hat hg w B H).mono ?_
  rintro e w1 ⟨v, L, rfl, hq, H1⟩
  cases hr : docRec bs g at_ with
  | none =>
    rw [hr] at hq
    obtain ⟨rfl, rfl⟩ := hq
    have H2 := (H1.newNil 5 1).newNil 5 1
    exact Back.mk ⟨none, none, 0, 0, rfl, rfl⟩ (St.pick H2 [0, 1])
  | some z =>
    obtain ⟨b, k⟩ := z
    rw [hr] at hq
    have hl := dec_len (docRec_some hr).1
    obtain ⟨x, y, c, d, rfl, rfl⟩ := hq
    refine Back.mk ⟨x, y, c, d, ?_, ?_⟩ H1
    · unfold docT; dsimp only; rw [hl.1, hl.2.1]
    · unfold docT; dsimp only; rw [hl.1, hl.2.1]
/-- What the document's Scan tells. -/
def dscQ (i : Nat) (r : Nat × Nat × List PlT) (v : Value) (L : List Asn) : Prop := ∃ vs, v = .agg #[.int .u64 (r.1 : Int), .int .i64 (r.2.1 : Int), vs] ∧ L = [plsA i r.1 vs r.2.2]
theorem dscQ.no {i : Nat} {r : Nat × Nat × List PlT} (h : r = (0, 0, [])) : dscQ i r (.agg #[.int .u64 0, .int .i64 0, .slice none 0 0]) [plsA i 0 (.slice none 0 0) []] := by subst h; exact ⟨_, rfl, rfl⟩
theorem dscQ.yes {i : Nat} {r : Nat × Nat × List PlT} {g u : Nat} {l : List PlT} (h : r = (g, u, l)) (v : Value) : dscQ i r (.agg #[.int .u64 (g : Int), .int .i64 (u : Int), v]) [plsA i g v l] := by subst h; exact ⟨_, rfl, rfl⟩
section
variable {Θ : Type} {P : Program} {ops : Array Oper} {Q : Exit → Act → World → Prop} {i : Nat} {o : Oper} {b : Act} {W : World} {tbl : Θ → List (Nat × Nat × Value)} {done : Nat → Bool} {θ : Θ} {J : Θ → World → Prop}
/-- A comparison whose run is known. -/
theorem binopG {bop : BinOp} {t t2 : TypeId} {x y : Operand} {vx vy v : Value} (ho : ops[i]? = some o) (hg : Region.wanted o (yielded ops b.tmps) = true) (hop : o.op = .binOp bop t x y t2) (hx : b.eval x = vx) (hy : b.eval y = vy) (hrun : (do eqGuard bop t x y vx vy; binOp bop t vx vy : Sem Value).run P W = .ok v W)
    (hm : ∀ d, o.dst = some d → (i, d, v) ∈ tbl θ) (hJ : J θ W) :
    wpOp P ops Q i (fun a' W' => ∃ v θ', a' = b.put o.dst v ∧ (∀ d, o.dst = some d → (i, d, v) ∈ tbl θ') ∧ (θ' = θ ∨ Agree done (tbl θ) (tbl θ')) ∧ J θ' W') b W :=
  valG v ho hg (by unfold execOp; simp only [hop, hx, hy]; rw [Sem.run_bind, hrun]; rfl) hm hJ
end
theorem results_c {P : Program} {fn : Func} {tmps : Array Value} {w : World} {s1 rb n : Nat} {ty : TypeId} {cs : List Value} (hr : fn.results = #[.cell s1 ty]) (h1 : tmps.getD s1 undef = .pointer (some ⟨rb, 0, none⟩)) (T : Big P ty n) (hrg : w.rangeAt rb 0 cs) (hl : cs.length = n := by rfl) : (results fn tmps).run P w = .ok (.agg cs.toArray) w := by
  have h1' : tmps[s1]?.getD undef = .pointer (some ⟨rb, 0, none⟩) := by simpa using h1
  simp [results, hr, h1', asAddr, T.loadVar hl hrg]
set_option maxHeartbeats 16000000 in
set_option maxRecDepth 100000 in
theorem rscan (a : Option Addr) (n c : Nat) (bs : List (List UInt8)) (i : Nat) (hb : ∀ x ∈ bs, x.length = 64) (hn : bs.length = n) (h0 : 0 < n) (hm : n ≤ 64) (hi : i < 65536) : Meets Tryz.prog 14 #[.slice a n c, .int .i64 (i : Int)] [] [slA 64 (.slice a n c) n (bs.flatMap fun x => x.map u8v)] fun v L => dscQ i (docScan bs i) v L := by
  intro w B H
  have HN := Lib.hid hn
  have hslw : IsSlK w 64 n (.slice a n c) (bs.flatMap fun x => x.map u8v) := St.sl H 0
  obtain ⟨x, hx⟩ : ∃ x, bs[0]? = some x := ⟨_, List.getElem?_eq_getElem (by rw [hn]; exact h0)⟩
  have hx64 : x.length = 64 := hb x (List.mem_of_getElem? hx)
  obtain ⟨b0, o0, cap, e, hnc, hcm, _, _⟩ := hslw.at h0
  cases e
  obtain ⟨fv, hfv⟩ : ∃ fv, fv = x.map u8v := ⟨_, rfl⟩
  have hfl : fv.length = 64 := by rw [hfv, List.length_map, hx64]
  have hargs : blkV x = .agg fv.toArray := by rw [hfv]; rfl
  have hrd := rread x hx64
  rw [hargs] at hrd
  have hds0 : docScan bs i = match readB x with
    | none => (0, 0, [])
    | some z => if x = headS z.1 i then (z.1, (docScanGo bs z.1 64 1 []).2, (docScanGo bs z.1 64 1 []).1) else (0, 0, []) := by unfold docScan; rw [hx]
  have HDS := Lib.hid hds0
  clear hds0
  have HS0 := Lib.hid (show slA 64 (.slice (some ⟨b0, o0, none⟩) n c) n (bs.flatMap fun x => x.map u8v) ∈ [slA 64 (.slice (some ⟨b0, o0, none⟩) n c) n (bs.flatMap fun x => x.map u8v)] from List.mem_singleton.2 rfl)
  generalize hSS : [slA 64 (.slice (some ⟨b0, o0, none⟩) n c) n (bs.flatMap fun x => x.map u8v)] = S at *
  have hrg : ∀ W M, St w B M S W → W.rangeAt b0 o0 fv := fun W M h => by
    obtain ⟨F, hF⟩ := h.getS HS0.out
    have h9 := hF.2.2.elem (f := fun x : List UInt8 => x.map u8v) (by omega) (fun y hy => by rw [List.length_map]; exact hb y hy) hx
    rw [← hfv, Nat.zero_mul, Nat.add_zero] at h9
    exact h9
  have HRG := Lib.hid hrg
  have HRD := Lib.hid hrd
  have HB := Lib.hid hb
  have HFL := Lib.hid hfl
  have HFV := Lib.hid hfv
  have HX64 := Lib.hid hx64
  have HBP := Lib.hid (show ∀ g' p' pl, readB x = some (g', p', pl) → 1 ≤ g' ∧ g' ≤ 18446744073709551615 ∧ p' ≤ 4294967295 ∧ pl.length ≤ 48 from fun g' p' pl h => readB_bound hx64 h)
  have hn0 : (0 : Int) < (n : Int) := by omega
  have hnz : ¬ n = 0 := by omega
  have H1 := H.alloc [.int .u64 0, .int .i64 0, .slice none 0 0] 43
  obtain ⟨qb, hqb⟩ : ∃ qb, qb = w.heap.size := ⟨_, rfl⟩
  rw [← hqb] at H1
  have HQB := Lib.hid hqb
  clear hqb hSS hrd hargs hfv hslw hx hb hn hrg hx64 hcm
  go_enter Tryz.func14, Tryz.ntmps14
  go_upto_region 1 with fail
  rw [← HQB.out]
  refine wp_world (fun W => St w B _ _ W) H1 ?_
  intro w1 H2
  clear H1 HQB H
  have hr3 := HRG.out _ _ H2
  cases hrx : readB x with
  | none =>
    have hno := HDS.out
    rw [hrx] at hno
    have HNO := Lib.hid hno
    clear hno
    have hrd := HRD.out
    rw [hrx] at hrd
    have HRD := Lib.hid hrd
    clear hrd HDS hrx
    go_wp2_with (first | (refine wpl_load rfl _ _ rfl b0 o0 (by rfl) fv 64 hfl hr3 bigBlock ?_) | fail)
    refine (HRD.out.call (L := []) (M := [_]) H2 (by simp)).mono ?_
    rintro e w2 ⟨v, L, rfl, ⟨rfl, rfl⟩, H3⟩
    have H4 := H3.alloc [.int .u64 0, .int .u32 0, .int .i64 0] 113
    obtain ⟨sb, hsb⟩ : ∃ sb, sb = w2.heap.size := ⟨_, rfl⟩
    rw [← hsb] at H4
    go_upto_region 2 with fail
    rw [← hsb]
    clear hsb
    refine wp_world (fun W => St w B _ _ W) H4 ?_
    intro w3 H5
    clear H4 H3 H2 hr3
    simp only [List.cons_append, List.nil_append] at H5
    refine wp_region_gh (Θ := Unit) (fun _ => [(0, 19, (.bool false)), (1, 20, (.bool true)), (2, 21, (.bool true)), (3, 22, undef), (4, 23, undef), (5, 24, undef), (6, 25, undef), (7, 26, undef), (8, 27, undef), (9, 28, undef), (10, 29, undef), (11, 30, (.bool true))]) (fun _ done WW => St w B ([blkA sb [.int .u64 0, .int .u32 0, .int .i64 0] 113, blkA qb [.int .u64 0, .int .i64 0, .slice none 0 0] 43]) S WW) (by kernel_rfl) (hord_of2 (by kernel_rfl)) (fun _ => by kernel_rfl) (fun _ => by kernel_rfl) (fun _ => by kernel_rfl) ⟨(), (show St w B [blkA sb [.int .u64 0, .int .u32 0, .int .i64 0] 113, blkA qb [.int .u64 0, .int .i64 0, .slice none 0 0] 43] S _ from H5.drew)⟩ ?_ ?_
    · intro _ done zb WW j oq ho hd hdep hcl HA HJ
      have hj : j < 12 := (Array.getElem?_eq_some_iff.1 ho).1
      obtain rfl | rfl | rfl | rfl | rfl | rfl | rfl | rfl | rfl | rfl | rfl | rfl : j = 0 ∨ j = 1 ∨ j = 2 ∨ j = 3 ∨ j = 4 ∨ j = 5 ∨ j = 6 ∨ j = 7 ∨ j = 8 ∨ j = 9 ∨ j = 10 ∨ j = 11 := by omega
      · exact valG (θ := _) (.bool false) ho (by cases ho; rfl) (by cases ho; simp [execOp, go_sem, HA.tm, lookT]) (by cases ho; exact fun d hd => by cases hd; exact List.mem_of_getElem? (i := 0) rfl) HJ
      · have p0 : done 0 = true := by cases ho; exact hdep ⟨0, .data⟩ (by simp) rfl
        exact valG (θ := _) (.bool true) ho (by cases ho; rfl) (by cases ho; simp [execOp, go_sem, HA.tm, lookT, p0]) (by cases ho; exact fun d hd => by cases hd; exact List.mem_of_getElem? (i := 1) rfl) HJ
      · have p1 : done 1 = true := by cases ho; exact hdep ⟨1, .data⟩ (by simp) rfl
        exact valG (θ := _) (.bool true) ho (by cases ho; rfl) (by cases ho; simp [execOp, go_sem, HA.tm, lookT, p1]) (by cases ho; exact fun d hd => by cases hd; exact List.mem_of_getElem? (i := 2) rfl) HJ
      · have p2 : done 2 = true := by cases ho; exact hdep ⟨2, .guard⟩ (by simp) rfl
        exact passG (θ := _) ho (by cases ho; simp [Region.wanted, yielded, HA.tm, lookT, go_sem, p2]) (by cases ho; exact fun d hd => by cases hd; exact List.mem_of_getElem? (i := 3) rfl) HJ
      · have p3 : done 3 = true := by cases ho; exact hdep ⟨3, .data⟩ (by simp) rfl
        have p2 : done 2 = true := hcl 3 _ rfl p3 ⟨2, .guard⟩ (by simp) rfl
        exact passG (θ := _) ho (by cases ho; simp [Region.wanted, yielded, HA.tm, lookT, go_sem, p2, p3]) (by cases ho; exact fun d hd => by cases hd; exact List.mem_of_getElem? (i := 4) rfl) HJ
      · have p4 : done 4 = true := by cases ho; exact hdep ⟨4, .data⟩ (by simp) rfl
        have p3 : done 3 = true := hcl 4 _ rfl p4 ⟨3, .data⟩ (by simp) rfl
        have p2 : done 2 = true := hcl 3 _ rfl p3 ⟨2, .guard⟩ (by simp) rfl
        exact passG (θ := _) ho (by cases ho; simp [Region.wanted, yielded, HA.tm, lookT, go_sem, p2, p3, p4]) (by cases ho; exact fun d hd => by cases hd; exact List.mem_of_getElem? (i := 5) rfl) HJ
      · have p2 : done 2 = true := by cases ho; exact hdep ⟨2, .guard⟩ (by simp) rfl
        exact passG (θ := _) ho (by cases ho; simp [Region.wanted, yielded, HA.tm, lookT, go_sem, p2]) (by cases ho; exact fun d hd => by cases hd; exact List.mem_of_getElem? (i := 6) rfl) HJ
      · have p6 : done 6 = true := by cases ho; exact hdep ⟨6, .data⟩ (by simp) rfl
        have p2 : done 2 = true := hcl 6 _ rfl p6 ⟨2, .guard⟩ (by simp) rfl
        exact passG (θ := _) ho (by cases ho; simp [Region.wanted, yielded, HA.tm, lookT, go_sem, p2, p6]) (by cases ho; exact fun d hd => by cases hd; exact List.mem_of_getElem? (i := 7) rfl) HJ
      · have p2 : done 2 = true := by cases ho; exact hdep ⟨2, .guard⟩ (by simp) rfl
        exact passG (θ := _) ho (by cases ho; simp [Region.wanted, yielded, HA.tm, lookT, go_sem, p2]) (by cases ho; exact fun d hd => by cases hd; exact List.mem_of_getElem? (i := 8) rfl) HJ
      · have p7 : done 7 = true := by cases ho; exact hdep ⟨7, .data⟩ (by simp) rfl
        have p8 : done 8 = true := by cases ho; exact hdep ⟨8, .data⟩ (by simp) rfl
        have p6 : done 6 = true := hcl 7 _ rfl p7 ⟨6, .data⟩ (by simp) rfl
        have p2 : done 2 = true := hcl 6 _ rfl p6 ⟨2, .guard⟩ (by simp) rfl
        exact passG (θ := _) ho (by cases ho; simp [Region.wanted, yielded, HA.tm, lookT, go_sem, p2, p6, p7, p8]) (by cases ho; exact fun d hd => by cases hd; exact List.mem_of_getElem? (i := 9) rfl) HJ
      · have p5 : done 5 = true := by cases ho; exact hdep ⟨5, .data⟩ (by simp) rfl
        have p9 : done 9 = true := by cases ho; exact hdep ⟨9, .data⟩ (by simp) rfl
        have p4 : done 4 = true := hcl 5 _ rfl p5 ⟨4, .data⟩ (by simp) rfl
        have p3 : done 3 = true := hcl 4 _ rfl p4 ⟨3, .data⟩ (by simp) rfl
        have p2 : done 2 = true := hcl 3 _ rfl p3 ⟨2, .guard⟩ (by simp) rfl
        exact passG (θ := _) ho (by cases ho; simp [Region.wanted, yielded, HA.tm, lookT, go_sem, p2, p3, p4, p5, p9]) (by cases ho; exact fun d hd => by cases hd; exact List.mem_of_getElem? (i := 10) rfl) HJ
      · have p2 : done 2 = true := by cases ho; exact hdep ⟨2, .data⟩ (by simp) rfl
        have p10 : done 10 = true := by cases ho; exact hdep ⟨10, .data⟩ (by simp) rfl
        exact valG (θ := _) (.bool true) ho (by cases ho; rfl) (by cases ho; simp [execOp, go_sem, HA.tm, lookT, p2, p10]) (by cases ho; exact fun d hd => by cases hd; exact List.mem_of_getElem? (i := 11) rfl) HJ
    · intro _ done WW hall HJ
      have HE : St w B [blkA sb [.int .u64 0, .int .u32 0, .int .i64 0] 113, blkA qb [.int .u64 0, .int .i64 0, .slice none 0 0] 43] S WW := St.cast (by simp []) HJ
      clear HJ hall 
      simp only [putAll, Act.put, List.setIfInBounds_toArray, List.set_cons_succ, List.set_cons_zero]
      have H6 : St w B [blkA sb [.int .u64 0, .int .u32 0, .int .i64 0] 113, blkA qb [.int .u64 0, .int .i64 0, .slice none 0 0] 43] S WW := HE
      clear HE H5
      obtain ⟨hc, hf⟩ := St.cells H6 1
      have H7 := ((H6.set_ 1 0 (.int .u64 0)).set_ 1 1 (.int .i64 0)).set_ 1 2 (.slice none 0 0)
      go_wp2_with fail
      exact bodyPost_ret (results_c rfl rfl bigScan (St.range H7 1)) rfl (Back.mk (dscQ.no HNO.out) (St.pick (plsA.nil H7 i 0) [0]))
  | some z =>
    obtain ⟨g, pp, pl⟩ := z
    have hbd := HBP.out _ _ _ hrx
    have HGB := Lib.hid hbd.2.1
    have hds := HDS.out
    rw [hrx] at hds
    dsimp only at hds
    have HDS := Lib.hid hds
    have hrd := HRD.out
    rw [hrx] at hrd
    unfold refQ at hrd
    dsimp only at hrd
    have HRD := Lib.hid hrd
    have hhd := rheader g i (by omega) hi
    have hdl : (headS g i).length = 64 := packB_len _ _ _ (by rw [beB_len]; decide)
    have hneq := fun w => neq_block (.tmp 24) (.tmp 28) x (headS g i) HX64.out hdl w
    obtain ⟨nb, hnb⟩ : ∃ nb, nb = !decide (x = headS g i) := ⟨_, rfl⟩
    rw [← hnb] at hneq
    have HNB := Lib.hid (show (nb = true → docScan bs i = (0, 0, [])) ∧ (nb = false → docScan bs i = (g, (docScanGo bs g 64 1 []).2, (docScanGo bs g 64 1 []).1)) from ⟨fun h => by rw [hds, if_neg (by rw [hnb] at h; simpa using h)], fun h => by rw [hds, if_pos (by rw [hnb] at h; simpa using h)]⟩)
    obtain ⟨fh, hfh⟩ : ∃ fh, fh = (headS g i).map u8v := ⟨_, rfl⟩
    unfold blkV at hhd hneq
    rw [← hfh] at hhd hneq
    rw [← HFV.out] at hneq
    have HHD := Lib.hid hhd
    have HNEQ := Lib.hid hneq
    clear hrd hds hrx hhd hneq hnb hfh hdl
    go_wp2_with (first | (refine wpl_load rfl _ _ rfl b0 o0 (by rfl) fv 64 hfl hr3 bigBlock ?_) | fail)
    refine (HRD.out.call (L := []) (M := [_]) H2 (by simp)).mono ?_
    rintro e w2 ⟨v, L, rfl, ⟨ax, cx, rfl, rfl⟩, H3⟩
    have H4 := (St.tail H3).alloc [.int .u64 (g : Int), .int .u32 (pp : Int), .int .i64 (pl.length : Int)] 113
    obtain ⟨sb, hsb⟩ : ∃ sb, sb = w2.heap.size := ⟨_, rfl⟩
    rw [← hsb] at H4
    go_upto_region 2 with fail
    rw [← hsb]
    clear hsb
    refine wp_world (fun W => St w B _ _ W) H4 ?_
    intro w3 H5
    clear H4 H3 H2 hr3
    refine wp_region_gh (Θ := Unit) (fun _ => [(0, 19, (.bool true)), (1, 20, (.bool false)), (2, 21, (.bool false)), (3, 22, (.slice (some ⟨b0, o0, none⟩) n c)), (4, 23, (.pointer (some ⟨b0, o0, none⟩))), (5, 24, (.agg fv.toArray)), (6, 25, (.pointer (some ⟨sb, 0, none⟩))), (7, 26, (.int .u64 (g : Int))), (8, 27, (.int .i64 (i : Int))), (9, 28, (.agg fh.toArray)), (10, 29, (.bool nb)), (11, 30, (.bool nb))]) (fun _ done WW => St w B ([blkA sb [.int .u64 (g : Int), .int .u32 (pp : Int), .int .i64 (pl.length : Int)] 113, blkA qb [.int .u64 0, .int .i64 0, .slice none 0 0] 43]) S WW) (by kernel_rfl) (hord_of2 (by kernel_rfl)) (fun _ => by kernel_rfl) (fun _ => by kernel_rfl) (fun _ => by kernel_rfl) ⟨(), (show St w B [blkA sb [.int .u64 (g : Int), .int .u32 (pp : Int), .int .i64 (pl.length : Int)] 113, blkA qb [.int .u64 0, .int .i64 0, .slice none 0 0] 43] S _ from H5.drew)⟩ ?_ ?_
    · intro _ done zb WW j oq ho hd hdep hcl HA HJ
      have hj : j < 12 := (Array.getElem?_eq_some_iff.1 ho).1
      obtain rfl | rfl | rfl | rfl | rfl | rfl | rfl | rfl | rfl | rfl | rfl | rfl : j = 0 ∨ j = 1 ∨ j = 2 ∨ j = 3 ∨ j = 4 ∨ j = 5 ∨ j = 6 ∨ j = 7 ∨ j = 8 ∨ j = 9 ∨ j = 10 ∨ j = 11 := by omega
      · exact valG (θ := _) (.bool true) ho (by cases ho; rfl) (by cases ho; simp [execOp, go_sem, HA.tm, lookT]) (by cases ho; exact fun d hd => by cases hd; exact List.mem_of_getElem? (i := 0) rfl) HJ
      · have p0 : done 0 = true := by cases ho; exact hdep ⟨0, .data⟩ (by simp) rfl
        exact valG (θ := _) (.bool false) ho (by cases ho; rfl) (by cases ho; simp [execOp, go_sem, HA.tm, lookT, p0]) (by cases ho; exact fun d hd => by cases hd; exact List.mem_of_getElem? (i := 1) rfl) HJ
      · have p1 : done 1 = true := by cases ho; exact hdep ⟨1, .data⟩ (by simp) rfl
        exact valG (θ := _) (.bool false) ho (by cases ho; rfl) (by cases ho; simp [execOp, go_sem, HA.tm, lookT, p1]) (by cases ho; exact fun d hd => by cases hd; exact List.mem_of_getElem? (i := 2) rfl) HJ
      · have p2 : done 2 = true := by cases ho; exact hdep ⟨2, .guard⟩ (by simp) rfl
        exact valG (θ := _) (.slice (some ⟨b0, o0, none⟩) n c) ho (by cases ho; simp [Region.wanted, yielded, HA.tm, lookT, go_sem, p2]) (by cases ho; simp [execOp, go_sem, HA.tm, lookT, p2]) (by cases ho; exact fun d hd => by cases hd; exact List.mem_of_getElem? (i := 3) rfl) HJ
      · have p3 : done 3 = true := by cases ho; exact hdep ⟨3, .data⟩ (by simp) rfl
        have p2 : done 2 = true := hcl 3 _ rfl p3 ⟨2, .guard⟩ (by simp) rfl
        exact valG (θ := _) (.pointer (some ⟨b0, o0, none⟩)) ho (by cases ho; simp [Region.wanted, yielded, HA.tm, lookT, go_sem, p2, p3, hn0, hnz]) (by cases ho; simp [execOp, go_sem, HA.tm, lookT, p2, p3, hn0, hnz]) (by cases ho; exact fun d hd => by cases hd; exact List.mem_of_getElem? (i := 4) rfl) HJ
      · have p4 : done 4 = true := by cases ho; exact hdep ⟨4, .data⟩ (by simp) rfl
        have p3 : done 3 = true := hcl 4 _ rfl p4 ⟨3, .data⟩ (by simp) rfl
        have p2 : done 2 = true := hcl 3 _ rfl p3 ⟨2, .guard⟩ (by simp) rfl
        exact loadG (θ := _) (v := (.agg fv.toArray)) _ (.tmp 23) ho (by cases ho; simp [Region.wanted, yielded, HA.tm, lookT, go_sem, p2, p3, p4]) (by cases ho; rfl) (by simp [HA.ev, HA.tm, lookT, Act.eval, p2, p3, p4]) (bigBlock.load HFL.out (HRG.out _ _ HJ)) (by cases ho; exact fun d hd => by cases hd; exact List.mem_of_getElem? (i := 5) rfl) HJ
      · have p2 : done 2 = true := by cases ho; exact hdep ⟨2, .guard⟩ (by simp) rfl
        exact valG (θ := _) (.pointer (some ⟨sb, 0, none⟩)) ho (by cases ho; simp [Region.wanted, yielded, HA.tm, lookT, go_sem, p2]) (by cases ho; simp [execOp, go_sem, HA.tm, lookT, p2]) (by cases ho; exact fun d hd => by cases hd; exact List.mem_of_getElem? (i := 6) rfl) HJ
      · have p6 : done 6 = true := by cases ho; exact hdep ⟨6, .data⟩ (by simp) rfl
        have p2 : done 2 = true := hcl 6 _ rfl p6 ⟨2, .guard⟩ (by simp) rfl
        have hcl_ : ∀ k, WW.cell? ⟨sb, k, none⟩ = ([.int .u64 (g : Int), .int .u32 (pp : Int), .int .i64 (pl.length : Int)])[k]? := by
          have HQ := HJ
          (try simp only [hd, cond_true, cond_false] at HQ) <;> first | exact (St.cells HQ 0).1 | exact (St.cells HQ 1).1 | exact (St.cells HQ 2).1 | exact (St.cells HQ 3).1 | exact (St.cells HQ 4).1 | exact (St.cells HQ 5).1 | exact (St.cells HQ 6).1 | exact (St.cells HQ 7).1
        exact valG (θ := _) (.int .u64 (g : Int)) ho (by cases ho; simp [Region.wanted, yielded, HA.tm, lookT, go_sem, p2, p6]) (by cases ho; simp [execOp, go_sem, HA.tm, lookT, p2, p6, hcl_]) (by cases ho; exact fun d hd => by cases hd; exact List.mem_of_getElem? (i := 7) rfl) HJ
      · have p2 : done 2 = true := by cases ho; exact hdep ⟨2, .guard⟩ (by simp) rfl
        exact valG (θ := _) (.int .i64 (i : Int)) ho (by cases ho; simp [Region.wanted, yielded, HA.tm, lookT, go_sem, p2]) (by cases ho; simp [execOp, go_sem, HA.tm, lookT, p2]) (by cases ho; exact fun d hd => by cases hd; exact List.mem_of_getElem? (i := 8) rfl) HJ
      · have p7 : done 7 = true := by cases ho; exact hdep ⟨7, .data⟩ (by simp) rfl
        have p8 : done 8 = true := by cases ho; exact hdep ⟨8, .data⟩ (by simp) rfl
        have p6 : done 6 = true := hcl 7 _ rfl p7 ⟨6, .data⟩ (by simp) rfl
        have p2 : done 2 = true := hcl 6 _ rfl p6 ⟨2, .guard⟩ (by simp) rfl
        exact callG (θ := _) (f := 47) (args := #[.int .u64 (g : Int), .int .i64 (i : Int)]) ho (by cases ho; simp [Region.wanted, yielded, HA.tm, lookT, go_sem, p2, p6, p7, p8]) (by cases ho; simp [execOp, go_sem, HA.tm, lookT, p2, p6, p7, p8]) (HHD.out.call (L := []) (M := [blkA sb [.int .u64 (g : Int), .int .u32 (pp : Int), .int .i64 (pl.length : Int)] 113, blkA qb [.int .u64 0, .int .i64 0, .slice none 0 0] 43]) HJ (by simp)) (by
          rintro e w' ⟨_, _, rfl, ⟨rfl, rfl⟩, HS'⟩
          exact ⟨_, _, rfl, by cases ho; exact fun d hd => by cases hd; exact List.mem_of_getElem? (i := 9) rfl, .inl rfl, HS'⟩)
      · have p5 : done 5 = true := by cases ho; exact hdep ⟨5, .data⟩ (by simp) rfl
        have p9 : done 9 = true := by cases ho; exact hdep ⟨9, .data⟩ (by simp) rfl
        have p4 : done 4 = true := hcl 5 _ rfl p5 ⟨4, .data⟩ (by simp) rfl
        have p3 : done 3 = true := hcl 4 _ rfl p4 ⟨3, .data⟩ (by simp) rfl
        have p2 : done 2 = true := hcl 3 _ rfl p3 ⟨2, .guard⟩ (by simp) rfl
        exact binopG (θ := _) (vx := (.agg fv.toArray)) (vy := (.agg fh.toArray)) ho (by cases ho; simp [Region.wanted, yielded, HA.tm, lookT, go_sem, p2, p3, p4, p5, p9]) (by cases ho; rfl) (by simp [HA.ev, HA.tm, lookT, Act.eval, p2, p3, p4, p5, p9]) (by simp [HA.ev, HA.tm, lookT, Act.eval, p2, p3, p4, p5, p9]) (HNEQ.out WW) (by cases ho; exact fun d hd => by cases hd; exact List.mem_of_getElem? (i := 10) rfl) HJ
      · have p2 : done 2 = true := by cases ho; exact hdep ⟨2, .data⟩ (by simp) rfl
        have p10 : done 10 = true := by cases ho; exact hdep ⟨10, .data⟩ (by simp) rfl
        exact valG (θ := _) (.bool nb) ho (by cases ho; rfl) (by cases ho; simp [execOp, go_sem, HA.tm, lookT, p2, p10]) (by cases ho; exact fun d hd => by cases hd; exact List.mem_of_getElem? (i := 11) rfl) HJ
    · intro _ done WW hall HJ
      have HE : St w B [blkA sb [.int .u64 (g : Int), .int .u32 (pp : Int), .int .i64 (pl.length : Int)] 113, blkA qb [.int .u64 0, .int .i64 0, .slice none 0 0] 43] S WW := St.cast (by simp []) HJ
      clear HJ hall 
      simp only [putAll, Act.put, List.setIfInBounds_toArray, List.set_cons_succ, List.set_cons_zero]
      have H6 : St w B [blkA sb [.int .u64 (g : Int), .int .u32 (pp : Int), .int .i64 (pl.length : Int)] 113, blkA qb [.int .u64 0, .int .i64 0, .slice none 0 0] 43] S WW := HE
      clear HE H5
      cases nb with
      | true =>
        have HNO := Lib.hid (HNB.out.1 rfl)
        obtain ⟨hc, hf⟩ := St.cells H6 1
        have H7 := ((H6.set_ 1 0 (.int .u64 0)).set_ 1 1 (.int .i64 0)).set_ 1 2 (.slice none 0 0)
        go_wp2_with fail
        exact bodyPost_ret (results_c rfl rfl bigScan (St.range H7 1)) rfl (Back.mk (dscQ.no HNO.out) (St.pick (plsA.nil H7 i 0) [0]))
      | false =>
        have HYE := Lib.hid (HNB.out.2 rfl)
        clear HNB HNEQ HHD
        obtain ⟨hc, hf⟩ := St.cells H6 0
        have H7 := H6.alloc [.int .u64 (g : Int), .int .i64 1, .slice none 0 0] 43
        obtain ⟨ob, hob⟩ : ∃ ob, ob = WW.heap.size := ⟨_, rfl⟩
        rw [← hob] at H7
        have H8 : St w B [ownA 122 9 (.slice none 0 0) ([] : List Pl).length (([] : List Pl).flatMap (plC i g)), sepA (([] : List Pl).flatMap plO), blkA ob [.int .u64 (g : Int), .int .i64 ((1 : Nat) : Int), .slice none 0 0] 43, blkA sb [.int .u64 (g : Int), .int .u32 (pp : Int), .int .i64 (pl.length : Int)] 113, blkA qb [.int .u64 0, .int .i64 0, .slice none 0 0] 43] S (WW.alloc (.cells #[.int .u64 (g : Int), .int .i64 1, .slice none 0 0] 43)) := by
          have h1 : St w B ([] ++ _) S _ := H7
          have h2 := (h1.bind).newNil 122 9
          exact St.pick h2 [0, 1, 2, 3, 4]
        go_upto_region 5 with fail
        rw [← hob]
        clear hob
        refine wp_world (fun W => St w B _ _ W) H8 ?_
        intro w8 H9
        clear H6 H7 H8 hc hf
        go_wp2_with fail
        go_loopg [] 64 (fun gq wr => ∃ (u f : Nat) (acc : List Pl) (a : Option Addr) (ca : Nat), 1 ≤ u ∧ u ≤ n ∧ gq = 65 - u ∧ 65 ≤ u + f ∧ acc.length < u ∧ Hid (docScanGo bs g 64 1 [] = docScanGo bs g f u (acc.map Pl.core)) ∧ Hid (St w B [ownA 122 9 (.slice a acc.length ca) acc.length (acc.flatMap (plC i g)), sepA (acc.flatMap plO), blkA ob [.int .u64 (g : Int), .int .i64 (u : Int), .slice a acc.length ca] 43, blkA sb [.int .u64 (g : Int), .int .u32 (pp : Int), .int .i64 (pl.length : Int)] 113, blkA qb [.int .u64 0, .int .i64 0, .slice none 0 0] 43] S wr))
        case atStart => exact ⟨1, 64, [], none, 0, Nat.le_refl _, by omega, rfl, Nat.le_refl _, by simp, Lib.hid rfl, Lib.hid H9⟩
        case round =>
        obtain ⟨u, f, acc, a, ca, hu1, hu, rfl, huf, hacc, HSG, HI⟩ := hrel
        obtain ⟨f, rfl⟩ : ∃ f', f = f' + 1 := ⟨f - 1, by omega⟩
        clear H9
        have HI := HI.out
        have HUR := urrecord (some ⟨b0, o0, none⟩) n c bs g u HB.out HN.out (by omega) (by omega) HGB.out
        have hns := @docT_ns bs g u
        have hsg := HSG.out
        rw [docScanGo_succ bs g f u (acc.map Pl.core)] at hsg
        rw [HN.out] at hns
        generalize docT (docRec bs g u) = TT at *
        obtain ⟨⟨rk, rf, re, rs⟩, ka, va, ns⟩ := TT
        dsimp only at hns hsg
        unfold urQ recV at HUR
        dsimp only at HUR
        have HSG2 := Lib.hid hsg
        have HNS := Lib.hid hns
        have HUR := Lib.hid HUR
        clear hsg hns HSG
        obtain ⟨hc, hf⟩ := St.cells HI 2
        obtain ⟨hc2, hf2⟩ := St.cells HI 3
        go_wp2_with fail
        refine (HUR.out.call (L := []) (M := [_, _, _, _, _]) HI (share1 (.refl _) (List.mem_append_left _ HS0.out))).mono ?_
        rintro e w18 ⟨_, L', rfl, ⟨x1, y1, c1, d1, rfl, rfl⟩, H19⟩
        clear HI hc hf hc2 hf2 HUR
        have H20 := H19.alloc [.int .i64 rk, .int .u32 rf, .int .u32 re, .int .u64 rs, .slice x1 ka.length c1, .slice y1 va.length d1] 62
        obtain ⟨xr, hxr⟩ : ∃ xr, xr = w18.heap.size := ⟨_, rfl⟩
        rw [← hxr] at H20
        have hsg := HSG2.out
        by_cases h2 : ns = 0
        · subst h2
          rw [if_pos rfl] at hsg
          have hrr := HYE.out
          rw [hsg] at hrr
          have HQ := Lib.hid hrr
          clear hsg hrr HSG2 HYE
          go_upto_region 6 with fail
          rw [← hxr]
          clear hxr
          refine wp_world (fun W => St w B _ _ W) H20 ?_
          intro w20 H21
          clear H19 H20
          obtain ⟨hc, hf⟩ := St.cells H21 5
          obtain ⟨hc2, hf2⟩ := St.cells H21 7
          go_wp2_with fail
          have H22 := ((H21.set_ 7 0 (.int .u64 g)).set_ 7 1 (.int .i64 u)).set_ 7 2 (.slice a acc.length ca)
          have H23 := plsA.mk rfl (St.pick H22 [3, 4, 7])
          exact bodyPost_ret (results_c rfl rfl bigScan (St.range H22 7)) rfl (Back.mk (dscQ.yes HQ.out (.slice a acc.length ca)) (St.pick H23 [0]))
        · rw [if_neg h2] at hsg
          obtain ⟨el, hel⟩ : ∃ el : Pl, el = ⟨u, ⟨rk, rf, re, rs⟩, ka, va, x1, c1, y1, d1⟩ := ⟨_, rfl⟩
          have hsg2 : docScanGo bs g 64 1 [] = docScanGo bs g f (u + ns) ((acc ++ [el]).map Pl.core) := by rw [hsg, List.map_append, hel]; rfl
          have hns := HNS.out h2
          have HSG3 := Lib.hid hsg2
          have HNS2 := Lib.hid hns
          have hne : ((ns : Int) == 0) = false := by simp; omega
          have HN2 := Lib.hid h2
          clear hsg hsg2 hns HSG2 h2 HNS
          go_upto_region 6 with fail
          rw [← hxr]
          clear hxr
          refine wp_world (fun W => St w B _ _ W) H20 ?_
          intro w20 H21
          clear H19 H20
          obtain ⟨cel, hcel⟩ : ∃ cel, cel = plC i g el := ⟨_, rfl⟩
          have hcl : cel = [.int .i64 i, .int .u64 g, .int .i64 u, .int .i64 rk, .int .u32 rf, .int .u32 re, .int .u64 rs, .slice x1 ka.length c1, .slice y1 va.length d1] := by rw [hcel, hel]; rfl
          have hcl9 : cel.length = 9 := by rw [hcl]; rfl
          have hcl1 : ∀ u ∈ cel, u.oneCell' = true := by rw [hcl]; simp [Value.oneCell']
          have hlit := elemPlaced.lit1 cel hcl9 (by decide) w20
          have H22 := H21.alloc cel 122
          obtain ⟨v6, w6, hr6, H23⟩ := H22.app (ty := 41) elemPlaced 4 rfl (isSlK_of_blk H22 0 rfl 1 (by omega) (by rw [hcl9]) (by decide)) hcl1 (by omega) (by unfold maxLen; omega)
          obtain ⟨a6, c6, rfl, _⟩ := own_form (St.own H23 4)
          have HR6 := Lib.hid hr6
          have HCEL := Lib.hid hcel
          have HCL := Lib.hid hcl
          have HEL := Lib.hid hel
          clear hr6 H22 hcel hcl hel
          obtain ⟨hc, hf⟩ := St.cells H21 0
          obtain ⟨hc2, hf2⟩ := St.cells H21 5
          obtain ⟨hc3, hf3⟩ := St.cells H21 6
          obtain ⟨hc6, hf6⟩ := St.cells H23 6
          have H24 := H23.set_ 6 2 (.slice a6 (acc.length + 1) c6)
          go_upto_region 9 with (first | (refine wpl_lit (vals := #[(0, .agg cel.toArray)]) (by rw [HCL.out]; simp [Act.eval]) hlit ?_) | (at_builtin; refine wpList_append_eq rfl _ _ _ rfl rfl rfl HR6.out ?_))
          refine wp_world (fun W => St w B _ _ W) H24 ?_
          intro w24 H25
          clear H21 H23 H24 hc hf hc2 hf2 hc3 hf3 hc6 hf6 hlit
          obtain ⟨hc, hf⟩ := St.cells H25 6
          have hwa : IntKind.i64.wrap ((u : Int) + (ns : Int)) = ((u + ns : Nat) : Int) := by rw [IntKind.wrap_i64]; have := HNS2.out; omega
          have H26 := H25.set_ 6 1 (.int .i64 (u + ns : Nat))
          go_wp2_with fail
          go_roundg (65 - (u + ns))
          case measure => have := HNS2.out; have := HN2.out; omega
          case rel =>
            refine ⟨u + ns, f, acc ++ [el], a6, c6, by omega, HNS2.out, rfl, by have := HN2.out; omega, by rw [List.length_append]; have := HN2.out; show acc.length + 1 < u + ns; omega, HSG3, Lib.hid ?_⟩
            have e1 : (acc ++ [el]).flatMap (plC i g) = acc.flatMap (plC i g) ++ cel := by rw [HCEL.out]; simp
            have e2 : (acc ++ [el]).flatMap plO = acc.flatMap plO ++ [ownA 5 1 (.slice x1 ka.length c1) ka.length (ka.map u8v), ownA 5 1 (.slice y1 va.length d1) va.length (va.map u8v)] := by rw [HEL.out]; simp [plO]
            rw [e1, e2, show (acc ++ [el]).length = acc.length + 1 by simp]
            have h1 := St.pick H26 [5, 2, 3, 4, 6, 7, 8]
            have h2 := St.flat h1
            have h3 : St w B ((acc.flatMap plO ++ [ownA 5 1 (.slice x1 ka.length c1) ka.length (ka.map u8v), ownA 5 1 (.slice y1 va.length d1) va.length (va.map u8v)]) ++ _) S _ := St.cast (by simp only [List.append_assoc, List.cons_append, List.nil_append]; rfl) h2
            exact St.swap (St.bind h3)
end Go.Proofs.YtjmocjcjiiopnaaGreat
end
