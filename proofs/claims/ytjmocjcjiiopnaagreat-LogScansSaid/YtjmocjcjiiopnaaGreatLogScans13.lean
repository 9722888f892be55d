/- Superblocks: may. No condition. Superblocks: Encode. Conditions: the numbers fit. Superblocks: Decode. Condition: a sector has 64 bytes. -/
import Derived.Test.YtjmocjcjiiopnaaGreatLogScans11
import Derived.Test.YtjmocjcjiiopnaaGreatLogScans12
import Derived.Lib.SlBytesConst

section
set_option linter.unusedVariables false
set_option linter.unusedSimpArgs false
namespace Go.Oct
/-- What is known of a disk. -/
structure Sp where
  seg : Int
  sec : Int
  gen : Nat
  ret : Nat
  resv : Nat
  flush : Nat
/-- Whether it may be. -/
def Sp.may (x : Sp) : Bool := decide (4 ≤ x.seg ∧ x.seg ≤ 16 ∧ 24 ≤ x.sec ∧ x.sec ≤ 64 ∧ x.ret ≤ x.gen)
def Sp.fits (x : Sp) : Prop := x.gen ≤ 18446744073709551615 ∧ x.ret ≤ 18446744073709551615 ∧ x.resv ≤ 18446744073709551615 ∧ x.flush ≤ 18446744073709551615
def supH (x : Sp) (turn : Nat) : List UInt8 := [105, 99, 101, 104, 111, 117, 115, 101] ++ beB turn 8 ++ beB x.seg.toNat 2 ++ beB x.sec.toNat 2 ++ beB x.gen 8 ++ beB x.ret 8 ++ beB x.resv 8 ++ beB x.flush 8
def supA (x : Sp) (turn : Nat) : List UInt8 := supH x turn ++ [0, 0, 0, 0]
/-- A superblock. -/
def supB (x : Sp) (turn : Nat) : List UInt8 := supA x turn ++ beB (hashB (supA x turn)) 8
end Go.Oct
namespace Go.Proofs.YtjmocjcjiiopnaaGreat
open Go.RowKit Go.Ice Go.Oct
theorem supH_len (x : Sp) (t : Nat) : (supH x t).length = 52 := by unfold supH; simp [beB_len]
theorem supA_len (x : Sp) (t : Nat) : (supA x t).length = 56 := by unfold supA; simp [supH_len]
theorem supB_len (x : Sp) (t : Nat) : (supB x t).length = 64 := by unfold supB; simp [supA_len, beB_len]
def supC (x : Sp) : List Value := [.int .i64 x.seg, .int .i64 x.sec, .int .u64 x.gen, .int .u64 x.ret, .int .u64 x.resv, .int .u64 x.flush]
def supV (x : Sp) : Value := .agg (supC x).toArray
set_option maxHeartbeats 8000000 in
set_option maxRecDepth 20000 in
theorem may (x : Sp) : Meets Tryz.prog 116 #[supV x] [] [] fun v L => v = .bool x.may ∧ L = [] := by
  intro w B H
  obtain ⟨seg, sec, gen, ret, resv, flush⟩ := x
  obtain ⟨q, hq⟩ : ∃ q, q = Sp.may ⟨seg, sec, gen, ret, resv, flush⟩ := ⟨_, rfl⟩
  rw [← hq]
  unfold supV supC
  have H1 := H.alloc [.int .i64 seg, .int .i64 sec, .int .u64 gen, .int .u64 ret, .int .u64 resv, .int .u64 flush] 51
  have HQ := Lib.hid hq
  clear hq
  go_enter Tryz.func116, Tryz.ntmps116
  go_upto_region 1 with fail
  refine wp_world (fun W => St w B _ _ W) H1 ?_
  intro w1 H2
  clear H1
  obtain ⟨hc, hf⟩ := St.cells H2 0
  go_wp2_with fail
  all_goals
    refine bodyPost_ret (results_tmp rfl _ _ _) rfl (Back.mk ⟨?_, rfl⟩ (St.pick H2 []))
    have e := HQ.out
    show Value.bool _ = Value.bool q
    rw [e]
    congr 1
    unfold Sp.may
    rw [Bool.eq_iff_iff, decide_eq_true_eq]
    simp
    clear e hc hf H2 H HQ
    try simp only [beq_iff_eq, beq_eq_false_iff_ne, ne_eq] at *
    omega
end Go.Proofs.YtjmocjcjiiopnaaGreat
end

section
set_option linter.unusedVariables false
set_option linter.unusedSimpArgs false
namespace Go.Ice
open Go.RowKit
/-- Bytes of a block may be read. -/
theorem blk_byt_imp {b n cap : Nat} {xs : List UInt8} {ty : TypeId} (hn : n ≤ xs.length) (h1 : n ≤ cap) (h2 : cap ≤ maxLen) : (blkA b (xs.map u8v) ty).imp (bytA (.slice (some ⟨b, 0, none⟩) n cap) (xs.take n)) := fun F w h => by
  refine ⟨fun x => xs.take n ≠ [] ∧ (Value.slice (some ⟨b, 0, none⟩) n cap).ownBlock = some x, ⟨fun _ => Iff.rfl, ?_⟩, fun x hx => (h.1 x).2 (by have := hx.2; simp [Value.ownBlock] at this; exact this.symm)⟩
  have hl : (xs.take n).length = n := by rw [List.length_take]; omega
  have := isSl_mk (w := w) (cs := (xs.take n).map u8v) (b := b) (off := 0) (cap := cap) (by rw [List.length_map, hl]; exact h1) h2 (blk_lt h.2) (fun j hj => by
    rw [List.length_map, hl] at hj
    rw [Nat.zero_add, blk_cell h.2]
    simp [hj])
  rwa [List.length_map, hl] at this
/-- Bytes of a block with a mark behind them may be read. -/
theorem obj_byt_imp {b n : Nat} {xs : List UInt8} {ty : TypeId} {m : Nat × Nat} (hn : xs.length = n) (h2 : n ≤ maxLen) : (objA b (.cells (xs.map u8v).toArray ty m)).imp (bytA (.slice (some ⟨b, 0, none⟩) n n) xs) := fun F w h => by
  subst hn
  refine ⟨fun x => xs ≠ [] ∧ (Value.slice (some ⟨b, 0, none⟩) xs.length xs.length).ownBlock = some x, ⟨fun _ => Iff.rfl, ?_⟩, fun x hx => (h.1 x).2 (by have := hx.2; simp [Value.ownBlock] at this; exact this.symm)⟩
  have := isSl_mk (w := w) (cs := xs.map u8v) (b := b) (off := 0) (cap := xs.length) (by simp) h2 (blk_lt h.2) (fun j hj => by
    rw [Nat.zero_add]
    simp [World.cell?, h.2])
  rwa [List.length_map] at this
theorem St.allocO {w0 : World} {B : Nat → Prop} {M S : List Asn} {w : World} (h : St w0 B M S w) (o : Obj) : St w0 B (objA w.heap.size o :: M) S (w.alloc o) :=
  h.new ((Below.refl _ _).alloc (Nat.le_refl _) _) (F' := fun b => b = w.heap.size) ⟨fun _ => Iff.rfl, heap_alloc_new _ _⟩ (fun b e => by rw [e]; exact Nat.le_refl _)
theorem byt_nil_imp (A : Asn) : A.imp (bytA (.slice none 0 0) []) := fun F w h => ⟨fun x => ([] : List UInt8) ≠ [] ∧ (Value.slice none 0 0).ownBlock = some x, ⟨fun _ => Iff.rfl, .inl ⟨rfl, .inl rfl⟩⟩, fun x hx => absurd rfl hx.1⟩
end Go.Ice
namespace Go.Proofs.YtjmocjcjiiopnaaGreat
open Go.RowKit Go.Ice Go.Oct
theorem St.copyIn {w0 : World} {B : Nat → Prop} {M S : List Asn} {w : World} {b : Nat} {xs l ys : List UInt8} {ty : TypeId} (h : St w0 B M S w) (i : Nat) (hi : M[i]? = some (blkA b (xs.map u8v) ty)) (o dLen dCap : Nat) (v : Value) (hl : BytesAt w v l) (hd : l.length ≤ dLen) (hfit : o + l.length ≤ xs.length) (hy : xs.take o ++ l ++ xs.drop (o + l.length) = ys) :
    ∃ w', (Builtin.copy_ #[60, 60] 3 #[.slice (some ⟨b, o, none⟩) dLen dCap, v]).run Tryz.prog w = .ok (goInt l.length) w' ∧ St w0 B (M.set i (blkA b (ys.map u8v) ty)) S w' := by
  subst hy
  have hg := h.heap i hi
  refine ⟨_, copy_to w b o dLen dCap v l _ ty hl hg hd (by simpa using hfit), h.stepAt i hi fun F hF => ⟨F, ⟨hF.1, ?_⟩, (setRow_frm w b _).mono fun x _ hx => (hF.1 x).2 hx, fun x hx => .inl hx⟩⟩
  rw [setRow_blk hF.2]
  simp [List.map_append, List.map_take, List.map_drop]
theorem blkB_byt {w0 : World} {B : Nat → Prop} {M S : List Asn} {w : World} {b n cap : Nat} {xs : List UInt8} {ty : TypeId} (h : St w0 B M S w) (i : Nat) (hi : M[i]? = some (blkA b (xs.map u8v) ty)) (hn : n ≤ xs.length) (h1 : n ≤ cap) (h2 : cap ≤ maxLen) : BytesAt w (.slice (some ⟨b, 0, none⟩) n cap) (xs.take n) := by
  obtain ⟨F, hF⟩ := h.get i hi
  obtain ⟨F', k, _⟩ := blk_byt_imp hn h1 h2 F w hF
  exact k.2
/-- What Encode answers. -/
def supE (x : Sp) (t : Nat) : Value := if x.may then .tuple #[blkV (supB x t), .int .i64 0] else .tuple #[blkV (List.replicate 64 0), .int .i64 2]
set_option maxRecDepth 100000 in
set_option maxHeartbeats 16000000 in
theorem sencode (x : Sp) (hx : x.fits) (t : Nat) (ht : t ≤ 18446744073709551615) : Meets Tryz.prog 76 #[supV x, .int .u64 t] [] [] fun v L => v = supE x t ∧ L = [] := by
  intro w B H
  have HM := may x
  have H1 := (H.alloc (supC x) 51).alloc zL64 38
  simp only [World.size_alloc] at H1
  obtain ⟨hg1, hr1, hv1, hf1⟩ := hx
  unfold supE
  cases hq : x.may
  · rw [hq] at HM
    clear hq
    rw [if_neg (by decide)]
    obtain ⟨seg, sec, gen, ret, resv, flush⟩ := x
    unfold supV supC at *
    go_enter Tryz.func76, Tryz.ntmps76
    go_upto_region 1 with fail
    refine wp_world (fun W => St w B _ _ W) H1 ?_
    intro w1 H2
    clear H1
    obtain ⟨hc, hf⟩ := St.cells H2 1
    go_wp2_with fail
    refine (HM.call (L := []) (M := [_, _]) H2 (by simp)).mono ?_
    rintro e w3 ⟨v, L, rfl, ⟨rfl, rfl⟩, H4⟩
    clear hc hf
    have HT : w3.there (w.heap.size + 1) 0 64 := St.there H4 0 64
    go_upto_region 2 with fail
    go_step
    refine wpl_build rfl _ _ rfl (vals := #[]) (by simp) (build_zeroB w3) ?_
    simp only [Act.put, List.setIfInBounds_toArray, List.set_cons_succ, List.set_cons_zero]
    generalize hz : zL64 = zl at *
    have hz64 : zl.length = 64 := by rw [← hz]; rfl
    have hz1 : ∀ u ∈ zl, u.oneCell' = true := by rw [← hz]; exact zL_one
    have H5 := St.setAllAt H4 0 (vs := zl) rfl rfl
    go_wp2_with ((refine wpl_store rfl _ _ _ rfl (w.heap.size + 1) 0 (by rfl) zl (by rfl) 64 hz64 HT bigBlock hz1 ?_); (refine wpl_world _ H5 ?_); intro w5 H6)
    refine bodyPost_ret (results_ct rfl rfl bigBlock (St.range H6 0) hz64) rfl (Back.mk ⟨?_, rfl⟩ (St.pick H6 []))
    rw [← hz]; rfl
  · rw [hq] at HM
    rw [if_pos rfl]
    have hmay := of_decide_eq_true hq
    have hxx := hq
    clear hq
    have HB : Hid (supB x t = supA x t ++ beB (hashB (supA x t)) 8) := Lib.hid rfl
    have HA0 : Hid (supA x t = supH x t ++ [0, 0, 0, 0]) := Lib.hid rfl
    have HH0 : Hid (supH x t = [105, 99, 101, 104, 111, 117, 115, 101] ++ beB t 8 ++ beB x.seg.toNat 2 ++ beB x.sec.toNat 2 ++ beB x.gen 8 ++ beB x.ret 8 ++ beB x.resv 8 ++ beB x.flush 8) := Lib.hid rfl
    have HLA := supA_len x t
    have HLH := supH_len x t
    have HSB := supB_len x t
    generalize hsb : supB x t = sb at *
    generalize hsa : supA x t = sa at *
    generalize hsh : supH x t = sh at *
    clear hsb hsa hsh
    obtain ⟨seg, sec, gen, ret, resv, flush⟩ := x
    obtain ⟨m1, m2, m3, m4, _⟩ := hmay
    dsimp only at hg1 hr1 hv1 hf1 m1 m2 m3 m4 HH0
    obtain ⟨sn, rfl⟩ : ∃ sn : Nat, seg = sn := ⟨seg.toNat, by omega⟩
    obtain ⟨cn, rfl⟩ : ∃ cn : Nat, sec = cn := ⟨sec.toNat, by omega⟩
    have hw1 : IntKind.u16.wrap (sn : Int) = (sn : Int) := by simp [IntKind.wrap, IntKind.bits, IntKind.signed]; omega
    have hw2 : IntKind.u16.wrap (cn : Int) = (cn : Int) := by simp [IntKind.wrap, IntKind.bits, IntKind.signed]; omega
    have hs1 : sn ≤ 65535 := by omega
    have hs2 : cn ≤ 65535 := by omega
    rw [Int.toNat_natCast, Int.toNat_natCast] at HH0
    clear m1 m2 m3 m4 hxx
    obtain ⟨LT, hLT⟩ : ∃ LT : List UInt8, [105, 99, 101, 104, 111, 117, 115, 101] = LT := ⟨_, rfl⟩
    obtain ⟨B1, hB1⟩ : ∃ B1, LT ++ beB t 8 = B1 := ⟨_, rfl⟩
    obtain ⟨B2, hB2⟩ : ∃ B2, B1 ++ beB sn 2 = B2 := ⟨_, rfl⟩
    obtain ⟨B3, hB3⟩ : ∃ B3, B2 ++ beB cn 2 = B3 := ⟨_, rfl⟩
    obtain ⟨FF, hFF⟩ : ∃ FF : Nat → List UInt8, FF = fun j => B3 ++ (([gen, ret, resv, flush].take j).flatMap fun n => beB n 8) := ⟨_, rfl⟩
    have HF4 : Hid (FF 4 = sh) := Lib.hid (by rw [hFF, HH0.out, hLT, hB1, hB2, hB3]; simp)
    have HF0 : Hid (FF 0 = B3) := Lib.hid (by rw [hFF]; simp)
    have HFS0 : Hid (FF 0 ++ beB gen 8 = FF 1) := Lib.hid (by rw [hFF]; simp)
    have HFS1 : Hid (FF 1 ++ beB ret 8 = FF 2) := Lib.hid (by rw [hFF]; simp)
    have HFS2 : Hid (FF 2 ++ beB resv 8 = FF 3) := Lib.hid (by rw [hFF]; simp)
    have HFS3 : Hid (FF 3 ++ beB flush 8 = FF 4) := Lib.hid (by rw [hFF]; simp)
    have HL0 : Hid (LT.length = 8) := Lib.hid (by rw [← hLT]; rfl)
    have HL1 : Hid (B1.length = 16) := Lib.hid (by rw [← hB1]; simp [beB_len, HL0.out])
    have HL2 : Hid (B2.length = 18) := Lib.hid (by rw [← hB2]; simp [beB_len, HL1.out])
    have HL3 : Hid (B3.length = 20) := Lib.hid (by rw [← hB3]; simp [beB_len, HL2.out])
    have HLF : Hid (∀ j, j ≤ 4 → (FF j).length = 20 + 8 * j) := Lib.hid (fun j hj => by
      rw [hFF]
      obtain rfl | rfl | rfl | rfl | rfl : j = 0 ∨ j = 1 ∨ j = 2 ∨ j = 3 ∨ j = 4 := by omega
      all_goals simp [beB_len, HL3.out])
    have HLT := Lib.hid hLT
    have HB1 := Lib.hid hB1
    have HB2 := Lib.hid hB2
    have HB3 := Lib.hid hB3
    have HLA := Lib.hid HLA
    have HLH := Lib.hid HLH
    have HSB := Lib.hid HSB
    clear hFF hLT hB1 hB2 hB3 HH0
    unfold supV supC at *
    obtain ⟨rb, hrb⟩ : ∃ rb, rb = w.heap.size + 1 := ⟨_, rfl⟩
    obtain ⟨xb, hxb⟩ : ∃ xb, xb = w.heap.size := ⟨_, rfl⟩
    rw [← hrb, ← hxb] at H1
    go_enter Tryz.func76, Tryz.ntmps76
    go_upto_region 1 with fail
    rw [← hrb, ← hxb]
    have HRB := Lib.hid hrb
    have HXB := Lib.hid hxb
    clear hrb hxb
    refine wp_world (fun W => St w B _ _ W) H1 ?_
    intro w1 H2
    clear H1
    obtain ⟨hc, hf⟩ := St.cells H2 1
    go_wp2_with fail
    refine (HM.call (L := []) (M := [_, _]) H2 (by simp)).mono ?_
    rintro e w3 ⟨v, L, rfl, ⟨rfl, rfl⟩, H4⟩
    clear hc hf H2 HM
    rw [zeroBlock] at H4
    obtain ⟨z, hz⟩ : ∃ z, z = List.replicate 64 (0 : UInt8) := ⟨_, rfl⟩
    rw [← hz] at H4
    have HZ := Lib.hid hz
    clear hz
    have hlit := elemByte.lit [.int .u8 105, .int .u8 99, .int .u8 101, .int .u8 104, .int .u8 111, .int .u8 117, .int .u8 115, .int .u8 101] (fun v hv => by simp only [List.mem_cons, List.not_mem_nil, or_false] at hv; rcases hv with rfl | rfl | rfl | rfl | rfl | rfl | rfl | rfl <;> rfl) (by simp) (by simp) w3 #[(0, .int .u8 105), (1, .int .u8 99), (2, .int .u8 101), (3, .int .u8 104), (4, .int .u8 111), (5, .int .u8 117), (6, .int .u8 115), (7, .int .u8 101)] rfl
    have H5 := H4.alloc (LT.map u8v) 5
    have e5 : ([.int .u8 105, .int .u8 99, .int .u8 101, .int .u8 104, .int .u8 111, .int .u8 117, .int .u8 115, .int .u8 101] : List Value).flatMap (fun v => v.cells.toList) = LT.map u8v := by rw [← HLT.out]; rfl
    rw [e5] at hlit
    clear e5
    go_upto_region 3 with fail
    go_wp2_with (first | (refine wpl_lit (vals := #[(0, .int .u8 105), (1, .int .u8 99), (2, .int .u8 101), (3, .int .u8 104), (4, .int .u8 111), (5, .int .u8 117), (6, .int .u8 115), (7, .int .u8 101)]) (by simp [Act.eval]) hlit ?_))
    have hcv := Lib.run_convert_bytes_const (P := Tryz.prog) w3 60 5 (LT.map u8v).toArray 8 8 Tryz.underlying60 Tryz.underlying5
    have H6 := H4.allocO (.cells (LT.map u8v).toArray 5 ((LT.map u8v).toArray.size, (LT.map u8v).toArray.size + 1))
    obtain ⟨W6, hW6⟩ : ∃ W6, W6 = w3.alloc (.cells (LT.map u8v).toArray 5 ((LT.map u8v).toArray.size, (LT.map u8v).toArray.size + 1)) := ⟨_, rfl⟩
    rw [← hW6] at H6 hcv
    rw [hcv]
    clear hW6 hcv
    go_wp2_with fail
    refine ((put64m (.slice (some ⟨w3.heap.size, 0, none⟩) 8 8) LT t 16 B1 (by rw [HL0.out]) HB1.out (by decide) ht).call (L := []) H6 (share1 (obj_byt_imp HL0.out (by decide)) memHead)).mono ?_
    rintro e w6 ⟨_, _, rfl, ⟨a1, c1, rfl, rfl⟩, H7⟩
    have H8 := St.pick H7 [0, 2, 3]
    clear H4 H6 H7 hlit
    go_upto_region 4 with fail
    refine wp_region_gh (Θ := Option Addr × Nat × Option Addr × Nat) (fun (a2, c2, a3, c3) => [(0, 18, (.slice a1 16 c1)), (1, 19, (.pointer (some ⟨xb, 0, none⟩))), (2, 20, (.int .i64 sn)), (3, 21, (.int .u16 (sn : Int))), (4, 22, (.slice a2 18 c2)), (5, 23, (.pointer (some ⟨xb, 1, none⟩))), (6, 24, (.int .i64 cn)), (7, 25, (.int .u16 (cn : Int))), (8, 26, (.slice a3 20 c3)), (9, 6, (.slice a3 20 c3))]) (fun (a2, c2, a3, c3) done WW => St w B (bif done 8 then [ownA 5 1 (.slice a3 20 c3) 20 (B3.map u8v), ownA 5 1 (.slice a2 18 c2) 18 (B2.map u8v), ownA 5 1 (.slice a1 16 c1) 16 (B1.map u8v), blkA rb (z.map u8v) 38, blkA xb [.int .i64 sn, .int .i64 cn, .int .u64 gen, .int .u64 ret, .int .u64 resv, .int .u64 flush] 51] else (bif done 4 then [ownA 5 1 (.slice a2 18 c2) 18 (B2.map u8v), ownA 5 1 (.slice a1 16 c1) 16 (B1.map u8v), blkA rb (z.map u8v) 38, blkA xb [.int .i64 sn, .int .i64 cn, .int .u64 gen, .int .u64 ret, .int .u64 resv, .int .u64 flush] 51] else ([ownA 5 1 (.slice a1 16 c1) 16 (B1.map u8v), blkA rb (z.map u8v) 38, blkA xb [.int .i64 sn, .int .i64 cn, .int .u64 gen, .int .u64 ret, .int .u64 resv, .int .u64 flush] 51]))) [] WW) (by kernel_rfl) (hord_of2 (by kernel_rfl)) (fun _ => by kernel_rfl) (fun _ => by kernel_rfl) (fun _ => by kernel_rfl) ⟨(none, 0, none, 0), H8.drew⟩ ?_ ?_
    · intro (a2, c2, a3, c3) done zb WW j oq ho hd hdep hcl HA HJ
      have hj : j < 10 := (Array.getElem?_eq_some_iff.1 ho).1
      obtain rfl | rfl | rfl | rfl | rfl | rfl | rfl | rfl | rfl | rfl : j = 0 ∨ j = 1 ∨ j = 2 ∨ j = 3 ∨ j = 4 ∨ j = 5 ∨ j = 6 ∨ j = 7 ∨ j = 8 ∨ j = 9 := by omega
      · have n4 : done 4 = false := by cases hx : done 4 with | false => rfl | true => have := hcl 4 _ rfl hx ⟨0, .data⟩ (by simp) rfl; rw [hd] at this; cases this
        have n8 : done 8 = false := by cases hx : done 8 with | false => rfl | true => have := hcl 8 _ rfl hx ⟨4, .data⟩ (by simp) rfl; rw [n4] at this; cases this
        have n9 : done 9 = false := by cases hx : done 9 with | false => rfl | true => have := hcl 9 _ rfl hx ⟨8, .data⟩ (by simp) rfl; rw [n8] at this; cases this
        exact valG (θ := (a2, c2, a3, c3)) (.slice a1 16 c1) ho (by cases ho; rfl) (by cases ho; simp [execOp, go_sem, HA.tm, lookT, n9, n9]) (by cases ho; exact fun d hd => by cases hd; simp) HJ
      · exact valG (θ := (a2, c2, a3, c3)) (.pointer (some ⟨xb, 0, none⟩)) ho (by cases ho; rfl) (by cases ho; simp [execOp, go_sem, HA.tm, lookT]) (by cases ho; exact fun d hd => by cases hd; simp) HJ
      · have p1 : done 1 = true := by cases ho; exact hdep ⟨1, .data⟩ (by simp) rfl
        have n3 : done 3 = false := by cases hx : done 3 with | false => rfl | true => have := hcl 3 _ rfl hx ⟨2, .data⟩ (by simp) rfl; rw [hd] at this; cases this
        have n4 : done 4 = false := by cases hx : done 4 with | false => rfl | true => have := hcl 4 _ rfl hx ⟨3, .data⟩ (by simp) rfl; rw [n3] at this; cases this
        have n8 : done 8 = false := by cases hx : done 8 with | false => rfl | true => have := hcl 8 _ rfl hx ⟨4, .data⟩ (by simp) rfl; rw [n4] at this; cases this
        have hcl_ : ∀ k, WW.cell? ⟨xb, k, none⟩ = ([.int .i64 sn, .int .i64 cn, .int .u64 gen, .int .u64 ret, .int .u64 resv, .int .u64 flush])[k]? := by
          have HQ := HJ
          simp only [n4, n8, hd, cond_true, cond_false] at HQ <;> first | exact (St.cells HQ 0).1 | exact (St.cells HQ 1).1 | exact (St.cells HQ 2).1 | exact (St.cells HQ 3).1 | exact (St.cells HQ 4).1 | exact (St.cells HQ 5).1 | exact (St.cells HQ 6).1 | exact (St.cells HQ 7).1
        exact valG (θ := (a2, c2, a3, c3)) (.int .i64 sn) ho (by cases ho; rfl) (by cases ho; simp [execOp, go_sem, HA.tm, lookT, p1, hcl_]) (by cases ho; exact fun d hd => by cases hd; simp) HJ
      · have p2 : done 2 = true := by cases ho; exact hdep ⟨2, .data⟩ (by simp) rfl
        exact valG (θ := (a2, c2, a3, c3)) (.int .u16 (sn : Int)) ho (by cases ho; rfl) (by cases ho; simp [execOp, go_sem, HA.tm, lookT, p2, hw1]) (by cases ho; exact fun d hd => by cases hd; simp) HJ
      · have p0 : done 0 = true := by cases ho; exact hdep ⟨0, .data⟩ (by simp) rfl
        have p3 : done 3 = true := by cases ho; exact hdep ⟨3, .data⟩ (by simp) rfl
        have n8 : done 8 = false := by cases hx : done 8 with | false => rfl | true => have := hcl 8 _ rfl hx ⟨4, .data⟩ (by simp) rfl; rw [hd] at this; cases this
        have n9 : done 9 = false := by cases hx : done 9 with | false => rfl | true => have := hcl 9 _ rfl hx ⟨8, .data⟩ (by simp) rfl; rw [n8] at this; cases this
        have HS : St w B [ownA 5 1 (.slice a1 16 c1) 16 (B1.map u8v), blkA rb (z.map u8v) 38, blkA xb [.int .i64 sn, .int .i64 cn, .int .u64 gen, .int .u64 ret, .int .u64 resv, .int .u64 flush] 51] [] WW := St.cast (by simp only [n8, hd, cond_true, cond_false]) HJ
        exact callG (θ := (a2, c2, a3, c3)) (f := 86) (args := #[(.slice a1 16 c1), .int .u16 (sn : Int)]) ho (by cases ho; rfl) (by cases ho; simp [execOp, go_sem, HA.tm, lookT, p0, p3]) ((put16m (.slice a1 16 c1) B1 sn 18 B2 (by rw [HL1.out]) HB2.out (by decide) hs1).call (L := []) HS (share1 (own_byt_imp HL1.out.symm) memHead)) (by
          rintro e w' ⟨_, _, rfl, ⟨a', c', rfl, rfl⟩, HS'⟩
          exact ⟨_, (a', c', a3, c3), rfl, by cases ho; exact fun d hd => by cases hd; simp, (.inr (.cons (.inl rfl) (.cons (.inl rfl) (.cons (.inl rfl) (.cons (.inl rfl) (.cons (.inr ⟨rfl, hd⟩) (.cons (.inl rfl) (.cons (.inl rfl) (.cons (.inl rfl) (.cons (.inr ⟨rfl, n8⟩) (.cons (.inr ⟨rfl, n9⟩) (.nil)))))))))))), (St.cast (by simp [n8, n8] <;> rfl) HS')⟩)
      · exact valG (θ := (a2, c2, a3, c3)) (.pointer (some ⟨xb, 1, none⟩)) ho (by cases ho; rfl) (by cases ho; simp [execOp, go_sem, HA.tm, lookT]) (by cases ho; exact fun d hd => by cases hd; simp) HJ
      · have p5 : done 5 = true := by cases ho; exact hdep ⟨5, .data⟩ (by simp) rfl
        have n7 : done 7 = false := by cases hx : done 7 with | false => rfl | true => have := hcl 7 _ rfl hx ⟨6, .data⟩ (by simp) rfl; rw [hd] at this; cases this
        have n8 : done 8 = false := by cases hx : done 8 with | false => rfl | true => have := hcl 8 _ rfl hx ⟨7, .data⟩ (by simp) rfl; rw [n7] at this; cases this
        have hcl_ : ∀ k, WW.cell? ⟨xb, k, none⟩ = ([.int .i64 sn, .int .i64 cn, .int .u64 gen, .int .u64 ret, .int .u64 resv, .int .u64 flush])[k]? := by
          have HQ := HJ
          cases g4 : done 4 <;> simp only [n8, g4, hd, cond_true, cond_false] at HQ <;> first | exact (St.cells HQ 0).1 | exact (St.cells HQ 1).1 | exact (St.cells HQ 2).1 | exact (St.cells HQ 3).1 | exact (St.cells HQ 4).1 | exact (St.cells HQ 5).1 | exact (St.cells HQ 6).1 | exact (St.cells HQ 7).1
        exact valG (θ := (a2, c2, a3, c3)) (.int .i64 cn) ho (by cases ho; rfl) (by cases ho; simp [execOp, go_sem, HA.tm, lookT, p5, hcl_]) (by cases ho; exact fun d hd => by cases hd; simp) HJ
      · have p6 : done 6 = true := by cases ho; exact hdep ⟨6, .data⟩ (by simp) rfl
        exact valG (θ := (a2, c2, a3, c3)) (.int .u16 (cn : Int)) ho (by cases ho; rfl) (by cases ho; simp [execOp, go_sem, HA.tm, lookT, p6, hw2]) (by cases ho; exact fun d hd => by cases hd; simp) HJ
      · have p4 : done 4 = true := by cases ho; exact hdep ⟨4, .data⟩ (by simp) rfl
        have p7 : done 7 = true := by cases ho; exact hdep ⟨7, .data⟩ (by simp) rfl
        have n9 : done 9 = false := by cases hx : done 9 with | false => rfl | true => have := hcl 9 _ rfl hx ⟨8, .data⟩ (by simp) rfl; rw [hd] at this; cases this
        have HS : St w B [ownA 5 1 (.slice a2 18 c2) 18 (B2.map u8v), ownA 5 1 (.slice a1 16 c1) 16 (B1.map u8v), blkA rb (z.map u8v) 38, blkA xb [.int .i64 sn, .int .i64 cn, .int .u64 gen, .int .u64 ret, .int .u64 resv, .int .u64 flush] 51] [] WW := St.cast (by simp only [p4, hd, cond_true, cond_false]) HJ
        exact callG (θ := (a2, c2, a3, c3)) (f := 86) (args := #[(.slice a2 18 c2), .int .u16 (cn : Int)]) ho (by cases ho; rfl) (by cases ho; simp [execOp, go_sem, HA.tm, lookT, p4, p7]) ((put16m (.slice a2 18 c2) B2 cn 20 B3 (by rw [HL2.out]) HB3.out (by decide) hs2).call (L := []) HS (share1 (own_byt_imp HL2.out.symm) memHead)) (by
          rintro e w' ⟨_, _, rfl, ⟨a', c', rfl, rfl⟩, HS'⟩
          exact ⟨_, (a2, c2, a', c'), rfl, by cases ho; exact fun d hd => by cases hd; simp, (.inr (.cons (.inl rfl) (.cons (.inl rfl) (.cons (.inl rfl) (.cons (.inl rfl) (.cons (.inl rfl) (.cons (.inl rfl) (.cons (.inl rfl) (.cons (.inl rfl) (.cons (.inr ⟨rfl, hd⟩) (.cons (.inr ⟨rfl, n9⟩) (.nil)))))))))))), (St.cast (by simp [p4] <;> rfl) HS')⟩)
      · have p8 : done 8 = true := by cases ho; exact hdep ⟨8, .data⟩ (by simp) rfl
        exact valG (θ := (a2, c2, a3, c3)) (.slice a3 20 c3) ho (by cases ho; rfl) (by cases ho; simp [execOp, go_sem, HA.tm, lookT, p8]) (by cases ho; exact fun d hd => by cases hd; simp) HJ
    · intro (a2, c2, a3, c3) done WW hall HJ
      have z4 := hall 4 (by decide)
      have z8 := hall 8 (by decide)
      have HE : St w B [ownA 5 1 (.slice a3 20 c3) 20 (B3.map u8v), ownA 5 1 (.slice a2 18 c2) 18 (B2.map u8v), ownA 5 1 (.slice a1 16 c1) 16 (B1.map u8v), blkA rb (z.map u8v) 38, blkA xb [.int .i64 sn, .int .i64 cn, .int .u64 gen, .int .u64 ret, .int .u64 resv, .int .u64 flush] 51] [] WW := St.cast (by simp [z4, z8]) HJ
      clear HJ hall z4 z8
      simp only [putAll, Act.put, List.setIfInBounds_toArray, List.set_cons_succ, List.set_cons_zero]
      have H9 := St.pick HE [0, 3, 4]
      clear HE H8
      obtain ⟨hc, hf⟩ := St.cells H9 2
      go_wp2_with fail
      go_loopg [6, 8, 36] 4 (fun gg b6 b8 b36 wr => ∃ (j n : Nat) (q : Int), ((j = 0 ∧ n = 20 ∧ q = 0) ∨ (j = 1 ∧ n = 28 ∧ q = 1) ∨ (j = 2 ∧ n = 36 ∧ q = 2) ∨ (j = 3 ∧ n = 44 ∧ q = 3) ∨ (j = 4 ∧ n = 52 ∧ q = 4)) ∧ gg = 4 - j ∧ b36 = .int .i64 q ∧ ∃ a c, b6 = .slice a n c ∧ Hid (St w B [ownA 5 1 (.slice a n c) n ((FF j).map u8v), blkA rb (z.map u8v) 38] [] wr))
      case atStart => exact ⟨0, 20, 0, .inl ⟨rfl, rfl, rfl⟩, rfl, rfl, a3, c3, rfl, Lib.hid (by rw [HF0.out]; exact St.pick H9 [0, 1])⟩
      case round =>
      obtain ⟨j, n, q, hj, rfl, rfl, a, c, rfl, HI⟩ := hrel
      clear H9 hc hf
      have HI := HI.out
      have ix0 : ∀ W, (Instr.index 188 (.agg #[.int .u64 gen, .int .u64 ret, .int .u64 resv, .int .u64 flush]) (.int .i64 0)).run Tryz.prog W = .ok (.int .u64 gen) W := fun W => by kernel_rfl
      have ix1 : ∀ W, (Instr.index 188 (.agg #[.int .u64 gen, .int .u64 ret, .int .u64 resv, .int .u64 flush]) (.int .i64 1)).run Tryz.prog W = .ok (.int .u64 ret) W := fun W => by kernel_rfl
      have ix2 : ∀ W, (Instr.index 188 (.agg #[.int .u64 gen, .int .u64 ret, .int .u64 resv, .int .u64 flush]) (.int .i64 2)).run Tryz.prog W = .ok (.int .u64 resv) W := fun W => by kernel_rfl
      have ix3 : ∀ W, (Instr.index 188 (.agg #[.int .u64 gen, .int .u64 ret, .int .u64 resv, .int .u64 flush]) (.int .i64 3)).run Tryz.prog W = .ok (.int .u64 flush) W := fun W => by kernel_rfl
      rcases hj with ⟨rfl, rfl, rfl⟩ | ⟨rfl, rfl, rfl⟩ | ⟨rfl, rfl, rfl⟩ | ⟨rfl, rfl, rfl⟩ | ⟨rfl, rfl, rfl⟩
      · go_wp2_with fail
        refine ((put64m (.slice a 20 c) (FF 0) gen 28 (FF 1) (by rw [HLF.out 0 (by omega)]) HFS0.out (by decide) hg1).call (L := []) HI (share1 (own_byt_imp (HLF.out 0 (by omega)).symm) memHead)).mono ?_
        rintro e w7 ⟨_, _, rfl, ⟨a', c', rfl, rfl⟩, HI2⟩
        go_wp2_with fail
        go_roundg 3
        case measure => omega
        case rel => exact ⟨1, 28, 1, .inr (.inl ⟨rfl, rfl, rfl⟩), rfl, rfl, a', c', rfl, Lib.hid (St.pick HI2 [0, 2])⟩
      · go_wp2_with fail
        refine ((put64m (.slice a 28 c) (FF 1) ret 36 (FF 2) (by rw [HLF.out 1 (by omega)]) HFS1.out (by decide) hr1).call (L := []) HI (share1 (own_byt_imp (HLF.out 1 (by omega)).symm) memHead)).mono ?_
        rintro e w7 ⟨_, _, rfl, ⟨a', c', rfl, rfl⟩, HI2⟩
        go_wp2_with fail
        go_roundg 2
        case measure => omega
        case rel => exact ⟨2, 36, 2, .inr (.inr (.inl ⟨rfl, rfl, rfl⟩)), rfl, rfl, a', c', rfl, Lib.hid (St.pick HI2 [0, 2])⟩
      · go_wp2_with fail
        refine ((put64m (.slice a 36 c) (FF 2) resv 44 (FF 3) (by rw [HLF.out 2 (by omega)]) HFS2.out (by decide) hv1).call (L := []) HI (share1 (own_byt_imp (HLF.out 2 (by omega)).symm) memHead)).mono ?_
        rintro e w7 ⟨_, _, rfl, ⟨a', c', rfl, rfl⟩, HI2⟩
        go_wp2_with fail
        go_roundg 1
        case measure => omega
        case rel => exact ⟨3, 44, 3, .inr (.inr (.inr (.inl ⟨rfl, rfl, rfl⟩))), rfl, rfl, a', c', rfl, Lib.hid (St.pick HI2 [0, 2])⟩
      · go_wp2_with fail
        refine ((put64m (.slice a 44 c) (FF 3) flush 52 (FF 4) (by rw [HLF.out 3 (by omega)]) HFS3.out (by decide) hf1).call (L := []) HI (share1 (own_byt_imp (HLF.out 3 (by omega)).symm) memHead)).mono ?_
        rintro e w7 ⟨_, _, rfl, ⟨a', c', rfl, rfl⟩, HI2⟩
        go_wp2_with fail
        go_roundg 0
        case measure => omega
        case rel => exact ⟨4, 52, 4, .inr (.inr (.inr (.inr ⟨rfl, rfl, rfl⟩))), rfl, rfl, a', c', rfl, Lib.hid (St.pick HI2 [0, 2])⟩
      · rw [HF4.out] at HI
        have H11 := HI.alloc zL64 38
        obtain ⟨ob, hob⟩ : ∃ ob, ob = wr.heap.size := ⟨_, rfl⟩
        rw [← hob] at H11
        clear ix0 ix1 ix2 ix3
        go_upto_region 11 with fail
        rw [← hob]
        have HOB := Lib.hid hob
        clear hob
        refine wp_world (fun W => St w B _ _ W) H11 ?_
        intro w9 H12
        clear H11 HI
        rw [zeroBlock, ← HZ.out] at H12
        have hzl : z.length = 64 := by rw [HZ.out]; rfl
        obtain ⟨X1, hX1⟩ : ∃ X1, z.take 0 ++ sh ++ z.drop (0 + sh.length) = X1 := ⟨_, rfl⟩
        have hX1e : X1 = sa ++ List.replicate 8 0 := by
          rw [← hX1, HA0.out, HLH.out, HZ.out]
          simp
        have HX1L : Hid (X1.length = 64) := Lib.hid (by rw [hX1e, List.length_append, HLA.out]; rfl)
        have hX56 : X1.take 56 = sa := by rw [hX1e]; exact List.take_left' HLA.out
        have HX12 : Hid (X1.take 56 ++ beB (hashB sa) 8 ++ X1.drop (56 + (beB (hashB sa) 8).length) = sb) := Lib.hid (by
          rw [hX56, beB_len, List.drop_of_length_le (by rw [HX1L.out]; exact Nat.le_refl _), HB.out, List.append_nil])
        obtain ⟨w10, hr, H13⟩ := St.copyIn (l := sh) (ys := X1) H12 0 rfl 0 64 64 (.slice a 52 c) (by have := own_byt (St.own H12 1); exact this) (by rw [HLH.out]; decide) (by rw [HLH.out, hzl]; decide) hX1
        rw [HLH.out] at hr
        have HHS : Meets Tryz.prog 117 #[.slice (some ⟨ob, 0, none⟩) 56 64] [] [bytA (.slice (some ⟨ob, 0, none⟩) 56 64) sa] fun v L => v = .int .u64 (hashB sa) ∧ L = [] := by
          have := hash (some ⟨ob, 0, none⟩) 64 sa
          rwa [HLA.out] at this
        have HIM : (blkA ob (X1.map u8v) 38).imp (bytA (.slice (some ⟨ob, 0, none⟩) 56 64) sa) := by
          have := blk_byt_imp (b := ob) (n := 56) (cap := 64) (xs := X1) (ty := 38) (by rw [HX1L.out]; decide) (by decide) (by decide)
          rwa [hX56] at this
        have H14 := St.pick H13 [0, 2]
        have HR := Lib.hid hr
        clear hX1 hX1e hX56 H12 H13 hzl hr
        go_upto_region 12 with fail
        rw [HR.out]
        go_upto_region 12 with fail
        refine wp_region_gh (Θ := Option Addr × Nat) (fun (a8, c8) => [(0, 46, (.slice (some ⟨ob, 56, none⟩) 8 8)), (1, 47, (.slice (some ⟨ob, 0, none⟩) 56 64)), (2, 48, (.int .u64 (hashB sa))), (3, 49, (.slice a8 8 c8)), (4, 50, (.int .i64 8))]) (fun (a8, c8) done WW => St w B (bif done 4 then [ownA 5 1 (.slice a8 8 c8) 8 ((beB (hashB sa) 8).map u8v), blkA ob (sb.map u8v) 38, blkA rb (z.map u8v) 38] else (bif done 3 then [ownA 5 1 (.slice a8 8 c8) 8 ((beB (hashB sa) 8).map u8v), blkA ob (X1.map u8v) 38, blkA rb (z.map u8v) 38] else (bif done 2 then [blkA ob (X1.map u8v) 38, blkA rb (z.map u8v) 38] else ([blkA ob (X1.map u8v) 38, blkA rb (z.map u8v) 38])))) [] WW) (by kernel_rfl) (hord_of2 (by kernel_rfl)) (fun _ => by kernel_rfl) (fun _ => by kernel_rfl) (fun _ => by kernel_rfl) ⟨(none, 0), H14.drew⟩ ?_ ?_
        · intro (a8, c8) done zb WW j oq ho hd hdep hcl HA HJ
          have hj : j < 5 := (Array.getElem?_eq_some_iff.1 ho).1
          obtain rfl | rfl | rfl | rfl | rfl : j = 0 ∨ j = 1 ∨ j = 2 ∨ j = 3 ∨ j = 4 := by omega
          · exact valG (θ := (a8, c8)) (.slice (some ⟨ob, 56, none⟩) 8 8) ho (by cases ho; rfl) (by cases ho; simp [execOp, go_sem, HA.tm, lookT]) (by cases ho; exact fun d hd => by cases hd; simp) HJ
          · exact valG (θ := (a8, c8)) (.slice (some ⟨ob, 0, none⟩) 56 64) ho (by cases ho; rfl) (by cases ho; simp [execOp, go_sem, HA.tm, lookT]) (by cases ho; exact fun d hd => by cases hd; simp) HJ
          · have p1 : done 1 = true := by cases ho; exact hdep ⟨1, .data⟩ (by simp) rfl
            have n3 : done 3 = false := by cases hx : done 3 with | false => rfl | true => have := hcl 3 _ rfl hx ⟨2, .data⟩ (by simp) rfl; rw [hd] at this; cases this
            have n4 : done 4 = false := by cases hx : done 4 with | false => rfl | true => have := hcl 4 _ rfl hx ⟨3, .data⟩ (by simp) rfl; rw [n3] at this; cases this
            have HS : St w B [blkA ob (X1.map u8v) 38, blkA rb (z.map u8v) 38] [] WW := St.cast (by simp only [n3, n4, hd, cond_true, cond_false]) HJ
            exact callG (θ := (a8, c8)) (f := 117) (args := #[.slice (some ⟨ob, 0, none⟩) 56 64]) ho (by cases ho; rfl) (by cases ho; simp [execOp, go_sem, HA.tm, lookT, p1]) (HHS.call (L := []) HS (share1 HIM memHead)) (by
              rintro e w' ⟨_, _, rfl, ⟨rfl, rfl⟩, HS'⟩
              exact ⟨_, (a8, c8), rfl, by cases ho; exact fun d hd => by cases hd; simp, (.inr (.cons (.inl rfl) (.cons (.inl rfl) (.cons (.inl rfl) (.cons (.inr ⟨rfl, n3⟩) (.cons (.inl rfl) (.nil))))))), (St.cast (by simp [n3, n4, n3, n4] <;> rfl) HS')⟩)
          · have p2 : done 2 = true := by cases ho; exact hdep ⟨2, .data⟩ (by simp) rfl
            have n4 : done 4 = false := by cases hx : done 4 with | false => rfl | true => have := hcl 4 _ rfl hx ⟨3, .data⟩ (by simp) rfl; rw [hd] at this; cases this
            have HS : St w B [blkA ob (X1.map u8v) 38, blkA rb (z.map u8v) 38] [] WW := St.cast (by simp only [p2, n4, hd, cond_true, cond_false]) HJ
            exact callG (θ := (a8, c8)) (f := 100) (args := #[.slice none 0 0, .int .u64 (hashB sa)]) ho (by cases ho; rfl) (by cases ho; simp [execOp, go_sem, HA.tm, lookT, p2]) ((put64m (.slice none 0 0) [] (hashB sa) 8 (beB (hashB sa) 8) rfl rfl (by decide) (Nat.le_of_lt_succ (hashB_lt sa))).call (L := []) HS (share1 (byt_nil_imp _) memHead)) (by
              rintro e w' ⟨_, _, rfl, ⟨a', c', rfl, rfl⟩, HS'⟩
              exact ⟨_, (a', c'), rfl, by cases ho; exact fun d hd => by cases hd; simp, (.inr (.cons (.inl rfl) (.cons (.inl rfl) (.cons (.inl rfl) (.cons (.inr ⟨rfl, hd⟩) (.cons (.inl rfl) (.nil))))))), (St.cast (by simp [p2, n4, n4] <;> rfl) HS')⟩)
          · have p0 : done 0 = true := by cases ho; exact hdep ⟨0, .data⟩ (by simp) rfl
            have p3 : done 3 = true := by cases ho; exact hdep ⟨3, .data⟩ (by simp) rfl
            have p2 : done 2 = true := hcl 3 _ rfl p3 ⟨2, .data⟩ (by simp) rfl
            have HS : St w B [ownA 5 1 (.slice a8 8 c8) 8 ((beB (hashB sa) 8).map u8v), blkA ob (X1.map u8v) 38, blkA rb (z.map u8v) 38] [] WW := St.cast (by simp only [p2, p3, hd, cond_true, cond_false]) HJ
            obtain ⟨w', hr, HS'⟩ := St.copyIn (l := beB (hashB sa) 8) (ys := sb) HS 1 rfl 56 8 8 (.slice a8 8 c8) (by have := own_byt (St.own HS 0); exact this) (by rw [beB_len]; exact Nat.le_refl _) (by rw [beB_len, HX1L.out]; exact Nat.le_refl _) HX12.out
            exact valGG (θ := (a8, c8)) (a8, c8) (.int .i64 8) ho (by cases ho; rfl) (by cases ho; simp [execOp, go_sem, HA.tm, lookT, p0, p2, p3]; rw [hr]; first | done | rfl) (by cases ho; exact fun d hd => by cases hd; simp) (.inr (.cons (.inl rfl) (.cons (.inl rfl) (.cons (.inl rfl) (.cons (.inl rfl) (.cons (.inl rfl) (.nil))))))) (St.cast (by simp [p2, p3] <;> rfl) HS')
        · intro (a8, c8) done WW hall HJ
          have z2 := hall 2 (by decide)
          have z3 := hall 3 (by decide)
          have z4 := hall 4 (by decide)
          have HE : St w B [ownA 5 1 (.slice a8 8 c8) 8 ((beB (hashB sa) 8).map u8v), blkA ob (sb.map u8v) 38, blkA rb (z.map u8v) 38] [] WW := St.cast (by simp [z2, z3, z4]) HJ
          clear HJ hall z2 z3 z4
          simp only [putAll, Act.put, List.setIfInBounds_toArray, List.set_cons_succ, List.set_cons_zero]
          have H15 := St.pick HE [1, 2]
          clear HE H14 HHS HIM
          have hsl : (sb.map u8v).length = 64 := by rw [List.length_map, HSB.out]
          have hs1 := u8v_one sb
          obtain ⟨sl, hsv⟩ : ∃ sl, sl = sb.map u8v := ⟨_, rfl⟩
          rw [← hsv] at H15 hsl hs1
          have hrg := St.range H15 0
          have hzl : (z.map u8v).length = 64 := by rw [List.length_map, HZ.out]; rfl
          have HT : WW.there rb 0 64 := St.there H15 1 64 rfl (by rw [hzl]; exact Nat.le_refl _)
          have H16 := St.setAllAt H15 1 (vs := sl) rfl (by rw [hsl, hzl])
          have HSV := Lib.hid hsv
          clear hsv hzl
          go_wp2_with (first | (refine wpl_load rfl _ _ rfl ob 0 (by rfl) sl 64 hsl hrg bigBlock ?_) | ((refine wpl_store rfl _ _ _ rfl rb 0 (by rfl) sl (by rfl) 64 hsl HT bigBlock hs1 ?_); (refine wpl_world _ H16 ?_); intro w16 H17))
          refine bodyPost_ret (results_ct rfl rfl bigBlock (St.range H17 1) hsl) rfl (Back.mk ⟨?_, rfl⟩ (St.pick H17 []))
          rw [HSV.out]; rfl
end Go.Proofs.YtjmocjcjiiopnaaGreat
end

section
set_option linter.unusedVariables false
set_option linter.unusedSimpArgs false
namespace Go.Oct
/-- What a superblock would say. -/
def supX (b : List UInt8) : Sp := ⟨numB ((b.drop 16).take 2), numB ((b.drop 18).take 2), numB ((b.drop 20).take 8), numB ((b.drop 28).take 8), numB ((b.drop 36).take 8), numB ((b.drop 44).take 8)⟩
def supT (b : List UInt8) : Nat := numB ((b.drop 8).take 8)
/-- What it says. -/
def supD (b : List UInt8) : Option (Sp × Nat) := if (supX b).may = true ∧ supB (supX b) (supT b) = b then some (supX b, supT b) else none
theorem supX_fits (b : List UInt8) (hb : b.length = 64) : (supX b).fits ∧ supT b ≤ 18446744073709551615 := by
  have h : ∀ k, k + 8 ≤ 64 → numB ((b.drop k).take 8) ≤ 18446744073709551615 := fun k hk => by
    have : numB ((b.drop k).take 8) < 18446744073709551616 := numB_take (b.drop k) 8 (by rw [List.length_drop]; omega)
    omega
  exact ⟨⟨h 20 (by omega), h 28 (by omega), h 36 (by omega), h 44 (by omega)⟩, h 8 (by omega)⟩
end Go.Oct
namespace Go.Proofs.YtjmocjcjiiopnaaGreat
open Go.RowKit Go.Ice Go.Oct
/-- What Decode answers. -/
def supQ (o : Option (Sp × Nat)) : Value := match o with
  | some (x, t) => .tuple #[supV x, .int .u64 t, .int .i64 0]
  | none => .tuple #[supV ⟨0, 0, 0, 0, 0, 0⟩, .int .u64 0, .int .i64 170]
theorem bigSup : Big Tryz.prog 51 6 := ⟨⟨_, Tryz.underlying51, rfl⟩, by kernel_rfl⟩
end Go.Proofs.YtjmocjcjiiopnaaGreat
end
