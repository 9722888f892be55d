/- The document's stamped sector and header: Block, Header. Conditions: the payload has at most 48 bytes. Plain: what a sector says, by the document's words. Conditions: it has 64 bytes. -/
import Derived.Test.YtjmocjcjiiopnaaGreatLogScans31
import Derived.Test.YtjmocjcjiiopnaaGreatLogScans14
import Derived.Test.YtjmocjcjiiopnaaGreatLogScans20
import Derived.Test.YtjmocjcjiiopnaaGreatLogScans11

section
set_option linter.unusedVariables false
set_option linter.unusedSimpArgs false
namespace Go.Proofs.YtjmocjcjiiopnaaGreat
open Go.RowKit Go.Ice Go.Oct Go.Lg
theorem fill_set (b : List UInt8) (i : Nat) (h : i < b.length) (hb : b.length ≤ 64) : ((b.take i ++ List.replicate (64 - i) (0 : UInt8)).map u8v).set i (u8v (b.getD i 0)) = (b.take (i + 1) ++ List.replicate (64 - (i + 1)) (0 : UInt8)).map u8v := by
  rw [take_snoc h, show 64 - i = 64 - (i + 1) + 1 by omega, List.replicate_succ, List.map_append, List.set_append_right _ _ (by simp; omega), List.append_assoc, List.map_append]
  congr 1
  rw [List.length_map, List.length_take, Nat.min_eq_left (by omega), Nat.sub_self]
  rfl
/-- Both, of what is held. -/
theorem rbothH {w0 w : World} {B : Nat → Prop} {M S : List Asn} (a b : Option Addr) (n k c d : Nat) (l m : List UInt8) (hn : l.length = n) (hk : m.length = k) (hl : n ≤ 1000000) (hm : k ≤ 1000000) (H : St w0 B M S w) (h1 : ∃ A ∈ S ++ M, A.imp (bytA (.slice a n c) l)) (h2 : ∃ A ∈ S ++ M, A.imp (bytA (.slice b k d) m)) :
    Calls Tryz.prog 92 #[.slice a n c, .slice b k d] w fun e w' => ∃ x y, e = .returned (.slice x (n + k) y) ∧ St w0 B (ownA 5 1 (.slice x (n + k) y) (n + k) ((l ++ m).map u8v) :: M) S w' := by
  subst hn hk
  refine ((rboth a b c d l m hl hm).call (L := []) (M := M) H (fun A hA => ?_)).mono ?_
  · simp only [List.mem_cons, List.mem_nil_iff, or_false] at hA
    rcases hA with rfl | rfl
    · exact h1
    · exact h2
  · rintro e w' ⟨_, _, rfl, ⟨x, y, rfl, rfl⟩, h⟩
    exact ⟨x, y, rfl, h⟩
set_option maxHeartbeats 16000000 in
set_option maxRecDepth 20000 in
theorem rblock (g p : Nat) (x : Option Addr) (c : Nat) (l : List UInt8) (hg : g < 18446744073709551616) (hp : p < 4294967296) (hl : l.length ≤ 48) : Meets Tryz.prog 93 #[.int .u64 g, .int .u32 p, .slice x l.length c] [] [bytA (.slice x l.length c) l] fun v L => v = blkV (packB g p l) ∧ L = [] := by
  intro w B H
  have hs0 : bytA (.slice x l.length c) l ∈ [bytA (.slice x l.length c) l] := by simp
  generalize [bytA (.slice x l.length c) l] = S at *
  have HS0 := Lib.hid hs0
  clear hs0
  obtain ⟨n, hn⟩ : ∃ n, n = l.length := ⟨_, rfl⟩
  rw [← hn] at hl ⊢
  have HN := Lib.hid hn
  clear hn
  have HH8 := rhigh g 8 hg (by decide)
  have HH4 := rhigh p 4 (by omega) (by decide)
  have HH2 := rhigh n 2 (by omega) (by decide)
  have H1 := H.alloc zL64 38
  obtain ⟨ob, hob⟩ : ∃ ob, ob = w.heap.size := ⟨_, rfl⟩
  rw [← hob] at H1
  go_enter Tryz.func93, Tryz.ntmps93
  go_upto_region 1 with fail
  rw [← hob]
  clear hob
  refine wp_world (fun W => St w B _ _ W) H1 ?_
  intro w1 H2
  clear H H1
  go_wp2_with fail
  refine (HH8.call (L := []) (M := [_]) H2 (by simp)).mono ?_
  rintro e w2 ⟨_, _, rfl, ⟨g1, rfl, rfl⟩, H3⟩
  clear H2 HH8
  go_wp2_with fail
  refine (HH4.call (L := []) (M := [_, _]) H3 (by simp)).mono ?_
  rintro e w3 ⟨_, _, rfl, ⟨g2, rfl, rfl⟩, H4⟩
  clear H3 HH4
  go_wp2_with fail
  refine (rbothH _ _ 8 4 _ _ (beB g 8) (beB p 4) (beB_len _ _) (beB_len _ _) (by decide) (by decide) H4 ⟨ownA 5 1 (.slice (some ⟨g1, 0, none⟩) 8 8) 8 ((beB g 8).map u8v), List.mem_append_right _ (by simp), own_imp_byt _ (beB g 8)⟩ ⟨ownA 5 1 (.slice (some ⟨g2, 0, none⟩) 4 4) 4 ((beB p 4).map u8v), List.mem_append_right _ (by simp), own_imp_byt _ (beB p 4)⟩).mono ?_
  rintro e w4 ⟨x1, y1, rfl, H5⟩
  clear H4
  go_wp2_with fail
  refine (HH2.call (L := []) (M := [_, _, _, _]) H5 (by simp)).mono ?_
  rintro e w5 ⟨_, _, rfl, ⟨g3, rfl, rfl⟩, H6⟩
  clear H5 HH2
  go_wp2_with fail
  refine (rbothH _ _ 12 2 _ _ (beB g 8 ++ beB p 4) (beB n 2) (by simp [beB_len]) (beB_len _ _) (by decide) (by decide) H6 ⟨ownA 5 1 (.slice x1 (8 + 4) y1) (8 + 4) ((beB g 8 ++ beB p 4).map u8v), List.mem_append_right _ (by simp), own_imp_byt _ (beB g 8 ++ beB p 4)⟩ ⟨ownA 5 1 (.slice (some ⟨g3, 0, none⟩) 2 2) 2 ((beB n 2).map u8v), List.mem_append_right _ (by simp), own_imp_byt _ (beB n 2)⟩).mono ?_
  rintro e w6 ⟨x2, y2, rfl, H7⟩
  clear H6
  have H8 := H7.alloc [u8v 0, u8v 0] 5
  have hlit := elemByte.lit [u8v 0, u8v 0] (fun v hv => by simp at hv; rw [hv]; rfl) (by simp) (by simp) w6 #[(0, u8v 0), (1, u8v 0)] rfl
  have HLIT := Lib.hid hlit
  clear hlit
  have H9 := St.toOwn H8 0 (n := 2) (size := 1) rfl rfl (by decide)
  obtain ⟨zb, hzb⟩ : ∃ zb, zb = w6.heap.size := ⟨_, rfl⟩
  rw [← hzb] at H9
  go_wp2_with (first | (refine wpl_lit (vals := #[(0, u8v 0), (1, u8v 0)]) (by simp [Act.eval, u8v]) HLIT.out ?_) | fail)
  rw [← hzb]
  refine (rbothH _ _ 14 2 _ _ (beB g 8 ++ beB p 4 ++ beB n 2) [0, 0] (by simp [beB_len]) rfl (by decide) (by decide) H9 ⟨ownA 5 1 (.slice x2 (12 + 2) y2) (12 + 2) ((beB g 8 ++ beB p 4 ++ beB n 2).map u8v), List.mem_append_right _ (by simp), own_imp_byt _ (beB g 8 ++ beB p 4 ++ beB n 2)⟩ ⟨ownA 5 1 (.slice (some ⟨zb, 0, none⟩) 2 2) 2 [u8v 0, u8v 0], List.mem_append_right _ (by simp), own_imp_byt _ [0, 0]⟩).mono ?_
  rintro e w7 ⟨x3, y3, rfl, H10⟩
  clear H7 H8 H9 hzb HLIT
  go_wp2_with fail
  refine (rbothH _ _ 16 n _ _ (beB g 8 ++ beB p 4 ++ beB n 2 ++ [0, 0]) l (by simp [beB_len]) HN.out.symm (by decide) (by omega) H10 ⟨ownA 5 1 (.slice x3 (14 + 2) y3) (14 + 2) ((beB g 8 ++ beB p 4 ++ beB n 2 ++ [0, 0]).map u8v), List.mem_append_right _ (by simp), own_imp_byt _ (beB g 8 ++ beB p 4 ++ beB n 2 ++ [0, 0])⟩ ⟨bytA (.slice x l.length c) l, List.mem_append_left _ HS0.out, by rw [HN.out]; exact Asn.imp.refl _⟩).mono ?_
  rintro e w8 ⟨x4, y4, rfl, H11⟩
  clear H10
  obtain ⟨bs, hbs⟩ : ∃ bs, bs = beB g 8 ++ beB p 4 ++ beB n 2 ++ [0, 0] ++ l := ⟨_, rfl⟩
  have hbl : bs.length = 16 + n := by rw [hbs, HN.out]; simp [beB_len]; omega
  rw [← hbs] at H11
  have hpk : packB g p l = bs ++ List.replicate (64 - bs.length) 0 := by
    unfold packB
    rw [hbl, hbs, ← HN.out, show 64 - (16 + n) = 48 - n by omega]
  have HPK := Lib.hid hpk
  have HBL := Lib.hid hbl
  clear hpk hbl hbs
  have H12 := (St.pick H11 [0, 8]).alloc zL64 38
  obtain ⟨o2, ho2⟩ : ∃ o2, o2 = w8.heap.size := ⟨_, rfl⟩
  rw [← ho2] at H12
  go_upto_region 6 with fail
  rw [← ho2]
  clear ho2
  refine wp_world (fun W => St w B _ _ W) H12 ?_
  intro w9 H13
  clear H11 H12
  have hn16 : (16 : Int) + (n : Int) ≤ 64 := by omega
  go_wp2_with fail
  go_loopg [9] (16 + n) (fun gg b9 wr => ∃ i : Nat, i ≤ 16 + n ∧ gg = 16 + n - i ∧ b9 = .int .i64 i ∧ Hid (St w B [blkA o2 ((bs.take i ++ List.replicate (64 - i) (0 : UInt8)).map u8v) 38, ownA 5 1 (.slice x4 (16 + n) y4) (16 + n) (bs.map u8v), blkA ob zL64 38] S wr))
  case atStart => exact ⟨0, Nat.zero_le _, rfl, rfl, Lib.hid (by rw [zeroBlock] at H13 ⊢; exact H13)⟩
  case round =>
  obtain ⟨i, hi, rfl, rfl, HI⟩ := hrel
  clear H13
  have H14 := HI.out
  by_cases hlt : i < 16 + n
  · obtain ⟨g4, rfl, _, _⟩ := own_pos (St.own H14 1) (by omega)
    have hcell : wr.cell? ⟨g4, i, none⟩ = some (u8v (bs.getD i 0)) := by
      rw [(St.own H14 1).cellAt i (by omega), List.getElem?_map, List.getD_eq_getElem?_getD, List.getElem?_eq_getElem (by rw [HBL.out]; exact hlt)]; rfl
    have hset := fill_set bs i (by rw [HBL.out]; exact hlt) (by rw [HBL.out]; omega)
    obtain ⟨BL, hbl⟩ : ∃ BL, BL = (bs.take i ++ List.replicate (64 - i) (0 : UInt8)).map u8v := ⟨_, rfl⟩
    have hbi : BL[i]? = some (.int .u8 0) := by
      rw [hbl, List.getElem?_map, List.getElem?_append_right (by rw [List.length_take]; omega), List.length_take, Nat.min_eq_left (by rw [HBL.out]; omega), Nat.sub_self, List.getElem?_replicate, if_pos (by omega)]
      rfl
    rw [← hbl] at H14 hset
    generalize bs.getD i 0 = cc at *
    have H15 := H14.set_ 0 i (u8v cc)
    have HSET := Lib.hid hset
    clear hset hbl HI
    unfold u8v at hcell H15
    have i0 : (0 : Int) ≤ (i : Int) := by omega
    have i1 : (i : Int) < 64 := by omega
    have i2 : (i : Int) < 16 + (n : Int) := by omega
    obtain ⟨hc, hf⟩ := St.cells H14 0
    go_wp2_with fail
    go_roundg (16 + n - (i + 1))
    case measure => omega
    case rel => exact ⟨i + 1, by omega, rfl, by go_num, Lib.hid (St.cast (by rw [← HSET.out]; rfl) H15)⟩
  · obtain rfl : i = 16 + n := by omega
    have i2 : ¬ (((16 + n : Nat) : Int) < 16 + (n : Int)) := by omega
    rw [List.take_of_length_le (by rw [HBL.out]; exact Nat.le_refl _), show 64 - (16 + n) = 64 - bs.length by rw [HBL.out], ← HPK.out] at H14
    have hpl : ((packB g p l).map u8v).length = 64 := by rw [List.length_map]; exact packB_len _ _ _ (by rw [← HN.out]; exact hl)
    have hp1 : ∀ u ∈ (packB g p l).map u8v, u.oneCell' = true := u8v_one _
    have HRG := St.range H14 0
    have HT : wr.there ob 0 64 := St.there H14 2 64
    obtain ⟨pk, hpkv⟩ : ∃ pk, pk = (packB g p l).map u8v := ⟨_, rfl⟩
    rw [← hpkv] at hpl hp1 HRG H14
    have HPV := Lib.hid hpkv
    clear hpkv
    have H15 := St.setAllAt H14 2 (vs := pk) rfl (by rw [hpl]; rfl)
    clear HPK
    go_wp2_with (first | (refine wpl_load rfl _ _ rfl o2 0 (by rfl) pk 64 hpl HRG bigBlock ?_) | (refine wpl_store rfl _ _ _ rfl ob 0 (by rfl) pk (by rfl) 64 hpl HT bigBlock hp1 ?_) | fail)
    exact bodyPost_ret (results_c rfl rfl bigBlock (St.range H15 2) hpl) rfl (Back.mk (L' := []) ⟨by unfold blkV; rw [← HPV.out], rfl⟩ (St.pick H15 []))
set_option maxHeartbeats 8000000 in
set_option maxRecDepth 20000 in
theorem rheader (g i : Nat) (hg : g < 18446744073709551616) (hi : i < 65536) : Meets Tryz.prog 47 #[.int .u64 g, .int .i64 i] [] [] fun v L => v = blkV (headS g i) ∧ L = [] := by
  intro w B H
  have HH2 := rhigh i 2 (by omega) (by decide)
  have hl : (beB i 2).length = 2 := beB_len _ _
  have HB := fun x c => rblock g 0 x c (beB i 2) hg (by decide) (by rw [hl]; decide)
  have H1 := H.alloc zL64 38
  obtain ⟨ob, hob⟩ : ∃ ob, ob = w.heap.size := ⟨_, rfl⟩
  rw [← hob] at H1
  go_enter Tryz.func47, Tryz.ntmps47
  go_upto_region 1 with fail
  rw [← hob]
  clear hob
  refine wp_world (fun W => St w B _ _ W) H1 ?_
  intro w1 H2
  clear H H1
  go_wp2_with fail
  refine (HH2.call (L := []) (M := [_]) H2 (by simp)).mono ?_
  rintro e w2 ⟨_, _, rfl, ⟨g1, rfl, rfl⟩, H3⟩
  clear H2 HH2
  have HB1 : Meets Tryz.prog 93 #[.int .u64 g, .int .u32 0, .slice (some ⟨g1, 0, none⟩) 2 2] [] [bytA (.slice (some ⟨g1, 0, none⟩) 2 2) (beB i 2)] fun v L => v = blkV (headS g i) ∧ L = [] := HB (some ⟨g1, 0, none⟩) 2
  have hpl : ((headS g i).map u8v).length = 64 := by rw [List.length_map]; exact packB_len _ _ _ (by rw [beB_len]; decide)
  have hp1 : ∀ u ∈ (headS g i).map u8v, u.oneCell' = true := u8v_one _
  unfold blkV at HB1
  obtain ⟨pk, hpkv⟩ : ∃ pk, pk = (headS g i).map u8v := ⟨_, rfl⟩
  rw [← hpkv] at hpl hp1 HB1
  have HPV := Lib.hid hpkv
  clear hpkv HB
  go_wp2_with fail
  refine (HB1.call (L := []) (M := [_, _]) H3 (fun A hA => ⟨ownA 5 1 (.slice (some ⟨g1, 0, none⟩) 2 2) 2 ((beB i 2).map u8v), List.mem_append_right _ (by simp), by cases List.mem_singleton.1 hA; exact own_imp_byt _ (beB i 2)⟩)).mono ?_
  rintro e w3 ⟨_, _, rfl, ⟨rfl, rfl⟩, H4⟩
  have HT : w3.there ob 0 64 := St.there H4 1 64
  have H5 := St.setAllAt H4 1 (vs := pk) rfl (by rw [hpl]; rfl)
  go_wp2_with (first | (refine wpl_store rfl _ _ _ rfl ob 0 (by rfl) pk (by rfl) 64 hpl HT bigBlock hp1 ?_) | fail)
  exact bodyPost_ret (results_c rfl rfl bigBlock (St.range H5 1) hpl) rfl (Back.mk (L' := []) ⟨by unfold blkV; rw [← HPV.out], rfl⟩ (St.pick H5 []))
end Go.Proofs.YtjmocjcjiiopnaaGreat
end

section
set_option linter.unusedVariables false
set_option linter.unusedSimpArgs false
namespace Go.Oct
open Go.Proofs.YtjmocjcjiiopnaaGreat
theorem beB_succ (x n : Nat) : beB x (n + 1) = beB (x / 256) n ++ [UInt8.ofNat x] := by
  unfold beB
  rw [List.range_succ, List.map_append]
  congr 1
  · refine List.map_congr_left fun j hj => ?_
    have := List.mem_range.1 hj
    rw [Nat.div_div_eq_div_mul, show 8 * (n + 1 - 1 - j) = 8 + 8 * (n - 1 - j) by omega, Nat.pow_add]
  · simp
theorem beB_numB : ∀ (n : Nat) (l : List UInt8), l.length = n → beB (numB l) n = l
  | 0, l, h => by
    have : l = [] := List.eq_nil_of_length_eq_zero h
    subst this
    rfl
  | n + 1, l, h => by
    obtain ⟨q, c, rfl⟩ : ∃ q c, l = q ++ [c] := ⟨l.dropLast, l.getLast (by intro e; rw [e] at h; cases h), (List.dropLast_concat_getLast _).symm⟩
    have hc := c.toNat_lt
    rw [numB_snoc, beB_succ, show (numB q * 256 + c.toNat) / 256 = numB q by omega, beB_numB n q (by simpa using h)]
    congr 2
    apply UInt8.toNat_inj.1
    rw [UInt8.toNat_ofNat']
    omega
theorem zeros_iff (l : List UInt8) : l = List.replicate l.length 0 ↔ ∀ i, i < l.length → l.getD i 0 = 0 := by
  constructor
  · intro h i hi
    rw [h, List.getD_eq_getElem?_getD, List.getElem?_replicate, if_pos hi]
    rfl
  · intro h
    apply List.ext_getElem
    · simp
    · intro i h1 h2
      have := h i h1
      rw [List.getD_eq_getElem?_getD, List.getElem?_eq_getElem h1] at this
      rw [List.getElem_replicate]
      exact this
def genB (b : List UInt8) : Nat := numB (b.take 8)
def posB (b : List UInt8) : Nat := numB ((b.drop 8).take 4)
def filB (b : List UInt8) : Nat := numB ((b.drop 12).take 2)
/-- What a sector says, in the document's words. -/
theorem readB_ref {b : List UInt8} (hb : b.length = 64) (hg : genB b ≠ 0) (hf : filB b ≤ 48) :
    ((b.getD 14 0 = 0 ∧ b.getD 15 0 = 0 ∧ ∀ i, 16 + filB b ≤ i → i < 64 → b.getD i 0 = 0) ∧ readB b = some (genB b, posB b, (b.drop 16).take (filB b))) ∨ (¬ (b.getD 14 0 = 0 ∧ b.getD 15 0 = 0 ∧ ∀ i, 16 + filB b ≤ i → i < 64 → b.getD i 0 = 0) ∧ readB b = none) := by
  have hgd : ∀ i j, (b.drop i).getD j 0 = b.getD (i + j) 0 := fun i j => by rw [List.getD_eq_getElem?_getD, List.getD_eq_getElem?_getD, List.getElem?_drop]
  have hp : ((b.drop 16).take (filB b)).length = filB b := by rw [List.length_take, List.length_drop]; omega
  have h14 : beB (genB b) 8 ++ beB (posB b) 4 ++ beB (filB b) 2 = b.take 14 := by
    unfold genB posB filB
    rw [beB_numB 8 (b.take 8) (by rw [List.length_take]; omega), beB_numB 4 ((b.drop 8).take 4) (by rw [List.length_take, List.length_drop]; omega), beB_numB 2 ((b.drop 12).take 2) (by rw [List.length_take, List.length_drop]; omega)]
    rw [show (b.take 14) = b.take (8 + 4 + 2) from rfl, List.take_add, List.take_add]
  have hsp : b = b.take 14 ++ ((b.drop 14).take 2 ++ ((b.drop 16).take (filB b) ++ b.drop (16 + filB b))) := by
    have h1 : b.drop 16 = (b.drop 16).take (filB b) ++ b.drop (16 + filB b) := by
      rw [← List.drop_drop]
      exact (List.take_append_drop _ _).symm
    have h2 : b.drop 14 = (b.drop 14).take 2 ++ b.drop 16 := by
      rw [show (16 : Nat) = 14 + 2 from rfl, ← List.drop_drop]
      exact (List.take_append_drop _ _).symm
    rw [← h1, ← h2]
    exact (List.take_append_drop _ _).symm
  have hT : (b.drop (16 + filB b)).length = 48 - filB b := by rw [List.length_drop, hb]; omega
  have hpk : packB (genB b) (posB b) ((b.drop 16).take (filB b)) = b.take 14 ++ ([0, 0] ++ ((b.drop 16).take (filB b) ++ List.replicate (48 - filB b) 0)) := by
    unfold packB
    rw [hp, h14]
    simp only [List.append_assoc]
  have hiff : packB (genB b) (posB b) ((b.drop 16).take (filB b)) = b ↔ (b.getD 14 0 = 0 ∧ b.getD 15 0 = 0 ∧ ∀ i, 16 + filB b ≤ i → i < 64 → b.getD i 0 = 0) := by
    have hZ : (b.drop 14).take 2 = [0, 0] ↔ b.getD 14 0 = 0 ∧ b.getD 15 0 = 0 := by
      have hl2 : ((b.drop 14).take 2).length = 2 := by rw [List.length_take, List.length_drop]; omega
      have e0 : ((b.drop 14).take 2).getD 0 0 = b.getD 14 0 := by rw [List.getD_eq_getElem?_getD, List.getElem?_take, if_pos (by decide), ← List.getD_eq_getElem?_getD, hgd]
      have e1 : ((b.drop 14).take 2).getD 1 0 = b.getD 15 0 := by rw [List.getD_eq_getElem?_getD, List.getElem?_take, if_pos (by decide), ← List.getD_eq_getElem?_getD, hgd]
      rw [← e0, ← e1]
      match (b.drop 14).take 2, hl2 with
      | [x, y], _ => simp
    have hR : b.drop (16 + filB b) = List.replicate (48 - filB b) 0 ↔ ∀ i, 16 + filB b ≤ i → i < 64 → b.getD i 0 = 0 := by
      rw [← hT, zeros_iff]
      constructor
      · intro h i h1 h2
        have := h (i - (16 + filB b)) (by omega)
        rw [hgd, show 16 + filB b + (i - (16 + filB b)) = i by omega] at this
        exact this
      · intro h i hi
        rw [hgd]
        exact h _ (by omega) (by omega)
    rw [hpk]
    constructor
    · intro h
      have key : ∀ (A Z P T Z' T' : List UInt8), Z.length = Z'.length → A ++ (Z ++ (P ++ T)) = A ++ (Z' ++ (P ++ T')) → Z = Z' ∧ T = T' := fun A Z P T Z' T' hl he => by
        obtain ⟨e1, e2⟩ := List.append_inj (List.append_cancel_left he) hl
        exact ⟨e1, List.append_cancel_left e2⟩
      obtain ⟨e1, e2⟩ := key _ _ _ _ _ _ (by rw [List.length_take, List.length_drop, hb]; rfl) (h.trans hsp)
      obtain ⟨k1, k2⟩ := hZ.1 e1.symm
      exact ⟨k1, k2, hR.1 e2.symm⟩
    · rintro ⟨k1, k2, k3⟩
      have z1 := hZ.2 ⟨k1, k2⟩
      have z2 := hR.2 k3
      rw [← z1, ← z2]
      exact hsp.symm
  have hr : readB b = if packB (genB b) (posB b) ((b.drop 16).take (filB b)) = b then some (genB b, posB b, (b.drop 16).take (filB b)) else none := by
    unfold readB
    rw [if_neg (by show ¬ 48 < filB b; omega), if_neg (show ¬ numB (b.take 8) = 0 from hg)]
    rfl
  rw [hr]
  by_cases h : packB (genB b) (posB b) ((b.drop 16).take (filB b)) = b
  · exact .inl ⟨hiff.1 h, by rw [if_pos h]⟩
  · exact .inr ⟨fun k => h (hiff.2 k), by rw [if_neg h]⟩
end Go.Oct
end
