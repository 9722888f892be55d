/- The log: a record that is read. Conditions: places are small. The log: a record that is read, in one form whether one stands there or not. Conditions: places are small. -/
import Derived.Test.YtjmocjcjiiopnaaGreatLogScans21
import Derived.Test.YtjmocjcjiiopnaaGreatLogScans10
import Derived.Test.YtjmocjcjiiopnaaGreatLogScans11

section
set_option linter.unusedVariables false
set_option linter.unusedSimpArgs false
namespace Go.Lg
open Go.Ring Go.Dsk Go.Oct Go.Proofs.YtjmocjcjiiopnaaGreat
/-- Sectors read one behind the other. -/
def moreF (base most : Int) (gen : Nat) : Nat → Dk → Nat → List (List UInt8) → Dk × Option (List (List UInt8)) × Nat
  | 0, D, _, acc => (D, some acc, 0)
  | c + 1, D, j, acc => if (secF D base most gen j).2.2.2.2 ≠ 0 ∨ (secF D base most gen j).2.2.2.1 = false then ((secF D base most gen j).1, none, (secF D base most gen j).2.2.2.2) else moreF base most gen c (secF D base most gen j).1 (j + 1) (acc ++ [(secF D base most gen j).2.2.1])
/-- The bytes of a record and how many sectors it has, as its sectors say. -/
def allF (n : Nat) (acc : List (List UInt8)) : Option (List UInt8 × Nat) := match joinB acc with
  | none => none
  | some all => if all.length ≠ n then none else if decE all ≠ 0 then none else some (all, acc.length)
/-- The record that stands at a sector. -/
def recF (D : Dk) (base most : Int) (gen i : Nat) : Dk × Option (List UInt8 × Nat) × Nat :=
  if (secF D base most gen i).2.2.2.2 ≠ 0 ∨ (secF D base most gen i).2.2.2.1 = false then ((secF D base most gen i).1, none, (secF D base most gen i).2.2.2.2)
  else if headE (secF D base most gen i).2.1 ≠ 0 then ((secF D base most gen i).1, none, 0)
  else match moreF base most gen (secs (needB (secF D base most gen i).2.1) - 1) (secF D base most gen i).1 (i + 1) [(secF D base most gen i).2.2.1] with
  | (D2, none, e) => (D2, none, e)
  | (D2, some acc, _) => (D2, allF (needB (secF D base most gen i).2.1) acc, 0)
theorem secF_bound {D : Dk} (h : D.ok) (base most : Int) (gen i : Nat) : (secF D base most gen i).2.1.length ≤ 48 ∧ (secF D base most gen i).2.2.1.length = 64 := by
  have hl := Dk.read_len h (base + i)
  unfold secF
  split
  · exact ⟨by simp, by simp [zB]⟩
  · split
    · exact ⟨by simp, hl⟩
    · cases hr : readB (D.read (base + i)).2.1 with
      | none => exact ⟨by simp, hl⟩
      | some z =>
        obtain ⟨g, p, pl⟩ := z
        exact ⟨(readB_bound hl hr).2.2.2, hl⟩
theorem moreF_bad {base most : Int} {gen c j : Nat} {D : Dk} {acc : List (List UInt8)} {D2 : Dk} {pl bl : List UInt8} {ok : Bool} {e : Nat} (h : secF D base most gen j = (D2, pl, bl, ok, e)) (hb : e ≠ 0 ∨ ok = false) : moreF base most gen (c + 1) D j acc = (D2, none, e) := by
  rw [moreF, h]; exact if_pos hb
theorem moreF_ok {base most : Int} {gen c j : Nat} {D : Dk} {acc : List (List UInt8)} {D2 : Dk} {pl bl : List UInt8} (h : secF D base most gen j = (D2, pl, bl, true, 0)) : moreF base most gen (c + 1) D j acc = moreF base most gen c D2 (j + 1) (acc ++ [bl]) := by
  rw [moreF, h]; exact if_neg (by simp)
end Go.Lg
namespace Go.Proofs.YtjmocjcjiiopnaaGreat
open Go.RowKit Go.Ice Go.Oct Go.Dsk Go.Ring Go.Lg
/-- What reading a record tells and leaves. -/
def recQ (p : Nat) (r : Dk × Option (List UInt8 × Nat) × Nat) (v : Value) (L : List Asn) : Prop := match r.2.1 with
  | none => v = .tuple #[recV ⟨0, 0, 0, 0⟩ (.slice none 0 0) (.slice none 0 0), .int .i64 0, .int .i64 r.2.2] ∧ L = [dskA p r.1]
  | some z => r.2.2 = 0 ∧ ∃ x y c d, v = .tuple #[recV (headR z.1) (.slice x (headN z.1) c) (.slice y (headM z.1) d), .int .i64 z.2, .int .i64 0] ∧ L = [dskA p r.1, ownA 5 1 (.slice x (headN z.1) c) (headN z.1) (((z.1.drop 21).take (headN z.1)).map u8v), ownA 5 1 (.slice y (headM z.1) d) (headM z.1) (((z.1.drop (21 + headN z.1)).take (headM z.1)).map u8v)]
theorem recQ.no {p : Nat} {r : Dk × Option (List UInt8 × Nat) × Nat} {D : Dk} {e : Nat} (h : r = (D, none, e)) : recQ p r (.tuple #[recV ⟨0, 0, 0, 0⟩ (.slice none 0 0) (.slice none 0 0), .int .i64 0, .int .i64 e]) [dskA p D] := by subst h; exact ⟨rfl, rfl⟩
theorem recQ.yes {p : Nat} {r : Dk × Option (List UInt8 × Nat) × Nat} {D : Dk} {all : List UInt8} {ns : Nat} (h : r = (D, some (all, ns), 0)) (x y : Option Addr) (c d : Nat) : recQ p r (.tuple #[recV (headR all) (.slice x (headN all) c) (.slice y (headM all) d), .int .i64 ns, .int .i64 0]) [dskA p D, ownA 5 1 (.slice x (headN all) c) (headN all) (((all.drop 21).take (headN all)).map u8v), ownA 5 1 (.slice y (headM all) d) (headM all) (((all.drop (21 + headN all)).take (headM all)).map u8v)] := by subst h; exact ⟨rfl, x, y, c, d, rfl, rfl⟩
set_option maxHeartbeats 16000000 in
set_option maxRecDepth 100000 in
theorem lrecord (p : Nat) (D : Dk) (base most : Int) (gen i : Nat) (hb : 0 ≤ base ∧ base ≤ 100000) (hi : i ≤ 50000) : Meets Tryz.prog 45 #[.agg (rdgC p base most gen).toArray, .int .i64 i] [dskA p D] [] fun v L => recQ p (recF D base most gen i) v L := by
  intro w B H
  have ok := dskA_ok H
  have HS := sector p D base most gen i hb (by omega)
  have hbd := secF_bound ok base most gen i
  have H1 := (H.alloc (rdgC p base most gen) 118).alloc [.int .i64 0, .int .u32 0, .int .u32 0, .int .u64 0, .slice none 0 0, .slice none 0 0] 62
  simp only [World.size_alloc] at H1
  obtain ⟨rb, hrb⟩ : ∃ rb, rb = w.heap.size + 1 := ⟨_, rfl⟩
  obtain ⟨xb, hxb⟩ : ∃ xb, xb = w.heap.size := ⟨_, rfl⟩
  rw [← hrb, ← hxb] at H1
  have hro : recF D base most gen i = if (secF D base most gen i).2.2.2.2 ≠ 0 ∨ (secF D base most gen i).2.2.2.1 = false then ((secF D base most gen i).1, none, (secF D base most gen i).2.2.2.2)
    else if headE (secF D base most gen i).2.1 ≠ 0 then ((secF D base most gen i).1, none, 0)
    else match moreF base most gen (secs (needB (secF D base most gen i).2.1) - 1) (secF D base most gen i).1 (i + 1) [(secF D base most gen i).2.2.1] with
    | (D2, none, e) => (D2, none, e)
    | (D2, some acc, _) => (D2, allF (needB (secF D base most gen i).2.1) acc, 0) := rfl
  obtain ⟨r, hr⟩ : ∃ r, r = recF D base most gen i := ⟨_, rfl⟩
  rw [← hr] at hro ⊢
  clear hr ok
  generalize secF D base most gen i = r1 at *
  obtain ⟨D1, pl, bl, okb, e1⟩ := r1
  dsimp only at hro hbd
  obtain ⟨hpl, hbl⟩ := hbd
  unfold secQ at HS
  dsimp only at HS
  obtain ⟨fb, hfb⟩ : ∃ fb, fb = bl.map u8v := ⟨_, rfl⟩
  have hfbl : fb.length = 64 := by rw [hfb, List.length_map, hbl]
  have hfb1 : ∀ u ∈ fb, u.oneCell' = true := by rw [hfb]; exact u8v_one _
  unfold blkV at HS
  rw [← hfb] at HS
  unfold rdgC at H1 HS ⊢
  have HND := fun a c => need a c pl (by omega)
  have HRO := Lib.hid hro
  have HFB := Lib.hid hfb
  have HBL := Lib.hid hbl
  have HS := Lib.hid HS
  clear hro hfb hbl
  go_enter Tryz.func45, Tryz.ntmps45
  go_upto_region 1 with fail
  rw [← hrb, ← hxb]
  clear hrb hxb
  refine wp_world (fun W => St w B _ _ W) H1 ?_
  intro w1 H2
  clear H1
  obtain ⟨hc, hf⟩ := St.cells H2 1
  go_wp2_with fail
  refine (HS.out.call (L := [_]) (M := [_, _]) (St.pick H2 [2, 0, 1]) (by simp)).mono ?_
  rintro e w3 ⟨_, L, rfl, ⟨a3, c3, rfl, rfl⟩, H3⟩
  clear H2 hc hf HS
  obtain ⟨bk, hbk⟩ : ∃ bk, bk = w3.heap.size := ⟨_, rfl⟩
  by_cases hbad : e1 ≠ 0 ∨ okb = false
  · have hro2 := HRO.out
    rw [if_pos hbad] at hro2
    have HQ := Lib.hid hro2
    clear hro2 HRO HND
    have hbc : (((e1 : Int) != 0) = true) ∨ (((e1 : Int) != 0) = false ∧ okb = false) := by
      rcases hbad with h | h
      · exact .inl (by simp; omega)
      · by_cases h0 : e1 = 0
        · exact .inr ⟨by simp; omega, h⟩
        · exact .inl (by simp; omega)
    clear hbad
    rcases hbc with h1 | ⟨h1, rfl⟩
    all_goals
      go_wp2_with ((refine wpl_store rfl _ _ _ rfl w3.heap.size 0 (by rfl) fb (by rfl) 64 hfbl (there_whole _ _ _ _ (by decide)) bigBlock hfb1 ?_); (refine wpl_world _ (H3.whole _ _ fb (by rw [hfbl]; rfl)) ?_); intro w4 H4; (obtain ⟨hc, hf⟩ := St.cells H4 3))
      have H5 := (((((H4.set_ 3 0 (.int .i64 0)).set_ 3 1 (.int .u32 0)).set_ 3 2 (.int .u32 0)).set_ 3 3 (.int .u64 0)).set_ 3 4 (.slice none 0 0)).set_ 3 5 (.slice none 0 0)
      exact bodyPost_ret (results_ctt rfl rfl bigRec (H5.range 3)) rfl (Back.mk (recQ.no HQ.out) (St.pick H5 [1]))
  · have hro2 := HRO.out
    rw [if_neg hbad] at hro2
    have he1 : e1 = 0 := by rcases Nat.eq_zero_or_pos e1 with h | h; exact h; exact absurd (.inl (by omega)) hbad
    have hok : okb = true := by cases okb; exact absurd (.inr rfl) hbad; rfl
    subst he1 hok
    have HRO2 := Lib.hid hro2
    clear hro2 HRO hbad
    go_wp2_with ((refine wpl_store rfl _ _ _ rfl w3.heap.size 0 (by rfl) fb (by rfl) 64 hfbl (there_whole _ _ _ _ (by decide)) bigBlock hfb1 ?_); (refine wpl_world _ (H3.whole _ _ fb (by rw [hfbl]; rfl)) ?_); intro w4 H4)
    refine ((HND a3 c3).call (L := []) (M := [_, _, _, _, _]) H4 (share1 (own_byt_imp rfl) (by simp))).mono ?_
    rintro e w5 ⟨_, L, rfl, ⟨rfl, rfl⟩, H5⟩
    rw [← hbk] at H5
    clear H3 H4 HND
    by_cases hh : headE pl = 0
    · have hro3 := HRO2.out
      rw [if_neg (by rw [hh]; simp)] at hro3
      have hnm := headNM pl hh
      have hnb : needB pl = 21 + headN pl + headM pl := by unfold needB; rw [if_pos hh]
      obtain ⟨n, hn⟩ : ∃ n, n = needB pl := ⟨_, rfl⟩
      have hn783 : 22 ≤ n ∧ n ≤ 783 := by omega
      rw [← hn, hh]
      rw [← hn] at hro3
      have HRO3 := Lib.hid hro3
      clear hro3 HRO2 hh hnm hnb hn
      obtain ⟨ns, hns⟩ : ∃ ns, ns = secs n := ⟨_, rfl⟩
      have hsp := secs_pos n
      have hse := secs_eq n
      have hsec := fun w => sectors w n (by omega)
      rw [← hns] at hsp hse hsec
      have hns17 : ns ≤ 17 := by omega
      have hro4 := HRO3.out
      rw [← hns] at hro4
      have HRO4 := Lib.hid hro4
      have HSEC := Lib.hid hsec
      clear hro4 HRO3 hse hsec hns
      have hrg := St.range H5 0
      have hlit := elemBlock.lit1 fb hfbl (by decide) w5
      have H6 := H5.alloc fb 38
      have H7 := St.pick (H6.toOwn 0 (n := 1) (size := 64) rfl (by rw [hfbl]) (by decide)) [0, 2, 4, 5]
      have e7 : fb = [bl].flatMap (fun x : List UInt8 => x.map u8v) := by rw [HFB.out]; simp
      have E7 := Lib.hid e7
      rw [← hbk]
      have HBK := Lib.hid hbk
      clear e7 hbk
      go_wp2_with (first | (refine wpl_load rfl _ _ rfl bk 0 (by rfl) fb 64 hfbl hrg bigBlock ?_) | (refine wpl_lit (vals := #[(0, .agg fb.toArray)]) (by simp; rfl) hlit ?_))
      go_loopg [12, 13] (ns - 1) (fun gq b12 b13 wr => ∃ (k : Nat) (D2 : Dk) (acc : List (List UInt8)) (a : Option Addr) (c : Nat), 1 ≤ k ∧ k ≤ ns ∧ gq = ns - k ∧ b13 = .int .i64 k ∧ b12 = .slice a k c ∧ Hid (acc.length = k ∧ ∀ x ∈ acc, x.length = 64) ∧ Hid (moreF base most gen (ns - 1) D1 (i + 1) [bl] = moreF base most gen (ns - k) D2 (i + k) acc) ∧ Hid (St w B [ownA 38 64 (.slice a k c) k (acc.flatMap fun x : List UInt8 => x.map u8v), dskA p D2, blkA rb [.int .i64 0, .int .u32 0, .int .u32 0, .int .u64 0, .slice none 0 0, .slice none 0 0] 62, blkA xb [.pointer (some ⟨p, 0, none⟩), .int .i64 base, .int .i64 most, .int .u64 gen] 118] [] wr))
      case atStart => exact ⟨1, D1, [bl], _, _, Nat.le_refl _, hsp, rfl, rfl, rfl, Lib.hid ⟨rfl, by intro x hx; rw [List.mem_singleton.1 hx]; exact HBL.out⟩, Lib.hid rfl, Lib.hid (by rw [← E7.out]; exact H7)⟩
      case round =>
      obtain ⟨k, D2, acc, a, c, hk1, hk, rfl, rfl, rfl, HAC, HMF, HI⟩ := hrel
      clear H5 H6 H7 hrg hlit
      have HI := HI.out
      by_cases hlt : k < ns
      · have hbd2 := secF_bound (dskA_ok (St.pick HI [1])) base most gen (i + k)
        have HS2 := sector p D2 base most gen (i + k) hb (by omega)
        have hmf := HMF.out
        generalize hr2 : secF D2 base most gen (i + k) = r2 at *
        obtain ⟨D3, pl2, bl2, ok2, e2⟩ := r2
        dsimp only at hbd2
        unfold secQ rdgC at HS2
        dsimp only at HS2
        obtain ⟨fx, hfx⟩ : ∃ fx, fx = bl2.map u8v := ⟨_, rfl⟩
        have hfl : fx.length = 64 := by rw [hfx, List.length_map, hbd2.2]
        have hfx1 : ∀ u ∈ fx, u.oneCell' = true := by rw [hfx]; exact u8v_one _
        unfold blkV at HS2
        rw [← hfx, Int.natCast_add] at HS2
        have hwik : IntKind.i64.wrap ((i : Int) + (k : Int)) = (i : Int) + (k : Int) := by rw [IntKind.wrap_i64]; omega
        have HFX := Lib.hid hfx
        have HR2 := Lib.hid hr2
        have HMF2 := Lib.hid hmf
        have HBD2 := Lib.hid hbd2
        have HS2 := Lib.hid HS2
        have HLT := Lib.hid hlt
        have hkn : (k : Int) < (ns : Int) := by omega
        clear hfx hr2 hmf hbd2 HMF
        obtain ⟨hc, hf⟩ := St.cells HI 3
        go_wp2_with fail
        refine (HSEC.out _).mono ?_
        rintro e w8 ⟨rfl, rfl⟩
        go_wp2_with fail
        refine (HS2.out.call (L := [_]) (M := [_, _, _]) (St.pick HI [1, 0, 2, 3]) (by simp)).mono ?_
        rintro e w9 ⟨_, L, rfl, ⟨a9, c9, rfl, rfl⟩, H9⟩
        clear HI hc hf hwik
        by_cases hbad : e2 ≠ 0 ∨ ok2 = false
        · have hmf3 := HMF2.out
          rw [show ns - k = (ns - k - 1) + 1 by omega, moreF_bad HR2.out hbad] at hmf3
          have hro5 := HRO4.out
          rw [hmf3] at hro5
          dsimp only at hro5
          have HQ := Lib.hid hro5
          have hbc : (((e2 : Int) != 0) = true) ∨ (((e2 : Int) != 0) = false ∧ ok2 = false) := by
            rcases hbad with h | h
            · exact .inl (by simp; omega)
            · by_cases h0 : e2 = 0
              · exact .inr ⟨by simp; omega, h⟩
              · exact .inl (by simp; omega)
          clear hbad hro5 hmf3 hlt
          rcases hbc with h1 | ⟨h1, rfl⟩
          all_goals
            go_wp2_with ((refine wpl_store rfl _ _ _ rfl w9.heap.size 0 (by rfl) fx (by rfl) 64 hfl (there_whole _ _ _ _ (by decide)) bigBlock hfx1 ?_); (refine wpl_world _ (H9.whole _ _ fx (by rw [hfl]; rfl)) ?_); intro w10 H10; (obtain ⟨hc, hf⟩ := St.cells H10 4))
            have H11 := (((((H10.set_ 4 0 (.int .i64 0)).set_ 4 1 (.int .u32 0)).set_ 4 2 (.int .u32 0)).set_ 4 3 (.int .u64 0)).set_ 4 4 (.slice none 0 0)).set_ 4 5 (.slice none 0 0)
            exact bodyPost_ret (results_ctt rfl rfl bigRec (H11.range 4)) rfl (Back.mk (recQ.no HQ.out) (St.pick H11 [1]))
        · have he2 : e2 = 0 := by rcases Nat.eq_zero_or_pos e2 with h | h; exact h; exact absurd (.inl (by omega)) hbad
          have hok2 : ok2 = true := by cases ok2; exact absurd (.inr rfl) hbad; rfl
          subst he2 hok2
          have hmf3 := HMF2.out
          rw [show ns - k = (ns - k - 1) + 1 by omega, moreF_ok HR2.out] at hmf3
          have HMF4 : Hid (moreF base most gen (ns - 1) D1 (i + 1) [bl] = moreF base most gen (ns - (k + 1)) D3 (i + (k + 1)) (acc ++ [bl2])) := Lib.hid (by rw [hmf3, show ns - k - 1 = ns - (k + 1) by omega, Nat.add_assoc])
          clear hmf3 hbad hlt
          go_upto_region 14 with ((refine wpl_store rfl _ _ _ rfl w9.heap.size 0 (by rfl) fx (by rfl) 64 hfl (there_whole _ _ _ _ (by decide)) bigBlock hfx1 ?_); (refine wpl_world _ (H9.whole _ _ fx (by rw [hfl]; rfl)) ?_); intro w10 H10)
          try dsimp only [Act.put]
          have hrg := St.range H10 0
          have hlit := elemBlock.lit1 fx hfl (by decide) w10
          have H11 := H10.alloc fx 38
          obtain ⟨v6, w6, hr6, H12⟩ := H11.app (ty := 22) elemBlock 4 rfl (isSlK_of_blk H11 0 rfl 1 (by omega) (by rw [hfl]) (by decide)) hfx1 (by omega) (by unfold maxLen; omega)
          obtain ⟨a6, c6, rfl, _⟩ := own_form (St.own H12 4)
          have HR6 := Lib.hid hr6
          clear hr6 H11 H10
          go_wp2_with (first | (refine wpl_load rfl _ _ rfl w9.heap.size 0 (by rfl) fx 64 hfl hrg bigBlock ?_) | (refine wpl_lit (vals := #[(0, .agg fx.toArray)]) (by simp; rfl) hlit ?_) | (at_builtin; refine wpList_append_eq rfl _ _ _ rfl rfl rfl HR6.out ?_))
          go_roundg (ns - (k + 1))
          case measure => have := HLT.out; omega
          case rel =>
            refine ⟨k + 1, D3, acc ++ [bl2], a6, c6, by omega, by have := HLT.out; omega, rfl, by go_num, rfl, Lib.hid ⟨by rw [List.length_append, HAC.out.1]; rfl, fun x hx => ?_⟩, HMF4, Lib.hid ?_⟩
            · rcases List.mem_append.1 hx with h | h
              · exact HAC.out.2 x h
              · rw [List.mem_singleton.1 h]; exact HBD2.out.2
            · have e : (acc ++ [bl2]).flatMap (fun x : List UInt8 => x.map u8v) = acc.flatMap (fun x : List UInt8 => x.map u8v) ++ fx := by rw [HFX.out]; simp
              rw [e]
              exact St.pick H12 [4, 2, 5, 6]
      · obtain rfl : k = ns := by omega
        have hmf := HMF.out
        rw [Nat.sub_self, moreF] at hmf
        have hro5 := HRO4.out
        rw [hmf] at hro5
        dsimp only at hro5
        have HRO5 := Lib.hid hro5
        have HJ := join (.slice a k c) acc HAC.out.2 (by rw [HAC.out.1]; omega)
        rw [HAC.out.1] at HJ
        clear hmf hro5 HRO4 HMF hlt
        have hkk : ((k : Int) < (k : Int)) = False := by simp
        go_wp2_with fail
        refine (HSEC.out _).mono ?_
        rintro e w8 ⟨rfl, rfl⟩
        go_wp2_with fail
        refine (HJ.call (L := []) (M := [_, _, _, _]) HI (share1 (own_imp_sl (by decide)) memHead)).mono ?_
        rintro e w9 ⟨_, L, rfl, hjq, H9⟩
        clear HI HJ
        cases hj : joinB acc with
        | none =>
          rw [hj] at hjq
          obtain ⟨rfl, rfl⟩ := hjq
          have hal : allF n acc = none := by unfold allF; rw [hj]
          have hrr := HRO5.out
          rw [hal] at hrr
          have HQ := Lib.hid hrr
          clear hj hal hrr HRO5
          obtain ⟨hc, hf⟩ := St.cells H9 2
          go_wp2_with fail
          have H10 := (((((H9.set_ 2 0 (.int .i64 0)).set_ 2 1 (.int .u32 0)).set_ 2 2 (.int .u32 0)).set_ 2 3 (.int .u64 0)).set_ 2 4 (.slice none 0 0)).set_ 2 5 (.slice none 0 0)
          exact bodyPost_ret (results_ctt rfl rfl bigRec (H10.range 2)) rfl (Back.mk (recQ.no HQ.out) (St.pick H10 [1]))
        | some all =>
          rw [hj] at hjq
          obtain ⟨aj, cj, rfl, rfl⟩ := hjq
          by_cases hln : all.length = n
          · have hd := decode aj cj all (by omega)
            have hal : allF n acc = if decE all ≠ 0 then none else some (all, k) := by unfold allF; rw [hj]; dsimp only; rw [if_neg (by omega), HAC.out.1]
            have hrr := HRO5.out
            rw [hal] at hrr
            clear hj hal HRO5
            unfold decQ at hd
            have hln2 : ((all.length : Int) != (n : Int)) = false := by simp; omega
            by_cases hde : decE all = 0
            · rw [if_neg (by rw [hde]; simp)] at hrr
              simp only [if_pos hde] at hd
              have HQ := Lib.hid hrr
              clear hrr hde
              have HLN := Lib.hid hln
              clear hln
              obtain ⟨na, hna⟩ : ∃ na, na = all.length := ⟨_, rfl⟩
              go_wp2_with fail
              refine (hd.call (L := []) (M := [_, _, _, _, _]) H9 (share1 (own_byt_imp rfl) memHead)).mono ?_
              rintro e w10 ⟨_, L, rfl, ⟨x1, y1, c1, d1, rfl, rfl⟩, H10⟩
              clear H9 hd hna hln2
              unfold recV
              have H11 := H10.alloc [.int .i64 (headR all).k, .int .u32 (headR all).f, .int .u32 (headR all).e, .int .u64 (headR all).s, .slice x1 (headN all) c1, .slice y1 (headM all) d1] 62
              obtain ⟨qb, hqb⟩ : ∃ qb, qb = w10.heap.size := ⟨_, rfl⟩
              rw [← hqb] at H11
              go_upto_region 19 with fail
              rw [← hqb]
              clear hqb
              refine wp_world (fun W => St w B _ _ W) H11 ?_
              clear H10 H11
              intro w11 H12
              obtain ⟨hc, hf⟩ := St.cells H12 0
              obtain ⟨hc2, hf2⟩ := St.cells H12 6
              go_wp2_with fail
              have H13 := (((((H12.set_ 6 0 (.int .i64 (headR all).k)).set_ 6 1 (.int .u32 (headR all).f)).set_ 6 2 (.int .u32 (headR all).e)).set_ 6 3 (.int .u64 (headR all).s)).set_ 6 4 (.slice x1 (headN all) c1)).set_ 6 5 (.slice y1 (headM all) d1)
              exact bodyPost_ret (results_ctt rfl rfl bigRec (H13.range 6)) rfl (Back.mk (recQ.yes HQ.out x1 y1 c1 d1) (St.pick H13 [5, 1, 2]))
            · rw [if_pos hde] at hrr
              simp only [if_neg hde] at hd
              have HQ := Lib.hid hrr
              have hne : ((decE all : Int) != 0) = true := by simp; omega
              have HLN := Lib.hid hln
              clear hrr hde hln
              generalize decE all = de at *
              go_wp2_with fail
              refine (hd.call (L := []) (M := [_, _, _, _, _]) H9 (share1 (own_byt_imp rfl) memHead)).mono ?_
              rintro e w10 ⟨_, L, rfl, ⟨rfl, rfl⟩, H10⟩
              clear H9 hd
              unfold recV
              have H11 := H10.alloc [.int .i64 0, .int .u32 0, .int .u32 0, .int .u64 0, .slice none 0 0, .slice none 0 0] 62
              go_upto_region 19 with fail
              refine wp_world (fun W => St w B _ _ W) H11 ?_
              clear H10 H11
              intro w11 H12
              obtain ⟨hc2, hf2⟩ := St.cells H12 4
              go_wp2_with fail
              have H13 := (((((H12.set_ 4 0 (.int .i64 0)).set_ 4 1 (.int .u32 0)).set_ 4 2 (.int .u32 0)).set_ 4 3 (.int .u64 0)).set_ 4 4 (.slice none 0 0)).set_ 4 5 (.slice none 0 0)
              exact bodyPost_ret (results_ctt rfl rfl bigRec (H13.range 4)) rfl (Back.mk (recQ.no HQ.out) (St.pick H13 [3]))
          · have hal : allF n acc = none := by unfold allF; rw [hj]; dsimp only; rw [if_pos (by omega)]
            have hrr := HRO5.out
            rw [hal] at hrr
            have HQ := Lib.hid hrr
            have hln2 : ((all.length : Int) != (n : Int)) = true := by simp; omega
            clear hj hal hrr HRO5 hln
            obtain ⟨hc, hf⟩ := St.cells H9 3
            go_wp2_with fail
            have H10 := (((((H9.set_ 3 0 (.int .i64 0)).set_ 3 1 (.int .u32 0)).set_ 3 2 (.int .u32 0)).set_ 3 3 (.int .u64 0)).set_ 3 4 (.slice none 0 0)).set_ 3 5 (.slice none 0 0)
            exact bodyPost_ret (results_ctt rfl rfl bigRec (H10.range 3)) rfl (Back.mk (recQ.no HQ.out) (St.pick H10 [2]))
    · have hro3 := HRO2.out
      rw [if_pos hh] at hro3
      have HQ := Lib.hid hro3
      have hne : ((headE pl : Int) != 0) = true := by simp; omega
      clear hro3 HRO2 hh
      generalize headE pl = hp at *
      obtain ⟨hc, hf⟩ := St.cells H5 3
      go_wp2_with fail
      have H6 := (((((H5.set_ 3 0 (.int .i64 0)).set_ 3 1 (.int .u32 0)).set_ 3 2 (.int .u32 0)).set_ 3 3 (.int .u64 0)).set_ 3 4 (.slice none 0 0)).set_ 3 5 (.slice none 0 0)
      exact bodyPost_ret (results_ctt rfl rfl bigRec (H6.range 3)) rfl (Back.mk (recQ.no HQ.out) (St.pick H6 [1]))
end Go.Proofs.YtjmocjcjiiopnaaGreat
end

section
set_option linter.unusedVariables false
set_option linter.unusedSimpArgs false
namespace Go.Lg
open Go.Ring Go.Dsk Go.Oct Go.Proofs.YtjmocjcjiiopnaaGreat
theorem moreF_len {base most : Int} {gen : Nat} : ∀ (c : Nat) (D : Dk) (j : Nat) (acc : List (List UInt8)) (D2 : Dk) (acc2 : List (List UInt8)) (e : Nat), moreF base most gen c D j acc = (D2, some acc2, e) → acc2.length = acc.length + c ∧ e = 0
  | 0, D, j, acc, D2, acc2, e, h => by rw [moreF] at h; cases h; exact ⟨rfl, rfl⟩
  | c + 1, D, j, acc, D2, acc2, e, h => by
    rw [moreF] at h
    split at h
    · cases h
    · have := moreF_len c _ _ _ _ _ _ h
      rw [List.length_append] at this
      simp at this
      omega
theorem allF_some {n : Nat} {acc : List (List UInt8)} {all : List UInt8} {ns : Nat} (h : allF n acc = some (all, ns)) : decE all = 0 ∧ ns = acc.length ∧ all.length = n := by
  unfold allF at h
  split at h
  · cases h
  · split at h
    · cases h
    · split at h
      · cases h
      · rename_i h1 h2
        cases h
        exact ⟨by omega, rfl, by omega⟩
theorem recF_some {D : Dk} {base most : Int} {gen i : Nat} {D2 : Dk} {all : List UInt8} {ns e : Nat} (h : recF D base most gen i = (D2, some (all, ns), e)) : decE all = 0 ∧ e = 0 ∧ 1 ≤ ns ∧ ns ≤ 17 := by
  unfold recF at h
  split at h
  · cases h
  · split at h
    · cases h
    · rename_i h1 h2
      split at h
      · cases h
      · rename_i D3 acc e3 hm
        have hl := moreF_len _ _ _ _ _ _ _ hm
        simp only [Prod.mk.injEq] at h
        obtain ⟨_, h3, h4⟩ := h
        have ha := allF_some h3
        have hh : headE (secF D base most gen i).2.1 = 0 := by omega
        have hnm := headNM _ hh
        have hnb : needB (secF D base most gen i).2.1 = 21 + headN (secF D base most gen i).2.1 + headM (secF D base most gen i).2.1 := by unfold needB; rw [if_pos hh]
        have hse := secs_eq (needB (secF D base most gen i).2.1)
        have hsp := secs_pos (needB (secF D base most gen i).2.1)
        refine ⟨ha.1, h4.symm, ?_, ?_⟩ <;> rw [ha.2.1, hl.1] <;> simp <;> omega
/-- A record's parts, as they are told. -/
def recT (r : Dk × Option (List UInt8 × Nat) × Nat) : Rc × List UInt8 × List UInt8 × Nat × Nat := match r.2.1 with
  | none => (⟨0, 0, 0, 0⟩, [], [], 0, r.2.2)
  | some z => (headR z.1, (z.1.drop 21).take (headN z.1), (z.1.drop (21 + headN z.1)).take (headM z.1), z.2, 0)
theorem dec_len {all : List UInt8} (h : decE all = 0) : ((all.drop 21).take (headN all)).length = headN all ∧ ((all.drop (21 + headN all)).take (headM all)).length = headM all ∧ headN all ≤ 250 ∧ headM all ≤ 512 := by
  have hh : headE all = 0 := by
    unfold decE at h
    split at h
    · assumption
    · assumption
  have hnm := headNM all hh
  have hnb : needB all = 21 + headN all + headM all := by unfold needB; rw [if_pos hh]
  unfold decE at h
  rw [if_pos hh, hnb] at h
  split at h
  · cases h
  · rw [List.length_take, List.length_take, List.length_drop, List.length_drop]
    omega
end Go.Lg
namespace Go.Proofs.YtjmocjcjiiopnaaGreat
open Go.RowKit Go.Ice Go.Oct Go.Dsk Go.Ring Go.Lg
/-- What reading a record tells and leaves. -/
def recU (p : Nat) (D : Dk) (T : Rc × List UInt8 × List UInt8 × Nat × Nat) (v : Value) (L : List Asn) : Prop := ∃ x y c d, v = .tuple #[recV T.1 (.slice x T.2.1.length c) (.slice y T.2.2.1.length d), .int .i64 T.2.2.2.1, .int .i64 T.2.2.2.2] ∧ L = [dskA p D, ownA 5 1 (.slice x T.2.1.length c) T.2.1.length (T.2.1.map u8v), ownA 5 1 (.slice y T.2.2.1.length d) T.2.2.1.length (T.2.2.1.map u8v)]
theorem urecord (p : Nat) (D : Dk) (base most : Int) (gen i : Nat) (hb : 0 ≤ base ∧ base ≤ 100000) (hi : i ≤ 50000) : Meets Tryz.prog 45 #[.agg (rdgC p base most gen).toArray, .int .i64 i] [dskA p D] [] fun v L => recU p (recF D base most gen i).1 (recT (recF D base most gen i)) v L := by
  intro w B H
  refine (lrecord p D base most gen i hb hi w B H).mono ?_
  rintro e w1 ⟨v, L, rfl, hq, H1⟩
  have hsome := fun D2 all ns e h => @recF_some D base most gen i D2 all ns e h
  generalize recF D base most gen i = r at *
  obtain ⟨D2, o, e2⟩ := r
  cases o with
  | none =>
    obtain ⟨rfl, rfl⟩ := hq
    have H2 := (H1.newNil 5 1).newNil 5 1
    exact Back.mk ⟨none, none, 0, 0, rfl, rfl⟩ (St.pick H2 [2, 0, 1])
  | some z =>
    obtain ⟨all, ns⟩ := z
    obtain ⟨hd, _, _⟩ := hsome _ _ _ _ rfl
    have hl := dec_len hd
    obtain ⟨_, x, y, c, d, rfl, rfl⟩ := hq
    refine Back.mk ⟨x, y, c, d, ?_, ?_⟩ H1
    · unfold recT
      dsimp only
      rw [hl.1, hl.2.1]; rfl
    · unfold recT
      dsimp only
      rw [hl.1, hl.2.1]
end Go.Proofs.YtjmocjcjiiopnaaGreat
end
