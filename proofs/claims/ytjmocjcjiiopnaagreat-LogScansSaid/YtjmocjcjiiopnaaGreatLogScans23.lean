/- The log: Scan. Conditions: what is known may be; the segment is one. -/
import Derived.Test.YtjmocjcjiiopnaaGreatLogScans22
import Derived.Test.YtjmocjcjiiopnaaGreatLogScans15
import Derived.Test.YtjmocjcjiiopnaaGreatLogScans08

section
set_option linter.unusedVariables false
set_option linter.unusedSimpArgs false
namespace Go.Lg
open Go.Ring Go.Dsk Go.Oct Go.Proofs.YtjmocjcjiiopnaaGreat
abbrev PlT := Nat × Rc × List UInt8 × List UInt8
/-- Records read one behind the other. -/
def scanGo (base most : Int) (g : Nat) : Nat → Dk → Nat → List PlT → Dk × Nat × List PlT × Nat
  | 0, D, u, acc => (D, 0, acc, u)
  | f + 1, D, u, acc =>
    if (recT (recF D base most g u)).2.2.2.2 ≠ 0 then ((recF D base most g u).1, (recT (recF D base most g u)).2.2.2.2, [], 0)
    else if (recT (recF D base most g u)).2.2.2.1 = 0 then ((recF D base most g u).1, 0, acc, u)
    else scanGo base most g f (recF D base most g u).1 (u + (recT (recF D base most g u)).2.2.2.1) (acc ++ [(u, (recT (recF D base most g u)).1, (recT (recF D base most g u)).2.1, (recT (recF D base most g u)).2.2.1)])
theorem scanGo_succ (base most : Int) (g f : Nat) (D : Dk) (u : Nat) (acc : List PlT) : scanGo base most g (f + 1) D u acc =
    if (recT (recF D base most g u)).2.2.2.2 ≠ 0 then ((recF D base most g u).1, (recT (recF D base most g u)).2.2.2.2, [], 0)
    else if (recT (recF D base most g u)).2.2.2.1 = 0 then ((recF D base most g u).1, 0, acc, u)
    else scanGo base most g f (recF D base most g u).1 (u + (recT (recF D base most g u)).2.2.2.1) (acc ++ [(u, (recT (recF D base most g u)).1, (recT (recF D base most g u)).2.1, (recT (recF D base most g u)).2.2.1)]) := rfl
/-- What a segment holds: the disk, the error, the generation, how much is used, the records. -/
def scanF (x : Sp) (D : Dk) (i : Nat) : Dk × Nat × Nat × Nat × List PlT :=
  if (D.read (2 + i * x.sec)).2.2 ≠ 0 then ((D.read (2 + i * x.sec)).1, (D.read (2 + i * x.sec)).2.2, 0, 0, [])
  else match readB (D.read (2 + i * x.sec)).2.1 with
  | none => ((D.read (2 + i * x.sec)).1, 0, 0, 0, [])
  | some z => if headS z.1 i ≠ (D.read (2 + i * x.sec)).2.1 then ((D.read (2 + i * x.sec)).1, 0, 0, 0, [])
    else if (scanGo (2 + i * x.sec) x.sec z.1 64 (D.read (2 + i * x.sec)).1 1 []).2.1 ≠ 0 then ((scanGo (2 + i * x.sec) x.sec z.1 64 (D.read (2 + i * x.sec)).1 1 []).1, (scanGo (2 + i * x.sec) x.sec z.1 64 (D.read (2 + i * x.sec)).1 1 []).2.1, 0, 0, [])
    else ((scanGo (2 + i * x.sec) x.sec z.1 64 (D.read (2 + i * x.sec)).1 1 []).1, 0, z.1, (scanGo (2 + i * x.sec) x.sec z.1 64 (D.read (2 + i * x.sec)).1 1 []).2.2.2, (scanGo (2 + i * x.sec) x.sec z.1 64 (D.read (2 + i * x.sec)).1 1 []).2.2.1)
theorem secF_lt {D : Dk} {base most : Int} {gen i : Nat} (h : (secF D base most gen i).2.2.2.1 = true) : (i : Int) < most := by
  unfold secF at h
  split at h
  · cases h
  · omega
theorem moreF_lt {base most : Int} {gen : Nat} : ∀ (c : Nat) (D : Dk) (j : Nat) (acc : List (List UInt8)) (D2 : Dk) (acc2 : List (List UInt8)) (e : Nat), moreF base most gen c D j acc = (D2, some acc2, e) → (j : Int) ≤ most → ((j + c : Nat) : Int) ≤ most
  | 0, D, j, acc, D2, acc2, e, h, hj => by simpa using hj
  | c + 1, D, j, acc, D2, acc2, e, h, hj => by
    rw [moreF] at h
    split at h
    · cases h
    · rename_i hn
      have h1 : (secF D base most gen j).2.2.2.1 = true := by
        cases hq : (secF D base most gen j).2.2.2.1
        · exact absurd (.inr hq) hn
        · rfl
      have := secF_lt h1
      have := moreF_lt c _ _ _ _ _ _ h (by omega)
      omega
theorem recF_le {D : Dk} {base most : Int} {gen i : Nat} {D2 : Dk} {all : List UInt8} {ns e : Nat} (h : recF D base most gen i = (D2, some (all, ns), e)) : ((i + ns : Nat) : Int) ≤ most := by
  unfold recF at h
  split at h
  · cases h
  · rename_i h0
    split at h
    · cases h
    · split at h
      · cases h
      · rename_i D3 acc e3 hm
        have hl := moreF_len _ _ _ _ _ _ _ hm
        simp only [Prod.mk.injEq] at h
        obtain ⟨_, h3, h4⟩ := h
        have ha := allF_some h3
        have h1 : (secF D base most gen i).2.2.2.1 = true := by
          cases hq : (secF D base most gen i).2.2.2.1
          · exact absurd (.inr hq) h0
          · rfl
        have hlt := secF_lt h1
        have := moreF_lt _ _ _ _ _ _ _ hm (by omega)
        have hll := hl.1
        simp at hll
        rw [ha.2.1, hll]
        omega
theorem recT_ns {D : Dk} {base most : Int} {gen i : Nat} (h : (recT (recF D base most gen i)).2.2.2.1 ≠ 0) : ((i + (recT (recF D base most gen i)).2.2.2.1 : Nat) : Int) ≤ most := by
  generalize hr : recF D base most gen i = r at *
  obtain ⟨D2, o, e⟩ := r
  cases o with
  | none => exact absurd rfl h
  | some z => obtain ⟨all, ns⟩ := z; exact recF_le hr
end Go.Lg
namespace Go.Proofs.YtjmocjcjiiopnaaGreat
open Go.RowKit Go.Ice Go.Oct Go.Dsk Go.Ring Go.Lg
theorem bigScan : Big Tryz.prog 43 3 := ⟨⟨_, Tryz.underlying43, rfl⟩, by kernel_rfl⟩
theorem elemPlaced : Elem Tryz.prog 41 122 9 96 (.agg #[.int .i64 0, .int .u64 0, .int .i64 0, .int .i64 0, .int .u32 0, .int .u32 0, .int .u64 0, .slice none 0 0, .slice none 0 0]) :=
  ⟨Tryz.underlying41, by
    obtain ⟨i0, hi, hz0, hz1, hz2⟩ := info_parts (show (Tryz.prog.info? 122).map (fun i => (i.zero, i.size, i.bytes)) = some (some (.agg #[.int .i64 0, .int .u64 0, .int .i64 0, .int .i64 0, .int .u32 0, .int .u32 0, .int .u64 0, .slice none 0 0, .slice none 0 0]), 9, 96) by kernel_rfl)
    exact ⟨i0, hi, hz0, hz1, hz2⟩, rfl, by decide⟩
theorem allocX_run (W : World) : (Instr.alloc 118 true (.tuple #[])).run Tryz.prog W = .ok (.pointer (some ⟨W.heap.size, 0, none⟩)) (W.alloc (.cells [.pointer none, .int .i64 0, .int .i64 0, .int .u64 0].toArray 118)) := by kernel_rfl
/-- A placed record, with where its bytes lie. -/
structure Pl where
  u : Nat
  rc : Rc
  ka : List UInt8
  va : List UInt8
  x : Option Addr
  c : Nat
  y : Option Addr
  d : Nat
def Pl.core (z : Pl) : PlT := (z.u, z.rc, z.ka, z.va)
def plC (i g : Nat) (z : Pl) : List Value := [.int .i64 i, .int .u64 g, .int .i64 z.u, .int .i64 z.rc.k, .int .u32 z.rc.f, .int .u32 z.rc.e, .int .u64 z.rc.s, .slice z.x z.ka.length z.c, .slice z.y z.va.length z.d]
def plO (z : Pl) : List Asn := [ownA 5 1 (.slice z.x z.ka.length z.c) z.ka.length (z.ka.map u8v), ownA 5 1 (.slice z.y z.va.length z.d) z.va.length (z.va.map u8v)]
/-- Placed records, with all that is theirs. -/
def plsA (i g : Nat) (v : Value) (l : List PlT) : Asn := exA fun zs : List Pl => sepA [purA (zs.map Pl.core = l), ownA 122 9 v l.length (zs.flatMap (plC i g)), sepA (zs.flatMap plO)]
/-- What Scan tells and leaves. -/
def scaQ (s p i : Nat) (x : Sp) (t : Nat) (r : Dk × Nat × Nat × Nat × List PlT) (v : Value) (L : List Asn) : Prop := ∃ vs, v = .tuple #[.agg #[.int .u64 r.2.2.1, .int .i64 r.2.2.2.1, vs], .int .i64 r.2.1] ∧ L = [blkA s (stoC x t p) 102, dskA p r.1, plsA i r.2.2.1 vs r.2.2.2.2]
section
variable {w0 : World} {B : Nat → Prop} {M S : List Asn} {w : World}
theorem plsA.nil (h : St w0 B M S w) (i g : Nat) : St w0 B (plsA i g (.slice none 0 0) [] :: M) S w := by
  have h1 := (h.newNil 122 9)
  have h2 : St w0 B ([] ++ (ownA 122 9 (.slice none 0 0) 0 [] :: M)) S w := h1
  have h3 := (St.swap h2.bind).addPur (φ := ([] : List Pl).map Pl.core = []) rfl
  exact St.close_ (f := fun zs : List Pl => sepA [purA (zs.map Pl.core = []), ownA 122 9 (.slice none 0 0) 0 (zs.flatMap (plC i g)), sepA (zs.flatMap plO)]) [] (St.bind (L := [_, _, _]) h3)
theorem plsA.mk {v : Value} {i g n : Nat} {zs : List Pl} (hn : n = zs.length) (h : St w0 B (ownA 122 9 v n (zs.flatMap (plC i g)) :: sepA (zs.flatMap plO) :: M) S w) : St w0 B (plsA i g v (zs.map Pl.core) :: M) S w := by
  subst hn
  have h3 := h.addPur (φ := zs.map Pl.core = zs.map Pl.core) rfl
  refine St.close_ (f := fun zs' : List Pl => sepA [purA (zs'.map Pl.core = zs.map Pl.core), ownA 122 9 v (zs.map Pl.core).length (zs'.flatMap (plC i g)), sepA (zs'.flatMap plO)]) zs (St.bind (L := [_, _, _]) ?_)
  rw [List.length_map]; exact h3
end
theorem scaQ.no {s p i : Nat} {x : Sp} {t : Nat} {r : Dk × Nat × Nat × Nat × List PlT} {D : Dk} {e : Nat} (h : r = (D, e, 0, 0, [])) : scaQ s p i x t r (.tuple #[.agg #[.int .u64 0, .int .i64 0, .slice none 0 0], .int .i64 e]) [blkA s (stoC x t p) 102, dskA p D, plsA i 0 (.slice none 0 0) []] := by subst h; exact ⟨_, rfl, rfl⟩
theorem scaQ.yes {s p i : Nat} {x : Sp} {t : Nat} {r : Dk × Nat × Nat × Nat × List PlT} {D : Dk} {g u : Nat} {l : List PlT} (h : r = (D, 0, g, u, l)) (v : Value) : scaQ s p i x t r (.tuple #[.agg #[.int .u64 g, .int .i64 u, v], .int .i64 0]) [blkA s (stoC x t p) 102, dskA p D, plsA i g v l] := by subst h; exact ⟨_, rfl, rfl⟩
set_option maxHeartbeats 32000000 in
set_option maxRecDepth 100000 in
theorem lscan (s p : Nat) (x : Sp) (t : Nat) (D : Dk) (i : Nat) (hmay : x.may = true) (hi : (i : Int) < x.seg) : Meets Tryz.prog 12 #[.pointer (some ⟨s, 0, none⟩), .int .i64 i] [blkA s (stoC x t p) 102, dskA p D] [] fun v L => scaQ s p i x t (scanF x D i) v L := by
  intro w B H
  have ok := dskA_ok (H.tail)
  have hmx := of_decide_eq_true hmay
  obtain ⟨bs, hbs⟩ : ∃ bs, bs = 2 + (i : Int) * x.sec := ⟨_, rfl⟩
  have hpr : 0 ≤ (i : Int) * x.sec ∧ (i : Int) * x.sec ≤ 1024 := by
    have a1 := Int.mul_nonneg (show 0 ≤ (i : Int) by omega) (show 0 ≤ x.sec by omega)
    have a2 := Int.mul_le_mul (show (i : Int) ≤ 16 by omega) (show x.sec ≤ 64 by omega) (show 0 ≤ x.sec by omega) (by decide)
    omega
  have hbs1 : 0 ≤ bs ∧ bs ≤ 100000 := by omega
  have HBAS := sbase s x t p (i : Int) hmay
  have hbv : baseV x (i : Int) = .tuple #[.int .i64 (2 + (i : Int) * x.sec), .int .i64 0] := if_pos ⟨by omega, hi⟩
  rw [hbv, ← hbs] at HBAS
  have HDSK := sdisk s x t p
  have HGET := sget s x t p
  unfold supV supC at HGET
  have HRD := dread p D bs
  have la := Dk.read_len ok bs
  have hro : scanF x D i = if (D.read bs).2.2 ≠ 0 then ((D.read bs).1, (D.read bs).2.2, 0, 0, [])
    else match readB (D.read bs).2.1 with
    | none => ((D.read bs).1, 0, 0, 0, [])
    | some z => if headS z.1 i ≠ (D.read bs).2.1 then ((D.read bs).1, 0, 0, 0, [])
      else if (scanGo bs x.sec z.1 64 (D.read bs).1 1 []).2.1 ≠ 0 then ((scanGo bs x.sec z.1 64 (D.read bs).1 1 []).1, (scanGo bs x.sec z.1 64 (D.read bs).1 1 []).2.1, 0, 0, [])
      else ((scanGo bs x.sec z.1 64 (D.read bs).1 1 []).1, 0, z.1, (scanGo bs x.sec z.1 64 (D.read bs).1 1 []).2.2.2, (scanGo bs x.sec z.1 64 (D.read bs).1 1 []).2.2.1) := by rw [hbs]; rfl
  obtain ⟨r, hr⟩ : ∃ r, r = scanF x D i := ⟨_, rfl⟩
  rw [← hr] at hro ⊢
  generalize D.read bs = r1 at *
  obtain ⟨D1, bl, e1⟩ := r1
  dsimp only at hro HRD la
  have HSR := stamp_read bl la
  obtain ⟨fb, hfb⟩ : ∃ fb, fb = bl.map u8v := ⟨_, rfl⟩
  have hfbl : fb.length = 64 := by rw [hfb, List.length_map, la]
  have hfb1 : ∀ u ∈ fb, u.oneCell' = true := by rw [hfb]; exact u8v_one _
  unfold blkV at HRD HSR
  rw [← hfb] at HRD HSR
  have hsec : 24 ≤ x.sec ∧ x.sec ≤ 64 := by omega
  have hi16 : i ≤ 16 := by omega
  have HFB := Lib.hid hfb
  have HLA := Lib.hid la
  have HRO := Lib.hid hro
  have HBAS := Lib.hid HBAS
  have HDSK := Lib.hid HDSK
  have HGET := Lib.hid HGET
  have HRD := Lib.hid HRD
  clear hro hr hbv hpr hbs hmx ok hi hmay hfb la
  have H1 := H.alloc [.int .u64 0, .int .i64 0, .slice none 0 0] 43
  obtain ⟨qb, hqb⟩ : ∃ qb, qb = w.heap.size := ⟨_, rfl⟩
  rw [← hqb] at H1
  go_enter Tryz.func12, Tryz.ntmps12
  go_upto_region 1 with fail
  rw [← hqb]
  clear hqb
  refine wp_world (fun W => St w B _ _ W) H1 ?_
  intro w1 H2
  clear H1 H
  go_step3
  go_wp2_with fail
  refine (HBAS.out.call (L := [_]) (M := [_, _]) (St.pick H2 [1, 0, 2]) (by simp)).mono ?_
  rintro e w3 ⟨_, L', rfl, ⟨rfl, rfl⟩, H3⟩
  clear H2
  go_wp2_with fail
  refine (HDSK.out.call (L := [_]) (M := [_, _]) H3 (by simp)).mono ?_
  rintro e w4 ⟨_, L', rfl, ⟨rfl, rfl⟩, H4⟩
  clear H3
  go_wp2_with fail
  refine (HRD.out.call (L := [_]) (M := [_, _]) (St.pick H4 [2, 0, 1]) (by simp)).mono ?_
  rintro e w5 ⟨_, L', rfl, ⟨rfl, rfl⟩, H5⟩
  clear H4
  obtain ⟨bk, hbk⟩ : ∃ bk, bk = w5.heap.size := ⟨_, rfl⟩
  by_cases h1 : e1 = 0
  · subst h1
    have hro2 := HRO.out
    rw [if_neg (show ¬ ((0 : Nat) ≠ 0) by decide)] at hro2
    have HRO2 := Lib.hid hro2
    clear hro2 HRO
    have HBK := Lib.hid hbk
    clear hbk
    go_wp2_with (first | ((refine wpl_store rfl _ _ _ rfl w5.heap.size 0 (by rfl) fb (by rfl) 64 hfbl (there_whole _ _ _ _ (by decide)) bigBlock hfb1 ?_); (refine wpl_world _ (H5.whole _ _ fb (by rw [hfbl]; rfl)) ?_); intro w6 H6; (have hrg := St.range H6 0)) | (refine wpl_load rfl _ _ rfl w5.heap.size 0 (by rfl) fb 64 hfbl hrg bigBlock ?_))
    rw [← HBK.out] at H6 ⊢
    clear H5 hrg
    cases hrb : readB bl with
    | none =>
      have hro3 := HRO2.out
      rw [hrb] at hro3 HSR
      dsimp only at hro3 HSR
      have HQ := Lib.hid hro3
      clear hro3 HRO2 hrb
      unfold stV at HSR
      refine (HSR.call (L := []) (M := [_, _, _, _]) H6 (by simp)).mono ?_
      rintro e w7 ⟨_, L', rfl, ⟨rfl, rfl⟩, H7⟩
      have H8 := H7.alloc [.int .u64 0, .int .u32 0, .int .i64 0] 113
      go_upto_region 10 with fail
      refine wp_world (fun W => St w B _ _ W) H8 ?_
      clear H6 H7 H8 HSR
      intro w8 H9
      obtain ⟨hc, hf⟩ := St.cells H9 4
      go_wp2_with fail
      rw [Exit.noGoto_ret]
      have H10 := ((H9.set_ 4 0 (.int .u64 0)).set_ 4 1 (.int .i64 0)).set_ 4 2 (.slice none 0 0)
      exact bodyPost_ret (results_ct rfl rfl bigScan (St.range H10 4)) rfl (Back.mk (scaQ.no HQ.out) (St.pick (plsA.nil H10 i 0) [4, 3, 0]))
    | some z =>
      obtain ⟨g, pp, pl⟩ := z
      have hro3 := HRO2.out
      rw [hrb] at hro3 HSR
      dsimp only at hro3 HSR
      have HRO3 := Lib.hid hro3
      have hbd := readB_bound HLA.out hrb
      clear hro3 HRO2 hrb
      unfold stV at HSR
      have HHD := header g i ⟨hbd.1, hbd.2.1⟩ (by omega)
      obtain ⟨hd, hhd⟩ : ∃ hd, hd = headS g i := ⟨_, rfl⟩
      have hdl : hd.length = 64 := by rw [hhd]; exact packB_len _ _ _ (by rw [beB_len]; decide)
      have hro4 := HRO3.out
      rw [← hhd] at HHD hro4
      have HRO4 := Lib.hid hro4
      clear hro4 HRO3 hhd
      obtain ⟨fh, hfh⟩ : ∃ fh, fh = hd.map u8v := ⟨_, rfl⟩
      have hfhl : fh.length = 64 := by rw [hfh, List.length_map, hdl]
      have hfh1 : ∀ u ∈ fh, u.oneCell' = true := by rw [hfh]; exact u8v_one _
      have hneq := fun w => neq_block (.tmp 61) (.tmp 62) hd bl hdl HLA.out w
      unfold blkV at HHD hneq
      rw [← hfh, ← HFB.out] at hneq
      rw [← hfh] at HHD
      have HHD := Lib.hid HHD
      clear hfh hdl
      refine (HSR.call (L := []) (M := [_, _, _, _]) H6 (by simp)).mono ?_
      rintro e w7 ⟨_, L', rfl, ⟨ap, cp, rfl, rfl⟩, H7⟩
      have H8 := (St.tail H7).alloc [.int .u64 g, .int .u32 pp, .int .i64 pl.length] 113
      obtain ⟨sb, hsb⟩ : ∃ sb, sb = w7.heap.size := ⟨_, rfl⟩
      rw [← hsb] at H8
      go_upto_region 10 with fail
      rw [← hsb]
      clear hsb
      refine wp_world (fun W => St w B _ _ W) H8 ?_
      clear H6 H7 H8 HSR
      intro w8 H9
      obtain ⟨hc, hf⟩ := St.cells H9 0
      go_wp2_with fail
      refine (HHD.out.call (L := []) (M := [_, _, _, _, _]) H9 (by simp)).mono ?_
      rintro e w9 ⟨_, L', rfl, ⟨rfl, rfl⟩, H10⟩
      clear H9 hc hf
      simp only [List.nil_append] at H10
      by_cases hh : hd = bl
      · have hro5 := HRO4.out
        rw [if_neg (by rw [hh]; simp)] at hro5
        have HRO5 := Lib.hid hro5
        rw [show decide (hd = bl) = true from decide_eq_true hh, Bool.not_true] at hneq
        clear hro5 HRO4 hh
        have H12 := H10.whole zs64 38 fh (by rw [hfhl]; rfl)
        go_upto_region 13 with (((refine wpl_store rfl _ _ _ rfl w9.heap.size 0 (by rfl) fh (by rfl) 64 hfhl (there_whole _ _ _ _ (by decide)) bigBlock hfh1 ?_); (refine wpl_world _ H12 ?_); intro w12 H13; (have hr0 := St.range H13 0); (have hr5 := St.range H13 2); (have hn1 := hneq w12)))
        clear hneq H10 H12
        try dsimp only [Act.put]
        obtain ⟨hb9, hhb9⟩ : ∃ hb9, hb9 = w9.heap.size := ⟨_, rfl⟩
        rw [← hhb9] at H13 hr0 ⊢
        clear hhb9
        go_step
        refine wplg_val (v := .int .i64 0) (w' := w12) rfl (by simp [execOp, go_sem, Act.eval]) ?_
        simp only [Act.put, List.setIfInBounds_toArray, List.set_cons_succ, List.set_cons_zero]
        refine wplg_val (v := .bool false) (w' := w12) rfl (by simp [execOp, go_sem, Act.eval]) ?_
        simp only [Act.put, List.setIfInBounds_toArray, List.set_cons_succ, List.set_cons_zero]
        refine wplg_val (v := .bool false) (w' := w12) rfl (by simp [execOp, go_sem, Act.eval]) ?_
        simp only [Act.put, List.setIfInBounds_toArray, List.set_cons_succ, List.set_cons_zero]
        refine wplg_load rfl _ _ rfl hb9 0 rfl hfhl hr0 bigBlock ?_
        simp only [Act.put, List.setIfInBounds_toArray, List.set_cons_succ, List.set_cons_zero]
        refine wplg_load rfl _ _ rfl bk 0 rfl hfbl hr5 bigBlock ?_
        simp only [Act.put, List.setIfInBounds_toArray, List.set_cons_succ, List.set_cons_zero]
        refine wplg_binop rfl rfl (vx := .agg fh.toArray) (vy := .agg fb.toArray) rfl rfl hn1 ?_
        simp only [Act.put, List.setIfInBounds_toArray, List.set_cons_succ, List.set_cons_zero]
        refine wplg_val (v := .bool false) (w' := w12) rfl (by simp [execOp, go_sem, Act.eval]) ?_
        simp only [Act.put, List.setIfInBounds_toArray, List.set_cons_succ, List.set_cons_zero]
        clear hr0 hr5 hn1
        have H14 := (St.pick H13 [1, 3, 4, 5])
        obtain ⟨hc, hf⟩ := St.cells H14 0
        have H15 := H14.alloc [.int .u64 g, .int .i64 1, .slice none 0 0] 43
        obtain ⟨ob, hob⟩ : ∃ ob, ob = w12.heap.size := ⟨_, rfl⟩
        rw [← hob] at H15
        go_upto_region 16 with fail
        rw [← hob]
        clear hob
        refine wp_world (fun W => St w B _ _ W) H15 ?_
        clear H13 H14 H15 hc hf
        intro w15 H16
        have hfield : ∀ W, (Instr.field 51 (.agg #[.int .i64 x.seg, .int .i64 x.sec, .int .u64 x.gen, .int .u64 x.ret, .int .u64 x.resv, .int .u64 x.flush]) 1).run Tryz.prog W = .ok (.int .i64 x.sec) W := fun W => by kernel_rfl
        refine wp_region_gh (Θ := Nat) (fun rx => [(0, 69, (.pointer (some ⟨s, 0, none⟩))), (1, 70, (.pointer (some ⟨p, 0, none⟩))), (2, 71, (.int .i64 bs)), (3, 72, (.pointer (some ⟨s, 0, none⟩))), (4, 73, (.agg #[.int .i64 x.seg, .int .i64 x.sec, .int .u64 x.gen, .int .u64 x.ret, .int .u64 x.resv, .int .u64 x.flush])), (5, 74, (.int .i64 x.sec)), (6, 75, (.pointer (some ⟨sb, 0, none⟩))), (7, 76, (.int .u64 g)), (8, 77, (.agg #[.pointer (some ⟨p, 0, none⟩), .int .i64 bs, .int .i64 x.sec, .int .u64 g])), (9, 14, (.pointer (some ⟨rx, 0, none⟩)))]) (fun rx done WW => St w B (bif done 10 then [blkA rx [.pointer (some ⟨p, 0, none⟩), .int .i64 bs, .int .i64 x.sec, .int .u64 g] 118, blkA s (stoC x t p) 102, blkA ob [.int .u64 g, .int .i64 1, .slice none 0 0] 43, blkA sb [.int .u64 g, .int .u32 pp, .int .i64 pl.length] 113, dskA p D1, blkA qb [.int .u64 0, .int .i64 0, .slice none 0 0] 43] else ((bif done 9 then [blkA rx [.pointer none, .int .i64 0, .int .i64 0, .int .u64 0] 118] else []) ++ [blkA s (stoC x t p) 102, blkA ob [.int .u64 g, .int .i64 1, .slice none 0 0] 43, blkA sb [.int .u64 g, .int .u32 pp, .int .i64 pl.length] 113, dskA p D1, blkA qb [.int .u64 0, .int .i64 0, .slice none 0 0] 43])) [] WW) (by kernel_rfl) (hord_of2 (by kernel_rfl)) (fun _ => by kernel_rfl) (fun _ => by kernel_rfl) (fun _ => by kernel_rfl) ⟨0, (show St w B ([] ++ [blkA s (stoC x t p) 102, blkA ob [.int .u64 g, .int .i64 1, .slice none 0 0] 43, blkA sb [.int .u64 g, .int .u32 pp, .int .i64 pl.length] 113, dskA p D1, blkA qb [.int .u64 0, .int .i64 0, .slice none 0 0] 43]) [] _ from (St.pick H16 [3, 0, 1, 2, 4]).drew)⟩ ?_ ?_
        · intro rx done zb WW j oq ho hd hdep hcl HA HJ
          have hj : j < 11 := (Array.getElem?_eq_some_iff.1 ho).1
          obtain rfl | rfl | rfl | rfl | rfl | rfl | rfl | rfl | rfl | rfl | rfl : j = 0 ∨ j = 1 ∨ j = 2 ∨ j = 3 ∨ j = 4 ∨ j = 5 ∨ j = 6 ∨ j = 7 ∨ j = 8 ∨ j = 9 ∨ j = 10 := by omega
          · exact valG (θ := rx) (.pointer (some ⟨s, 0, none⟩)) ho (by cases ho; rfl) (by cases ho; simp [execOp, go_sem, HA.tm, lookT]) (by cases ho; exact fun d hd => by cases hd; simp) HJ
          · have p0 : done 0 = true := by cases ho; exact hdep ⟨0, .data⟩ (by simp) rfl
            have n8 : done 8 = false := by cases hx : done 8 with | false => rfl | true => have := hcl 8 _ rfl hx ⟨1, .data⟩ (by simp) rfl; rw [hd] at this; cases this
            have n10 : done 10 = false := by cases hx : done 10 with | false => rfl | true => have := hcl 10 _ rfl hx ⟨8, .data⟩ (by simp) rfl; rw [n8] at this; cases this
            have HK := HJ
            simp only [n10, cond_false] at HK
            exact callG (θ := rx) (f := 41) (args := #[.pointer (some ⟨s, 0, none⟩)]) ho (by cases ho; rfl) (by cases ho; simp [execOp, go_sem, HA.tm, lookT, p0]) (HDSK.out.call (L := [_]) (M := [blkA ob [.int .u64 g, .int .i64 1, .slice none 0 0] 43, blkA sb [.int .u64 g, .int .u32 pp, .int .i64 pl.length] 113, dskA p D1, blkA qb [.int .u64 0, .int .i64 0, .slice none 0 0] 43] ++ (bif done 9 then [blkA rx [.pointer none, .int .i64 0, .int .i64 0, .int .u64 0] 118] else [])) (St.back (M := (bif done 9 then [blkA rx [.pointer none, .int .i64 0, .int .i64 0, .int .u64 0] 118] else [])) (L := [blkA s (stoC x t p) 102, blkA ob [.int .u64 g, .int .i64 1, .slice none 0 0] 43, blkA sb [.int .u64 g, .int .u32 pp, .int .i64 pl.length] 113, dskA p D1, blkA qb [.int .u64 0, .int .i64 0, .slice none 0 0] 43]) HK) (by simp)) (by
              rintro e w' ⟨_, _, rfl, ⟨rfl, rfl⟩, HS'⟩
              exact ⟨_, rx, rfl, by cases ho; exact fun d hd => by cases hd; simp, .inl rfl, St.cast (by simp [n10]) (St.back (M := [blkA s (stoC x t p) 102, blkA ob [.int .u64 g, .int .i64 1, .slice none 0 0] 43, blkA sb [.int .u64 g, .int .u32 pp, .int .i64 pl.length] 113, dskA p D1, blkA qb [.int .u64 0, .int .i64 0, .slice none 0 0] 43]) (L := (bif done 9 then [blkA rx [.pointer none, .int .i64 0, .int .i64 0, .int .u64 0] 118] else [])) HS')⟩)
          · exact valG (θ := rx) (.int .i64 bs) ho (by cases ho; rfl) (by cases ho; simp [execOp, go_sem, HA.tm, lookT]) (by cases ho; exact fun d hd => by cases hd; simp) HJ
          · exact valG (θ := rx) (.pointer (some ⟨s, 0, none⟩)) ho (by cases ho; rfl) (by cases ho; simp [execOp, go_sem, HA.tm, lookT]) (by cases ho; exact fun d hd => by cases hd; simp) HJ
          · have p3 : done 3 = true := by cases ho; exact hdep ⟨3, .data⟩ (by simp) rfl
            have n5 : done 5 = false := by cases hx : done 5 with | false => rfl | true => have := hcl 5 _ rfl hx ⟨4, .data⟩ (by simp) rfl; rw [hd] at this; cases this
            have n8 : done 8 = false := by cases hx : done 8 with | false => rfl | true => have := hcl 8 _ rfl hx ⟨5, .data⟩ (by simp) rfl; rw [n5] at this; cases this
            have n10 : done 10 = false := by cases hx : done 10 with | false => rfl | true => have := hcl 10 _ rfl hx ⟨8, .data⟩ (by simp) rfl; rw [n8] at this; cases this
            have HK := HJ
            simp only [n10, cond_false] at HK
            exact callG (θ := rx) (f := 27) (args := #[.pointer (some ⟨s, 0, none⟩)]) ho (by cases ho; rfl) (by cases ho; simp [execOp, go_sem, HA.tm, lookT, p3]) (HGET.out.call (L := [_]) (M := [blkA ob [.int .u64 g, .int .i64 1, .slice none 0 0] 43, blkA sb [.int .u64 g, .int .u32 pp, .int .i64 pl.length] 113, dskA p D1, blkA qb [.int .u64 0, .int .i64 0, .slice none 0 0] 43] ++ (bif done 9 then [blkA rx [.pointer none, .int .i64 0, .int .i64 0, .int .u64 0] 118] else [])) (St.back (M := (bif done 9 then [blkA rx [.pointer none, .int .i64 0, .int .i64 0, .int .u64 0] 118] else [])) (L := [blkA s (stoC x t p) 102, blkA ob [.int .u64 g, .int .i64 1, .slice none 0 0] 43, blkA sb [.int .u64 g, .int .u32 pp, .int .i64 pl.length] 113, dskA p D1, blkA qb [.int .u64 0, .int .i64 0, .slice none 0 0] 43]) HK) (by simp)) (by
              rintro e w' ⟨_, _, rfl, ⟨rfl, rfl⟩, HS'⟩
              exact ⟨_, rx, rfl, by cases ho; exact fun d hd => by cases hd; simp, .inl rfl, St.cast (by simp [n10]) (St.back (M := [blkA s (stoC x t p) 102, blkA ob [.int .u64 g, .int .i64 1, .slice none 0 0] 43, blkA sb [.int .u64 g, .int .u32 pp, .int .i64 pl.length] 113, dskA p D1, blkA qb [.int .u64 0, .int .i64 0, .slice none 0 0] 43]) (L := (bif done 9 then [blkA rx [.pointer none, .int .i64 0, .int .i64 0, .int .u64 0] 118] else [])) HS')⟩)
          · have p4 : done 4 = true := by cases ho; exact hdep ⟨4, .data⟩ (by simp) rfl
            exact valG (θ := rx) (.int .i64 x.sec) ho (by cases ho; rfl) (by cases ho; simp [execOp, go_sem, HA.tm, lookT, p4, hfield]) (by cases ho; exact fun d hd => by cases hd; simp) HJ
          · exact valG (θ := rx) (.pointer (some ⟨sb, 0, none⟩)) ho (by cases ho; rfl) (by cases ho; simp [execOp, go_sem, HA.tm, lookT]) (by cases ho; exact fun d hd => by cases hd; simp) HJ
          · have p6 : done 6 = true := by cases ho; exact hdep ⟨6, .data⟩ (by simp) rfl
            have n8 : done 8 = false := by cases hx : done 8 with | false => rfl | true => have := hcl 8 _ rfl hx ⟨7, .data⟩ (by simp) rfl; rw [hd] at this; cases this
            have n10 : done 10 = false := by cases hx : done 10 with | false => rfl | true => have := hcl 10 _ rfl hx ⟨8, .data⟩ (by simp) rfl; rw [n8] at this; cases this
            have hcl_ : ∀ k, WW.cell? ⟨sb, k, none⟩ = ([.int .u64 g, .int .u32 pp, .int .i64 pl.length])[k]? := by
              have HQ := HJ
              cases g9 : done 9 <;> (try simp only [n10, g9, hd, cond_true, cond_false] at HQ) <;> first | exact (St.cells HQ 0).1 | exact (St.cells HQ 1).1 | exact (St.cells HQ 2).1 | exact (St.cells HQ 3).1 | exact (St.cells HQ 4).1 | exact (St.cells HQ 5).1 | exact (St.cells HQ 6).1 | exact (St.cells HQ 7).1
            exact valG (θ := rx) (.int .u64 g) ho (by cases ho; rfl) (by cases ho; simp [execOp, go_sem, HA.tm, lookT, p6, hcl_]) (by cases ho; exact fun d hd => by cases hd; simp) HJ
          · have p1 : done 1 = true := by cases ho; exact hdep ⟨1, .data⟩ (by simp) rfl
            have p2 : done 2 = true := by cases ho; exact hdep ⟨2, .data⟩ (by simp) rfl
            have p5 : done 5 = true := by cases ho; exact hdep ⟨5, .data⟩ (by simp) rfl
            have p7 : done 7 = true := by cases ho; exact hdep ⟨7, .data⟩ (by simp) rfl
            exact valG (θ := rx) (.agg #[.pointer (some ⟨p, 0, none⟩), .int .i64 bs, .int .i64 x.sec, .int .u64 g]) ho (by cases ho; rfl) (by cases ho; simp [execOp, go_sem, HA.tm, lookT, p1, p2, p5, p7]) (by cases ho; exact fun d hd => by cases hd; simp) HJ
          · have n10 : done 10 = false := by cases hx : done 10 with | false => rfl | true => have := hcl 10 _ rfl hx ⟨9, .data⟩ (by simp) rfl; rw [hd] at this; cases this
            have HK := HJ
            simp only [hd, n10, cond_false, List.nil_append] at HK
            exact allocG (θ := rx) WW.heap.size _ ho (by cases ho; rfl) (by cases ho; rfl) (allocX_run WW) (by cases ho; exact fun d hd => by cases hd; simp) (.inr (.cons (.inl rfl) (.cons (.inl rfl) (.cons (.inl rfl) (.cons (.inl rfl) (.cons (.inl rfl) (.cons (.inl rfl) (.cons (.inl rfl) (.cons (.inl rfl) (.cons (.inl rfl) (.cons (.inr ⟨rfl, hd⟩) (.nil)))))))))))) (St.cast (by simp [n10]) (HK.alloc [.pointer none, .int .i64 0, .int .i64 0, .int .u64 0] 118))
          · have p9 : done 9 = true := by cases ho; exact hdep ⟨9, .data⟩ (by simp) rfl
            have p8 : done 8 = true := by cases ho; exact hdep ⟨8, .data⟩ (by simp) rfl
            have HK := HJ
            simp only [p9, hd, cond_true, cond_false] at HK
            exact storeG (θ := rx) _ (.tmp 14) (.tmp 77) ho (by cases ho; rfl) (by cases ho; rfl) (by cases ho; rfl) (by simp [HA.ev, HA.tm, lookT, Act.eval, p8, p9]) (by first | (simp [HA.ev, HA.tm, lookT, Act.eval, p8, p9]; done) | (simp [HA.ev, HA.tm, lookT, Act.eval, p8, p9]; rfl)) (bigRdg.store (show ([.pointer (some ⟨p, 0, none⟩), .int .i64 bs, .int .i64 x.sec, .int .u64 g] : List Value).length = 4 from rfl) (St.there HK 0 4) (by simp [Value.oneCell'])) (St.cast (by simp) (St.setAllAt HK 0 (vs := [.pointer (some ⟨p, 0, none⟩), .int .i64 bs, .int .i64 x.sec, .int .u64 g]) rfl rfl))
        · intro rx done WW hall HJ
          have z10 := hall 10 (by decide)
          have z9 := hall 9 (by decide)
          have HE : St w B [blkA rx [.pointer (some ⟨p, 0, none⟩), .int .i64 bs, .int .i64 x.sec, .int .u64 g] 118, blkA s (stoC x t p) 102, blkA ob [.int .u64 g, .int .i64 1, .slice none 0 0] 43, blkA sb [.int .u64 g, .int .u32 pp, .int .i64 pl.length] 113, dskA p D1, blkA qb [.int .u64 0, .int .i64 0, .slice none 0 0] 43] [] WW := St.cast (by simp [z10, z9]) HJ
          clear HJ hall z10 z9
          simp only [putAll, Act.put, List.setIfInBounds_toArray, List.set_cons_succ, List.set_cons_zero]
          have H17 := HE
          clear HE H16
          have H18 : St w B [ownA 122 9 (.slice none 0 0) ([] : List Pl).length (([] : List Pl).flatMap (plC i g)), sepA (([] : List Pl).flatMap plO), dskA p D1, blkA ob [.int .u64 g, .int .i64 (1 : Nat), (.slice none 0 0)] 43, blkA rx [.pointer (some ⟨p, 0, none⟩), .int .i64 bs, .int .i64 x.sec, .int .u64 g] 118, blkA s (stoC x t p) 102, blkA sb [.int .u64 g, .int .u32 pp, .int .i64 pl.length] 113, blkA qb [.int .u64 0, .int .i64 0, .slice none 0 0] 43] [] WW := by
            have h1 : St w B ([] ++ _) [] WW := H17
            have h2 := (h1.bind).newNil 122 9
            exact St.pick h2 [0, 1, 6, 4, 2, 3, 5, 7]
          clear H17 hfield
          go_wp2_with fail
          go_step3
          go_wp2_with fail
          go_loopg [] 64 (fun gq wr => ∃ (u f : Nat) (acc : List Pl) (Dj : Dk) (a : Option Addr) (c : Nat), 1 ≤ u ∧ (u : Int) ≤ x.sec ∧ gq = 65 - u ∧ 65 ≤ u + f ∧ acc.length < u ∧ Hid (scanGo bs x.sec g 64 D1 1 [] = scanGo bs x.sec g f Dj u (acc.map Pl.core)) ∧ Hid (St w B [ownA 122 9 (.slice a acc.length c) acc.length (acc.flatMap (plC i g)), sepA (acc.flatMap plO), dskA p Dj, blkA ob [.int .u64 g, .int .i64 u, (.slice a acc.length c)] 43, blkA rx [.pointer (some ⟨p, 0, none⟩), .int .i64 bs, .int .i64 x.sec, .int .u64 g] 118, blkA s (stoC x t p) 102, blkA sb [.int .u64 g, .int .u32 pp, .int .i64 pl.length] 113, blkA qb [.int .u64 0, .int .i64 0, .slice none 0 0] 43] [] wr))
          case atStart => exact ⟨1, 64, [], D1, none, 0, Nat.le_refl _, by omega, rfl, Nat.le_refl _, by simp, Lib.hid rfl, Lib.hid H18⟩
          case round =>
          obtain ⟨u, f, acc, Dj, a, c, hu1, hu, rfl, huf, hacc, HSG, HI⟩ := hrel
          obtain ⟨f, rfl⟩ : ∃ f', f = f' + 1 := ⟨f - 1, by omega⟩
          clear H18
          have HI := HI.out
          have HUR := urecord p Dj bs x.sec g u hbs1 (by omega)
          have hns := @recT_ns Dj bs x.sec g u
          have hsg := HSG.out
          rw [scanGo_succ bs x.sec g f Dj u (acc.map Pl.core)] at hsg
          generalize recF Dj bs x.sec g u = rr at *
          generalize hTT : recT rr = TT at *
          obtain ⟨D2, oo, ee⟩ := rr
          obtain ⟨⟨rk, rf, re, rs⟩, ka, va, ns, er⟩ := TT
          dsimp only at hns hsg
          unfold recU recV rdgC at HUR
          dsimp only at HUR
          have HSG2 := Lib.hid hsg
          have HNS := Lib.hid hns
          have HUR := Lib.hid HUR
          clear hsg hns hTT HSG
          obtain ⟨hc, hf⟩ := St.cells HI 3
          obtain ⟨hc2, hf2⟩ := St.cells HI 4
          go_wp2_with fail
          refine (HUR.out.call (L := [_]) (M := [_, _, _, _, _, _, _]) (St.pick HI [2, 0, 1, 3, 4, 5, 6, 7]) (by simp)).mono ?_
          rintro e w18 ⟨_, L', rfl, ⟨x1, y1, c1, d1, rfl, rfl⟩, H19⟩
          clear HI hc hf hc2 hf2 HUR
          have H20 := H19.alloc [.int .i64 rk, .int .u32 rf, .int .u32 re, .int .u64 rs, .slice x1 ka.length c1, .slice y1 va.length d1] 62
          obtain ⟨xr, hxr⟩ : ∃ xr, xr = w18.heap.size := ⟨_, rfl⟩
          rw [← hxr] at H20
          by_cases h1 : er = 0
          · subst h1
            have hsg := HSG2.out
            rw [if_neg (show ¬ ((0 : Nat) ≠ 0) by decide)] at hsg
            by_cases h2 : ns = 0
            · subst h2
              rw [if_pos rfl] at hsg
              have hrr := HRO5.out
              rw [hsg] at hrr
              rw [if_neg (by simp)] at hrr
              have HQ := Lib.hid hrr
              clear hsg hrr HSG2 HRO5
              go_upto_region 23 with fail
              rw [← hxr]
              clear hxr
              refine wp_world (fun W => St w B _ _ W) H20 ?_
              intro w20 H21
              clear H19 H20
              obtain ⟨hc, hf⟩ := St.cells H21 6
              obtain ⟨hc2, hf2⟩ := St.cells H21 10
              go_wp2_with fail
              rw [Exit.noGoto_ret]
              have H22 := ((H21.set_ 10 0 (.int .u64 g)).set_ 10 1 (.int .i64 u)).set_ 10 2 (.slice a acc.length c)
              have H23 := plsA.mk rfl (St.pick H22 [4, 5, 8, 1, 10])
              exact bodyPost_ret (results_ct rfl rfl bigScan (St.range H22 10)) rfl (Back.mk (scaQ.yes HQ.out (.slice a acc.length c)) (St.pick H23 [1, 2, 0]))
            · rw [if_neg h2] at hsg
              obtain ⟨el, hel⟩ : ∃ el : Pl, el = ⟨u, ⟨rk, rf, re, rs⟩, ka, va, x1, c1, y1, d1⟩ := ⟨_, rfl⟩
              have hsg2 : scanGo bs x.sec g 64 D1 1 [] = scanGo bs x.sec g f D2 (u + ns) ((acc ++ [el]).map Pl.core) := by rw [hsg, List.map_append, hel]; rfl
              have hns := HNS.out h2
              have HSG3 := Lib.hid hsg2
              have HNS2 := Lib.hid hns
              have hne : ((ns : Int) == 0) = false := by simp; omega
              have HN2 := Lib.hid h2
              clear hsg hsg2 hns HSG2 h2 HNS
              go_upto_region 21 with fail
              rw [← hxr]
              clear hxr
              refine wp_world (fun W => St w B _ _ W) H20 ?_
              intro w20 H21
              clear H19 H20 hne
              obtain ⟨cel, hcel⟩ : ∃ cel, cel = plC i g el := ⟨_, rfl⟩
              have hcl : cel = [.int .i64 i, .int .u64 g, .int .i64 u, .int .i64 rk, .int .u32 rf, .int .u32 re, .int .u64 rs, .slice x1 ka.length c1, .slice y1 va.length d1] := by rw [hcel, hel]; rfl
              have hcl9 : cel.length = 9 := by rw [hcl]; rfl
              have hcl1 : ∀ u ∈ cel, u.oneCell' = true := by rw [hcl]; simp [Value.oneCell']
              have hlit := elemPlaced.lit1 cel hcl9 (by decide) w20
              have H22 := H21.alloc cel 122
              obtain ⟨v6, w6, hr6, H23⟩ := H22.app (ty := 41) elemPlaced 5 rfl (isSlK_of_blk H22 0 rfl 1 (by omega) (by rw [hcl9]) (by decide)) hcl1 (by omega) (by unfold maxLen; omega)
              obtain ⟨a6, c6, rfl, _⟩ := own_form (St.own H23 5)
              have HR6 := Lib.hid hr6
              have HCEL := Lib.hid hcel
              have HCL := Lib.hid hcl
              have HEL := Lib.hid hel
              clear hr6 H22 hcel hcl hel
              obtain ⟨hc, hf⟩ := St.cells H21 0
              obtain ⟨hc2, hf2⟩ := St.cells H21 6
              obtain ⟨hc3, hf3⟩ := St.cells H21 9
              obtain ⟨hc6, hf6⟩ := St.cells H23 7
              have H24 := H23.set_ 7 2 (.slice a6 (acc.length + 1) c6)
              go_upto_region 22 with (first | (refine wpl_lit (vals := #[(0, .agg cel.toArray)]) (by rw [HCL.out]; simp [Act.eval]) hlit ?_) | (at_builtin; refine wpList_append_eq rfl _ _ _ rfl rfl rfl HR6.out ?_))
              refine wp_world (fun W => St w B _ _ W) H24 ?_
              intro w24 H25
              clear H21 H23 H24 hc hf hc2 hf2 hc3 hf3 hc6 hf6 hlit
              obtain ⟨hc, hf⟩ := St.cells H25 7
              have hwa : IntKind.i64.wrap ((u : Int) + (ns : Int)) = ((u + ns : Nat) : Int) := by rw [IntKind.wrap_i64]; have := HNS2.out; omega
              have H26 := H25.set_ 7 1 (.int .i64 (u + ns : Nat))
              go_wp2_with fail
              go_roundg (65 - (u + ns))
              case measure => have := HNS2.out; have := HN2.out; omega
              case rel =>
                refine ⟨u + ns, f, acc ++ [el], D2, a6, c6, by omega, HNS2.out, rfl, by have := HN2.out; omega, by rw [List.length_append]; have := HN2.out; show acc.length + 1 < u + ns; omega, HSG3, Lib.hid ?_⟩
                have e1 : (acc ++ [el]).flatMap (plC i g) = acc.flatMap (plC i g) ++ cel := by rw [HCEL.out]; simp
                have e2 : (acc ++ [el]).flatMap plO = acc.flatMap plO ++ [ownA 5 1 (.slice x1 ka.length c1) ka.length (ka.map u8v), ownA 5 1 (.slice y1 va.length d1) va.length (va.map u8v)] := by rw [HEL.out]; simp [plO]
                rw [e1, e2, show (acc ++ [el]).length = acc.length + 1 by simp]
                have h1 := St.pick H26 [6, 3, 4, 5, 2, 7, 8, 9, 10, 11]
                have h2 := St.flat h1
                have h3 : St w B ((acc.flatMap plO ++ [ownA 5 1 (.slice x1 ka.length c1) ka.length (ka.map u8v), ownA 5 1 (.slice y1 va.length d1) va.length (va.map u8v)]) ++ _) [] _ := St.cast (by simp only [List.append_assoc, List.cons_append, List.nil_append]; rfl) h2
                exact St.swap (St.bind h3)
          · have hsg := HSG2.out
            rw [if_pos h1] at hsg
            have hrr := HRO5.out
            rw [hsg] at hrr
            rw [if_pos h1] at hrr
            have HQ := Lib.hid hrr
            have hne : ((er : Int) != 0) = true := by simp; omega
            clear hsg hrr HSG2 HRO5 h1
            go_upto_region 18 with fail
            rw [← hxr]
            clear hxr
            refine wp_world (fun W => St w B _ _ W) H20 ?_
            intro w20 H21
            clear H19 H20
            obtain ⟨hc, hf⟩ := St.cells H21 10
            go_wp2_with fail
            rw [Exit.noGoto_ret]
            have H22 := ((H21.set_ 10 0 (.int .u64 0)).set_ 10 1 (.int .i64 0)).set_ 10 2 (.slice none 0 0)
            exact bodyPost_ret (results_ct rfl rfl bigScan (St.range H22 10)) rfl (Back.mk (scaQ.no HQ.out) (St.pick (plsA.nil H22 i 0) [9, 2, 0]))
      · have hro5 := HRO4.out
        rw [if_pos hh] at hro5
        have HQ := Lib.hid hro5
        rw [show decide (hd = bl) = false from decide_eq_false hh, Bool.not_false] at hneq
        clear hro5 HRO4 hh
        have H12 := H10.whole zs64 38 fh (by rw [hfhl]; rfl)
        go_upto_region 13 with (((refine wpl_store rfl _ _ _ rfl w9.heap.size 0 (by rfl) fh (by rfl) 64 hfhl (there_whole _ _ _ _ (by decide)) bigBlock hfh1 ?_); (refine wpl_world _ H12 ?_); intro w12 H13; (have hr0 := St.range H13 0); (have hr5 := St.range H13 2); (have hn1 := hneq w12)))
        clear hneq H10 H12
        try dsimp only [Act.put]
        obtain ⟨hb9, hhb9⟩ : ∃ hb9, hb9 = w9.heap.size := ⟨_, rfl⟩
        rw [← hhb9] at H13 hr0 ⊢
        clear hhb9
        go_step
        refine wplg_val (v := .int .i64 0) (w' := w12) rfl (by simp [execOp, go_sem, Act.eval]) ?_
        simp only [Act.put, List.setIfInBounds_toArray, List.set_cons_succ, List.set_cons_zero]
        refine wplg_val (v := .bool false) (w' := w12) rfl (by simp [execOp, go_sem, Act.eval]) ?_
        simp only [Act.put, List.setIfInBounds_toArray, List.set_cons_succ, List.set_cons_zero]
        refine wplg_val (v := .bool false) (w' := w12) rfl (by simp [execOp, go_sem, Act.eval]) ?_
        simp only [Act.put, List.setIfInBounds_toArray, List.set_cons_succ, List.set_cons_zero]
        refine wplg_load rfl _ _ rfl hb9 0 rfl hfhl hr0 bigBlock ?_
        simp only [Act.put, List.setIfInBounds_toArray, List.set_cons_succ, List.set_cons_zero]
        refine wplg_load rfl _ _ rfl bk 0 rfl hfbl hr5 bigBlock ?_
        simp only [Act.put, List.setIfInBounds_toArray, List.set_cons_succ, List.set_cons_zero]
        refine wplg_binop rfl rfl (vx := .agg fh.toArray) (vy := .agg fb.toArray) rfl rfl hn1 ?_
        simp only [Act.put, List.setIfInBounds_toArray, List.set_cons_succ, List.set_cons_zero]
        refine wplg_val (v := .bool true) (w' := w12) rfl (by simp [execOp, go_sem, Act.eval]) ?_
        simp only [Act.put, List.setIfInBounds_toArray, List.set_cons_succ, List.set_cons_zero]
        clear hr0 hr5 hn1
        obtain ⟨hc, hf⟩ := St.cells H13 5
        go_wp2_with fail
        rw [Exit.noGoto_ret]
        have H14 := ((H13.set_ 5 0 (.int .u64 0)).set_ 5 1 (.int .i64 0)).set_ 5 2 (.slice none 0 0)
        exact bodyPost_ret (results_ct rfl rfl bigScan (St.range H14 5)) rfl (Back.mk (scaQ.no HQ.out) (St.pick (plsA.nil H14 i 0) [5, 4, 0]))
  · have hne : ((e1 : Int) != 0) = true := by simp; omega
    have hro2 := HRO.out
    rw [if_pos h1] at hro2
    have HQ := Lib.hid hro2
    clear hro2 HRO h1 hbk
    go_wp2_with ((refine wpl_store rfl _ _ _ rfl w5.heap.size 0 (by rfl) fb (by rfl) 64 hfbl (there_whole _ _ _ _ (by decide)) bigBlock hfb1 ?_); (refine wpl_world _ (H5.whole _ _ fb (by rw [hfbl]; rfl)) ?_); intro w6 H6; (obtain ⟨hc, hf⟩ := St.cells H6 3))
    rw [Exit.noGoto_ret]
    have H7 := ((H6.set_ 3 0 (.int .u64 0)).set_ 3 1 (.int .i64 0)).set_ 3 2 (.slice none 0 0)
    exact bodyPost_ret (results_ct rfl rfl bigScan (St.range H7 3)) rfl (Back.mk (scaQ.no HQ.out) (St.pick (plsA.nil H7 i 0) [3, 2, 0]))
end Go.Proofs.YtjmocjcjiiopnaaGreat
end
