/- The superblocks' store: Format. Conditions: the disk is there, not much is pending. The superblocks' store: Open. Conditions: the disk is there. -/
import Derived.Test.YtjmocjcjiiopnaaLogCuts15

section
set_option linter.unusedVariables false
set_option linter.unusedSimpArgs false
namespace Go.Dsk
theorem Dk.out_pend (D : Dk) : D.out.pend = D.pend := rfl
theorem Dk.write_pend (D : Dk) (i : Int) (b : List UInt8) : (D.write i b).1.pend.length ≤ D.pend.length + 1 := by
  unfold Dk.write
  rcases D.op_cases i fun D => { D with pend := D.pend ++ [(i.toNat, b)] } with ⟨_, e⟩ | ⟨_, _, e⟩ | ⟨D2, _, h, e⟩ <;> rw [e]
  · rw [(D.ready_same i).2.1]; omega
  · rw [Dk.out_pend, (D.ready_same i).2.1]; omega
  · show (D2.pend ++ [(i.toNat, b)]).length ≤ _
    rw [(Dk.go_same h).2.1, (D.ready_same i).2.1]; simp
theorem Dk.write_len (D : Dk) (i : Int) (b : List UInt8) : (D.write i b).1.safe.length = D.safe.length := by
  unfold Dk.write
  rcases D.op_cases i fun D => { D with pend := D.pend ++ [(i.toNat, b)] } with ⟨_, e⟩ | ⟨_, _, e⟩ | ⟨D2, _, h, e⟩ <;> rw [e]
  · rw [(D.ready_same i).1]
  · show (D.ready i).1.safe.length = _; rw [(D.ready_same i).1]
  · show D2.safe.length = _
    rw [(Dk.go_same h).1, (D.ready_same i).1]
end Go.Dsk
namespace Go.Oct
open Go.Dsk
def zB : List UInt8 := List.replicate 64 0
/-- What becomes of a disk that is divided. -/
def fmtF (D : Dk) (x : Sp) : Dk × Nat := if x.may = false then (D, 2) else if roomB D x = false then (D, 170) else if (D.write 0 (supB x 0)).2 ≠ 0 then D.write 0 (supB x 0)
  else if ((D.write 0 (supB x 0)).1.write 1 zB).2 ≠ 0 then (D.write 0 (supB x 0)).1.write 1 zB else ((D.write 0 (supB x 0)).1.write 1 zB).1.sync
end Go.Oct
namespace Go.Proofs.Ytjmocjcjiiopnaa
open Go.RowKit Go.Ice Go.Oct Go.Dsk
/-- A store, if all went well. -/
def stoQ (p : Nat) (x : Sp) (t : Nat) (r : Dk × Nat) (v : Value) (L : List Asn) : Prop :=
  if r.2 = 0 then ∃ s, v = .tuple #[.pointer (some ⟨s, 0, none⟩), .int .i64 0] ∧ L = [blkA s (stoC x t p) 119, dskA p r.1] else v = .tuple #[.pointer none, .int .i64 r.2] ∧ L = [dskA p r.1]
theorem stoQ.err {p : Nat} {x : Sp} {t : Nat} {r : Dk × Nat} {D : Dk} {e : Nat} (h : r = (D, e)) (he : e ≠ 0) : stoQ p x t r (.tuple #[.pointer none, .int .i64 e]) [dskA p D] := by
  subst h; unfold stoQ; rw [if_neg he]; exact ⟨rfl, rfl⟩
theorem stoQ.good {p : Nat} {x : Sp} {t : Nat} {r : Dk × Nat} {D : Dk} (h : r = (D, 0)) (s : Nat) : stoQ p x t r (.tuple #[.pointer (some ⟨s, 0, none⟩), .int .i64 0]) [blkA s (stoC x t p) 119, dskA p D] := by
  subst h; unfold stoQ; rw [if_pos rfl]; exact ⟨s, rfl, rfl⟩
set_option maxHeartbeats 16000000 in
set_option maxRecDepth 20000 in
theorem sformat (p : Nat) (D : Dk) (seg sec : Int) (hpl : D.pend.length < 999990) : Meets Try.prog 20 #[.pointer (some ⟨p, 0, none⟩), .int .i64 seg, .int .i64 sec] [dskA p D] [] fun v L => stoQ p ⟨seg, sec, 0, 0, 0, 0⟩ 0 (fmtF D ⟨seg, sec, 0, 0, 0, 0⟩) v L := by
  intro w B H
  have HSE : Meets Try.prog 50 #[.agg #[.int .i64 seg, .int .i64 sec, .int .u64 0, .int .u64 0, .int .u64 0, .int .u64 0], .int .u64 0] [] [] (fun v L => v = supE ⟨seg, sec, 0, 0, 0, 0⟩ 0 ∧ L = []) := sencode ⟨seg, sec, 0, 0, 0, 0⟩ (by unfold Sp.fits; simp) 0 (by decide)
  have H1 := H.alloc [.int .i64 seg, .int .i64 sec, .int .u64 0, .int .u64 0, .int .u64 0, .int .u64 0, .int .u64 0, .pointer (some ⟨p, 0, none⟩)] 119
  have HSL := supB_len ⟨seg, sec, 0, 0, 0, 0⟩ 0
  unfold supE at HSE
  cases hm : Sp.may ⟨seg, sec, 0, 0, 0, 0⟩
  · rw [hm, if_neg (by decide)] at HSE
    have HQ : Hid (fmtF D ⟨seg, sec, 0, 0, 0, 0⟩ = (D, 2)) := Lib.hid (by unfold fmtF; rw [if_pos hm])
    clear hm
    obtain ⟨r, hr⟩ : ∃ r, r = fmtF D ⟨seg, sec, 0, 0, 0, 0⟩ := ⟨_, rfl⟩
    rw [← hr] at HQ ⊢
    clear hr
    go_enter Try.func20, Try.ntmps20
    go_upto_region 4 with fail
    refine wp_world (fun W => St w B _ _ W) H1 ?_
    intro w1 H2
    clear H1
    obtain ⟨hc, hf⟩ := St.cells H2 0
    go_wp2_with fail
    refine (HSE.call (L := []) (M := [_, _]) H2 (by simp)).mono ?_
    rintro e w3 ⟨v, L, rfl, ⟨rfl, rfl⟩, H4⟩
    obtain ⟨fv, hfv⟩ : ∃ fv, fv = (List.replicate 64 (0 : UInt8)).map u8v := ⟨_, rfl⟩
    have hfl : fv.length = 64 := by rw [hfv]; rfl
    have hf1 : ∀ u ∈ fv, u.oneCell' = true := by rw [hfv]; exact u8v_one _
    have eb : blkV (List.replicate 64 0) = .agg fv.toArray := by rw [hfv]; rfl
    rw [eb]
    clear hfv eb hc hf
    go_wp2_with ((refine wpl_store rfl _ _ _ rfl w3.heap.size 0 (by rfl) fv (by rfl) 64 hfl (there_whole _ _ _ _ (by decide)) bigBlock hf1 ?_); (refine wpl_world _ (H4.whole _ _ fv (by rw [hfl]; rfl)) ?_); intro w5 H5)
    exact bodyPost_ret (results_tmp2 rfl _ _ _) rfl (Back.mk (stoQ.err HQ.out (by decide)) (St.pick H5 [2]))
  · have HR : Meets Try.prog 49 #[.pointer (some ⟨p, 0, none⟩), .agg #[.int .i64 seg, .int .i64 sec, .int .u64 0, .int .u64 0, .int .u64 0, .int .u64 0]] [dskA p D] [] (fun v L => v = .bool (roomB D ⟨seg, sec, 0, 0, 0, 0⟩) ∧ L = [dskA p D]) := room p D ⟨seg, sec, 0, 0, 0, 0⟩ hm
    rw [hm, if_pos rfl] at HSE
    have hF : fmtF D ⟨seg, sec, 0, 0, 0, 0⟩ = if roomB D ⟨seg, sec, 0, 0, 0, 0⟩ = false then (D, 170) else if (D.write 0 (supB ⟨seg, sec, 0, 0, 0, 0⟩ 0)).2 ≠ 0 then D.write 0 (supB ⟨seg, sec, 0, 0, 0, 0⟩ 0)
        else if ((D.write 0 (supB ⟨seg, sec, 0, 0, 0, 0⟩ 0)).1.write 1 zB).2 ≠ 0 then (D.write 0 (supB ⟨seg, sec, 0, 0, 0, 0⟩ 0)).1.write 1 zB else ((D.write 0 (supB ⟨seg, sec, 0, 0, 0, 0⟩ 0)).1.write 1 zB).1.sync := by
      show (if Sp.may ⟨seg, sec, 0, 0, 0, 0⟩ = false then _ else _) = _
      rw [hm, if_neg (by decide)]
    clear hm
    obtain ⟨r, hr⟩ : ∃ r, r = fmtF D ⟨seg, sec, 0, 0, 0, 0⟩ := ⟨_, rfl⟩
    rw [← hr] at hF ⊢
    clear hr
    generalize supB ⟨seg, sec, 0, 0, 0, 0⟩ 0 = sb at *
    generalize roomB D ⟨seg, sec, 0, 0, 0, 0⟩ = q at *
    have HW1 := write p D 0 sb HSL (by omega)
    have hp1 := D.write_pend 0 sb
    obtain ⟨fv, hfv⟩ : ∃ fv, fv = sb.map u8v := ⟨_, rfl⟩
    have hfl : fv.length = 64 := by rw [hfv, List.length_map, HSL]
    have hf1 : ∀ u ∈ fv, u.oneCell' = true := by rw [hfv]; exact u8v_one _
    unfold blkV at HSE HW1
    rw [← hfv] at HSE HW1
    have HF := Lib.hid hF
    have HFV := Lib.hid hfv
    have HW := Lib.hid HW1
    clear hF hfv HW1
    have go : ∀ w1, St w B [blkA w.heap.size [.int .i64 seg, .int .i64 sec, .int .u64 0, .int .u64 0, .int .u64 0, .int .u64 0, .int .u64 0, .pointer (some ⟨p, 0, none⟩)] 119, dskA p D] [] w1 → True := fun _ _ => trivial
    cases q
    · have HQ : Hid (r = (D, 170)) := Lib.hid (by rw [HF.out, if_pos rfl])
      go_enter Try.func20, Try.ntmps20
      go_upto_region 4 with fail
      refine wp_world (fun W => St w B _ _ W) H1 ?_
      intro w1 H2
      clear H1
      obtain ⟨hc, hf⟩ := St.cells H2 0
      go_wp2_with fail
      refine (HSE.call (L := []) (M := [_, _]) H2 (by simp)).mono ?_
      rintro e w3 ⟨v, L, rfl, ⟨rfl, rfl⟩, H4⟩
      clear hc hf
      go_wp2_with ((refine wpl_store rfl _ _ _ rfl w3.heap.size 0 (by rfl) fv (by rfl) 64 hfl (there_whole _ _ _ _ (by decide)) bigBlock hf1 ?_); (refine wpl_world _ (H4.whole _ _ fv (by rw [hfl]; rfl)) ?_); intro w5 H5; (obtain ⟨hc, hf⟩ := St.cells H5 1))
      refine (HR.call (L := [_]) (M := [_, _]) (St.pick H5 [2, 0, 1]) (by simp)).mono ?_
      rintro e w6 ⟨v, L, rfl, ⟨rfl, rfl⟩, H6⟩
      go_wp2_with fail
      exact bodyPost_ret (results_tmp2 rfl _ _ _) rfl (Back.mk (stoQ.err HQ.out (by decide)) (St.pick H6 [0]))
    · have hF2 := HF.out
      rw [if_neg (show ¬ (true = false) by decide)] at hF2
      clear HF
      have ez : blkV zB = .agg zL64.toArray := by unfold blkV zB; rw [zeroBlock]
      generalize hr1 : D.write 0 sb = r1 at *
      obtain ⟨D1, e1⟩ := r1
      dsimp only at hF2 hp1
      have HW2 := write p D1 1 zB (by decide) (by omega)
      rw [ez] at HW2
      generalize hr2 : D1.write 1 zB = r2 at *
      obtain ⟨D2, e2⟩ := r2
      have HS := sync p D2
      generalize hr3 : D2.sync = r3 at *
      obtain ⟨D3, e3⟩ := r3
      dsimp only at hF2 hp1 HW2 HS
      have HFX := Lib.hid hF2
      have HW2 := Lib.hid HW2
      have HS := Lib.hid HS
      clear hF2 hr1 hr2 hr3
      go_enter Try.func20, Try.ntmps20
      go_upto_region 4 with fail
      refine wp_world (fun W => St w B _ _ W) H1 ?_
      intro w1 H2
      clear H1
      obtain ⟨hc, hf⟩ := St.cells H2 0
      go_wp2_with fail
      refine (HSE.call (L := []) (M := [_, _]) H2 (by simp)).mono ?_
      rintro e w3 ⟨v, L, rfl, ⟨rfl, rfl⟩, H4⟩
      clear hc hf
      go_wp2_with ((refine wpl_store rfl _ _ _ rfl w3.heap.size 0 (by rfl) fv (by rfl) 64 hfl (there_whole _ _ _ _ (by decide)) bigBlock hf1 ?_); (refine wpl_world _ (H4.whole _ _ fv (by rw [hfl]; rfl)) ?_); intro w5 H5; (obtain ⟨hc, hf⟩ := St.cells H5 1))
      refine (HR.call (L := [_]) (M := [_, _]) (St.pick H5 [2, 0, 1]) (by simp)).mono ?_
      rintro e w6 ⟨v, L, rfl, ⟨rfl, rfl⟩, H6⟩
      clear hc hf H5 H4 H2
      have hrg := St.range H6 1
      go_wp2_with (refine wpl_load rfl _ _ rfl w3.heap.size 0 (by rfl) fv 64 hfl hrg bigBlock ?_)
      refine (HW.out.call (L := [_]) (M := [_, _]) H6 (by simp)).mono ?_
      rintro e w7 ⟨v, L, rfl, ⟨rfl, rfl⟩, H7⟩
      clear hrg H6
      by_cases h1 : e1 = 0
      · subst h1
        have hF3 := HFX.out
        rw [if_neg (show ¬ ((0 : Nat) ≠ 0) by decide)] at hF3
        have hbz := build_zeroB w7
        generalize zL64 = zl at *
        clear ez
        go_wp2_with (refine wpl_build rfl _ _ rfl (vals := #[]) (by simp) hbz ?_)
        refine (HW2.out.call (L := [_]) (M := [_, _]) H7 (by simp)).mono ?_
        rintro e w8 ⟨v, L, rfl, ⟨rfl, rfl⟩, H8⟩
        clear H7 hbz
        by_cases h2 : e2 = 0
        · subst h2
          have hF4 := hF3
          rw [if_neg (show ¬ ((0 : Nat) ≠ 0) by decide)] at hF4
          have HQ := Lib.hid hF4
          clear hF3 hF4
          go_wp2_with fail
          refine (HS.out.call (L := [_]) (M := [_, _]) H8 (by simp)).mono ?_
          rintro e w9 ⟨v, L, rfl, ⟨rfl, rfl⟩, H9⟩
          clear H8
          by_cases h3 : e3 = 0
          · subst h3
            go_wp2_with fail
            exact bodyPost_ret (results_tmp2 rfl _ _ _) rfl (Back.mk (stoQ.good HQ.out w.heap.size) (St.pick H9 [2, 0]))
          · have hne : ((e3 : Int) != 0) = true := by simp; omega
            have HN := Lib.hid h3
            clear h3
            go_wp2_with fail
            exact bodyPost_ret (results_tmp2 rfl _ _ _) rfl (Back.mk (stoQ.err HQ.out HN.out) (St.pick H9 [0]))
        · have hne : ((e2 : Int) != 0) = true := by simp; omega
          have HQ : Hid (r = (D2, e2)) := Lib.hid (by rw [hF3, if_pos h2])
          have HN := Lib.hid h2
          clear h2 hF3
          go_wp2_with fail
          exact bodyPost_ret (results_tmp2 rfl _ _ _) rfl (Back.mk (stoQ.err HQ.out HN.out) (St.pick H8 [0]))
      · have hne : ((e1 : Int) != 0) = true := by simp; omega
        have HQ : Hid (r = (D1, e1)) := Lib.hid (by rw [HFX.out, if_pos h1])
        have HN := Lib.hid h1
        clear h1
        go_wp2_with fail
        exact bodyPost_ret (results_tmp2 rfl _ _ _) rfl (Back.mk (stoQ.err HQ.out HN.out) (St.pick H7 [0]))
end Go.Proofs.Ytjmocjcjiiopnaa
end

section
set_option linter.unusedVariables false
set_option linter.unusedSimpArgs false
namespace Go.Dsk
theorem Dk.at_len {D : Dk} (h : D.ok) {i : Nat} (hi : i < D.safe.length) : (D.at i).length = 64 := by
  unfold Dk.at
  cases hf : (bwd D.pend).find? (fun y => y.2.1 == i) with
  | none =>
    simp only [List.getD_eq_getElem?_getD]
    rw [List.getElem?_eq_getElem hi]
    exact h.s64 _ (List.getElem_mem hi)
  | some y => exact (h.p64 _ (bwd_mem (List.mem_of_find?_eq_some hf))).1
theorem Dk.read_len {D : Dk} (h : D.ok) (i : Int) : (D.read i).2.1.length = 64 := by
  unfold Dk.read
  by_cases h0 : (D.ready i).2 = 0
  · obtain ⟨r1, r2, _⟩ := Dk.ready_zero h0
    simp only [h0, if_true]
    exact Dk.at_len h (by omega)
  · simp only [if_neg h0]; simp
end Go.Dsk
namespace Go.Oct
open Go.Dsk
/-- Which of two superblocks counts. -/
def pickS (a b : Option (Sp × Nat)) : Option (Sp × Nat) := match a, b with
  | none, b => b
  | some x, none => some x
  | some x, some y => if x.2 < y.2 then some y else some x
def openS (D : Dk) : Option (Sp × Nat) := pickS (supD (D.read 0).2.1) (supD ((D.read 0).1.read 1).2.1)
/-- What becomes of a disk on which the store is looked for. -/
def openR (D : Dk) : Dk × Nat := if D.safe.length < 2 then (D, 170) else if (D.read 0).2.2 ≠ 0 then ((D.read 0).1, (D.read 0).2.2) else if ((D.read 0).1.read 1).2.2 ≠ 0 then (((D.read 0).1.read 1).1, ((D.read 0).1.read 1).2.2)
  else match openS D with
  | none => (((D.read 0).1.read 1).1, 170)
  | some x => if roomB ((D.read 0).1.read 1).1 x.1 then (((D.read 0).1.read 1).1, 0) else (((D.read 0).1.read 1).1, 170)
theorem supD_some {b : List UInt8} (hb : b.length = 64) {x : Sp} {t : Nat} (h : supD b = some (x, t)) : x.may = true ∧ supB x t = b ∧ x.fits ∧ t ≤ 18446744073709551615 := by
  obtain ⟨h1, h2⟩ := supX_fits b hb
  unfold supD at h
  split at h
  · rename_i h3
    cases h
    exact ⟨h3.1, h3.2, h1, h2⟩
  · cases h
end Go.Oct
namespace Go.Proofs.Ytjmocjcjiiopnaa
open Go.RowKit Go.Ice Go.Oct Go.Dsk
theorem dskA_ok {w0 : World} {B : Nat → Prop} {M S : List Asn} {w : World} {p : Nat} {D : Dk} (h : St w0 B (dskA p D :: M) S w) : D.ok := by
  obtain ⟨_, _, _, ok, _⟩ := dskA.open h
  exact ok
set_option maxHeartbeats 16000000 in
set_option maxRecDepth 20000 in
theorem sopen (p : Nat) (D : Dk) : Meets Try.prog 17 #[.pointer (some ⟨p, 0, none⟩)] [dskA p D] [] fun v L => ∃ x t, ((openR D).2 = 0 → openS D = some (x, t)) ∧ stoQ p x t (openR D) v L := by
  intro w B H
  have ok := dskA_ok H
  have HL := len p D
  have HR0 := dread p D 0
  have la := Dk.read_len ok 0
  have ok1 : (D.read 0).1.ok := Dk.ready_ok ok 0
  have lb := Dk.read_len ok1 1
  have HR1 := dread p (D.read 0).1 1
  have hro : openR D = if D.safe.length < 2 then (D, 170) else if (D.read 0).2.2 ≠ 0 then ((D.read 0).1, (D.read 0).2.2) else if ((D.read 0).1.read 1).2.2 ≠ 0 then (((D.read 0).1.read 1).1, ((D.read 0).1.read 1).2.2) else match openS D with
    | none => (((D.read 0).1.read 1).1, 170)
    | some x => if roomB ((D.read 0).1.read 1).1 x.1 then (((D.read 0).1.read 1).1, 0) else (((D.read 0).1.read 1).1, 170) := rfl
  have hso : openS D = pickS (supD (D.read 0).2.1) (supD ((D.read 0).1.read 1).2.1) := rfl
  obtain ⟨r, hr⟩ : ∃ r, r = openR D := ⟨_, rfl⟩
  obtain ⟨so, hs⟩ : ∃ so, so = openS D := ⟨_, rfl⟩
  rw [← hr, ← hs] at hro
  rw [← hs] at hso
  rw [← hr, ← hs]
  clear hr hs
  generalize D.read 0 = r1 at *
  obtain ⟨D1, a, e1⟩ := r1
  dsimp only at la ok1 lb HR0 HR1 hro hso
  generalize D1.read 1 = r2 at *
  obtain ⟨D2, b, e2⟩ := r2
  dsimp only at lb HR1 hro hso
  have HSA := sdecode a la
  have HSB := sdecode b lb
  have hoa := fun x t => supD_some la (x := x) (t := t)
  have hob := fun x t => supD_some lb (x := x) (t := t)
  generalize supD a = oa at *
  generalize supD b = ob at *
  obtain ⟨fa, hfa⟩ : ∃ fa, fa = a.map u8v := ⟨_, rfl⟩
  obtain ⟨fb, hfb⟩ : ∃ fb, fb = b.map u8v := ⟨_, rfl⟩
  have hfal : fa.length = 64 := by rw [hfa, List.length_map, la]
  have hfbl : fb.length = 64 := by rw [hfb, List.length_map, lb]
  have hfa1 : ∀ u ∈ fa, u.oneCell' = true := by rw [hfa]; exact u8v_one _
  have hfb1 : ∀ u ∈ fb, u.oneCell' = true := by rw [hfb]; exact u8v_one _
  unfold blkV at HR0 HR1 HSA HSB
  rw [← hfa] at HR0 HSA
  rw [← hfb] at HR1 HSB
  clear hfa hfb la lb ok ok1
  have HRO := Lib.hid hro
  have HSO := Lib.hid hso
  have HOA := Lib.hid hoa
  have HOB := Lib.hid hob
  have HR0 := Lib.hid HR0
  have HR1 := Lib.hid HR1
  clear hro hso hoa hob
  generalize D.safe.length = n at *
  by_cases hn : n < 2
  · have e0 : decide ((n : Int) < 2) = true := by simp; omega
    have HQ : Hid (r = (D, 170)) := Lib.hid (by rw [HRO.out, if_pos hn])
    clear hn
    go_enter Try.func17, Try.ntmps17
    go_wp2_with fail
    refine (HL.call (L := [_]) (M := []) H (by simp)).mono ?_
    rintro e w3 ⟨v, L, rfl, ⟨rfl, rfl⟩, H4⟩
    go_wp2_with fail
    exact bodyPost_ret (results_tmp2 rfl _ _ _) rfl (Back.mk ⟨⟨0, 0, 0, 0, 0, 0⟩, 0, (by rw [HQ.out]; intro h; cases h), stoQ.err HQ.out (by decide)⟩ H4)
  · have e0 : decide ((n : Int) < 2) = false := by simp; omega
    have hrp := HRO.out
    rw [if_neg hn] at hrp
    have HRP := Lib.hid hrp
    clear HRO hn hrp
    go_enter Try.func17, Try.ntmps17
    go_wp2_with fail
    refine (HL.call (L := [_]) (M := []) H (by simp)).mono ?_
    rintro e w3 ⟨v, L, rfl, ⟨rfl, rfl⟩, H4⟩
    go_wp2_with fail
    clear HL e0
    refine (HR0.out.call (L := [_]) (M := []) H4 (by simp)).mono ?_
    rintro e w5 ⟨v, L, rfl, ⟨rfl, rfl⟩, H5⟩
    clear HR0 H4
    by_cases h1 : e1 = 0
    · subst h1
      have hrq := HRP.out
      rw [if_neg (show ¬ ((0 : Nat) ≠ 0) by decide)] at hrq
      have HRQ := Lib.hid hrq
      clear HRP hrq
      go_wp2_with ((refine wpl_store rfl _ _ _ rfl w5.heap.size 0 (by rfl) fa (by rfl) 64 hfal (there_whole _ _ _ _ (by decide)) bigBlock hfa1 ?_); (refine wpl_world _ (H5.whole _ _ fa (by rw [hfal]; rfl)) ?_); intro w6 H6)
      refine (HR1.out.call (L := [_]) (M := [_]) (St.swap H6) (by simp)).mono ?_
      rintro e w7 ⟨v, L, rfl, ⟨rfl, rfl⟩, H7⟩
      clear HR1 H6 H5
      by_cases h2 : e2 = 0
      · subst h2
        have hrs := HRQ.out
        rw [if_neg (show ¬ ((0 : Nat) ≠ 0) by decide)] at hrs
        have HRS := Lib.hid hrs
        clear HRQ hrs
        go_wp2_with (first | ((refine wpl_store rfl _ _ _ rfl w7.heap.size 0 (by rfl) fb (by rfl) 64 hfbl (there_whole _ _ _ _ (by decide)) bigBlock hfb1 ?_); (refine wpl_world _ (H7.whole _ _ fb (by rw [hfbl]; rfl)) ?_); intro w8 H8; (have hra := St.range H8 2)) | (refine wpl_load rfl _ _ rfl w5.heap.size 0 (by rfl) fa 64 hfal hra bigBlock ?_))
        refine (HSA.call (L := []) (M := [_, _, _]) H8 (by simp)).mono ?_
        rintro e w9 ⟨v, L, rfl, ⟨rfl, rfl⟩, H9⟩
        clear hra H8 H7 HSA
        have HAC : ∃ x t f, supQ oa = .tuple #[supV x, .int .u64 (t : Nat), .int .i64 (f : Nat)] ∧ ((oa = none ∧ f = 170) ∨ (oa = some (x, t) ∧ f = 0)) := by
          cases oa with
          | none => exact ⟨_, _, 170, rfl, .inl ⟨rfl, rfl⟩⟩
          | some x => exact ⟨_, _, 0, rfl, .inr ⟨rfl, rfl⟩⟩
        have HBC : ∃ y u g, supQ ob = .tuple #[supV y, .int .u64 (u : Nat), .int .i64 (g : Nat)] ∧ ((ob = none ∧ g = 170) ∨ (ob = some (y, u) ∧ g = 0)) := by
          cases ob with
          | none => exact ⟨_, _, 170, rfl, .inl ⟨rfl, rfl⟩⟩
          | some x => exact ⟨_, _, 0, rfl, .inr ⟨rfl, rfl⟩⟩
        obtain ⟨x, t, f, hxa, hca⟩ := HAC
        obtain ⟨y, u, g, hyb, hcb⟩ := HBC
        rw [hxa]
        rw [hyb] at HSB
        have HCA := Lib.hid hca
        have HCB := Lib.hid hcb
        clear hxa hyb hca hcb
        obtain ⟨x1, x2, x3, x4, x5, x6⟩ := x
        obtain ⟨y1, y2, y3, y4, y5, y6⟩ := y
        unfold supV supC at HSB ⊢
        dsimp only at HSB ⊢
        have H10 := H9.alloc [.int .i64 x1, .int .i64 x2, .int .u64 x3, .int .u64 x4, .int .u64 x5, .int .u64 x6] 101
        obtain ⟨xb, hxb⟩ : ∃ xb, xb = w9.heap.size := ⟨_, rfl⟩
        rw [← hxb] at H10
        go_upto_region 12 with fail
        rw [← hxb]
        have HXB := Lib.hid hxb
        clear hxb
        refine wp_world (fun W => St w B _ _ W) H10 ?_
        intro w10 H11
        clear H9 H10
        have hrb := St.range H11 1
        go_wp2_with (refine wpl_load rfl _ _ rfl w7.heap.size 0 (by rfl) fb 64 hfbl hrb bigBlock ?_)
        refine (HSB.call (L := []) (M := [_, _, _, _]) H11 (by simp)).mono ?_
        rintro e w11 ⟨v, L, rfl, ⟨rfl, rfl⟩, H12⟩
        clear hrb H11 HSB
        have H13 := (St.pick H12 [0, 2]).alloc [.int .i64 y1, .int .i64 y2, .int .u64 y3, .int .u64 y4, .int .u64 y5, .int .u64 y6] 101
        obtain ⟨yb, hyb⟩ : ∃ yb, yb = w11.heap.size := ⟨_, rfl⟩
        rw [← hyb] at H13
        go_upto_region 13 with fail
        rw [← hyb]
        have HYB := Lib.hid hyb
        clear hyb
        refine wp_world (fun W => St w B _ _ W) H13 ?_
        intro w12 H14
        clear H12 H13
        obtain ⟨hc, hf⟩ := St.cells H14 0
        obtain ⟨hc2, hf2⟩ := St.cells H14 1
        have hso := HSO.out
        rcases HCA.out with ⟨hoa1, rfl⟩ | ⟨hoa1, rfl⟩ <;> rcases HCB.out with ⟨hob1, rfl⟩ | ⟨hob1, rfl⟩ <;> rw [hoa1, hob1] at hso <;> have HOA1 := Lib.hid hoa1 <;> have HOB1 := Lib.hid hob1 <;> clear hoa1 hob1
        · have hso2 : so = none := hso
          have HQ : Hid (r = (D2, 170)) := Lib.hid (by rw [HRS.out, hso2])
          clear hso hso2
          go_wp2_with fail
          exact bodyPost_ret (results_tmp2 rfl _ _ _) rfl (Back.mk ⟨⟨0, 0, 0, 0, 0, 0⟩, 0, (by rw [HQ.out]; intro h; cases h), stoQ.err HQ.out (by decide)⟩ (St.pick H14 [2]))
        · have hso2 : so = some (⟨y1, y2, y3, y4, y5, y6⟩, u) := hso
          have H15 := (((((H14.set_ 1 0 (.int .i64 y1)).set_ 1 1 (.int .i64 y2)).set_ 1 2 (.int .u64 y3)).set_ 1 3 (.int .u64 y4)).set_ 1 4 (.int .u64 y5)).set_ 1 5 (.int .u64 y6)
          have hzm := (HOB.out _ _ HOB1.out).1
          clear hso
          go_upto_region 17 with fail
          refine wp_world (fun W => St w B _ _ W) H15 ?_
          intro w13 H16
          clear hc hf hc2 hf2
          obtain ⟨hc, hf⟩ := St.cells H16 1
          have HRM : Meets Try.prog 49 #[.pointer (some ⟨p, 0, none⟩), .agg #[.int .i64 y1, .int .i64 y2, .int .u64 y3, .int .u64 y4, .int .u64 y5, .int .u64 y6]] [dskA p D2] [] (fun v L => v = .bool (roomB D2 ⟨y1, y2, y3, y4, y5, y6⟩) ∧ L = [dskA p D2]) := room p D2 ⟨y1, y2, y3, y4, y5, y6⟩ hzm
          have hrr : r = if roomB D2 ⟨y1, y2, y3, y4, y5, y6⟩ then (D2, 0) else (D2, 170) := by rw [HRS.out, hso2]
          have HSO2 := Lib.hid hso2
          have HZM := Lib.hid hzm
          clear hso2 hzm
          generalize roomB D2 ⟨y1, y2, y3, y4, y5, y6⟩ = qq at *
          cases qq
          · have HQ : Hid (r = (D2, 170)) := Lib.hid hrr
            clear hrr
            go_wp2_with fail
            refine (HRM.call (L := [_]) (M := [_, _]) (St.pick H16 [2, 0, 1]) (by simp)).mono ?_
            rintro e w14 ⟨v, L, rfl, ⟨rfl, rfl⟩, H17⟩
            go_wp2_with fail
            exact bodyPost_ret (results_tmp2 rfl _ _ _) rfl (Back.mk ⟨⟨0, 0, 0, 0, 0, 0⟩, 0, (by rw [HQ.out]; intro h; cases h), stoQ.err HQ.out (by decide)⟩ (St.pick H17 [0]))
          · have HQ : Hid (r = (D2, 0)) := Lib.hid hrr
            clear hrr
            go_wp2_with fail
            refine (HRM.call (L := [_]) (M := [_, _]) (St.pick H16 [2, 0, 1]) (by simp)).mono ?_
            rintro e w14 ⟨v, L, rfl, ⟨rfl, rfl⟩, H17⟩
            clear hc hf
            obtain ⟨hc, hf⟩ := St.cells H17 2
            go_wp2_with fail
            have H18 := H17.alloc (stoC ⟨y1, y2, y3, y4, y5, y6⟩ u p) 119
            exact bodyPost_ret (results_tmp2 rfl _ _ _) rfl (Back.mk ⟨⟨y1, y2, y3, y4, y5, y6⟩, u, (fun _ => HSO2.out), stoQ.good HQ.out w14.heap.size⟩ (St.pick H18 [0, 1]))
        · have hso2 : so = some (⟨x1, x2, x3, x4, x5, x6⟩, t) := hso
          have hzm := (HOA.out _ _ HOA1.out).1
          clear hso
          go_upto_region 17 with fail
          refine wp_world (fun W => St w B _ _ W) H14 ?_
          intro w13 H16
          clear hc hf hc2 hf2
          obtain ⟨hc, hf⟩ := St.cells H16 1
          have HRM : Meets Try.prog 49 #[.pointer (some ⟨p, 0, none⟩), .agg #[.int .i64 x1, .int .i64 x2, .int .u64 x3, .int .u64 x4, .int .u64 x5, .int .u64 x6]] [dskA p D2] [] (fun v L => v = .bool (roomB D2 ⟨x1, x2, x3, x4, x5, x6⟩) ∧ L = [dskA p D2]) := room p D2 ⟨x1, x2, x3, x4, x5, x6⟩ hzm
          have hrr : r = if roomB D2 ⟨x1, x2, x3, x4, x5, x6⟩ then (D2, 0) else (D2, 170) := by rw [HRS.out, hso2]
          have HSO2 := Lib.hid hso2
          have HZM := Lib.hid hzm
          clear hso2 hzm
          generalize roomB D2 ⟨x1, x2, x3, x4, x5, x6⟩ = qq at *
          cases qq
          · have HQ : Hid (r = (D2, 170)) := Lib.hid hrr
            clear hrr
            go_wp2_with fail
            refine (HRM.call (L := [_]) (M := [_, _]) (St.pick H16 [2, 0, 1]) (by simp)).mono ?_
            rintro e w14 ⟨v, L, rfl, ⟨rfl, rfl⟩, H17⟩
            go_wp2_with fail
            exact bodyPost_ret (results_tmp2 rfl _ _ _) rfl (Back.mk ⟨⟨0, 0, 0, 0, 0, 0⟩, 0, (by rw [HQ.out]; intro h; cases h), stoQ.err HQ.out (by decide)⟩ (St.pick H17 [0]))
          · have HQ : Hid (r = (D2, 0)) := Lib.hid hrr
            clear hrr
            go_wp2_with fail
            refine (HRM.call (L := [_]) (M := [_, _]) (St.pick H16 [2, 0, 1]) (by simp)).mono ?_
            rintro e w14 ⟨v, L, rfl, ⟨rfl, rfl⟩, H17⟩
            clear hc hf
            obtain ⟨hc, hf⟩ := St.cells H17 2
            go_wp2_with fail
            have H18 := H17.alloc (stoC ⟨x1, x2, x3, x4, x5, x6⟩ t p) 119
            exact bodyPost_ret (results_tmp2 rfl _ _ _) rfl (Back.mk ⟨⟨x1, x2, x3, x4, x5, x6⟩, t, (fun _ => HSO2.out), stoQ.good HQ.out w14.heap.size⟩ (St.pick H18 [0, 1]))
        · have hzx := (HOA.out _ _ HOA1.out).1
          have hzy := (HOB.out _ _ HOB1.out).1
          by_cases htu : t < u
          · have hso2 : so = some (⟨y1, y2, y3, y4, y5, y6⟩, u) := by rw [hso]; show (if t < u then _ else _) = _; rw [if_pos htu]
            have hlt : decide ((t : Int) < (u : Int)) = true := by simp; omega
            have hzm := hzy
            have H15 := (((((H14.set_ 1 0 (.int .i64 y1)).set_ 1 1 (.int .i64 y2)).set_ 1 2 (.int .u64 y3)).set_ 1 3 (.int .u64 y4)).set_ 1 4 (.int .u64 y5)).set_ 1 5 (.int .u64 y6)
            clear hso hzx hzy
            go_upto_region 17 with fail
            refine wp_world (fun W => St w B _ _ W) H15 ?_
            intro w13 H16
            clear hc hf hc2 hf2
            obtain ⟨hc, hf⟩ := St.cells H16 1
            have HRM : Meets Try.prog 49 #[.pointer (some ⟨p, 0, none⟩), .agg #[.int .i64 y1, .int .i64 y2, .int .u64 y3, .int .u64 y4, .int .u64 y5, .int .u64 y6]] [dskA p D2] [] (fun v L => v = .bool (roomB D2 ⟨y1, y2, y3, y4, y5, y6⟩) ∧ L = [dskA p D2]) := room p D2 ⟨y1, y2, y3, y4, y5, y6⟩ hzm
            have hrr : r = if roomB D2 ⟨y1, y2, y3, y4, y5, y6⟩ then (D2, 0) else (D2, 170) := by rw [HRS.out, hso2]
            have HSO2 := Lib.hid hso2
            have HZM := Lib.hid hzm
            clear hso2 hzm
            generalize roomB D2 ⟨y1, y2, y3, y4, y5, y6⟩ = qq at *
            cases qq
            · have HQ : Hid (r = (D2, 170)) := Lib.hid hrr
              clear hrr
              go_wp2_with fail
              refine (HRM.call (L := [_]) (M := [_, _]) (St.pick H16 [2, 0, 1]) (by simp)).mono ?_
              rintro e w14 ⟨v, L, rfl, ⟨rfl, rfl⟩, H17⟩
              go_wp2_with fail
              exact bodyPost_ret (results_tmp2 rfl _ _ _) rfl (Back.mk ⟨⟨0, 0, 0, 0, 0, 0⟩, 0, (by rw [HQ.out]; intro h; cases h), stoQ.err HQ.out (by decide)⟩ (St.pick H17 [0]))
            · have HQ : Hid (r = (D2, 0)) := Lib.hid hrr
              clear hrr
              go_wp2_with fail
              refine (HRM.call (L := [_]) (M := [_, _]) (St.pick H16 [2, 0, 1]) (by simp)).mono ?_
              rintro e w14 ⟨v, L, rfl, ⟨rfl, rfl⟩, H17⟩
              clear hc hf
              obtain ⟨hc, hf⟩ := St.cells H17 2
              go_wp2_with fail
              have H18 := H17.alloc (stoC ⟨y1, y2, y3, y4, y5, y6⟩ u p) 119
              exact bodyPost_ret (results_tmp2 rfl _ _ _) rfl (Back.mk ⟨⟨y1, y2, y3, y4, y5, y6⟩, u, (fun _ => HSO2.out), stoQ.good HQ.out w14.heap.size⟩ (St.pick H18 [0, 1]))
          · have hso2 : so = some (⟨x1, x2, x3, x4, x5, x6⟩, t) := by rw [hso]; show (if t < u then _ else _) = _; rw [if_neg htu]
            have hlt : decide ((t : Int) < (u : Int)) = false := by simp; omega
            have hzm := hzx
            clear hso hzx hzy
            go_upto_region 17 with fail
            refine wp_world (fun W => St w B _ _ W) H14 ?_
            intro w13 H16
            clear hc hf hc2 hf2
            obtain ⟨hc, hf⟩ := St.cells H16 1
            have HRM : Meets Try.prog 49 #[.pointer (some ⟨p, 0, none⟩), .agg #[.int .i64 x1, .int .i64 x2, .int .u64 x3, .int .u64 x4, .int .u64 x5, .int .u64 x6]] [dskA p D2] [] (fun v L => v = .bool (roomB D2 ⟨x1, x2, x3, x4, x5, x6⟩) ∧ L = [dskA p D2]) := room p D2 ⟨x1, x2, x3, x4, x5, x6⟩ hzm
            have hrr : r = if roomB D2 ⟨x1, x2, x3, x4, x5, x6⟩ then (D2, 0) else (D2, 170) := by rw [HRS.out, hso2]
            have HSO2 := Lib.hid hso2
            have HZM := Lib.hid hzm
            clear hso2 hzm
            generalize roomB D2 ⟨x1, x2, x3, x4, x5, x6⟩ = qq at *
            cases qq
            · have HQ : Hid (r = (D2, 170)) := Lib.hid hrr
              clear hrr
              go_wp2_with fail
              refine (HRM.call (L := [_]) (M := [_, _]) (St.pick H16 [2, 0, 1]) (by simp)).mono ?_
              rintro e w14 ⟨v, L, rfl, ⟨rfl, rfl⟩, H17⟩
              go_wp2_with fail
              exact bodyPost_ret (results_tmp2 rfl _ _ _) rfl (Back.mk ⟨⟨0, 0, 0, 0, 0, 0⟩, 0, (by rw [HQ.out]; intro h; cases h), stoQ.err HQ.out (by decide)⟩ (St.pick H17 [0]))
            · have HQ : Hid (r = (D2, 0)) := Lib.hid hrr
              clear hrr
              go_wp2_with fail
              refine (HRM.call (L := [_]) (M := [_, _]) (St.pick H16 [2, 0, 1]) (by simp)).mono ?_
              rintro e w14 ⟨v, L, rfl, ⟨rfl, rfl⟩, H17⟩
              clear hc hf
              obtain ⟨hc, hf⟩ := St.cells H17 2
              go_wp2_with fail
              have H18 := H17.alloc (stoC ⟨x1, x2, x3, x4, x5, x6⟩ t p) 119
              exact bodyPost_ret (results_tmp2 rfl _ _ _) rfl (Back.mk ⟨⟨x1, x2, x3, x4, x5, x6⟩, t, (fun _ => HSO2.out), stoQ.good HQ.out w14.heap.size⟩ (St.pick H18 [0, 1]))
      · have hne : ((e2 : Int) != 0) = true := by simp; omega
        have HQ : Hid (r = (D2, e2)) := Lib.hid (by rw [HRQ.out, if_pos h2])
        have HN := Lib.hid h2
        clear h2
        go_wp2_with ((refine wpl_store rfl _ _ _ rfl w7.heap.size 0 (by rfl) fb (by rfl) 64 hfbl (there_whole _ _ _ _ (by decide)) bigBlock hfb1 ?_); (refine wpl_world _ (H7.whole _ _ fb (by rw [hfbl]; rfl)) ?_); intro w8 H8)
        exact bodyPost_ret (results_tmp2 rfl _ _ _) rfl (Back.mk ⟨⟨0, 0, 0, 0, 0, 0⟩, 0, (by rw [HQ.out]; exact fun h => absurd h HN.out), stoQ.err HQ.out HN.out⟩ (St.pick H8 [1]))
    · have hne : ((e1 : Int) != 0) = true := by simp; omega
      have HQ : Hid (r = (D1, e1)) := Lib.hid (by rw [HRP.out, if_pos h1])
      have HN := Lib.hid h1
      clear h1
      go_wp2_with ((refine wpl_store rfl _ _ _ rfl w5.heap.size 0 (by rfl) fa (by rfl) 64 hfal (there_whole _ _ _ _ (by decide)) bigBlock hfa1 ?_); (refine wpl_world _ (H5.whole _ _ fa (by rw [hfal]; rfl)) ?_); intro w6 H6)
      exact bodyPost_ret (results_tmp2 rfl _ _ _) rfl (Back.mk ⟨⟨0, 0, 0, 0, 0, 0⟩, 0, (by rw [HQ.out]; exact fun h => absurd h HN.out), stoQ.err HQ.out HN.out⟩ (St.pick H6 [1]))
end Go.Proofs.Ytjmocjcjiiopnaa
end
