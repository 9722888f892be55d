/- The document's log: the record that stands at a sector. Condition: a sector has 64 bytes; at most 20000 sectors. -/
import Derived.Test.YtjmocjcjiiopnaaGreatLogScans33
import Derived.Test.YtjmocjcjiiopnaaGreatLogScans36

section
set_option linter.unusedVariables false
set_option linter.unusedSimpArgs false
namespace Go.Ice
open Go.RowKit
/-- A part of a slice of elements of several cells, as a value. -/
theorem run_part {P : Program} {t e size : Nat} (ht : P.underlying t = some (.slice e)) (hs : ∀ w, (sizeOf e).run P w = .ok size w) (w : World) (b o n c i j : Nat) (h1 : i ≤ j) (h2 : j ≤ c) (h3 : i < c) : (Instr.sliceAt t (.slice (some ⟨b, o, none⟩) n c) (some (.int .i64 (i : Int))) (some (.int .i64 (j : Int))) none).run P w = .ok (.slice (some ⟨b, o + i * size, none⟩) (j - i) (c - i)) w := by
  have h4 : ¬ c = i := by omega
  simp [Instr.sliceAt, Instr.slice, Instr.sliceBounds, Instr.sliceBound, go_sem, run_underlying ht, hs, h1, h2, h4, Addr.add]
/-- A part of a slice of elements of several cells may be read where the slice may. -/
theorem slA_part {T : Type} {f : T → List Value} {size b o n c i m : Nat} {l : List T} (hc : ∀ x ∈ l, (f x).length = size) (hl : l.length = n) (h : i + m ≤ n) (h0 : 0 < m) : (slA size (.slice (some ⟨b, o, none⟩) n c) n (l.flatMap f)).imp (slA size (.slice (some ⟨b, o + i * size, none⟩) m (c - i)) m (((l.drop i).take m).flatMap f)) := by
  rintro F w ⟨hF, hs, hk⟩
  obtain ⟨b', o', cap, e, h1, h2, h3, h4⟩ := hk.at (by omega)
  cases e
  have hc2 : ∀ x ∈ (l.drop i).take m, (f x).length = size := fun x hx => hc x (List.mem_of_mem_drop (List.mem_of_mem_take hx))
  have hlm : ((l.drop i).take m).length = m := by rw [List.length_take, List.length_drop]; omega
  have hlen : (((l.drop i).take m).flatMap f).length = m * size := by rw [flatMap_len hc2, hlm]
  have hnn : l.flatMap f ≠ [] := fun e => by
    have := flatMap_len hc
    rw [e, hl] at this
    have h9 : 0 < n * size := Nat.mul_pos (by omega) hs
    simp at this; omega
  refine ⟨fun x => ((l.drop i).take m).flatMap f ≠ [] ∧ (Value.slice (some ⟨b, o + i * size, none⟩) m (c - i)).ownBlock = some x, ⟨fun _ => Iff.rfl, hs, hlen, .inr ⟨h0, b, o + i * size, c - i, rfl, by omega, by omega, h3, fun j hj => ?_⟩⟩, fun x hx => (hF x).2 ⟨hnn, by simpa [Value.ownBlock] using hx.2⟩⟩
  rw [hlen] at hj
  have hk : j / size < m := (Nat.div_lt_iff_lt_mul hs).2 hj
  have hjm : j = (j / size) * size + j % size := by rw [Nat.mul_comm]; exact (Nat.div_add_mod j size).symm
  have hmod : j % size < size := Nat.mod_lt _ hs
  obtain ⟨x, hx⟩ : ∃ x, l[i + j / size]? = some x := ⟨_, List.getElem?_eq_getElem (by omega)⟩
  have hx2 : ((l.drop i).take m)[j / size]? = some x := by rw [List.getElem?_take, if_pos hk, List.getElem?_drop]; exact hx
  have e1 := flatMap_get hc hx hmod
  have e2 := flatMap_get hc2 hx2 hmod
  rw [← hjm] at e2
  have e3 : o + i * size + j = o + ((i + j / size) * size + j % size) := by rw [Nat.add_mul]; omega
  have hlt : (i + j / size) * size + j % size < (l.flatMap f).length := by
    rw [flatMap_len hc, hl]
    have : (i + j / size + 1) * size ≤ n * size := Nat.mul_le_mul_right _ (by omega)
    rw [Nat.add_mul] at this; omega
  rw [e3, h4 _ hlt, e1, e2]
end Go.Ice
namespace Go.Lg
open Go.Oct Go.Proofs.YtjmocjcjiiopnaaGreat
theorem joinGo_len : ∀ {l : List (List UInt8)} {q : Option (Nat × Nat)} {out r : List UInt8}, (∀ x ∈ l, x.length = 64) → joinGo q l out = some r → r.length ≤ out.length + 48 * l.length
  | [], q, out, r, _, h => by rw [joinGo] at h; cases h; omega
  | b :: l, q, out, r, hl, h => by
    rcases joinGo_cases q b l out with ⟨_, h2⟩ | ⟨g, p, pl, h1, h3⟩
    · rw [h2] at h; cases h
    · have hb := readB_bound (hl b (by simp)) h1
      rcases h3 with ⟨_, _, h2⟩ | ⟨_, _, h2⟩ | ⟨_, _, _, h2⟩ | ⟨_, _, _, h2⟩
      · rw [h2] at h; cases h
      · rw [h2] at h; cases h
      · rw [h2] at h; cases h
      · rw [h2] at h
        have := joinGo_len (fun x hx => hl x (by simp [hx])) h
        rw [List.length_append] at this
        rw [List.length_cons]; omega
theorem joinB_len {l : List (List UInt8)} {r : List UInt8} (hl : ∀ x ∈ l, x.length = 64) (h : joinB l = some r) : r.length ≤ 48 * l.length := by
  unfold joinB at h
  split at h
  · cases h
  · have := joinGo_len hl h
    simpa using this
/-- The record that stands at a sector, by the document. -/
def docRec (bs : List (List UInt8)) (g at_ : Nat) : Option (List UInt8 × Nat) := match bs[at_]? with
  | none => none
  | some x => match readB x with
    | none => none
    | some z => if z.1 ≠ g ∨ z.2.1 ≠ at_ then none else if headE z.2.2 ≠ 0 then none else if bs.length < at_ + secs (needB z.2.2) then none else allF (needB z.2.2) ((bs.drop at_).take (secs (needB z.2.2)))
end Go.Lg
namespace Go.Proofs.YtjmocjcjiiopnaaGreat
open Go.RowKit Go.Ice Go.Oct Go.Dsk Go.Ring Go.Lg
/-- What the document's record tells. -/
def rrecQ (r : Option (List UInt8 × Nat)) (v : Value) (L : List Asn) : Prop := match r with
  | none => v = .tuple #[recV ⟨0, 0, 0, 0⟩ (.slice none 0 0) (.slice none 0 0), .int .i64 0] ∧ L = []
  | some z => ∃ x y c d, v = .tuple #[recV (headR z.1) (.slice x (headN z.1) c) (.slice y (headM z.1) d), .int .i64 (z.2 : Int)] ∧ L = [ownA 5 1 (.slice x (headN z.1) c) (headN z.1) (((z.1.drop 21).take (headN z.1)).map u8v), ownA 5 1 (.slice y (headM z.1) d) (headM z.1) (((z.1.drop (21 + headN z.1)).take (headM z.1)).map u8v)]
theorem rrecQ.no {r : Option (List UInt8 × Nat)} (h : r = none) : rrecQ r (.tuple #[.agg #[.int .i64 0, .int .u32 0, .int .u32 0, .int .u64 0, .slice none 0 0, .slice none 0 0], .int .i64 0]) [] := by rw [h]; exact ⟨rfl, rfl⟩
theorem rrecQ.yes {r : Option (List UInt8 × Nat)} {b : List UInt8} {k : Nat} (h : r = some (b, k)) (x y : Option Addr) (c d : Nat) : rrecQ r (.tuple #[.agg #[.int .i64 (headR b).k, .int .u32 (headR b).f, .int .u32 (headR b).e, .int .u64 (headR b).s, .slice x (headN b) c, .slice y (headM b) d], .int .i64 (k : Int)]) [ownA 5 1 (.slice x (headN b) c) (headN b) (((b.drop 21).take (headN b)).map u8v), ownA 5 1 (.slice y (headM b) d) (headM b) (((b.drop (21 + headN b)).take (headM b)).map u8v)] := by rw [h]; exact ⟨x, y, c, d, rfl, rfl⟩
theorem run_blocks (w : World) (b o n c i j : Nat) (h1 : i ≤ j) (h2 : j ≤ c) (h3 : i < c) : (Instr.sliceAt 22 (.slice (some ⟨b, o, none⟩) n c) (some (.int .i64 (i : Int))) (some (.int .i64 (j : Int))) none).run Tryz.prog w = .ok (.slice (some ⟨b, o + i * 64, none⟩) (j - i) (c - i)) w :=
  run_part Tryz.underlying22 (fun w => by kernel_rfl) w b o n c i j h1 h2 h3
set_option maxHeartbeats 8000000 in
set_option maxRecDepth 20000 in
theorem rrecord (a : Option Addr) (n c : Nat) (bs : List (List UInt8)) (g at_ : Nat) (hb : ∀ x ∈ bs, x.length = 64) (hn : bs.length = n) (hm : n ≤ 20000) (hat : at_ ≤ 100000) (hg : g ≤ 18446744073709551615) : Meets Tryz.prog 48 #[.slice a n c, .int .u64 (g : Int), .int .i64 (at_ : Int)] [] [slA 64 (.slice a n c) n (bs.flatMap fun x => x.map u8v)] fun u L => rrecQ (docRec bs g at_) u L := by
  intro w B H
  have HN := Lib.hid hn
  have hslw : IsSlK w 64 n (.slice a n c) (bs.flatMap fun x => x.map u8v) := St.sl H 0
  have H1 := H.alloc [.int .i64 0, .int .u32 0, .int .u32 0, .int .u64 0, .slice none 0 0, .slice none 0 0] 62
  obtain ⟨rb, hrb⟩ : ∃ rb, rb = w.heap.size := ⟨_, rfl⟩
  rw [← hrb] at H1
  have HRB := Lib.hid hrb
  clear hrb
  by_cases hlt : at_ < n
  · obtain ⟨x, hx⟩ : ∃ x, bs[at_]? = some x := ⟨_, List.getElem?_eq_getElem (by rw [hn]; exact hlt)⟩
    have hx64 : x.length = 64 := hb x (List.mem_of_getElem? hx)
    obtain ⟨b', off, cap, e, hnc, hcm, _, _⟩ := hslw.at (by omega)
    cases e
    have hr1 := hslw.elem (f := fun x : List UInt8 => x.map u8v) (by omega) (fun y hy => by rw [List.length_map]; exact hb y hy) hx
    have hpart : ∀ m, at_ + m ≤ n → 0 < m → (slA 64 (.slice (some ⟨b', off, none⟩) n c) n (bs.flatMap fun x => x.map u8v)).imp (slA 64 (.slice (some ⟨b', off + at_ * 64, none⟩) m (c - at_)) m (((bs.drop at_).take m).flatMap fun x => x.map u8v)) := fun m h1 h2 => slA_part (fun y hy => by rw [List.length_map]; exact hb y hy) hn h1 h2
    have HPT := Lib.hid hpart
    obtain ⟨fv, hfv⟩ : ∃ fv, fv = x.map u8v := ⟨_, rfl⟩
    have hfl : fv.length = 64 := by rw [hfv, List.length_map, hx64]
    have hargs : blkV x = .agg fv.toArray := by rw [hfv]; rfl
    have hrd := rread x hx64
    rw [hargs] at hrd
    have HDR : docRec bs g at_ = match readB x with
      | none => none
      | some z => if z.1 ≠ g ∨ z.2.1 ≠ at_ then none else if headE z.2.2 ≠ 0 then none else if n < at_ + secs (needB z.2.2) then none else allF (needB z.2.2) ((bs.drop at_).take (secs (needB z.2.2))) := by unfold docRec; rw [hx, hn]
    have HDR := Lib.hid HDR
    have HS0 := Lib.hid (show slA 64 (.slice (some ⟨b', off, none⟩) n c) n (bs.flatMap fun x => x.map u8v) ∈ [slA 64 (.slice (some ⟨b', off, none⟩) n c) n (bs.flatMap fun x => x.map u8v)] from List.mem_singleton.2 rfl)
    generalize hSS : [slA 64 (.slice (some ⟨b', off, none⟩) n c) n (bs.flatMap fun x => x.map u8v)] = S at *
    have HRD := Lib.hid hrd
    have HB := Lib.hid hb
    have hat2 : ¬ (at_ : Int) ≥ (n : Int) := by omega
    have hat3 : ¬ (n : Int) ≤ (at_ : Int) := by omega
    have hw32 : IntKind.u32.wrap (at_ : Int) = at_ := by rw [IntKind.wrap_u32]; omega
    have hrg : ∀ W M, St w B M S W → W.rangeAt b' (off + at_ * 64) fv := fun W M h => by
      obtain ⟨F, hF⟩ := h.getS HS0.out
      have h9 := hF.2.2.elem (f := fun x : List UInt8 => x.map u8v) (by omega) (fun y hy => by rw [List.length_map]; exact hb y hy) hx
      rw [← hfv] at h9
      exact h9
    have HRG := Lib.hid hrg
    have HLE := Lib.hid (show at_ < n ∧ n ≤ c from ⟨hlt, hnc⟩)
    have HBP := Lib.hid (show ∀ g' p' pl, readB x = some (g', p', pl) → 1 ≤ g' ∧ g' ≤ 18446744073709551615 ∧ p' ≤ 4294967295 ∧ pl.length ≤ 48 from fun g' p' pl h => readB_bound hx64 h)
    clear hSS hrd hargs hfv hslw hx hpart hb hn hr1 hrg hnc hcm hx64
    go_enter Tryz.func48, Tryz.ntmps48
    go_upto_region 1 with fail
    rw [← HRB.out]
    refine wp_world (fun W => St w B _ _ W) H1 ?_
    intro w1 H2
    clear H1 HRB H
    have hr3 := HRG.out _ _ H2
    cases hrx : readB x with
    | none =>
      have HNO := HDR.out
      rw [hrx] at HNO
      have HNO := Lib.hid HNO
      have hrd := HRD.out
      rw [hrx] at hrd
      have HRD := Lib.hid hrd
      clear hrd HDR hrx
      go_wp2_with (first | (refine wpl_load rfl _ _ rfl b' (off + at_ * 64) (by rfl) fv 64 hfl hr3 bigBlock ?_) | fail)
      refine (HRD.out.call (L := []) (M := [_]) H2 (by simp)).mono ?_
      rintro e w2 ⟨v, L, rfl, ⟨rfl, rfl⟩, H3⟩
      have H4 := H3.alloc [.int .u64 0, .int .u32 0, .int .i64 0] 113
      go_upto_region 4 with fail
      refine wp_world (fun W => St w B _ _ W) H4 ?_
      intro w3 H5
      clear H4 H3 H2 hr3
      simp only [List.cons_append, List.nil_append] at H5
      obtain ⟨hc1, hf1⟩ := St.cells H5 1
      have HZ := (((((St.set_ H5 1 0 (.int .i64 0)).set_ 1 1 (.int .u32 0)).set_ 1 2 (.int .u32 0)).set_ 1 3 (.int .u64 0)).set_ 1 4 (.slice none 0 0)).set_ 1 5 (.slice none 0 0)
      go_wp2_with fail
      exact bodyPost_ret (results_ct rfl rfl bigRec (St.range HZ 1) rfl) rfl (Back.mk (L' := []) (rrecQ.no HNO.out) (St.pick HZ []))
    | some z =>
      obtain ⟨g', p', pl⟩ := z
      obtain ⟨k1, k2, k3, k4⟩ := HBP.out _ _ _ hrx
      have hdr := HDR.out
      rw [hrx] at hdr
      dsimp only at hdr
      have HDR := Lib.hid hdr
      have hrd := HRD.out
      rw [hrx] at hrd
      unfold refQ at hrd
      dsimp only at hrd
      have HRD := Lib.hid hrd
      clear hrd hdr hrx
      go_wp2_with (first | (refine wpl_load rfl _ _ rfl b' (off + at_ * 64) (by rfl) fv 64 hfl hr3 bigBlock ?_) | fail)
      refine (HRD.out.call (L := []) (M := [_]) H2 (by simp)).mono ?_
      rintro e w2 ⟨v, L, rfl, ⟨ax, cx, rfl, rfl⟩, H3⟩
      have H4 := H3.alloc [.int .u64 g', .int .u32 p', .int .i64 pl.length] 113
      go_upto_region 4 with fail
      refine wp_world (fun W => St w B _ _ W) H4 ?_
      intro w3 H5
      clear H4 H3 H2 hr3
      simp only [List.cons_append, List.nil_append] at H5
      obtain ⟨hc1, hf1⟩ := St.cells H5 0
      obtain ⟨hc2, hf2⟩ := St.cells H5 2
      by_cases hg' : g' = g
      · subst hg'
        by_cases hp' : p' = at_
        · subst hp'
          have hdr := HDR.out
          rw [if_neg (by simp)] at hdr
          have HDR := Lib.hid hdr
          clear hdr
          have HNE := Lib.hid (rneed ax cx pl (by omega))
          by_cases hh : headE pl = 0
          · have hdr := HDR.out
            rw [if_neg (by rw [hh]; simp)] at hdr
            have hnb : needB pl = 21 + headN pl + headM pl := by unfold needB; rw [if_pos hh]
            have hnm := headNM pl hh
            obtain ⟨nb, hnbe⟩ : ∃ nb, nb = needB pl := ⟨_, rfl⟩
            have hn1 : nb ≤ 800 := by omega
            have hne := HNE.out
            rw [hh, ← hnbe] at hne
            have HNE := Lib.hid hne
            rw [← hnbe] at hdr
            have hsp := secs_pos nb
            have hse := secs_eq nb
            have hk17 : secs nb ≤ 17 := by unfold secs; split <;> omega
            have HSE := Lib.hid (rsectors nb (by omega))
            obtain ⟨k, hk⟩ : ∃ k, k = secs nb := ⟨_, rfl⟩
            have hse2 := HSE.out
            rw [← hk] at hse2 hdr hsp hse hk17
            have HSE := Lib.hid hse2
            have HDR := Lib.hid hdr
            clear hdr hne hse2 hnbe hk hnb hnm hh
            go_wp2_with fail
            refine (HNE.out.call (L := []) (M := [_, _, _]) H5 (share1 (own_byt_imp rfl) (by simp))).mono ?_
            rintro e w4 ⟨_, _, rfl, ⟨rfl, rfl⟩, H6⟩
            simp only [List.cons_append, List.nil_append] at H6
            clear H5 hc1 hf1 hc2 hf2 HNE
            go_wp2_with fail
            refine (HSE.out.call (L := []) (M := [_, _, _]) H6 (by simp)).mono ?_
            rintro e w5 ⟨_, _, rfl, ⟨rfl, rfl⟩, H7⟩
            simp only [List.cons_append, List.nil_append] at H7
            clear H6 HSE
            obtain ⟨hc2, hf2⟩ := St.cells H7 2
            by_cases hov : n < p' + k
            · have HNO := HDR.out
              rw [if_pos hov] at HNO
              have HNO := Lib.hid HNO
              have hov2 : (p' : Int) + (k : Int) > (n : Int) := by omega
              have hov3 : (n : Int) < (p' : Int) + (k : Int) := by omega
              clear hov HDR
              have HZ := (((((St.set_ H7 2 0 (.int .i64 0)).set_ 2 1 (.int .u32 0)).set_ 2 2 (.int .u32 0)).set_ 2 3 (.int .u64 0)).set_ 2 4 (.slice none 0 0)).set_ 2 5 (.slice none 0 0)
              go_wp2_with fail
              exact bodyPost_ret (results_ct rfl rfl bigRec (St.range HZ 2) rfl) rfl (Back.mk (L' := []) (rrecQ.no HNO.out) (St.pick HZ []))
            · have hdr := HDR.out
              rw [if_neg hov] at hdr
              have hov2 : ¬ (p' : Int) + (k : Int) > (n : Int) := by omega
              have hov3 : ¬ (n : Int) < (p' : Int) + (k : Int) := by omega
              have hsl : ∀ W, (Instr.sliceAt 22 (.slice (some ⟨b', off, none⟩) n c) (some (.int .i64 (p' : Int))) (some (.int .i64 ((p' : Int) + (k : Int)))) none).run Tryz.prog W = .ok (.slice (some ⟨b', off + p' * 64, none⟩) k (c - p')) W := fun W => by
                have := run_blocks W b' off n c p' (p' + k) (by omega) (by have := HLE.out; omega) (by have := HLE.out; omega)
                rwa [Nat.add_sub_cancel_left, show ((p' + k : Nat) : Int) = (p' : Int) + (k : Int) by omega] at this
              have hpt := HPT.out k (by omega) (by omega)
              have hjl : ((bs.drop p').take k).length = k := by rw [List.length_take, List.length_drop, HN.out]; omega
              have hjn := rjoin (.slice (some ⟨b', off + p' * 64, none⟩) k (c - p')) ((bs.drop p').take k) (fun x hx => HB.out x (List.mem_of_mem_drop (List.mem_of_mem_take hx))) (by omega)
              rw [hjl] at hjn
              have hjb : ∀ all, joinB ((bs.drop p').take k) = some all → all.length ≤ 48 * k := fun all h => by
                have := joinB_len (fun x hx => HB.out x (List.mem_of_mem_drop (List.mem_of_mem_take hx))) h
                rwa [hjl] at this
              generalize (bs.drop p').take k = jl at *
              have HSL := Lib.hid hsl
              have HJN := Lib.hid hjn
              have HPT2 := Lib.hid hpt
              have HDR := Lib.hid hdr
              have HJB := Lib.hid hjb
              have HJL := Lib.hid hjl
              have hcap : p' + k ≤ c := by have := HLE.out; omega
              have hcap2 : (p' : Int) + (k : Int) ≤ (c : Int) := by omega
              have hcap3 : ¬ c = p' := by omega
              clear hdr hjb hov hsl hjn hpt hjl hc2 hf2
              go_wp2_with (first | rw [HSL.out] | fail)
              refine (HJN.out.call (L := []) (M := [_, _, _]) H7 (share1 HPT2.out (List.mem_append_left _ HS0.out))).mono ?_
              rintro e w6 ⟨_, L, rfl, hjq, H8⟩
              clear H7 HJN HSL HPT2
              cases hj : joinB jl with
              | none =>
                rw [hj] at hjq
                obtain ⟨rfl, rfl⟩ := hjq
                simp only [List.cons_append, List.nil_append] at H8
                have HNO := HDR.out
                unfold allF at HNO
                rw [hj] at HNO
                have HNO := Lib.hid HNO
                clear hj HDR
                obtain ⟨hc2, hf2⟩ := St.cells H8 2
                have HZ := (((((St.set_ H8 2 0 (.int .i64 0)).set_ 2 1 (.int .u32 0)).set_ 2 2 (.int .u32 0)).set_ 2 3 (.int .u64 0)).set_ 2 4 (.slice none 0 0)).set_ 2 5 (.slice none 0 0)
                go_wp2_with fail
                exact bodyPost_ret (results_ct rfl rfl bigRec (St.range HZ 2) rfl) rfl (Back.mk (L' := []) (rrecQ.no HNO.out) (St.pick HZ []))
              | some all =>
                rw [hj] at hjq
                obtain ⟨aj, cj, rfl, rfl⟩ := hjq
                simp only [List.cons_append, List.nil_append] at H8
                have hal := HJB.out all hj
                have hdr := HDR.out
                unfold allF at hdr
                rw [hj] at hdr
                dsimp only at hdr
                rw [HJL.out] at hdr
                have HDR := Lib.hid hdr
                clear hdr hj HJB
                obtain ⟨hc2, hf2⟩ := St.cells H8 3
                obtain ⟨na, hna⟩ : ∃ na, na = all.length := ⟨_, rfl⟩
                by_cases hln : all.length = nb
                · have hdr := HDR.out
                  rw [if_neg (by simp [hln])] at hdr
                  have HDC := Lib.hid (rdecode aj cj all (by omega))
                  have HLN := Lib.hid hln
                  have hln2 : ((all.length : Int) == (nb : Int)) = true := by simp; omega
                  have hln3 : (all.length : Int) = (nb : Int) := by omega
                  clear hln hna
                  unfold decQ at HDC
                  by_cases hde : decE all = 0
                  · rw [if_neg (by rw [hde]; simp)] at hdr
                    have HYE := Lib.hid hdr
                    have hdc := HDC.out
                    simp only [if_pos hde] at hdc
                    have HDC := Lib.hid hdc
                    clear hdc hdr hde HDR hc2 hf2
                    go_wp2_with fail
                    refine (HDC.out.call (L := []) (M := [_, _, _, _]) H8 (share1 (own_byt_imp rfl) memHead)).mono ?_
                    rintro e w10 ⟨_, L, rfl, ⟨x1, y1, c1, d1, rfl, rfl⟩, H10⟩
                    clear H8 HDC
                    unfold recV
                    have H11 := H10.alloc [.int .i64 (headR all).k, .int .u32 (headR all).f, .int .u32 (headR all).e, .int .u64 (headR all).s, .slice x1 (headN all) c1, .slice y1 (headM all) d1] 62
                    obtain ⟨qb, hqb⟩ : ∃ qb, qb = w10.heap.size := ⟨_, rfl⟩
                    rw [← hqb] at H11
                    go_upto_region 16 with fail
                    rw [← hqb]
                    clear hqb
                    refine wp_world (fun W => St w B _ _ W) H11 ?_
                    clear H10 H11
                    intro w11 H12
                    simp only [List.cons_append, List.nil_append] at H12
                    obtain ⟨hc, hf⟩ := St.cells H12 0
                    obtain ⟨hc2, hf2⟩ := St.cells H12 6
                    go_wp2_with fail
                    have H13 := (((((H12.set_ 6 0 (.int .i64 (headR all).k)).set_ 6 1 (.int .u32 (headR all).f)).set_ 6 2 (.int .u32 (headR all).e)).set_ 6 3 (.int .u64 (headR all).s)).set_ 6 4 (.slice x1 (headN all) c1)).set_ 6 5 (.slice y1 (headM all) d1)
                    exact bodyPost_ret (results_ct rfl rfl bigRec (H13.range 6)) rfl (Back.mk (rrecQ.yes HYE.out x1 y1 c1 d1) (St.pick H13 [1, 2]))
                  · rw [if_pos hde] at hdr
                    have HNO := Lib.hid hdr
                    have hdc := HDC.out
                    simp only [if_neg hde] at hdc
                    have HDC := Lib.hid hdc
                    have hq : ((decE all : Int) == 0) = false := by simp; omega
                    have hq2 : ¬ (decE all : Int) = 0 := by omega
                    clear hdc hdr HDR hc2 hf2 hde
                    generalize decE all = de at *
                    go_wp2_with fail
                    refine (HDC.out.call (L := []) (M := [_, _, _, _]) H8 (share1 (own_byt_imp rfl) memHead)).mono ?_
                    rintro e w10 ⟨_, L, rfl, ⟨rfl, rfl⟩, H10⟩
                    clear H8 HDC
                    unfold recV
                    have H11 := H10.alloc [.int .i64 0, .int .u32 0, .int .u32 0, .int .u64 0, .slice none 0 0, .slice none 0 0] 62
                    go_upto_region 16 with fail
                    refine wp_world (fun W => St w B _ _ W) H11 ?_
                    clear H10 H11
                    intro w11 H12
                    simp only [List.cons_append, List.nil_append] at H12
                    obtain ⟨hc2, hf2⟩ := St.cells H12 4
                    have HZ := (((((St.set_ H12 4 0 (.int .i64 0)).set_ 4 1 (.int .u32 0)).set_ 4 2 (.int .u32 0)).set_ 4 3 (.int .u64 0)).set_ 4 4 (.slice none 0 0)).set_ 4 5 (.slice none 0 0)
                    go_wp2_with fail
                    exact bodyPost_ret (results_ct rfl rfl bigRec (St.range HZ 4) rfl) rfl (Back.mk (L' := []) (rrecQ.no HNO.out) (St.pick HZ []))
                · have HNO := HDR.out
                  rw [if_pos hln] at HNO
                  have HNO := Lib.hid HNO
                  have hln2 : ((all.length : Int) == (nb : Int)) = false := by simp; omega
                  have hln3 : ¬ (all.length : Int) = (nb : Int) := by omega
                  clear hln hna HDR
                  have HZ := (((((St.set_ H8 3 0 (.int .i64 0)).set_ 3 1 (.int .u32 0)).set_ 3 2 (.int .u32 0)).set_ 3 3 (.int .u64 0)).set_ 3 4 (.slice none 0 0)).set_ 3 5 (.slice none 0 0)
                  go_wp2_with fail
                  exact bodyPost_ret (results_ct rfl rfl bigRec (St.range HZ 3) rfl) rfl (Back.mk (L' := []) (rrecQ.no HNO.out) (St.pick HZ []))
          · have HNO := HDR.out
            rw [if_pos (by simpa using hh)] at HNO
            have HNO := Lib.hid HNO
            have hnb : needB pl = 0 := by unfold needB; rw [if_neg hh]
            have hne := HNE.out
            rw [hnb] at hne
            have HNE := Lib.hid hne
            generalize headE pl = he at *
            have hq : ((he : Int) == 0) = false := by simp; omega
            have hq2 : ¬ (he : Int) = 0 := by omega
            clear hnb hne hh HDR
            go_wp2_with fail
            refine (HNE.out.call (L := []) (M := [_, _, _]) H5 (share1 (own_byt_imp rfl) (by simp))).mono ?_
            rintro e w4 ⟨_, _, rfl, ⟨rfl, rfl⟩, H6⟩
            simp only [List.cons_append, List.nil_append] at H6
            clear H5 hc1 hf1 hc2 hf2
            obtain ⟨hc2, hf2⟩ := St.cells H6 2
            have HZ := (((((St.set_ H6 2 0 (.int .i64 0)).set_ 2 1 (.int .u32 0)).set_ 2 2 (.int .u32 0)).set_ 2 3 (.int .u64 0)).set_ 2 4 (.slice none 0 0)).set_ 2 5 (.slice none 0 0)
            go_wp2_with fail
            exact bodyPost_ret (results_ct rfl rfl bigRec (St.range HZ 2) rfl) rfl (Back.mk (L' := []) (rrecQ.no HNO.out) (St.pick HZ []))
        · have HNO := HDR.out
          rw [if_pos (.inr hp')] at HNO
          have HNO := Lib.hid HNO
          have hq : ((p' : Int) == (at_ : Int)) = false := by simp; omega
          have hq2 : ¬ (p' : Int) = (at_ : Int) := by omega
          clear hp' HDR
          have HZ := (((((St.set_ H5 2 0 (.int .i64 0)).set_ 2 1 (.int .u32 0)).set_ 2 2 (.int .u32 0)).set_ 2 3 (.int .u64 0)).set_ 2 4 (.slice none 0 0)).set_ 2 5 (.slice none 0 0)
          go_wp2_with fail
          exact bodyPost_ret (results_ct rfl rfl bigRec (St.range HZ 2) rfl) rfl (Back.mk (L' := []) (rrecQ.no HNO.out) (St.pick HZ []))
      · have HNO := HDR.out
        rw [if_pos (.inl hg')] at HNO
        have HNO := Lib.hid HNO
        have hq : ((g' : Int) == (g : Int)) = false := by simp; omega
        have hq2 : ¬ (g' : Int) = (g : Int) := by omega
        clear hg' HDR
        have HZ := (((((St.set_ H5 2 0 (.int .i64 0)).set_ 2 1 (.int .u32 0)).set_ 2 2 (.int .u32 0)).set_ 2 3 (.int .u64 0)).set_ 2 4 (.slice none 0 0)).set_ 2 5 (.slice none 0 0)
        go_wp2_with fail
        exact bodyPost_ret (results_ct rfl rfl bigRec (St.range HZ 2) rfl) rfl (Back.mk (L' := []) (rrecQ.no HNO.out) (St.pick HZ []))
  · have HNO := Lib.hid (show docRec bs g at_ = none by unfold docRec; rw [List.getElem?_eq_none (by omega)])
    have hat2 : (at_ : Int) ≥ (n : Int) := by omega
    have hat3 : (n : Int) ≤ (at_ : Int) := by omega
    generalize hSS : [slA 64 (.slice a n c) n (bs.flatMap fun x => x.map u8v)] = S at *
    clear hSS hslw hb hn
    go_enter Tryz.func48, Tryz.ntmps48
    go_upto_region 1 with fail
    rw [← HRB.out]
    refine wp_world (fun W => St w B _ _ W) H1 ?_
    intro w1 H2
    clear H1 HRB H
    obtain ⟨hc1, hf1⟩ := St.cells H2 0
    have HZ := (((((St.set_ H2 0 0 (.int .i64 0)).set_ 0 1 (.int .u32 0)).set_ 0 2 (.int .u32 0)).set_ 0 3 (.int .u64 0)).set_ 0 4 (.slice none 0 0)).set_ 0 5 (.slice none 0 0)
    go_wp2_with fail
    exact bodyPost_ret (results_ct rfl rfl bigRec (St.range HZ 0) rfl) rfl (Back.mk (L' := []) (rrecQ.no HNO.out) (St.pick HZ []))
end Go.Proofs.YtjmocjcjiiopnaaGreat
end
