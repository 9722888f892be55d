/- ideal.sorted. Conditions: the versions lie in memory, not more than a thousand. -/
import Derived.Test.YtngpffmgkponfaaSrt
set_option linter.unusedVariables false
set_option linter.unusedSimpArgs false
namespace Go.Proofs.Ytngpffmgkponfaa
open Go.RowKit Go.Ice Go.Idl

theorem own_keep {w w' : World} {base e size n : Nat} {v : Value} {xs : List Value} (h : w.ownsRow base e size v n xs) (hk : ∀ b, v.ownBlock = some b → w'.heap[b]? = w.heap[b]?) : w'.ownsRow base e size v n xs := by
  obtain ⟨h1, h2⟩ := h
  refine ⟨h1, ?_⟩
  rcases h2 with h2 | ⟨g, cap, cur, hv, hb, hg, r⟩
  · exact .inl h2
  · exact .inr ⟨g, cap, cur, hv, hb, (hk g (by rw [hv]; rfl)).trans hg, r⟩
theorem own_belowK {B : Nat} {w w' : World} {base e size n : Nat} {v : Value} {xs : List Value} (h : w.ownsRow base e size v n xs) (hb : Below B w w') (hB : w.heap.size ≤ B) : w'.ownsRow base e size v n xs :=
  own_keep h fun b hb' => hb.block b (by have := (h.lt b hb').2; omega)
theorem own_bytes {w : World} {base : Nat} {v : Value} {l : List UInt8} {C : Nat → Prop} (h : w.ownsRow base 5 1 v l.length (l.map u8v)) (hC : ∀ b, base ≤ b → C b) : BytesIn w C v l :=
  ⟨own_isSl h, fun _ b hb => hC b (h.lt b hb).1⟩

/-- What stands when k versions are copied. -/
structure SorI (w : World) (l : List Tv) (k : Nat) (v : Value) (W : World) (rl : List (Value × Tv)) : Prop where
  bel : Below w.heap.size w W
  eq : rl.map Prod.snd = l.take k
  own : W.ownsRow w.heap.size 49 4 v k (cellsR rl)
  el : ∀ p ∈ rl, W.ownsRow w.heap.size 5 1 p.1 p.2.val.length (p.2.val.map u8v)

theorem isSlK_new (w : World) (cs : List Value) (e : TypeId) (n size cap : Nat) (h0 : 0 < n) (hl : cs.length = n * size) (hc : n ≤ cap) (hm : cap ≤ maxLen) : IsSlK (w.alloc (.cells cs.toArray e)) size n (.slice (some ⟨w.heap.size, 0, none⟩) n cap) cs :=
  ⟨hl, .inr ⟨h0, w.heap.size, 0, cap, rfl, hc, hm, by simp, fun j hj => by rw [Nat.zero_add, World.cell?_alloc_mark]; simp⟩⟩
theorem SorI.step {w W W3 : World} {l : List Tv} {k : Nat} {v x : Value} {rl : List (Value × Tv)} {t : Tv} {g : Nat} (h : SorI w l k v W rl) (hb : Below W.heap.size W W3) (ht : l[k]? = some t) (hk : k ≤ 1000000)
    (hx : W3.ownsRow w.heap.size 5 1 x t.val.length (t.val.map u8v)) (hn : IsSlK W3 4 1 (.slice (some ⟨g, 0, none⟩) 1 1) (encR (x, t))) (hxs : ∃ a n c, x = .slice a n c) :
    ∃ v' w', (Builtin.append_ #[54, 54] 54 #[v, .slice (some ⟨g, 0, none⟩) 1 1]).run Try.prog W3 = .ok v' w' ∧ Hid (SorI w l (k + 1) v' w' (rl ++ [(x, t)])) := by
  have ho := own_belowK h.own hb (Nat.le_refl _)
  have hlr : rl.length = k := by
    have := congrArg List.length h.eq
    rw [List.length_map, List.length_take] at this
    have := (List.getElem?_eq_some_iff.1 ht).1
    omega
  obtain ⟨v', w', hr, ho', hg, hloc⟩ := app_at (P := Try.prog) (t := 54) (ty := 54) elemTold ho hn (by
    obtain ⟨a, n, c, e⟩ := hxs
    intro u hu
    simp only [encR, e, List.mem_cons, List.mem_nil_iff, or_false] at hu
    rcases hu with rfl | rfl | rfl | rfl <;> rfl) (by omega) (by unfold maxLen; omega) (by have := hb.size; have := h.bel.size; omega)
  have hap : ∀ {y : Value} {m : Nat} {ys : List Value}, W3.ownsRow w.heap.size 5 1 y m ys → w'.ownsRow w.heap.size 5 1 y m ys := fun hy => hy.kept hg (own_apart ho hy (by decide))
  refine ⟨v', w', hr, ?_, ?_, ?_, ?_⟩
  · refine (h.bel.trans (hb.mono h.bel.size)).grown hg (by have := hb.size; have := h.bel.size; omega) (fun b hb' => (ho.lt b hb').1)
  · rw [List.map_append, h.eq, List.take_add_one, ht]; rfl
  · rw [cellsR_append]
    have : cellsR [(x, t)] = encR (x, t) := by simp [cellsR]
    rw [this]; exact ho'
  · intro p hp
    rcases List.mem_append.1 hp with hp | hp
    · exact hap (own_belowK (h.el p hp) hb (Nat.le_refl _))
    · obtain rfl : p = (x, t) := by simpa using hp
      exact hap hx

theorem compF_small {rl : List (Value × Tv)} (h : rl.length < 2) : compF Prod.snd rl = rl := by
  match rl, h with
  | [], _ => rfl
  | [x], _ => rfl
theorem SorI.row {w W : World} {l : List Tv} {k : Nat} {v : Value} {rl : List (Value × Tv)} (h : SorI w l k v W rl) (hk : l.length = k) (h0 : 0 < k) :
    ∃ g cap, v = .slice (some ⟨g, 0, none⟩) k cap ∧ w.heap.size ≤ g ∧ g < W.heap.size ∧ k ≤ cap ∧ cap ≤ maxLen ∧ rl.length = k ∧ Blk W g 49 (k * 4) ∧ RowR W g 0 rl ∧ ∀ p ∈ rl, BytesIn W (fun b => w.heap.size ≤ b ∧ b ≠ g) p.1 p.2.val := by
  have hlr : rl.length = k := by
    have := congrArg List.length h.eq
    rw [List.length_map, List.length_take] at this
    omega
  rcases h.own.2 with ⟨_, h'⟩ | ⟨g, cap, cur, hv, h2, h3, h4, h5, h6, h7⟩
  · omega
  · have hlt : g < W.heap.size := (Array.getElem?_eq_some_iff.1 h3).1
    refine ⟨g, cap, hv, h2, hlt, h4, h5, hlr, ⟨cur, h3, by rw [h6]; exact Nat.mul_le_mul_right 4 h4⟩, RowR.of fun j hj => ?_, fun p hp => ⟨own_isSl (h.el p hp), fun _ b hb => ⟨(h.el p hp |>.lt b hb).1, fun e => ?_⟩⟩⟩
    · rcases (own_isSlK h.own).2 with ⟨h', _⟩ | ⟨_, b, off, cap', hv', _, _, _, h8⟩
      · omega
      · rw [hv] at hv'
        injection hv' with e1 e2 e3
        injection e1 with e1
        injection e1 with e4 e5
        subst e4 e5
        exact h8 j hj
    · rcases own_apart h.own (h.el p hp) (by decide) with h' | h'
      · rw [h'] at hb; cases hb
      · exact h' (by rw [hb, hv, e]; rfl)
theorem SorI.fin {w W w2 : World} {l : List Tv} {k g cap : Nat} {v : Value} {rl rl2 : List (Value × Tv)} (h : SorI w l k v W rl) (hk : l.length = k) (h0 : 0 < k) (hg : w.heap.size ≤ g) (hlt : g < W.heap.size) (h1 : k ≤ cap) (h2 : cap ≤ maxLen) (hlr : rl.length = k)
    (hel : ∀ p ∈ rl, BytesIn W (fun b => w.heap.size ≤ b ∧ b ≠ g) p.1 p.2.val) (hp : rl2.Perm rl) (hs : (rl2.map Prod.snd).Pairwise (fun a b => ¬ ltT b a)) (hf : Frm (fun x => x = g) W w2) (hr : RowR w2 g 0 (compF Prod.snd rl2)) (hok : ∀ t ∈ l, Tv.ok t) :
    VersAt w2 (fun b => w.heap.size ≤ b) (.slice (some ⟨g, 0, none⟩) (compF Prod.snd rl2).length cap) (sortT l) ∧ Below w.heap.size w w2 := by
  have heq : rl.map Prod.snd = l := by rw [h.eq, List.take_of_length_le (by omega)]
  have h2l : rl2.length = k := by rw [hp.length_eq, hlr]
  have hsub : ∀ p, p ∈ compF Prod.snd rl2 → p ∈ rl := fun p hp' => hp.mem_iff.1 (compF_sub Prod.snd rl2 hp')
  refine ⟨⟨compF Prod.snd rl2, ?_, ?_, fun p hp' => ?_, fun p hp' => ?_⟩, h.bel.trans (hf.below (fun b hb e => by omega) h.bel.size)⟩
  · rw [compF_map]
    have h3 := compF_of _ hs
    refine h3.unique (sortT_of l) fun t => ?_
    rw [← heq]
    exact (hp.map Prod.snd).mem_iff
  · have h5 : 0 < (compF Prod.snd rl2).length := by
      cases h6 : rl2 with
      | nil => rw [h6] at h2l; simp at h2l; omega
      | cons x r => simp [compF]
    exact .inr ⟨h5, g, 0, cap, rfl, by have := compF_len_le Prod.snd rl2; omega, h2, by have := hf.size; omega, hg, hr⟩
  · exact ((hel p (hsub p hp')).frm hf (fun b hb => hb.2)).mono (fun b _ hb => hb.1)
  · exact hok _ (by rw [← heq]; exact List.mem_map.2 ⟨p, hsub p hp', rfl⟩)

set_option maxHeartbeats 8000000 in
set_option maxRecDepth 20000 in
theorem sorted29 (w : World) (C : Nat → Prop) (v : Value) (l : List Tv) (hl : VersAt w C v l) (hm : l.length ≤ 100000) :
    Calls Try.prog 29 #[v] w fun e w' => ∃ v', e = .returned v' ∧ VersAt w' (fun b => w.heap.size ≤ b) v' (sortT l) ∧ Below w.heap.size w w' := by
  obtain ⟨rl0, hrl, hv0⟩ := hl
  have hlen : rl0.length = l.length := by rw [← hrl, List.length_map]
  obtain ⟨a, ca, rfl, _⟩ := hv0.form
  have HV := Lib.hid hv0
  have HRL := Lib.hid hrl
  obtain ⟨n, hn⟩ : ∃ n, n = l.length := ⟨_, rfl⟩
  rw [hlen, ← hn]
  rw [← hn] at hm
  have HL : Hid (rl0.length = n) := by show _ = _; rw [hlen, hn]
  have HN := Lib.hid hn
  clear hv0 hrl hlen hn
  go_enter Try.func29, Try.ntmps29
  go_wp2_with fail
  go_loopg [3, 5, 8] n (fun g ov bv kv wr => ∃ (k : Nat) (rl : List (Value × Tv)), g = n - k ∧ k ≤ n ∧ kv = .int .i64 k ∧ Hid (SorI w l k ov wr rl))
  case atStart => exact ⟨0, [], rfl, by omega, rfl, Below.refl _ _, rfl, ⟨rfl, .inl ⟨rfl, rfl⟩⟩, by simp⟩
  case round =>
    obtain ⟨k, rl, rfl, hk, rfl, HI⟩ := hrel
    by_cases hlt : k < n
    · have hkl : k < rl0.length := by rw [HL.out]; exact hlt
      obtain ⟨⟨xv, t⟩, hp⟩ : ∃ p, rl0[k]? = some p := ⟨_, List.getElem?_eq_getElem hkl⟩
      have hmem := List.mem_of_getElem? hp
      have hbt := (HV.out.el _ hmem).1
      have htok := HV.out.ok _ hmem
      have ht : l[k]? = some t := by rw [← HRL.out, List.getElem?_map, hp]; rfl
      obtain ⟨xa, xc, hxv, _⟩ := hbt.form
      have hxv : xv = .slice xa t.val.length xc := hxv
      obtain ⟨b, off, cap, e1, h1, h2, h3, _, h5⟩ := HV.out.at (by omega)
      obtain ⟨p0, p1, p2, p3⟩ := h5.frm (frm_below (T := fun _ => False) (HI.out.bel.mono (Nat.le_refl _))) h3 (fun h => h) k _ hp
      rw [HL.out] at e1 h1
      injection e1 with y1 y2 y3
      subst y1 y3 hxv
      unfold maxLen at h2
      have hbt : BytesAt wr (.slice xa t.val.length xc) t.val := IsSl.below hbt HI.out.bel (Nat.le_refl _)
      have htl : t.val.length ≤ 1000 := htok.1
      have HT := Lib.hid ht
      dsimp only at p0 p1 p2 p3
      obtain ⟨B, W1, HB, HW, HK, HZ⟩ := boxed1 wr #[.slice xa t.val.length xc, .int .u32 t.fl, .int .u32 t.ex, .int .u64 t.cas] 49
      have hbt1 : BytesAt W1 (.slice xa t.val.length xc) t.val := IsSl.below hbt HK.out.below (Nat.le_refl _)
      have hcl := clone36 W1 _ _ hbt1 (by omega)
      have HCL := Lib.hid hcl
      obtain ⟨xn, hxn⟩ : ∃ xn, xn = t.val.length := ⟨_, rfl⟩
      rw [← hxn] at p0 HK HW HCL
      have HXN := Lib.hid hxn
      have b0 : W1.cell? ⟨B, 0, none⟩ = some (.slice xa xn xc) := blk_cell HK.out.b0 0
      clear ht hp hkl hmem h5 hcl hbt hbt1 htok h3 y2 htl hxn
      go_upto_region 5 with fail
      rw [HB.out, HW.out]
      clear p0 p1 p2 p3 h1 h2
      go_wp2_with fail
      refine HCL.out.mono ?_
      rintro e w1 ⟨v', rfl, ho, hb1⟩
      obtain ⟨va, vc, rfl, _⟩ := own_form ho
      have HK1 := Lib.hid (HK.out.step hb1)
      have q0 : w1.cell? ⟨B, 0, none⟩ = some (.slice xa xn xc) := blk_cell HK1.out.b0 0
      have f0 : w1.frozen? ⟨B, 0, none⟩ = false := blk_frozen HK1.out.b0 0
      have HO : Hid (w1.ownsRow W1.heap.size 5 1 (.slice va xn vc) t.val.length (t.val.map u8v)) := by show World.ownsRow _ _ _ _ _ _ _; rw [← HXN.out]; exact ho
      clear ho hb1 HCL b0
      go_upto_region 6 with fail
      refine wp_world (R := fun W => Kp wr [(B, .cells #[.slice va xn vc, .int .u32 t.fl, .int .u32 t.ex, .int .u64 t.cas] 49)] W ∧ W.ownsRow W1.heap.size 5 1 (.slice va xn vc) t.val.length (t.val.map u8v)) ⟨HK1.out.set0 (k := 0) (Nat.le_of_eq HB.out) (fun p hp => by cases hp) (.slice va xn vc), own_set HO.out (by have := HZ.out; show B < _; omega) _⟩ ?_
      intro w2 ⟨hk2, ho2⟩
      have HK2 := Lib.hid hk2
      have c0 : w2.cell? ⟨B, 0, none⟩ = some (.slice va xn vc) := blk_cell hk2.b0 0
      have c1 : w2.cell? ⟨B, 1, none⟩ = some (.int .u32 t.fl) := blk_cell hk2.b0 1
      have c2 : w2.cell? ⟨B, 2, none⟩ = some (.int .u32 t.ex) := blk_cell hk2.b0 2
      have c3 : w2.cell? ⟨B, 3, none⟩ = some (.int .u64 t.cas) := blk_cell hk2.b0 3
      obtain ⟨v4, w4, hr4, HI4⟩ := HI.out.step (W3 := w2.alloc (.cells #[.slice va xn vc, .int .u32 t.fl, .int .u32 t.ex, .int .u64 t.cas] 49)) (x := .slice va xn vc) (g := w2.heap.size) (hk2.below.alloc hk2.below.size _) HT.out (by omega)
        (own_belowK (own_base ho2 (by have := HI.out.bel.size; have := HZ.out; have := HB.out; omega)) ((Below.refl _ w2).alloc (Nat.le_refl _) _) (Nat.le_refl _))
        (isSlK_new w2 [.slice va xn vc, .int .u32 t.fl, .int .u32 t.ex, .int .u64 t.cas] 49 1 4 1 (by omega) rfl (by omega) (by decide)) ⟨_, _, _, rfl⟩
      have HR4 := Lib.hid hr4
      clear hr4 hk2 ho2 HK1 HO q0 f0
      go_wp2_with (at_builtin; refine wpList_append_eq rfl _ _ _ rfl rfl rfl HR4.out ?_)
      go_roundg (n - (k + 1))
      case measure => omega
      case rel => exact ⟨k + 1, _, rfl, by omega, by go_num, HI4.out⟩
    · obtain rfl : k = n := by omega
      have hlk : l.length = k := HN.out.symm
      have hok : ∀ t ∈ l, Tv.ok t := fun t ht => by
        rw [← HRL.out] at ht
        obtain ⟨p, hp, rfl⟩ := List.mem_map.1 ht
        exact HV.out.ok p hp
      have HLK := Lib.hid hlk
      have HOK := Lib.hid hok
      clear hlk hok
      rcases Nat.eq_zero_or_pos k with h0 | h0
      · have HI2 : Hid (SorI w l 0 u3 wr rl) := by have := HI; rwa [h0] at this
        have HLK2 : Hid (l = []) := List.length_eq_zero_iff.1 (by rw [HLK.out, h0])
        obtain ⟨oa, oc, hov, _⟩ := own_form HI2.out.own
        have hsrt := AnyF.slices_SortFunc_none Try.sortL oa oc (.func (.func 38) #[] #[]) wr
        change Calls Try.prog 37 _ _ _ at hsrt
        have hcp := compact39_small wr oa 0 oc (by omega)
        have HS1 := Lib.hid hsrt
        have HS2 := Lib.hid hcp
        have HOV := Lib.hid hov
        clear hsrt hcp hov HI HLK
        go_upto_region 8 with fail
        rw [HOV.out]
        go_wp2_with fail
        refine HS1.out.mono ?_
        rintro e w1 ⟨rfl, rfl⟩
        go_wp2_with fail
        refine HS2.out.mono ?_
        rintro e w1 ⟨rfl, rfl⟩
        go_wp2_with fail
        go_ret
        refine ⟨_, rfl, ?_, HI2.out.bel⟩
        rw [HLK2.out]
        rw [HOV.out] at HI2
        refine ⟨[], rfl, ⟨.inl ⟨rfl, ?_⟩, by simp, by simp⟩⟩
        rcases (own_isSlK HI2.out.own).2 with ⟨_, h⟩ | ⟨h, _⟩
        · exact h
        · omega
      · obtain ⟨g, cap', hov, hg1, hg2, hg3, hg4, hlr, hblk, hrow, hel⟩ := HI.out.row HLK.out h0
        have hsrt := sort37 wr g k cap' rl hlr h0 (by omega) hblk hrow (fun p hp => (hel p hp).mono (fun b _ hb => hb.2))
        have HS1 := Lib.hid hsrt
        have HOV := Lib.hid hov
        have HEL := Lib.hid hel
        have HLR := Lib.hid hlr
        clear hsrt hov hblk hrow hel hlr
        go_upto_region 8 with fail
        rw [HOV.out]
        go_wp2_with fail
        refine HS1.out.mono ?_
        rintro e w1 ⟨rfl, rl2, hp2, hs2, hf2, hblk2, hrow2⟩
        have h2l : rl2.length = k := by rw [hp2.length_eq, HLR.out]
        have HP2 := Lib.hid hp2
        have HS2 := Lib.hid hs2
        have HF2 := Lib.hid hf2
        have HR2 := Lib.hid hrow2
        have HcP : Hid (Calls Try.prog 39 #[.slice (some ⟨g, 0, none⟩) k cap', .func (.func 40) #[] #[]] w1 fun e w' => e = .returned (.slice (some ⟨g, 0, none⟩) (compF Prod.snd rl2).length cap') ∧ Frm (fun x => x = g) w1 w' ∧ RowR w' g 0 (compF Prod.snd rl2)) := by
          rcases Nat.lt_or_ge k 2 with hk2 | hk2
          · refine (compact39_small w1 (some ⟨g, 0, none⟩) k cap' hk2).mono ?_
            rintro e w' ⟨rfl, rfl⟩
            rw [compF_small (by omega)]
            exact ⟨by rw [h2l], Frm.refl _ _, HR2.out⟩
          · exact compact39 w1 (fun b => w.heap.size ≤ b ∧ b ≠ g) g k cap' rl2 h2l hk2 hg3 hg4 hblk2 hrow2 (fun p hp => (HEL.out p (HP2.out.mem_iff.1 hp)).frm HF2.out (fun b hb => hb.2)) (fun h => h.2 rfl)
        clear hp2 hs2 hf2 hblk2 hrow2 h2l HS1
        go_wp2_with fail
        refine HcP.out.mono ?_
        rintro e w2 ⟨rfl, hf3, hr3⟩
        have HF : Hid (VersAt w2 (fun b => w.heap.size ≤ b) (.slice (some ⟨g, 0, none⟩) (compF Prod.snd rl2).length cap') (sortT l) ∧ Below w.heap.size w w2) :=
          HI.out.fin HLK.out h0 hg1 hg2 hg3 hg4 HLR.out HEL.out HP2.out HS2.out (HF2.out.trans hf3) hr3 HOK.out
        clear hf3 hr3
        go_wp2_with fail
        go_ret
        exact ⟨_, rfl, HF.out.1, HF.out.2⟩
end Go.Proofs.Ytngpffmgkponfaa
