/- The law's copied: a script in memory of its own. Conditions: the script lies in memory, and is not too long. -/
import Derived.Test.YtelaijogjgcloaaDoorFew
set_option linter.unusedVariables false
set_option linter.unusedSimpArgs false
namespace Go.Proofs.YtelaijogjgcloaaDoor
open Go.RowKit Go.Ice Go.Scr

theorem isSlK_one {w : World} {v : Value} {cs : List Value} (h : IsSl w v cs) : IsSlK w 1 cs.length v cs := by
  refine ⟨by simp, ?_⟩
  rcases h with ⟨rfl, hv⟩ | ⟨h0, b, off, cap, hv, h1, h2, h3, h4⟩
  · exact .inl ⟨rfl, hv⟩
  · exact .inr ⟨h0, b, off, cap, hv, h1, h2, h3, h4⟩
theorem own_empty (W : World) {BB : Nat} (h : BB ≤ W.heap.size) (e : TypeId) : (W.alloc (.cells #[] e)).ownsRow BB e 1 (.slice (some ⟨W.heap.size, 0, none⟩) 0 0) 0 [] :=
  ⟨rfl, .inr ⟨W.heap.size, 0, #[], rfl, h, heap_alloc_new W _, Nat.le_refl _, by decide, rfl, rfl⟩⟩
/-- While an event's bytes and bools are copied. -/
structure CpS (X : Nat) (W6 : World) (x : Ev) (ab ak : Option Addr) (nb cb nk ck P Q : Nat) (v3 v7 : Value) (done : Nat → Bool) (W : World) : Prop where
  frm : Frm (fun k => k = X) W6 W
  xb : W.heap[X]? = some (.cells #[.int .i64 x.kind, .int .i64 x.conn, .int .i64 x.n, if done 9 then v3 else .slice ab nb cb, if done 11 then v7 else .slice ak nk ck] 41 (0, 0))
  p : done 0 = true → done 3 = false → W.ownsRow W6.heap.size 5 1 (.slice (some ⟨P, 0, none⟩) 0 0) 0 []
  q : done 4 = true → done 7 = false → W.ownsRow W6.heap.size 4 1 (.slice (some ⟨Q, 0, none⟩) 0 0) 0 []
  b : done 3 = true → W.ownsRow W6.heap.size 5 1 v3 x.bytes.length (x.bytes.map u8v)
  k : done 7 = true → W.ownsRow W6.heap.size 4 1 v7 x.keep.length (x.keep.map Value.bool)
section
variable {X : Nat} {W6 : World} {x : Ev} {ab ak : Option Addr} {nb cb nk ck P Q : Nat} {v3 v7 : Value} {done : Nat → Bool} {W : World}
theorem CpS.quiet (h : CpS X W6 x ab ak nb cb nk ck P Q v3 v7 done W) (j : Nat) (hj : j ≠ 0 ∧ j ≠ 3 ∧ j ≠ 4 ∧ j ≠ 7 ∧ j ≠ 9 ∧ j ≠ 11) : CpS X W6 x ab ak nb cb nk ck P Q v3 v7 (fun k => decide (k = j) || done k) W := by
  obtain ⟨a, b, c, d, e, f⟩ := hj
  refine ⟨h.frm, ?_, ?_, ?_, ?_, ?_⟩ <;> simp only [decide_eq_false (Ne.symm a), decide_eq_false (Ne.symm b), decide_eq_false (Ne.symm c), decide_eq_false (Ne.symm d), decide_eq_false (Ne.symm e), decide_eq_false (Ne.symm f), Bool.false_or]
  · exact h.xb
  · exact h.p
  · exact h.q
  · exact h.b
  · exact h.k
theorem CpS.made0 (h : CpS X W6 x ab ak nb cb nk ck P Q v3 v7 done W) (q3 : done 3 = false) : CpS X W6 x ab ak nb cb nk ck W.heap.size Q v3 v7 (fun k => decide (k = 0) || done k) (W.alloc (.cells #[] 5)) := by
  have hb : Below W.heap.size W (W.alloc (.cells #[] 5)) := (Below.refl _ W).alloc (Nat.le_refl _) _
  refine ⟨h.frm.trans (frm_below hb), (hb.block X (blk_lt h.xb)).trans (by simpa using h.xb), fun _ _ => own_empty W h.frm.size 5, fun e1 e2 => own_below (h.q (by simpa using e1) (by simpa using e2)) hb, fun e1 => by simp [q3] at e1, fun e1 => own_below (h.k (by simpa using e1)) hb⟩
theorem CpS.made4 (h : CpS X W6 x ab ak nb cb nk ck P Q v3 v7 done W) (q7 : done 7 = false) : CpS X W6 x ab ak nb cb nk ck P W.heap.size v3 v7 (fun k => decide (k = 4) || done k) (W.alloc (.cells #[] 4)) := by
  have hb : Below W.heap.size W (W.alloc (.cells #[] 4)) := (Below.refl _ W).alloc (Nat.le_refl _) _
  refine ⟨h.frm.trans (frm_below hb), (hb.block X (blk_lt h.xb)).trans (by simpa using h.xb), fun e1 e2 => own_below (h.p (by simpa using e1) (by simpa using e2)) hb, fun _ _ => own_empty W h.frm.size 4, fun e1 => own_below (h.b (by simpa using e1)) hb, fun e1 => by simp [q7] at e1⟩
theorem CpS.app3 (h : CpS X W6 x ab ak nb cb nk ck P Q v3 v7 done W) (p0 : done 0 = true) (q3 : done 3 = false) (q9 : done 9 = false) {w : World} (hX : w.heap.size ≤ X) (hw : Below w.heap.size w W6) (hbs : BytesAt w (.slice ab nb cb) x.bytes) (hnb : x.bytes.length ≤ 10000) :
    ∃ v' w', (Builtin.append_ #[38, 38] 38 #[.slice (some ⟨P, 0, none⟩) 0 0, .slice ab nb cb]).run Tryd.prog W = .ok v' w' ∧ CpS X W6 x ab ak nb cb nk ck P Q v' v7 (fun k => decide (k = 3) || done k) w' := by
  have hpb := h.p p0 q3
  have hsl : IsSl W (.slice ab nb cb) (x.bytes.map u8v) := IsSl.below hbs (hw.trans (h.frm.below (fun k hk e => by omega) hw.size)) (Nat.le_refl _)
  obtain ⟨v', w', hr, ho, hg, _⟩ := app_at (P := Tryd.prog) (ty := 38) elemByte hpb (isSlK_one hsl) (fun u hu => by
    obtain ⟨y, _, rfl⟩ := List.mem_map.1 hu; rfl) (by rw [List.length_map]; omega) (by rw [List.length_map]; unfold maxLen; omega) h.frm.size
  rw [List.nil_append, List.length_map, Nat.zero_add] at ho
  have hlo : ∀ k, (Value.slice (some ⟨P, 0, none⟩) 0 0).ownBlock = some k → W6.heap.size ≤ k := fun k hk => (hpb.lt k hk).1
  have hXn := block_apart hpb h.xb (by decide)
  refine ⟨v', w', hr, ⟨?_, ?_, fun e1 e2 => by simp at e2, fun e1 e2 => ?_, fun _ => ho, fun e1 => ?_⟩⟩
  · exact ⟨hg.os.trans h.frm.os, hg.tape.trans h.frm.tape, hg.output.trans h.frm.output, Nat.le_trans h.frm.size hg.size, fun k hk hs => (hg.block k (Nat.lt_of_lt_of_le hk h.frm.size) (fun e => by have := hlo k e.symm; omega)).trans (h.frm.block k hk hs)⟩
  · have e := (hg.block X (blk_lt h.xb) hXn).trans h.xb
    simpa [q9] using e
  · have e3 := h.q (by simpa using e1) (by simpa using e2)
    exact e3.kept hg (own_apart hpb e3 (by decide))
  · have e3 := h.k (by simpa using e1)
    exact e3.kept hg (own_apart hpb e3 (by decide))
theorem CpS.app7 (h : CpS X W6 x ab ak nb cb nk ck P Q v3 v7 done W) (p4 : done 4 = true) (q7 : done 7 = false) (p3 : done 3 = true) (q11 : done 11 = false) {w : World} (hX : w.heap.size ≤ X) (hw : Below w.heap.size w W6) (hbs : BoolsAt w (.slice ak nk ck) x.keep) (hnb : x.keep.length ≤ 10000) :
    ∃ v' w', (Builtin.append_ #[39, 39] 39 #[.slice (some ⟨Q, 0, none⟩) 0 0, .slice ak nk ck]).run Tryd.prog W = .ok v' w' ∧ CpS X W6 x ab ak nb cb nk ck P Q v3 v' (fun k => decide (k = 7) || done k) w' := by
  have hpb := h.q p4 q7
  have hsl : IsSl W (.slice ak nk ck) (x.keep.map Value.bool) := IsSl.below hbs (hw.trans (h.frm.below (fun k hk e => by omega) hw.size)) (Nat.le_refl _)
  obtain ⟨v', w', hr, ho, hg, _⟩ := app_at (P := Tryd.prog) (ty := 39) elemBool hpb (isSlK_one hsl) (fun u hu => by
    obtain ⟨y, _, rfl⟩ := List.mem_map.1 hu; rfl) (by rw [List.length_map]; omega) (by rw [List.length_map]; unfold maxLen; omega) h.frm.size
  rw [List.nil_append, List.length_map, Nat.zero_add] at ho
  have hlo : ∀ k, (Value.slice (some ⟨Q, 0, none⟩) 0 0).ownBlock = some k → W6.heap.size ≤ k := fun k hk => (hpb.lt k hk).1
  have hXn := block_apart hpb h.xb (by decide)
  refine ⟨v', w', hr, ⟨?_, ?_, fun e1 e2 => by simp [p3] at e2, fun e1 e2 => by simp at e2, fun e1 => ?_, fun _ => ho⟩⟩
  · exact ⟨hg.os.trans h.frm.os, hg.tape.trans h.frm.tape, hg.output.trans h.frm.output, Nat.le_trans h.frm.size hg.size, fun k hk hs => (hg.block k (Nat.lt_of_lt_of_le hk h.frm.size) (fun e => by have := hlo k e.symm; omega)).trans (h.frm.block k hk hs)⟩
  · have e := (hg.block X (blk_lt h.xb) hXn).trans h.xb
    simpa [q11] using e
  · have e3 := h.b (by simpa using e1)
    exact e3.kept hg (own_apart hpb e3 (by decide))
theorem CpS.set9 (h : CpS X W6 x ab ak nb cb nk ck P Q v3 v7 done W) (hX : X < W6.heap.size) : CpS X W6 x ab ak nb cb nk ck P Q v3 v7 (fun k => decide (k = 9) || done k) (W.setCell ⟨X, 3, none⟩ v3) := by
  have hf := frm_set (w := W) X 3 v3
  refine ⟨h.frm.trans hf, by simpa using set_at (k := 3) h.xb v3, fun e1 e2 => own_frm (h.p (by simpa using e1) (by simpa using e2)) hf (fun k hk => by omega), fun e1 e2 => own_frm (h.q (by simpa using e1) (by simpa using e2)) hf (fun k hk => by omega), fun e1 => own_frm (h.b (by simpa using e1)) hf (fun k hk => by omega), fun e1 => own_frm (h.k (by simpa using e1)) hf (fun k hk => by omega)⟩
theorem CpS.set11 (h : CpS X W6 x ab ak nb cb nk ck P Q v3 v7 done W) (hX : X < W6.heap.size) : CpS X W6 x ab ak nb cb nk ck P Q v3 v7 (fun k => decide (k = 11) || done k) (W.setCell ⟨X, 4, none⟩ v7) := by
  have hf := frm_set (w := W) X 4 v7
  refine ⟨h.frm.trans hf, by simpa using set_at (k := 4) h.xb v7, fun e1 e2 => own_frm (h.p (by simpa using e1) (by simpa using e2)) hf (fun k hk => by omega), fun e1 e2 => own_frm (h.q (by simpa using e1) (by simpa using e2)) hf (fun k hk => by omega), fun e1 => own_frm (h.b (by simpa using e1)) hf (fun k hk => by omega), fun e1 => own_frm (h.k (by simpa using e1)) hf (fun k hk => by omega)⟩
end
/-- A new script's events, whole. -/
structure CpW (w : World) (S A : Nat) (so : Array Value) (v : Value) (l : List Ev) (W : World) : Prop where
  bel : Below w.heap.size w W
  s : W.heap[S]? = some (.cells so 26 (0, 0))
  a : W.heap[A]? = some (.cells #[.int .i64 0, .int .i64 0, .int .i64 0, .int .i64 0, .int .i64 0, .slice none 0 0] 26 (0, 0))
  r : EvsOwn (A + 1) W v l
  hS : S = w.heap.size
  hA : A = w.heap.size + 1
theorem CpW.step {w : World} {S A : Nat} {so : Array Value} {v : Value} {l : List Ev} {W W' : World} (h : CpW w S A so v l W) (hb : Below W.heap.size W W') : CpW w S A so v l W' :=
  ⟨h.bel.trans (hb.mono h.bel.size), (hb.block S (blk_lt h.s)).trans h.s, (hb.block A (blk_lt h.a)).trans h.a, h.r.below hb, h.hS, h.hA⟩
theorem CpW.app {w : World} {S A : Nat} {so : Array Value} {v v' : Value} {l l' : List Ev} {W W' : World} (h : CpW w S A so v l W) (hr : EvsOwn (A + 1) W' v' l') (hf : Frm (fun k => v.ownBlock = some k) W W') : CpW w S A so v' l' W' := by
  have h1 := h.hS
  have h2 := h.hA
  have hlo : ∀ k, v.ownBlock = some k → A + 1 ≤ k := fun k hk => by
    obtain ⟨X, ho, _⟩ := h.r
    exact (ho.lt k hk).1
  exact ⟨h.bel.trans (hf.below (fun k hk e => by have := hlo k e; omega) h.bel.size), (hf.block S (blk_lt h.s) (fun e => by have := hlo S e; omega)).trans h.s, (hf.block A (blk_lt h.a) (fun e => by have := hlo A e; omega)).trans h.a, hr, h.hS, h.hA⟩
theorem CpW.fin {w : World} {S A : Nat} {so : Array Value} {v : Value} {l l' : List Ev} {W W1 W2 : World} (h : CpW w S A so v l W) (he : l = l') (h1 : Frm (fun k => k = S) W W1) (h2 : Frm (fun k => k = A) W1 W2) : EvsAt W2 v l' ∧ Below w.heap.size w W2 := by
  subst he
  have e1 := h.hS
  have e2 := h.hA
  exact ⟨((h.r.keep (by omega) h1).keep (Nat.lt_succ_self A) h2).at, (h.bel.trans (h1.below (fun k hk e => by omega) h.bel.size)).trans (h2.below (fun k hk e => by omega) (Nat.le_trans h.bel.size h1.size))⟩

set_option maxHeartbeats 16000000 in
set_option maxRecDepth 100000 in
theorem copied10 (w : World) (u : Value) (sc : Scr) (hs : ScrAt w u sc) (hsz : ∀ x ∈ sc.evs, x.bytes.length ≤ 10000 ∧ x.keep.length ≤ 10000) (hn : sc.evs.length ≤ 10000) :
    Calls Tryd.prog 10 #[u] w fun e w' => ∃ v', e = .returned (scrV sc.plan v') ∧ EvsAt w' v' sc.evs ∧ Below w.heap.size w w' := by
  obtain ⟨v, rfl, hv⟩ := hs
  obtain ⟨p, evs⟩ := sc
  dsimp only at hv hsz hn
  have HV := Lib.hid hv
  have HSZ := Lib.hid hsz
  obtain ⟨a, cap, rfl, hm⟩ := hv.form
  unfold maxLen at hm
  obtain ⟨ne, hne⟩ : ∃ ne, ne = evs.length := ⟨_, rfl⟩
  rw [← hne] at HV hm hn ⊢
  have HNE := Lib.hid hne
  clear hv hne hsz
  unfold scrV
  dsimp only
  obtain ⟨S, A, W0, HS, HA, HW, HK, HZ⟩ := boxed2 w #[.int .i64 p.g, .int .i64 p.s, .int .i64 p.l, .int .i64 p.p, .int .i64 p.c, .slice a ne cap] 26 #[.int .i64 0, .int .i64 0, .int .i64 0, .int .i64 0, .int .i64 0, .slice none 0 0] 26
  have HF : Hid (CpW w S A #[.int .i64 p.g, .int .i64 p.s, .int .i64 p.l, .int .i64 p.p, .int .i64 p.c, .slice a ne cap] (.slice none 0 0) (evs.take 0) W0) := ⟨HK.out.below, HK.out.b0, HK.out.b1, EvsOwn.nil _ _, HS.out.symm, HA.out.symm⟩
  have b5 : W0.cell? ⟨S, 5, none⟩ = some (.slice a ne cap) := blk_cell HK.out.b0 5
  go_enter Tryd.func10, Tryd.ntmps10
  go_upto_region 2 with fail
  rw [HW.out, HA.out, HS.out]
  clear HW HA HS HK HZ
  go_wp2_with fail
  go_loopg [3, 9] ne (fun g lv kv wr => ∃ (k : Nat) (va : Option Addr) (vn vc : Nat), g = ne - k ∧ k ≤ ne ∧ lv = .slice va vn vc ∧ kv = .int .i64 k ∧ Hid (CpW w S A #[.int .i64 p.g, .int .i64 p.s, .int .i64 p.l, .int .i64 p.p, .int .i64 p.c, .slice a ne cap] (.slice va vn vc) (evs.take k) wr))
  case atStart => exact ⟨0, none, 0, 0, rfl, by omega, rfl, rfl, HF.out⟩
  case round =>
    clear b5
    obtain ⟨k, va, vn, vc, rfl, hk, rfl, rfl, HJ⟩ := hrel
    by_cases hlt : k < ne
    · have hkl : k < evs.length := by rw [← HNE.out]; exact hlt
      obtain ⟨x, hx⟩ : ∃ x, evs[k]? = some x := ⟨evs[k], List.getElem?_eq_getElem hkl⟩
      have HX := Lib.hid hx
      have HXS := Lib.hid (HSZ.out x (List.mem_of_getElem? hx))
      obtain ⟨bs, off, cap', vb, vk, e1, e2, e3, e4, q0, q1, q2, q3, q4, hb, hk'⟩ := HV.out.at hx
      rw [← HJ.out.bel.cell (p := ⟨bs, _, none⟩) e4] at q0 q1 q2 q3 q4
      rw [← HNE.out] at e1 e2
      injection e1 with x1 x2 x3
      subst x1 x3
      obtain ⟨ab, cb, rfl, hmb⟩ := hb.form
      obtain ⟨ak, ck, rfl, hmk⟩ := hk'.form
      have HBY := Lib.hid hb
      have HKE := Lib.hid hk'
      clear hx hb hk' x2 e4 hmb hmk
      unfold maxLen at e3
      obtain ⟨kind, conn, n, bytes, keep⟩ := x
      dsimp only at HBY HKE q0 q1 q2 q3 q4 HXS
      obtain ⟨nb, hnb⟩ : ∃ nb, nb = bytes.length := ⟨_, rfl⟩
      obtain ⟨nk, hnk⟩ : ∃ nk, nk = keep.length := ⟨_, rfl⟩
      rw [← hnb] at HBY q3
      rw [← hnk] at HKE q4
      have HNB := Lib.hid hnb
      have HNK := Lib.hid hnk
      clear hnb hnk
      obtain ⟨X, W6, HXE, HW6, HK6, HZ6⟩ := boxed1 wr #[.int .i64 kind, .int .i64 conn, .int .i64 n, .slice ab nb cb, .slice ak nk ck] 41
      have HXL := Lib.hid (show w.heap.size ≤ X by have := HJ.out.bel.size; have := HXE.out; omega)
      have HX6 := Lib.hid (show X < W6.heap.size by have := HZ6.out; omega)
      have HB6 := Lib.hid (show Below w.heap.size w W6 from HJ.out.bel.trans (HK6.out.below.mono HJ.out.bel.size))
      go_upto_region 5 with fail
      rw [HW6.out, HXE.out]
      clear q0 q1 q2 q3 q4 HW6
      -- REGION
      refine wp_region_inv2 (by kernel_rfl) (hord_of2 (by kernel_rfl)) (fun done ac W => ∃ (P Q : Nat) (v3 v7 : Value), ac = { tmps := #[.agg #[.int .i64 p.g, .int .i64 p.s, .int .i64 p.l, .int .i64 p.p, .int .i64 p.c, .slice (some ⟨bs, off, none⟩) ne cap], (.pointer (some ⟨S, 0, none⟩)), (.pointer (some ⟨A, 0, none⟩)), .slice va vn vc, undef, (.pointer (some ⟨X, 0, none⟩)), (.pointer (some ⟨S, 5, none⟩)), .slice (some ⟨bs, off, none⟩) ne cap, .int .i64 (ne : Nat), .int .i64 (k : Nat), .bool true, .pointer (some ⟨bs, off + k * 5, none⟩), .agg #[.int .i64 kind, .int .i64 conn, .int .i64 n, .slice ab nb cb, .slice ak nk ck], if done 0 then (.slice (some ⟨P, 0, none⟩) 0 0) else u13, if done 1 then (.pointer (some ⟨X, 3, none⟩)) else u14, if done 2 then (.slice ab nb cb) else u15, if done 3 then v3 else u16, if done 4 then (.slice (some ⟨Q, 0, none⟩) 0 0) else u17, if done 5 then (.pointer (some ⟨X, 4, none⟩)) else u18, if done 6 then (.slice ak nk ck) else u19, if done 7 then v7 else u20, if done 8 then (.pointer (some ⟨X, 3, none⟩)) else u21, if done 10 then (.pointer (some ⟨X, 4, none⟩)) else u22, u23, u24, u25, u26, u27, undef, undef, undef], defers := [] } ∧ CpS X W6 ⟨kind, conn, n, bytes, keep⟩ ab ak nb cb nk ck P Q v3 v7 done W) ?_ ?_ ?_
      · exact ⟨0, 0, undef, undef, by simp, ⟨⟨rfl, rfl, rfl, Nat.le_refl _, fun _ _ _ => rfl⟩, HK6.out.b0, fun h => by simp at h, fun h => by simp at h, fun h => by simp at h, fun h => by simp at h⟩⟩
      · intro done ac W j oq ho hd hdep hcl ⟨P, Q, v3, v7, hlit, hI⟩
        have hj : j < 12 := (Array.getElem?_eq_some_iff.1 ho).1
        subst hlit
        obtain rfl | rfl | rfl | rfl | rfl | rfl | rfl | rfl | rfl | rfl | rfl | rfl : j = 0 ∨ j = 1 ∨ j = 2 ∨ j = 3 ∨ j = 4 ∨ j = 5 ∨ j = 6 ∨ j = 7 ∨ j = 8 ∨ j = 9 ∨ j = 10 ∨ j = 11 := by omega
        · have q3 : done 3 = false := by
            cases h : done 3 with
            | false => rfl
            | true =>
              have h0 := hcl 3 _ rfl h ⟨0, .data⟩ (by simp) rfl
              rw [hd] at h0; cases h0
          refine wpOp_val ho (by cases ho; rfl) (w' := W.alloc (.cells #[] 5)) (v := .slice (some ⟨W.heap.size, 0, none⟩) 0 0) (by cases ho; simp [execOp, go_sem]) ?_
          cases ho
          exact ⟨W.heap.size, Q, v3, v7, by simp [Act.put, q3], hI.made0 q3⟩
        · refine wpOp_val ho (by cases ho; rfl) (w' := W) (v := (.pointer (some ⟨X, 3, none⟩))) (by cases ho; simp [execOp, go_sem]) ?_
          cases ho
          exact ⟨P, Q, v3, v7, by simp [Act.put], hI.quiet 1 (by decide)⟩
        · have p1 : done 1 = true := by cases ho; exact hdep ⟨1, .data⟩ (by simp) rfl
          have q9 : done 9 = false := by
            cases h : done 9 with
            | false => rfl
            | true =>
              have h0 := hcl 9 _ rfl h ⟨2, .phase⟩ (by simp) rfl
              rw [hd] at h0; cases h0
          have hx := blk_cell hI.xb 3
          simp [q9] at hx
          refine wpOp_val ho (by cases ho; rfl) (w' := W) (v := (.slice ab nb cb)) (by cases ho; simp [execOp, go_sem, p1, hx]) ?_
          cases ho
          exact ⟨P, Q, v3, v7, by simp [Act.put], hI.quiet 2 (by decide)⟩
        · have p0 : done 0 = true := by cases ho; exact hdep ⟨0, .data⟩ (by simp) rfl
          have p2 : done 2 = true := by cases ho; exact hdep ⟨2, .data⟩ (by simp) rfl
          have p0 : done 0 = true := by cases ho; exact hdep ⟨0, .data⟩ (by simp) rfl
          have p2 : done 2 = true := by cases ho; exact hdep ⟨2, .data⟩ (by simp) rfl
          have q9 : done 9 = false := by
            cases h : done 9 with
            | false => rfl
            | true =>
              have h0 := hcl 9 _ rfl h ⟨3, .data⟩ (by simp) rfl
              rw [hd] at h0; cases h0
          obtain ⟨v', w', hr, hI'⟩ := hI.app3 p0 hd q9 HXL.out HB6.out HBY.out HXS.out.1
          refine wpOp_append ho (by cases ho; rfl) (.tmp 13) (.tmp 15) 38 (by cases ho; rfl) (v := .slice (some ⟨P, 0, none⟩) 0 0) (vx := .slice ab nb cb) (by simp [go_sem, p0]) (by simp [go_sem, p2]) (v' := v') (w' := w') (by cases ho; exact hr) ?_
          cases ho
          exact ⟨P, Q, v', v7, by simp [Act.put], hI'⟩
        · have q7 : done 7 = false := by
            cases h : done 7 with
            | false => rfl
            | true =>
              have h0 := hcl 7 _ rfl h ⟨4, .data⟩ (by simp) rfl
              rw [hd] at h0; cases h0
          refine wpOp_val ho (by cases ho; rfl) (w' := W.alloc (.cells #[] 4)) (v := .slice (some ⟨W.heap.size, 0, none⟩) 0 0) (by cases ho; simp [execOp, go_sem]) ?_
          cases ho
          exact ⟨P, W.heap.size, v3, v7, by simp [Act.put, q7], hI.made4 q7⟩
        · refine wpOp_val ho (by cases ho; rfl) (w' := W) (v := (.pointer (some ⟨X, 4, none⟩))) (by cases ho; simp [execOp, go_sem]) ?_
          cases ho
          exact ⟨P, Q, v3, v7, by simp [Act.put], hI.quiet 5 (by decide)⟩
        · have p5 : done 5 = true := by cases ho; exact hdep ⟨5, .data⟩ (by simp) rfl
          have q11 : done 11 = false := by
            cases h : done 11 with
            | false => rfl
            | true =>
              have h0 := hcl 11 _ rfl h ⟨6, .phase⟩ (by simp) rfl
              rw [hd] at h0; cases h0
          have hx := blk_cell hI.xb 4
          simp [q11] at hx
          refine wpOp_val ho (by cases ho; rfl) (w' := W) (v := (.slice ak nk ck)) (by cases ho; simp [execOp, go_sem, p5, hx]) ?_
          cases ho
          exact ⟨P, Q, v3, v7, by simp [Act.put], hI.quiet 6 (by decide)⟩
        · have p4 : done 4 = true := by cases ho; exact hdep ⟨4, .data⟩ (by simp) rfl
          have p6 : done 6 = true := by cases ho; exact hdep ⟨6, .data⟩ (by simp) rfl
          have p4 : done 4 = true := by cases ho; exact hdep ⟨4, .data⟩ (by simp) rfl
          have p6 : done 6 = true := by cases ho; exact hdep ⟨6, .data⟩ (by simp) rfl
          have p3 : done 3 = true := by cases ho; exact hdep ⟨3, .chain⟩ (by simp) rfl
          have q11 : done 11 = false := by
            cases h : done 11 with
            | false => rfl
            | true =>
              have h0 := hcl 11 _ rfl h ⟨7, .data⟩ (by simp) rfl
              rw [hd] at h0; cases h0
          obtain ⟨v', w', hr, hI'⟩ := hI.app7 p4 hd p3 q11 HXL.out HB6.out HKE.out HXS.out.2
          refine wpOp_append ho (by cases ho; rfl) (.tmp 17) (.tmp 19) 39 (by cases ho; rfl) (v := .slice (some ⟨Q, 0, none⟩) 0 0) (vx := .slice ak nk ck) (by simp [go_sem, p4]) (by simp [go_sem, p6]) (v' := v') (w' := w') (by cases ho; exact hr) ?_
          cases ho
          exact ⟨P, Q, v3, v', by simp [Act.put], hI'⟩
        · refine wpOp_val ho (by cases ho; rfl) (w' := W) (v := (.pointer (some ⟨X, 3, none⟩))) (by cases ho; simp [execOp, go_sem]) ?_
          cases ho
          exact ⟨P, Q, v3, v7, by simp [Act.put], hI.quiet 8 (by decide)⟩
        · have p3 : done 3 = true := by cases ho; exact hdep ⟨3, .data⟩ (by simp) rfl
          have p8 : done 8 = true := by cases ho; exact hdep ⟨8, .data⟩ (by simp) rfl
          obtain ⟨x0, hx0⟩ : ∃ x0, W.cell? ⟨X, 3, none⟩ = some x0 := ⟨_, blk_cell hI.xb 3⟩
          have h2 := blk_frozen hI.xb 3
          have hfm := own_slice (hI.b p3)
          obtain ⟨fa, fc, hfv⟩ := hfm
          refine wpOp_skip ho (by cases ho; rfl) (w' := W.setCell ⟨X, 3, none⟩ v3) (by cases ho; subst hfv; simp [execOp, go_sem, p3, p8, hx0, h2]) ?_
          cases ho
          exact ⟨P, Q, v3, v7, by simp [Act.put], hI.set9 HX6.out⟩
        · refine wpOp_val ho (by cases ho; rfl) (w' := W) (v := (.pointer (some ⟨X, 4, none⟩))) (by cases ho; simp [execOp, go_sem]) ?_
          cases ho
          exact ⟨P, Q, v3, v7, by simp [Act.put], hI.quiet 10 (by decide)⟩
        · have p7 : done 7 = true := by cases ho; exact hdep ⟨7, .data⟩ (by simp) rfl
          have p10 : done 10 = true := by cases ho; exact hdep ⟨10, .data⟩ (by simp) rfl
          obtain ⟨x0, hx0⟩ : ∃ x0, W.cell? ⟨X, 4, none⟩ = some x0 := ⟨_, blk_cell hI.xb 4⟩
          have h2 := blk_frozen hI.xb 4
          have hfm := own_slice (hI.k p7)
          obtain ⟨fa, fc, hfv⟩ := hfm
          refine wpOp_skip ho (by cases ho; rfl) (w' := W.setCell ⟨X, 4, none⟩ v7) (by cases ho; subst hfv; simp [execOp, go_sem, p7, p10, hx0, h2]) ?_
          cases ho
          exact ⟨P, Q, v3, v7, by simp [Act.put], hI.set11 HX6.out⟩
      · rintro done ac W hall ⟨P, Q, v3, v7, rfl, hI⟩
        have hl := hall
        clear hall
        have e0 := hl 0 (by decide)
        have e1 := hl 1 (by decide)
        have e2 := hl 2 (by decide)
        have e3 := hl 3 (by decide)
        have e4 := hl 4 (by decide)
        have e5 := hl 5 (by decide)
        have e6 := hl 6 (by decide)
        have e7 := hl 7 (by decide)
        have e8 := hl 8 (by decide)
        have e9 := hl 9 (by decide)
        have e10 := hl 10 (by decide)
        have e11 := hl 11 (by decide)
        have hx := hI.xb
        simp only [e9, e11, if_true] at hx
        have hbb := hI.b e3
        have hkk := hI.k e7
        obtain ⟨ab', cb', rfl⟩ := own_slice hbb
        obtain ⟨ak', ck', rfl⟩ := own_slice hkk
        have HXB := Lib.hid hx
        have HBB := Lib.hid hbb
        have HKK := Lib.hid hkk
        have HFX := Lib.hid hI.frm
        simp only [e0, e1, e2, e3, e4, e5, e6, e7, e8, e10, if_true]
        clear e0 e1 e2 e3 e4 e5 e6 e7 e8 e9 e10 e11 hl hI hx hbb hkk
        have HC7 : Hid (CpW w S A #[.int .i64 p.g, .int .i64 p.s, .int .i64 p.l, .int .i64 p.p, .int .i64 p.c, .slice (some ⟨bs, off, none⟩) ne cap] (.slice va vn vc) (evs.take k) W) := HJ.out.step (HK6.out.below.trans (HFX.out.below (fun k hk e => by have := HXE.out; omega) HK6.out.below.size))
        have hA6 : A + 1 ≤ W6.heap.size := by have := blk_lt HJ.out.a; have := HK6.out.below.size; omega
        have HEF : Hid (EvF (A + 1) W ⟨kind, conn, n, bytes, keep⟩ (fun j => [Value.int .i64 kind, .int .i64 conn, .int .i64 n, .slice ab' bytes.length cb', .slice ak' keep.length ck'].getD j undef)) := ⟨rfl, rfl, rfl, (by have h := own_isSl HBB.out; exact h), (by have h := own_isSl HKK.out; exact h), (own_fresh HBB.out).mono hA6, (own_fresh HKK.out).mono hA6⟩
        rw [← HNB.out, ← HNK.out] at HEF HXB ⊢
        have y0 : W.cell? ⟨X, 0, none⟩ = some (.int .i64 kind) := blk_cell HXB.out 0
        have y1 : W.cell? ⟨X, 1, none⟩ = some (.int .i64 conn) := blk_cell HXB.out 1
        have y2 : W.cell? ⟨X, 2, none⟩ = some (.int .i64 n) := blk_cell HXB.out 2
        have y3 : W.cell? ⟨X, 3, none⟩ = some (.slice ab' nb cb') := blk_cell HXB.out 3
        have y4 : W.cell? ⟨X, 4, none⟩ = some (.slice ak' nk ck') := blk_cell HXB.out 4
        have hb8 : Below W.heap.size W (W.alloc (.cells #[.int .i64 kind, .int .i64 conn, .int .i64 n, .slice ab' nb cb', .slice ak' nk ck'] 41)) := (Below.refl _ W).alloc (Nat.le_refl _) _
        have hnew := heap_alloc_new W (.cells #[.int .i64 kind, .int .i64 conn, .int .i64 n, .slice ab' nb cb', .slice ak' nk ck'] 41)
        obtain ⟨v', w9, hrun, hown, hfr⟩ := EvsOwn.append (sx := .slice (some ⟨W.heap.size, 0, none⟩) 1 1) (HC7.out.r.below hb8) (HEF.out.below hb8) (⟨rfl, .inr ⟨by decide, W.heap.size, 0, 1, rfl, by decide, by decide, blk_lt hnew, fun j hj => by
          rw [Nat.zero_add, blk_cell hnew]
          obtain rfl | rfl | rfl | rfl | rfl : j = 0 ∨ j = 1 ∨ j = 2 ∨ j = 3 ∨ j = 4 := by simp at hj; omega
          all_goals rfl⟩⟩) (fun j hj => by
          obtain rfl | rfl | rfl | rfl | rfl : j = 0 ∨ j = 1 ∨ j = 2 ∨ j = 3 ∨ j = 4 := by omega
          all_goals rfl) (by have := blk_lt HC7.out.a; have := hb8.size; omega) (by rw [List.length_take]; omega)
        obtain ⟨va', vc', rfl⟩ := hown.form
        have HF9 := Lib.hid ((HC7.out.step hb8).app hown hfr)
        have HTK : Hid (evs.take k ++ [(⟨kind, conn, n, bytes, keep⟩ : Ev)] = evs.take (k + 1)) := by show _ = _; rw [List.take_add_one, HX.out]; rfl
        rw [HTK.out] at HF9 hrun
        have HRUN := Lib.hid hrun
        generalize (evs.take (k + 1)).length = ne1 at HRUN HF9
        clear hrun hown hfr hnew hb8
        go_wp2_with (refine wpList_append_eq rfl _ _ 24 rfl (by first | rfl | simp [go_sem]) (by first | rfl | simp [go_sem]) HRUN.out ?_)
        go_roundg (ne - (k + 1))
        case measure => omega
        case rel => exact ⟨k + 1, va', ne1, vc', rfl, by omega, rfl, by go_num, HF9⟩
      -- END
    · obtain rfl : k = ne := by omega
      have HFN : Hid (CpW w S A #[.int .i64 p.g, .int .i64 p.s, .int .i64 p.l, .int .i64 p.p, .int .i64 p.c, .slice a k cap] (.slice va vn vc) (evs.take k) wr) := HJ.out
      have HEQ : Hid (evs.take k = evs) := by
        show _ = _
        rw [HNE.out, List.take_length]
      clear HJ HF
      have s5 : wr.cell? ⟨S, 5, none⟩ = some (.slice a k cap) := blk_cell HFN.out.s 5
      have s0 : wr.cell? ⟨S, 0, none⟩ = some (.int .i64 p.g) := blk_cell HFN.out.s 0
      have s1 : wr.cell? ⟨S, 1, none⟩ = some (.int .i64 p.s) := blk_cell HFN.out.s 1
      have s2 : wr.cell? ⟨S, 2, none⟩ = some (.int .i64 p.l) := blk_cell HFN.out.s 2
      have s3 : wr.cell? ⟨S, 3, none⟩ = some (.int .i64 p.p) := blk_cell HFN.out.s 3
      have s4 : wr.cell? ⟨S, 4, none⟩ = some (.int .i64 p.c) := blk_cell HFN.out.s 4
      have a0 : wr.cell? ⟨A, 0, none⟩ = some (.int .i64 0) := blk_cell HFN.out.a 0
      have a1 : wr.cell? ⟨A, 1, none⟩ = some (.int .i64 0) := blk_cell HFN.out.a 1
      have a2 : wr.cell? ⟨A, 2, none⟩ = some (.int .i64 0) := blk_cell HFN.out.a 2
      have a3 : wr.cell? ⟨A, 3, none⟩ = some (.int .i64 0) := blk_cell HFN.out.a 3
      have a4 : wr.cell? ⟨A, 4, none⟩ = some (.int .i64 0) := blk_cell HFN.out.a 4
      have a5 : wr.cell? ⟨A, 5, none⟩ = some (.slice none 0 0) := blk_cell HFN.out.a 5
      have fs := fun r => blk_frozen HFN.out.s r
      have fa := fun r => blk_frozen HFN.out.a r
      have hSA : S ≠ A := by have := HFN.out.hS; have := HFN.out.hA; omega
      have hAS : A ≠ S := fun e => hSA e.symm
      go_wp2_with fail
      have e6 := set6 (v0 := .int .i64 p.g) (v1 := .int .i64 p.s) (v2 := .int .i64 p.l) (v3 := .int .i64 p.p) (v4 := .int .i64 p.c) (v5 := .slice va vn vc) (blk_set HFN.out.a (p := ⟨S, 5, none⟩) hAS (.slice va vn vc))
      have r0 := blk_cell e6 0
      have r1 := blk_cell e6 1
      have r2 := blk_cell e6 2
      have r3 := blk_cell e6 3
      have r4 := blk_cell e6 4
      have r5 := blk_cell e6 5
      refine bodyPost_ret (v := scrV p (.slice va vn vc)) (by simp [results, Tryd.f10, go_sem, r0, r1, r2, r3, r4, r5, scrV]) rfl ?_
      exact ⟨_, rfl, HFN.out.fin HEQ.out (frm_set S 5 _) (frm_set6 A _ _ _ _ _ _)⟩
end Go.Proofs.YtelaijogjgcloaaDoor
