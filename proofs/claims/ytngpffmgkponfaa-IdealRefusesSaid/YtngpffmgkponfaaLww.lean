/- The worlds of the laws IdealTakes and IdealRefuses: the map of versions and the law's cache side by side. No condition. -/
import Derived.Test.YtngpffmgkponfaaSho
import Derived.Test.YtngpffmgkponfaaDo
import Derived.Test.YtngpffmgkponfaaKey
import Derived.Test.YtngpffmgkponfaaLpm
set_option linter.unusedVariables false
set_option linter.unusedSimpArgs false
namespace Go.Proofs.Ytngpffmgkponfaa
open Go.RowKit Go.Ice Go.Idl
theorem blk_setCells {w : World} {b : Nat} {e : TypeId} : ∀ (vs : List Value) (o : Nat) (cs : List Value) (w : World), w.heap[b]? = some (.cells cs.toArray e (0, 0)) → o + vs.length ≤ cs.length → (w.setCells b o vs).heap[b]? = some (.cells (cs.take o ++ vs ++ cs.drop (o + vs.length)).toArray e (0, 0))
  | [], o, cs, w, h, hl => by simpa [World.setCells] using h
  | v :: vs, o, cs, w, h, hl => by
    have h1 := blk_setAt (k := o) h v
    rw [List.setIfInBounds_toArray] at h1
    have h2 := blk_setCells (w := w) vs (o + 1) (cs.set o v) (w.setCell ⟨b, o, none⟩ v) h1 (by simp at hl ⊢; omega)
    have e1 : (cs.set o v).take (o + 1) = cs.take o ++ [v] := by
      rw [List.take_set, List.take_add_one, List.getElem?_eq_getElem (by simp at hl; omega)]
      rw [List.set_append_right _ _ (by simp; omega)]
      simp [show o - min o cs.length = 0 by simp at hl; omega]
    have e2 : (cs.set o v).drop (o + 1 + vs.length) = cs.drop (o + (v :: vs).length) := by
      rw [List.drop_set_of_lt (by omega)]
      congr 1
      simp; omega
    rw [e1, e2] at h2
    show ((w.setCell ⟨b, o, none⟩ v).setCells b (o + 1) vs).heap[b]? = _
    simpa using h2
/-- A new variable is written whole. -/
theorem blk_whole {w : World} {zs : Array Value} {e : TypeId} {vs : List Value} (h : zs.size = vs.length) : ((w.alloc (.cells zs e)).setCells w.heap.size 0 vs).heap[w.heap.size]? = some (.cells vs.toArray e (0, 0)) ∧ Below w.heap.size w ((w.alloc (.cells zs e)).setCells w.heap.size 0 vs) := by
  constructor
  · have := blk_setCells (w := w) (b := w.heap.size) (e := e) vs 0 zs.toList (w.alloc (.cells zs e)) (heap_alloc_new w _) (by simp; omega)
    rw [this]
    have : zs.toList.drop (0 + vs.length) = [] := by rw [List.drop_eq_nil_iff]; simp; omega
    rw [this]; simp
  · exact (((frm_below ((Below.refl w.heap.size w).alloc (Nat.le_refl _) _)) : Frm (fun k => k = w.heap.size) w _).trans (frm_setCells _ w.heap.size vs 0)).below (fun b hb e => by omega) (Nat.le_refl _)
theorem there_whole (w : World) (zs : Array Value) (e : TypeId) (n : Nat) (h : n ≤ zs.size) : (w.alloc (.cells zs e)).there w.heap.size 0 n := there_of_blk (heap_alloc_new w _) h
theorem SdAt.below {w w' : World} {s : Sd} {r : Raw} (h : SdAt w s r) (hb : Below w.heap.size w w') : SdAt w' s r :=
  ⟨h.q1, h.q2, h.q3, h.q4, h.q5, h.lt, h.key.below hb (Nat.le_refl _), h.val.below hb (Nat.le_refl _), h.aval.below hb (Nat.le_refl _), h.stats.below hb (Nat.le_refl _)⟩
def OO (mb cb ck : Nat) (b : Nat) : Prop := b = mb ∨ b = cb ∨ b = ck
structure LawW (w : World) (m : Nat) (out : Value) (cs : List Value) (mb cb ck : Nat) (Y : St) (c : Ca) (W : World) : Prop where
  bel : Below w.heap.size w W
  mo : MapO W w.heap.size (OO mb cb ck) mb Y
  ca : CaAt W (fun b => ¬ OO mb cb ck b) cb ck c
  row : W.ownsRow w.heap.size 40 22 out m cs
  cbw : w.heap.size ≤ cb
  ckw : w.heap.size ≤ ck
section
variable {w W W' : World} {m : Nat} {out : Value} {cs : List Value} {mb cb ck : Nat} {Y Y' : St} {c c' : Ca}
theorem MapO.blk {B : Nat} {O : Nat → Prop} (h : MapO W B O mb Y) : ∃ x, W.heap[mb]? = some (.cells x 61 (0, 0)) := by
  obtain ⟨_, _, _, kb, F, _, _, hr⟩ := h
  exact ⟨_, hr.blk⟩
theorem LawW.cm (h : LawW w m out cs mb cb ck Y c W) : cb ≠ mb ∧ ck ≠ mb ∧ cb ≠ ck := by
  obtain ⟨x, hx⟩ := h.mo.blk
  obtain ⟨G, hm, _⟩ := h.ca.map
  refine ⟨?_, ?_, h.ca.ne⟩
  · rintro rfl
    have := h.ca.blk
    rw [hx] at this; injection this with this; injection this with _ e; cases e
  · rintro rfl; exact mapAt_block hm hx
theorem LawW.rown (h : LawW w m out cs mb cb ck Y c W) {g : Nat} (hg : out.ownBlock = some g) : ¬ OO mb cb ck g ∧ g < W.heap.size ∧ ∃ x, W.heap[g]? = some (.cells x 40 (0, 0)) := by
  obtain ⟨y, hy⟩ := own_block h.row hg
  refine ⟨?_, (h.row.lt g hg).2, y, hy⟩
  rintro (rfl | rfl | rfl)
  · obtain ⟨x, hx⟩ := h.mo.blk
    rw [hx] at hy; injection hy with hy; injection hy with _ e; cases e
  · have := h.ca.blk
    rw [hy] at this; injection this with this; injection this with _ e; cases e
  · obtain ⟨G, hm, _⟩ := h.ca.map
    exact mapAt_block hm hy
theorem LawW.below (h : LawW w m out cs mb cb ck Y c W) (hb : Below W.heap.size W W') : LawW w m out cs mb cb ck Y c W' :=
  ⟨h.bel.trans (hb.mono h.bel.size), h.mo.below hb, h.ca.below hb, own_belowK h.row hb (Nat.le_refl _), h.cbw, h.ckw⟩
theorem BytesIn.mfrm {B : Nat} {O : Nat → Prop} {v : Value} {l : List UInt8} (h : BytesIn W (fun b => ¬ O b) v l) (hO : O mb) (hf : MFrm B O mb W W') : BytesIn W' (fun b => ¬ O b) v l :=
  ⟨IsSl.frm h.1 hf fun hl b hb e => (by
    have hne : l ≠ [] := by intro e; simp [e] at hl
    obtain ⟨_, x, t, fz, hh⟩ := h.lt hne hb
    rcases e with e | ⟨_, _, es, c, e⟩
    · exact h.2 hne b hb (e ▸ hO)
    · rw [hh] at e; cases e), h.2⟩
theorem CaAt.mfrm {B : Nat} (h : CaAt W (fun b => ¬ OO mb cb ck b) cb ck c) (h1 : cb ≠ mb) (h2 : ck ≠ mb) (hf : MFrm B (OO mb cb ck) mb W W') : CaAt W' (fun b => ¬ OO mb cb ck b) cb ck c := by
  obtain ⟨G, hm, ha⟩ := h.map
  refine ⟨hf.blk h.blk h1, ⟨G, hm.keep (hf.block ck hm.lt (by
    rintro (e | ⟨_, e, _⟩)
    · exact h2 e
    · exact e (.inr (.inr rfl)))), fun k => ?_⟩, h.bnd, h.eb, h.ek⟩
  rcases ha k with h3 | ⟨t, x, h3, h4, h5, h6⟩
  · exact .inl h3
  · exact .inr ⟨t, x, h3, h4, h5.mfrm (.inl rfl) hf, h6⟩
theorem LawW.mstep (h : LawW w m out cs mb cb ck Y c W) (hm : MapO W' w.heap.size (OO mb cb ck) mb Y') (hf : MFrm w.heap.size (OO mb cb ck) mb W W') : LawW w m out cs mb cb ck Y' c W' := by
  have hc := h.cm
  refine ⟨h.bel.trans (Frm.below hf (fun b hb e => ?_) h.bel.size), hm, h.ca.mfrm hc.1 hc.2.1 hf, own_keep h.row fun g hg => ?_, h.cbw, h.ckw⟩
  · rcases e with e | ⟨e, _⟩
    · have := h.mo.hB; omega
    · omega
  · obtain ⟨h1, h2, x, h3⟩ := h.rown hg
    refine hf.block g h2 ?_
    rintro (e | ⟨_, _, es, cl, e⟩)
    · exact h1 (.inl e)
    · rw [h3] at e; cases e
theorem LawW.cstep (h : LawW w m out cs mb cb ck Y c W) (hc : CaAt W' (fun b => ¬ OO mb cb ck b) cb ck c') (hf : Frm (fun b => b = cb ∨ b = ck) W W') : LawW w m out cs mb cb ck Y c' W' := by
  have hcm := h.cm
  refine ⟨h.bel.trans (hf.below (fun b hb e => ?_) h.bel.size), h.mo.frm hf (fun b _ e => ⟨.inr e, ?_⟩) (fun b e => .inl e) (fun b e => Nat.lt_of_lt_of_le (h.mo.hO b e) hf.size) (.inl rfl), hc, own_keep h.row fun g hg => hf.block g (h.rown hg).2.1 fun e => (h.rown hg).1 (.inr e), h.cbw, h.ckw⟩
  · have := h.cbw; have := h.ckw; rcases e with e | e <;> omega
  · rcases e with e | e
    · rw [e]; exact hcm.1
    · rw [e]; exact hcm.2.1
/-- A new map in the cache. -/
theorem LawW.flush (h : LawW w m out cs mb cb ck Y c W) : LawW w m out cs mb cb W.heap.size Y c.none ((W.alloc (.map #[] 0)).setCell ⟨cb, 0, none⟩ (.map (some W.heap.size))) := by
  have hcm := h.cm
  have hf1 : Frm (fun b => b = cb) W (W.alloc (.map #[] 0)) := frm_below ((Below.refl _ W).alloc (Nat.le_refl _) _)
  have hf : Frm (fun b => b = cb) W ((W.alloc (.map #[] 0)).setCell ⟨cb, 0, none⟩ (.map (some W.heap.size))) := hf1.trans (setCell_frm1 _ cb 0 _)
  have hcl := blk_lt h.ca.blk
  have hz : W.heap.size < ((W.alloc (.map #[] 0)).setCell ⟨cb, 0, none⟩ (.map (some W.heap.size))).heap.size := by simp [World.setCell]
  have hlt : ∀ b, OO mb cb W.heap.size b → b < ((W.alloc (.map #[] 0)).setCell ⟨cb, 0, none⟩ (.map (some W.heap.size))).heap.size := fun b e => by
    rcases e with e | e | e
    · have := h.mo.hO b (.inl e); omega
    · omega
    · omega
  have hcb0 := (hf1.block cb hcl)
  refine ⟨h.bel.trans (hf.below (fun b hb e => by have := h.cbw; omega) h.bel.size), h.mo.frm hf (fun b _ e => ⟨.inr (.inl e), by rw [e]; exact hcm.1⟩) (fun b e => ?_) hlt (.inl rfl), ⟨?_, ⟨fun _ => none, ?_, fun k => .inl ⟨rfl, rfl⟩⟩, h.ca.bnd, fun e => e (.inr (.inl rfl)), fun e => e (.inr (.inr rfl))⟩, own_keep h.row fun g hg => hf.block g (h.rown hg).2.1 fun e => (h.rown hg).1 (.inr (.inl e)), h.cbw, by have := h.bel.size; omega⟩
  · rcases e with e | e | e
    · exact .inl (.inl e)
    · exact .inl (.inr (.inl e))
    · exact .inr (by omega)
  · have h0 : (W.alloc (.map #[] 0)).heap[cb]? = some (.cells #[.map (some ck), .int .u64 c.last] 31 (0, 0)) := by rw [Below.heap_alloc _ _ _ hcl]; exact h.ca.blk
    exact blk_setAt h0 _
  · refine (mapAt_new strV W).frm (setCell_frm1 _ cb 0 _) (fun e => ?_)
    have e : W.heap.size = cb := e
    omega
/-- A new map in the cache, and something in a variable of the law's own. -/
theorem LawW.flush2 (h : LawW w m out cs mb cb ck Y c W) {ab : Nat} {W8 W9 : World} (hab : W.heap.size = ab) (hb : Below W.heap.size W W8) (h8 : ab < W8.heap.size) (hf : Frm (fun b => b = ab) ((W8.alloc (.map #[] 0)).setCell ⟨cb, 0, none⟩ (.map (some W8.heap.size))) W9) :
    LawW w m out cs mb cb W8.heap.size Y c.none W9 := by
  have hcm := h.cm
  have hz8 := hb.size
  have hcl : cb < W8.heap.size := Nat.lt_of_lt_of_le (blk_lt h.ca.blk) hz8
  have hcl' := blk_lt h.ca.blk
  have hml := h.mo.hO mb (.inl rfl)
  have hf1 : Frm (fun b => b = cb) W8 (W8.alloc (.map #[] 0)) := frm_below ((Below.refl _ W8).alloc (Nat.le_refl _) _)
  have hf2 : Frm (fun b => b = cb) W8 ((W8.alloc (.map #[] 0)).setCell ⟨cb, 0, none⟩ (.map (some W8.heap.size))) := hf1.trans (setCell_frm1 _ cb 0 _)
  have hf3 : Frm (fun b => b = cb ∨ b = ab) W8 W9 := (hf2.mono fun _ _ e => .inl e).trans (hf.mono fun _ _ e => .inr e)
  have hz : W8.heap.size < W9.heap.size := Nat.lt_of_lt_of_le (by simp [World.setCell]) hf.size
  have hm8 : MapO W8 w.heap.size (fun b => OO mb cb ck b ∨ b = ab) mb Y := h.mo.grow hb (fun b e => by rcases e with e | e; exact .inl e; exact .inr (by omega)) (fun b e => by
    rcases e with e | e
    · exact Nat.lt_of_lt_of_le (h.mo.hO b e) hz8
    · omega) (.inl (.inl rfl))
  have hlt : ∀ b, OO mb cb W8.heap.size b → b < W9.heap.size := fun b e => by
    rcases e with e | e | e <;> omega
  refine ⟨(h.bel.trans (hb.mono h.bel.size)).trans (hf3.below (fun b hb' e => by have := h.cbw; have := h.bel.size; omega) (by have := h.bel.size; omega)), hm8.frm hf3 (fun b _ e => ?_) (fun b e => ?_) hlt (.inl rfl), ⟨?_, ⟨fun _ => none, ?_, fun k => .inl ⟨rfl, rfl⟩⟩, h.ca.bnd, fun e => e (.inr (.inl rfl)), fun e => e (.inr (.inr rfl))⟩, own_keep (own_belowK h.row hb (Nat.le_refl _)) fun g hg => hf3.block g (by have := (h.rown hg).2.1; omega) fun e => ?_, h.cbw, by have := h.bel.size; omega⟩
  · rcases e with e | e
    · exact ⟨.inl (.inr (.inl e)), by rw [e]; exact hcm.1⟩
    · exact ⟨.inr e, by omega⟩
  · rcases e with e | e | e
    · exact .inl (.inl (.inl e))
    · exact .inl (.inl (.inr (.inl e)))
    · exact .inr (by omega)
  · have h0 : (W8.alloc (.map #[] 0)).heap[cb]? = some (.cells #[.map (some ck), .int .u64 c.last] 31 (0, 0)) := by rw [Below.heap_alloc _ _ _ hcl, hb.block cb hcl']; exact h.ca.blk
    have h1 := blk_setAt (k := 0) h0 (.map (some W8.heap.size))
    exact (hf.block cb (blk_lt h1) (by omega)).trans h1
  · have h0 := (mapAt_new strV W8).frm (setCell_frm1 _ cb 0 (.map (some W8.heap.size))) (fun e => by have e : W8.heap.size = cb := e; omega)
    exact h0.frm hf (fun e => by have e : W8.heap.size = ab := e; omega)
  · rcases e with e | e
    · exact (h.rown hg).1 (.inr (.inl e))
    · have := (h.rown hg).2.1; omega
theorem rangeAt_blk {W : World} {b : Nat} {l : List Value} {e : TypeId} {fz : Nat × Nat} (h : W.heap[b]? = some (.cells l.toArray e fz)) : W.rangeAt b 0 l := fun j v hv => by
  rw [Nat.zero_add]
  simp [World.cell?, h, hv]
theorem MFrm.fblk {B : Nat} {O : Nat → Prop} (h : MFrm B O mb W W') {b : Nat} {cs : Array Value} {e : TypeId} {fz : Nat × Nat} (hb : W.heap[b]? = some (.cells cs e fz)) (hm : b ≠ mb) : W'.heap[b]? = some (.cells cs e fz) :=
  (h.block b (Array.getElem?_eq_some_iff.1 hb).1 (by
    rintro (h | ⟨_, _, es, c, h⟩)
    · exact hm h
    · rw [hb] at h; cases h)).trans hb
theorem LawW.nmb (h : LawW w m out cs mb cb ck Y c W) {b : Nat} {x : Array Value} {e : TypeId} {fz : Nat × Nat} (hb : W.heap[b]? = some (.cells x e fz)) (he : e ≠ 61) : b ≠ mb := by
  rintro rfl
  obtain ⟨y, hy⟩ := h.mo.blk
  rw [hb] at hy; injection hy with hy; injection hy with _ e'; exact he e'
/-- A key is forgotten. -/
theorem CaAt.forget {E : Nat → Prop} (h : CaAt W E cb ck c) (key : List UInt8) : ∃ W', (Builtin.delete_ #[28, 9] 0 #[.map (some ck), .string ⟨key.toArray⟩]).run Try.prog W.drew = .ok (.tuple #[]) W' ∧ CaAt W' E cb ck (c.del key) ∧ Frm (fun b => b = ck) W W' := by
  obtain ⟨G, hmG, haG⟩ := h.map
  obtain ⟨w5, hdl, hm5, hf5⟩ := (hmG.keep (w' := W.drew) rfl).delete strKey Try.underlying28 Try.underlying9 key 0 9
  have hf : Frm (fun b => b = ck) W w5 := (Frm.refl _ W).drew.trans hf5
  refine ⟨w5, hdl, ⟨(hf.block cb (blk_lt h.blk) h.ne).trans h.blk, ⟨_, hm5, fun k => ?_⟩, h.bnd, h.eb, h.ek⟩, hf⟩
  show ((if k = key then none else c.keys k) = none ∧ (if k = key then none else G k) = none) ∨ ∃ t' x, (if k = key then none else c.keys k) = some t' ∧ (if k = key then none else G k) = some (.agg (boxC x t')) ∧ _ ∧ _
  by_cases e : k = key
  · rw [if_pos e, if_pos e]; exact .inl ⟨rfl, rfl⟩
  · rw [if_neg e, if_neg e]
    rcases haG k with h3 | ⟨t', x, h3, h4, h5, h6⟩
    · exact .inl h3
    · exact .inr ⟨t', x, h3, h4, h5.frm hf (fun b hb e => h.ek ((show b = ck from e) ▸ hb)), h6⟩
/-- What came in ahead lies apart from what the law owns. -/
theorem LawW.inOld (h : LawW w m out cs mb cb ck Y c W) {v : Value} {l : List UInt8} (hl : BytesAt w v l) : BytesIn W (fun b => ¬ OO mb cb ck b) v l := by
  have h0 : BytesIn w (fun b => b < w.heap.size) v l := ⟨hl, fun hne b hb => by
    rcases hl with ⟨e, _⟩ | ⟨_, b', off, cap, hv, _, _, h3, _⟩
    · simp at e; exact absurd e hne
    · rw [hv] at hb; cases hb; exact h3⟩
  have h1 := h0.frm (S := fun _ => False) (C := fun b => b < w.heap.size) ((frm_below (h.bel)) : Frm (fun _ => False) w W) (fun _ _ h => h)
  refine ⟨h1.1, fun hne b hb e => ?_⟩
  have := h1.2 hne b hb
  have h2 := h.mo.hB
  have h3 := h.cbw
  have h4 := h.ckw
  rcases e with e | e | e <;> omega
end
/-- Time. -/
def nowF (now later : Int) : Int := max now (IntKind.u32.wrap (now + later))
theorem nowF_le {now later : Int} (h : 0 ≤ now ∧ now ≤ 4294967295) : now ≤ nowF now later ∧ 0 ≤ nowF now later ∧ nowF now later ≤ 4294967295 := by
  unfold nowF
  rw [IntKind.wrap_u32]
  omega
end Go.Proofs.Ytngpffmgkponfaa
