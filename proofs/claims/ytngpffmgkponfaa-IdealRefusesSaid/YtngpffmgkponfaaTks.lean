/- The walk of the law IdealTakes. Condition: its arguments lie in memory. -/
import Derived.Test.YtngpffmgkponfaaLww
import Derived.Test.YtngpffmgkponfaaWak
import Derived.Deep.CutBlock
import Derived.Deep.CutRange
set_option linter.unusedVariables false
set_option linter.unusedSimpArgs false
namespace Go.Idl
open Go.Proofs.Ytngpffmgkponfaa
section
variable {Y : St} {c : Ca} {now : Int} {n : Nat} {q : Rq}
theorem do_stats : (c.do q now).2.stats = [] ∧ (c.do q now).2.cl = false := by
  have key : ∀ r : Ca × An, r = c.do q now → r.2.stats = [] ∧ r.2.cl = false := by
    intro r hr
    unfold Ca.do Ca.turn at hr
    repeat' split at hr
    all_goals subst hr
    all_goals exact ⟨rfl, rfl⟩
  exact key _ rfl
theorem do_ok (hl : 0 ≤ c.last ∧ c.last ≤ 1000000) (ht : Tv.ok (c.raw q.key)) (hq : Rq.ok q) : An.ok (c.do q now).2 := by
  obtain ⟨t1, t2, t3, t4, t5, t6, t7⟩ := ht
  obtain ⟨q1, q2, q3, q4, q5, q6, q7, q8, q9, q10, q11, q12⟩ := hq
  have key : ∀ r : Ca × An, r = c.do q now → An.ok r.2 := by
    intro r hr
    unfold Ca.do at hr
    repeat' split at hr
    all_goals first | (subst hr; unfold An.ok; simp only [failA, okA, tellA, List.length_nil]; omega) | skip
    unfold Ca.turn at hr
    repeat' split at hr
    all_goals first | (subst hr; unfold An.ok; simp only [failA, okA, tellA, List.length_nil]; omega) | skip
    rename_i m hm
    have hmb : m ≤ 18446744073709551615 := by
      unfold turnT at hm
      cases hx : Go.Proofs.Ytngpffmgkponfaa.numF (c.raw q.key).val with
      | none => rw [hx] at hm; cases hm
      | some k =>
        rw [hx] at hm
        injection hm with hm
        rw [← hm]
        exact Go.Proofs.Ytngpffmgkponfaa.turnF_le _ _ _ (by have := Go.Proofs.Ytngpffmgkponfaa.numF_le (c.raw q.key).val; rw [hx] at this; exact this)
    subst hr; unfold An.ok; simp only [failA, okA, tellA, List.length_nil]; omega
  exact key _ rfl
theorem flush_here (h : q.op = 8) : q.here := by unfold Rq.here; omega
theorem flushA_ok : An.ok (flushA q) ∧ (flushA q).stats = [] ∧ (flushA q).val = [] := by
  unfold flushA
  split
  · exact ⟨by unfold An.ok okA; simp, rfl, rfl⟩
  · exact ⟨by unfold An.ok failA; simp, rfl, rfl⟩
end
end Go.Idl
namespace Go.Proofs.Ytngpffmgkponfaa
open Go.RowKit Go.Ice Go.Idl
/-- At the head of a round. -/
def TakI (w : World) (m : Nat) (out : Value) (cs : List Value) (mb cb : Nat) (now : Int) (k : Nat) (W : World) : Prop := (∃ ck Y c, LawW w m out cs mb cb ck Y c W ∧ LInv Y c now k) ∧ 0 ≤ now ∧ now ≤ 4294967295
theorem own_range {W : World} {base g m oc : Nat} {f : Nat → List Value} (h : W.ownsRow base 40 22 (.slice (some ⟨g, 0, none⟩) m oc) m ((List.range m).flatMap f)) (hf : ∀ i, (f i).length = 22) {k : Nat} (hk : k < m) : W.rangeAt g (k * 22) (f k) := fun j v hv => by
  have hj : j < 22 := by have := (List.getElem?_eq_some_iff.1 hv).1; rw [hf] at this; exact this
  obtain ⟨hl, h1 | ⟨h0, b, off, cap, e, h1, h2, h3, h4⟩⟩ := own_isSlK h
  · omega
  · injection e with e1 _ _
    injection e1 with e1
    injection e1 with e1 e2 _
    subst e1
    have hlt : k * 22 + j < ((List.range m).flatMap f).length := by rw [hl]; omega
    have := h4 _ hlt
    rw [← e2, Nat.zero_add, flat_at (c := 22) hf m k j hk hj, hv] at this
    exact this
theorem own_at {W : World} {base m : Nat} {out : Value} {xs : List Value} (h : W.ownsRow base 40 22 out m xs) (hm : 0 < m) : ∃ g oc, out = .slice (some ⟨g, 0, none⟩) m oc ∧ m ≤ oc ∧ oc ≤ maxLen := by
  rcases h.2 with ⟨_, h2⟩ | ⟨g, cap, cur, e, _, _, h1, h2, _⟩
  · omega
  · exact ⟨g, cap, e, h1, h2⟩
theorem lawW_start {w w2 w4 : World} {mb m : Nat} {S : Nat → Sd} {R R' : Nat → Raw} {out : Value} (hb2 : Below w.heap.size w w2) (hmo : MapO w2 w.heap.size (fun b => False ∨ b = mb) mb ⟨fun _ => [], fun _ => [], 0⟩)
    (hsh : ShI ((w2.alloc (.map #[] 0)).alloc (.cells #[.map (some w2.heap.size), .int .u64 0] 31)) S R m out w4 R') :
    LawW w m out ((List.range m).flatMap fun i => sdC (shortS (S i)) (R' i)) mb (w2.heap.size + 1) w2.heap.size ⟨fun _ => [], fun _ => [], 0⟩ ⟨fun _ => none, 0⟩ w4 := by
  have hz := hb2.size
  have hs := hsh.bel.size
  have hml := hmo.hO mb (.inr rfl)
  simp only [World.size_alloc] at hs
  have h3 : Below w2.heap.size w2 ((w2.alloc (.map #[] 0)).alloc (.cells #[.map (some w2.heap.size), .int .u64 0] 31)) := ((Below.refl _ w2).alloc (Nat.le_refl _) _).alloc (by simp) _
  have h24 : Below w2.heap.size w2 w4 := h3.trans (hsh.bel.mono (by simp; omega))
  have hc3 := heap_alloc_new (w2.alloc (.map #[] 0)) (.cells #[.map (some w2.heap.size), .int .u64 0] 31)
  rw [World.size_alloc] at hc3
  have hm3 : MapAt strV ((w2.alloc (.map #[] 0)).alloc (.cells #[.map (some w2.heap.size), .int .u64 0] 31)) w2.heap.size (fun _ => none) := (mapAt_new strV w2).below ((Below.refl _ _).alloc (Nat.le_refl _) _) (Nat.le_refl _)
  refine ⟨hb2.trans (h24.mono hz), hmo.grow h24 (fun b e => ?_) (fun b e => ?_) (.inl rfl), ⟨(hsh.bel.block _ (by simp)).trans hc3, ⟨_, hm3.below hsh.bel (Nat.le_refl _), fun k => .inl ⟨rfl, rfl⟩⟩, ⟨Int.le_refl _, by show (0 : Int) ≤ _; omega⟩, fun e => e (.inr (.inl rfl)), fun e => e (.inr (.inr rfl))⟩, own_base hsh.own (by simp; omega), by omega, by omega⟩
  · rcases e with e | e | e
    · exact .inl (.inr e)
    · exact .inr (by omega)
    · exact .inr (by omega)
  · rcases e with e | e | e <;> omega
theorem linv_start (now : Int) : LInv ⟨fun _ => [], fun _ => [], 0⟩ ⟨fun _ => none, 0⟩ now 0 := ⟨rfl, Int.le_refl _, Int.le_refl _, fun k t h => (by cases h), fun k => ⟨Nat.le_refl _, Nat.le_refl _⟩⟩
/-- What stands behind some of the operations of a round's test. -/
structure TkJ (w : World) (m : Nat) (out : Value) (cs : List Value) (mb cb ck qb ab : Nat) (q : Rq) (ka va : Option Addr) (kc vc : Nat) (a : An) (aa : Option Addr) (ac : Nat) (Y Y' : St) (c : Ca) (d : Bool) (W : World) : Prop where
  lw : LawW w m out cs mb cb ck (bif d then Y' else Y) c W
  qw : W.heap[qb]? = some (.cells (qL q ka va kc vc).toArray 35 (0, 0))
  aw : W.heap[ab]? = some (.cells (aL a aa ac none 0).toArray 38 (0, 0))
  av : BytesIn W (fun b => ¬ OO mb cb ck b) (.slice aa a.val.length ac) a.val
section
variable {w : World} {m : Nat} {out : Value} {cs : List Value} {mb cb ck qb ab : Nat} {q : Rq} {ka va : Option Addr} {kc vc : Nat} {a : An} {aa : Option Addr} {ac : Nat} {Y Y' : St} {c : Ca} {d : Bool} {W W' : World}
theorem TkJ.go (h : TkJ w m out cs mb cb ck qb ab q ka va kc vc a aa ac Y Y' c d W) (d' : Bool) (hm : MapO W' w.heap.size (OO mb cb ck) mb (bif d' then Y' else Y)) (hf : MFrm w.heap.size (OO mb cb ck) mb W W') : TkJ w m out cs mb cb ck qb ab q ka va kc vc a aa ac Y Y' c d' W' :=
  ⟨h.lw.mstep hm hf, hf.fblk h.qw (h.lw.nmb h.qw (by decide)), hf.fblk h.aw (h.lw.nmb h.aw (by decide)), h.av.mfrm (.inl rfl) hf⟩
theorem TkJ.below (h : TkJ w m out cs mb cb ck qb ab q ka va kc vc a aa ac Y Y' c d W) (hb : Below W.heap.size W W') : TkJ w m out cs mb cb ck qb ab q ka va kc vc a aa ac Y Y' c d W' :=
  ⟨h.lw.below hb, (hb.block qb (Array.getElem?_eq_some_iff.1 h.qw).1).trans h.qw, (hb.block ab (Array.getElem?_eq_some_iff.1 h.aw).1).trans h.aw, h.av.frm (S := fun _ => False) (frm_below hb) (fun _ _ h => h)⟩
theorem TkJ.allows (h : TkJ w m out cs mb cb ck qb ab q ka va kc vc a aa ac Y Y' c false W) (hkey : BytesAt w (.slice ka q.key.length kc) q.key) (hval : BytesAt w (.slice va q.val.length vc) q.val) (hst : a.stats = []) (hq : Rq.ok q) (ha : An.ok a) (now : Int) (hnow : 0 ≤ now ∧ now ≤ 4294967295) (hl : (Y.now q.key).length ≤ 10000) (hqv : q.val.length ≤ 1000) (hh : q.here) (b : Bool) (hb : (lookF Y q a now).isSome = b) :
    Calls Try.prog 13 #[.pointer (some ⟨mb, 0, none⟩), .agg (qL q ka va kc vc).toArray, .agg (aL a aa ac none 0).toArray, .int .u32 now] W fun e w' => e = .returned (.bool b) ∧ Hid (TkJ w m out cs mb cb ck qb ab q ka va kc vc a aa ac Y Y' c false w') := by
  have := allows_o W w.heap.size (OO mb cb ck) mb q a now ⟨ka, kc, va, vc, aa, ac, none, 0, none, 0, 0⟩ Y h.lw.mo h.lw.bel.size (h.lw.inOld hkey) (h.lw.inOld hval) h.av (by rw [hst]; exact StatsAt.nil _ _) hq ha hnow hl hqv hh
  rw [hb] at this
  exact this.mono fun e w' h' => ⟨h'.1, h.go false h'.2.1 h'.2.2⟩
theorem TkJ.step (h : TkJ w m out cs mb cb ck qb ab q ka va kc vc a aa ac Y Y' c false W) (hkey : BytesAt w (.slice ka q.key.length kc) q.key) (hval : BytesAt w (.slice va q.val.length vc) q.val) (hst : a.stats = []) (hq : Rq.ok q) (ha : An.ok a) (now : Int) (hnow : 0 ≤ now ∧ now ≤ 4294967295) (hl : (Y.now q.key).length ≤ 10000) (hqv : q.val.length ≤ 1000) (hh : q.here) (hb : lookF Y q a now = some Y') :
    Calls Try.prog 10 #[.pointer (some ⟨mb, 0, none⟩), .agg (qL q ka va kc vc).toArray, .agg (aL a aa ac none 0).toArray, .int .u32 now] W fun e w' => e = .returned (.bool true) ∧ Hid (TkJ w m out cs mb cb ck qb ab q ka va kc vc a aa ac Y Y' c true w') := by
  have := step_o W w.heap.size (OO mb cb ck) mb q a now ⟨ka, kc, va, vc, aa, ac, none, 0, none, 0, 0⟩ Y h.lw.mo h.lw.bel.size (h.lw.inOld hkey) (h.lw.inOld hval) h.av (by rw [hst]; exact StatsAt.nil _ _) hq ha hnow hl hqv hh
  rw [hb] at this
  exact this.mono fun e w' h' => ⟨h'.1, h.go true h'.2.1 h'.2.2⟩
theorem TkJ.token (h : TkJ w m out cs mb cb ck qb ab q ka va kc vc a aa ac Y Y' c true W) (ht : Y'.tok = c.last) : Calls Try.prog 14 #[.pointer (some ⟨mb, 0, none⟩)] W fun e w' => e = .returned (.int .u64 c.last) ∧ w' = W := by
  have := token_o h.lw.mo
  rw [show (bif true then Y' else Y).tok = c.last from ht] at this
  exact this
end
/-- do's contract, as the laws want it. -/
theorem do_law {w W : World} {m : Nat} {out : Value} {cs : List Value} {mb cb ck : Nat} {Y : St} {c : Ca} (h : LawW w m out cs mb cb ck Y c W) (q : Rq) (ka va : Option Addr) (kc vc : Nat) (hkey : BytesAt w (.slice ka q.key.length kc) q.key) (hval : BytesAt w (.slice va q.val.length vc) q.val) (hq : Rq.ok q) (hqv : q.val.length ≤ 1000) (hl : c.last < 1000000) (now : Int) (hnow : 0 ≤ now ∧ now ≤ 4294967295) :
    Calls Try.prog 12 #[.pointer (some ⟨cb, 0, none⟩), .agg (qL q ka va kc vc).toArray, .int .u32 now] W fun e w' => ∃ aa ac, e = .returned (.agg (aL (c.do q now).2 aa ac none 0).toArray) ∧ BytesIn w' (fun b => ¬ OO mb cb ck b) (.slice aa (c.do q now).2.val.length ac) (c.do q now).2.val ∧ Hid (LawW w m out cs mb cb ck Y (c.do q now).1 w') ∧ An.ok (c.do q now).2 ∧ Hid (Frm (fun b => b = cb ∨ b = ck) W w') := by
  refine (do12 W (fun b => ¬ OO mb cb ck b) cb ck c h.ca (fun b hb e => by have := h.mo.hO b e; omega) q ⟨ka, kc, va, vc, none, 0, none, 0, none, 0, 0⟩ (h.inOld hkey) (h.inOld hval) hq hqv hl now hnow).mono ?_
  rintro e w' ⟨aa, ac, he, hb, hc, hf⟩
  refine ⟨aa, ac, ?_, hb, h.cstep hc hf, do_ok h.ca.bnd ?_ hq, hf⟩
  · rw [he]
    unfold ansV aL
    rw [do_stats.1]
    rfl
  · obtain ⟨_, _, _, ht⟩ := h.ca.look q.key
    exact ht
/-- A request for a key that was just made. -/
structure TkK (w : World) (m : Nat) (out : Value) (cs : List Value) (mb cb ck kb gb : Nat) (Y : St) (c : Ca) (W : World) : Prop where
  lw : LawW w m out cs mb cb ck Y c W
  qw : W.heap[gb]? = some (.cells (qL (getQ [107]) (some ⟨kb, 0, none⟩) none 1 0).toArray 35 (0, 0))
  kw : BytesIn W (fun b => ¬ OO mb cb ck b) (.slice (some ⟨kb, 0, none⟩) 1 1) [107]
section
variable {w : World} {m : Nat} {out : Value} {cs : List Value} {mb cb ck kb gb : Nat} {Y : St} {c : Ca} {W W' : World}
theorem TkK.below (h : TkK w m out cs mb cb ck kb gb Y c W) (hb : Below W.heap.size W W') : TkK w m out cs mb cb ck kb gb Y c W' :=
  ⟨h.lw.below hb, (hb.block gb (Array.getElem?_eq_some_iff.1 h.qw).1).trans h.qw, h.kw.frm (S := fun _ => False) (frm_below hb) (fun _ _ h => h)⟩
theorem TkK.allows (h : TkK w m out cs mb cb ck kb gb Y c W) (now : Int) (hnow : 0 ≤ now ∧ now ≤ 4294967295) (hl : (Y.now [107]).length ≤ 10000) :
    Calls Try.prog 13 #[.pointer (some ⟨mb, 0, none⟩), .agg (qL (getQ [107]) (some ⟨kb, 0, none⟩) none 1 0).toArray, ansV 1 (.slice none 0 0) 0 0 0 (.slice none 0 0) false, .int .u32 now] W fun e w' => e = .returned (.bool true) ∧ Hid (TkK w m out cs mb cb ck kb gb Y c w') := by
  have := allows_o W w.heap.size (OO mb cb ck) mb (getQ [107]) (failA 1) now ⟨some ⟨kb, 0, none⟩, 1, none, 0, none, 0, none, 0, none, 0, 0⟩ Y h.lw.mo h.lw.bel.size h.kw (BytesIn.nil _ _) (BytesIn.nil _ _) (StatsAt.nil _ _) (by unfold Rq.ok getQ; simp) (by unfold An.ok failA; simp) hnow hl (by simp [getQ]) (by unfold Rq.here getQ; simp)
  rw [none_ok (key := [107]) (by simp)] at this
  exact this.mono fun e w' h' => ⟨h'.1, h.lw.mstep h'.2.1 h'.2.2, h'.2.2.fblk h.qw (h.lw.nmb h.qw (by decide)), h.kw.mfrm (.inl rfl) h'.2.2⟩
theorem TkK.start (h : LawW w m out cs mb cb ck Y c W) (hkb : W.heap.size = kb) (hgb : W.heap.size + 1 = gb) : TkK w m out cs mb cb ck kb gb Y c ((W.alloc (.cells #[.int .u8 107] 5 (1, 2))).alloc (.cells (qL (getQ [107]) (some ⟨kb, 0, none⟩) none 1 0).toArray 35)) := by
  have hb : Below W.heap.size W ((W.alloc (.cells #[.int .u8 107] 5 (1, 2))).alloc (.cells (qL (getQ [107]) (some ⟨kb, 0, none⟩) none 1 0).toArray 35)) := ((Below.refl _ W).alloc (Nat.le_refl _) _).alloc (by simp) _
  have h1 := heap_alloc_new (W.alloc (.cells #[.int .u8 107] 5 (1, 2))) (.cells (qL (getQ [107]) (some ⟨kb, 0, none⟩) none 1 0).toArray 35)
  rw [World.size_alloc, hgb] at h1
  have h2 : ((W.alloc (.cells #[.int .u8 107] 5 (1, 2))).alloc (.cells (qL (getQ [107]) (some ⟨kb, 0, none⟩) none 1 0).toArray 35)).heap[kb]? = some (.cells #[.int .u8 107] 5 (1, 2)) := by
    rw [Below.heap_alloc _ _ _ (by simp; omega), ← hkb]; exact heap_alloc_new W _
  refine ⟨h.below hb, h1, ?_, fun _ b hb' e => ?_⟩
  · exact .inr ⟨by decide, kb, 0, 1, rfl, Nat.le_refl _, by decide, by simp; omega, fun j hj => by
      have hj : j < 1 := hj
      obtain rfl : j = 0 := by omega
      simp [World.cell?, h2, u8v]⟩
  · cases hb'
    have h9 : kb < W.heap.size := h.mo.hO _ e
    omega
end
set_option maxHeartbeats 16000000 in
set_option maxRecDepth 100000 in
theorem takes3 (w : World) (n : Nat) (S : Nat → Sd) (R : Nat → Raw) (v : Value) (hrow : RowAt w 22 v n (fun i j => (sdC (S i) (R i)).getD j undef)) (hS : ∀ i, i < n → SdAt w (S i) (R i)) (fa : Option Addr) (fc : Nat) (fl : List UInt8) (hf : BytesAt w (.slice fa fl.length fc) fl) :
    Calls Try.prog 3 #[v, .slice fa fl.length fc] w fun e w' => e = .returned (.bool true) ∧ Below w.heap.size w w' := by
  obtain ⟨a, cap, rfl, hn⟩ := hrow.form
  unfold maxLen at hn
  have hfl : fl.length ≤ 9223372036854775807 := by
    obtain ⟨_, _, _, h⟩ := BytesAt.form hf
    unfold maxLen at h; omega
  have HROW := Lib.hid hrow
  have HS := Lib.hid hS
  have HFL := Lib.hid hf
  clear hrow hS hf
  have hmm := @run_makeMap Try.prog
  go_enter Try.func3, Try.ntmps3
  go_wp2_with fail
  refine (wakes6 w).mono ?_
  rintro e w1 ⟨rfl, hb1⟩
  have HB1 := Lib.hid hb1
  clear hb1
  go_wp2_with fail
  refine (new_o w1 w.heap.size (fun _ => False) HB1.out.size (fun _ h => h.elim)).mono ?_
  rintro e w2 ⟨mb, rfl, hm2, hmo2, hb2⟩
  have HB2 : Hid (Below w.heap.size w w2) := HB1.out.trans (Below.mono hb2 HB1.out.size)
  have HMO := Lib.hid hmo2
  have HM2 : Hid (w.heap.size ≤ mb) := Nat.le_trans HB1.out.size hm2
  clear hm2 hmo2 hb2
  have hbs : Below w.heap.size w ((w2.alloc (.map #[] 0)).alloc (.cells #[.map (some w2.heap.size), .int .u64 0] 31)) := HB2.out.trans ((((Below.refl _ w2).alloc (Nat.le_refl _) _).alloc (by simp) _).mono HB2.out.size)
  have HSH := Lib.hid (short8 _ n S R (.slice a n cap) (HROW.out.below hbs (Nat.le_refl _)) (fun i hi => (HS.out i hi).below hbs))
  clear hbs
  go_wp2_with fail
  refine HSH.out.mono ?_
  rintro e w4 ⟨v', R', rfl, hI⟩
  have hW := lawW_start HB2.out HMO.out hI
  have HRAW := Lib.hid hI.raw
  obtain ⟨cb, hcb⟩ : ∃ b, b = w2.heap.size + 1 := ⟨_, rfl⟩
  obtain ⟨ck0, hck⟩ : ∃ b, b = w2.heap.size := ⟨_, rfl⟩
  rw [← hcb, ← hck] at hW
  rw [← hcb, ← hck]
  obtain ⟨m, hm⟩ : ∃ m, m = min n 60 := ⟨_, rfl⟩
  rw [← hm] at hW HRAW
  have hm60 : m ≤ 60 := by omega
  have HMN : Hid (m ≤ n) := by show _ ≤ _; omega
  obtain ⟨oa, oc, rfl⟩ := own_slice hW.row
  have HT0 : Hid (TakI w m (.slice oa m oc) ((List.range m).flatMap fun i => sdC (shortS (S i)) (R' i)) mb cb 0 0 w4) := ⟨⟨_, _, _, hW, linv_start 0⟩, by decide⟩
  clear hI hW hcb hck hm HSH HMO HROW HB1 HB2 HM2
  go_wp2_with fail
  go_loopg [7, 23] m (fun gg b7 b23 wr => ∃ (k : Nat) (now : Int), k ≤ m ∧ gg = m - k ∧ b7 = .int .u32 now ∧ b23 = .int .i64 k ∧ Hid (TakI w m (.slice oa m oc) ((List.range m).flatMap fun i => sdC (shortS (S i)) (R' i)) mb cb now k wr))
  case atStart => exact ⟨0, 0, Nat.zero_le _, rfl, rfl, rfl, HT0.out⟩
  case round =>
  clear HT0
  obtain ⟨k, now, hk, hgg, rfl, rfl, HTK⟩ := hrel
  subst hgg
  by_cases hlt : k < m
  · obtain ⟨⟨ck, Y, c, hW, hL⟩, hnow⟩ := HTK.out
    obtain ⟨g, oc', he, hoc1, hoc2⟩ := own_at hW.row (by omega)
    injection he with he1 he2 he3
    subst he1 he3
    clear he2
    obtain ⟨s, hs⟩ : ∃ s, s = shortS (S k) := ⟨_, rfl⟩
    obtain ⟨r, hr⟩ : ∃ r, r = R' k := ⟨_, rfl⟩
    have HRG : Hid (wr.rangeAt g (k * 22) (sdC s r)) := by rw [hs, hr]; exact own_range hW.row (fun _ => rfl) hlt
    have hSA := HS.out k (by have := HMN.out; omega)
    have hraw := HRAW.out k hlt
    have HKEY : Hid (BytesAt w (.slice r.ka s.q.key.length r.kc) s.q.key) := by rw [hs, hr, hraw]; exact bytes_take hSA.key 300
    have HVAL : Hid (BytesAt w (.slice r.va s.q.val.length r.vc) s.q.val) := by rw [hs, hr, hraw]; exact bytes_take hSA.val 600
    have HQV : Hid (s.q.val.length ≤ 600) := by rw [hs]; show ((S k).q.val.take 600).length ≤ 600; rw [List.length_take]; omega
    have HQK : Hid (s.q.key.length ≤ 300) := by rw [hs]; show ((S k).q.key.take 300).length ≤ 300; rw [List.length_take]; omega
    have HQOK : Hid (Rq.ok s.q) := by
      have h1 := HQV.out; have h2 := HQK.out
      have q1 := hSA.q1; have q2 := hSA.q2; have q3 := hSA.q3; have q4 := hSA.q4; have q5 := hSA.q5
      have e1 : s.q.fl = (S k).q.fl := by rw [hs]; rfl
      have e2 : s.q.ex = (S k).q.ex := by rw [hs]; rfl
      have e3 : s.q.cas = (S k).q.cas := by rw [hs]; rfl
      have e4 : s.q.delta = (S k).q.delta := by rw [hs]; rfl
      have e5 : s.q.ini = (S k).q.ini := by rw [hs]; rfl
      show Rq.ok s.q
      unfold Rq.ok
      omega
    have HW := Lib.hid hW
    have HL := Lib.hid hL
    have HNW := Lib.hid hnow
    obtain ⟨now', hnow'⟩ : ∃ x, x = nowF now s.later := ⟨_, rfl⟩
    have hmax : max now ((now + s.later) % 4294967296) = now' := by rw [hnow', ← IntKind.wrap_u32]; rfl
    have HNN : Hid (now ≤ now' ∧ 0 ≤ now' ∧ now' ≤ 4294967295) := by rw [hnow']; exact nowF_le hnow
    clear hW hL hnow hs hr hSA hraw hnow' HTK
    obtain ⟨sb, hsb⟩ : ∃ b, b = wr.heap.size := ⟨_, rfl⟩
    obtain ⟨W1, hW1⟩ : ∃ W1, W1 = (wr.alloc (.cells #[.int .i64 0, .bool false, .bool false, .int .i64 0, .int .u32 0, .slice none 0 0, .slice none 0 0, .int .u32 0, .int .u32 0, .int .u64 0, .int .u64 0, .int .u64 0, .int .i64 0, .slice none 0 0, .int .u32 0, .int .u64 0, .int .u64 0, .slice none 0 0, .bool false, .int .u32 0, .bool false, .int .i64 0] 40)).setCells wr.heap.size 0 (sdC s r).toArray.toList := ⟨_, rfl⟩
    have HT1 : Hid ((wr.alloc (.cells #[.int .i64 0, .bool false, .bool false, .int .i64 0, .int .u32 0, .slice none 0 0, .slice none 0 0, .int .u32 0, .int .u32 0, .int .u64 0, .int .u64 0, .int .u64 0, .int .i64 0, .slice none 0 0, .int .u32 0, .int .u64 0, .int .u64 0, .slice none 0 0, .bool false, .int .u32 0, .bool false, .int .i64 0] 40)).there wr.heap.size 0 (sdC s r).toArray.size) := there_whole wr _ 40 _ (by show 22 ≤ 22; omega)
    have hk1 := blk_whole (w := wr) (zs := #[.int .i64 0, .bool false, .bool false, .int .i64 0, .int .u32 0, .slice none 0 0, .slice none 0 0, .int .u32 0, .int .u32 0, .int .u64 0, .int .u64 0, .int .u64 0, .int .i64 0, .slice none 0 0, .int .u32 0, .int .u64 0, .int .u64 0, .slice none 0 0, .bool false, .int .u32 0, .bool false, .int .i64 0]) (e := 40) (vs := sdC s r) rfl
    have hb1 : Below wr.heap.size wr W1 := by rw [hW1]; exact hk1.2
    have hs1 : W1.heap[sb]? = some (.cells #[.int .i64 s.q.op, .bool s.q.quiet, .bool s.q.full, .int .i64 s.q.bad, .int .u32 s.q.opq, .slice r.ka s.q.key.length r.kc, .slice r.va s.q.val.length r.vc, .int .u32 s.q.fl, .int .u32 s.q.ex, .int .u64 s.q.cas, .int .u64 s.q.delta, .int .u64 s.q.ini, .int .i64 s.a.st, .slice r.aa s.a.val.length r.ac, .int .u32 s.a.fl, .int .u64 s.a.cas, .int .u64 s.a.num, .slice r.sa s.a.stats.length r.sc, .bool s.a.cl, .int .u32 s.later, .bool s.crash, .int .i64 s.fit] 40 (0, 0)) := by rw [hW1, hsb]; exact hk1.1
    have c19 : W1.cell? ⟨sb, 19, none⟩ = some (.int .u32 s.later) := blk_cell hs1 19
    have HR1 : Hid (W1.rangeAt sb 0 (qL s.q r.ka r.va r.kc r.vc)) := fun j v hv => by
      have hj : j < 12 := (List.getElem?_eq_some_iff.1 hv).1
      rw [Nat.zero_add, blk_cell hs1 j]
      have : (sdC s r)[j]? = some v := by rw [sdC_split, List.getElem?_append_left hj]; exact hv
      simpa [sdC] using this
    obtain ⟨qb, hqb⟩ : ∃ b, b = W1.heap.size := ⟨_, rfl⟩
    obtain ⟨W2, hW2⟩ : ∃ W2, W2 = (W1.alloc (.cells #[.int .i64 0, .bool false, .bool false, .int .i64 0, .int .u32 0, .slice none 0 0, .slice none 0 0, .int .u32 0, .int .u32 0, .int .u64 0, .int .u64 0, .int .u64 0] 35)).setCells W1.heap.size 0 (qL s.q r.ka r.va r.kc r.vc).toArray.toList := ⟨_, rfl⟩
    have HT2 : Hid ((W1.alloc (.cells #[.int .i64 0, .bool false, .bool false, .int .i64 0, .int .u32 0, .slice none 0 0, .slice none 0 0, .int .u32 0, .int .u32 0, .int .u64 0, .int .u64 0, .int .u64 0] 35)).there W1.heap.size 0 (qL s.q r.ka r.va r.kc r.vc).toArray.size) := there_whole W1 _ 35 _ (by show 12 ≤ 12; omega)
    have hk2 := blk_whole (w := W1) (zs := #[.int .i64 0, .bool false, .bool false, .int .i64 0, .int .u32 0, .slice none 0 0, .slice none 0 0, .int .u32 0, .int .u32 0, .int .u64 0, .int .u64 0, .int .u64 0]) (e := 35) (vs := qL s.q r.ka r.va r.kc r.vc) rfl
    have hb2 : Below W1.heap.size W1 W2 := by rw [hW2]; exact hk2.2
    have HQB : Hid (W2.heap[qb]? = some (.cells (rqC s.q r.ka r.va r.kc r.vc) 35 (0, 0))) := by rw [hW2, hqb]; exact hk2.1
    have HLW : Hid (LawW w m (.slice (some ⟨g, 0, none⟩) m oc) ((List.range m).flatMap fun i => sdC (shortS (S i)) (R' i)) mb cb ck Y c W2) := HW.out.below (hb1.trans (hb2.mono hb1.size))
    have HLI : Hid (LInv Y c now' k) := HL.out.later HNN.out.1
    have HSB := Lib.hid hsb.symm
    have HQS := Lib.hid hqb.symm
    have HW1 := Lib.hid hW1.symm
    have HW2 := Lib.hid hW2.symm
    clear hW1 hW2 hk1 hk2 hb1 hb2 hs1 hsb hqb
    go_upto_region 9 with (first | (refine wpList_load_mid rfl 40 (.tmp 26) rfl g (k * 22) (by rfl) (sdC s r) _ HRG.out Try.underlying40 rfl (by kernel_rfl) ?_) | (refine wpList_store_mid rfl 40 (.tmp 9) (.tmp 27) rfl wr.heap.size 0 (sdC s r).toArray (by rfl) (by rfl) HT1.out (by kernel_rfl) (all_oneCell_toArray (sdC_one s r)) ?_))
    rw [HW1.out, HSB.out]
    go_upto_region 11 with (first | (refine wpList_load_mid rfl 35 (.tmp 34) rfl sb 0 (by rfl) (qL s.q r.ka r.va r.kc r.vc) _ HR1.out Try.underlying35 rfl (by kernel_rfl) ?_) | (refine wpList_store_mid rfl 35 (.tmp 10) (.tmp 35) rfl W1.heap.size 0 (qL s.q r.ka r.va r.kc r.vc).toArray (by rfl) (by rfl) HT2.out (by kernel_rfl) (all_oneCell_toArray (qL_one _ _ _ _ _)) ?_))
    rw [HW2.out, HQS.out]
    clear hmax c19 HW HL HRG HNW HR1 HT1 HT2 HW1 HW2 HSB HQS
    obtain ⟨WA, hwa⟩ : ∃ WA, WA = W2 := ⟨_, rfl⟩
    subst hwa
    try dsimp only [Act.put]
    go_cut [47] from 36 to 46 (fun s47 W6 => ∃ b : Bool, s47 = .bool b ∧ W6 = WA)
    case first =>
      by_cases hkf : k < fl.length
      · obtain ⟨fb, fo, fcap, fe, f1, f2, f3, f4⟩ := (show 0 < (fl.map u8v).length ∧ ∃ b off cap, Value.slice fa fl.length fc = .slice (some ⟨b, off, none⟩) (fl.map u8v).length cap ∧ (fl.map u8v).length ≤ cap ∧ cap ≤ maxLen ∧ b < w.heap.size ∧ ∀ j, j < (fl.map u8v).length → w.cell? ⟨b, off + j, none⟩ = (fl.map u8v)[j]? from by
          rcases HFL.out with ⟨h, _⟩ | h
          · have h := congrArg List.length h
            rw [List.length_map] at h
            have h : fl.length = 0 := h
            omega
          · exact h).2
        injection fe with fe1 fe2 fe3
        subst fe1 fe3
        have hcell : WA.cell? ⟨fb, fo + k, none⟩ = some (.int .u8 (fl[k].toNat : Nat)) := by
          rw [(HLW.out.bel.cell (p := ⟨fb, fo + k, none⟩) f3), f4 k (by rw [List.length_map]; exact hkf), List.getElem?_map, List.getElem?_eq_getElem hkf]
          rfl
        have hbb : fl[k].toNat < 256 := fl[k].toNat_lt
        clear f1 f2 f4 fe2
        obtain ⟨bt, hbt⟩ : ∃ b : Nat, b = fl[k].toNat := ⟨_, rfl⟩
        rw [← hbt] at hcell hbb
        clear hbt
        cases hz : ((bt : Int) % 4 == 0) with
        | true =>
          go_wp2_with fail
          go_meet
          case rel => exact ⟨_, rfl, rfl⟩
        | false =>
          go_wp2_with fail
          go_meet
          case rel => exact ⟨_, rfl, rfl⟩
      · go_wp2_with fail
        go_meet
        case rel => exact ⟨_, rfl, rfl⟩
    case rest =>
    obtain ⟨fg, hfg, hwc⟩ := hcut
    subst hfg hwc
    obtain ⟨WA, hwa⟩ : ∃ WA, WA = wc := ⟨_, rfl⟩
    subst hwa
    clear HFL
    go_upto_if 47 with fail
    go_cut [] from 48 to 54 (fun W6 => ∃ c' : Ca, Hid (LawW w m (.slice (some ⟨g, 0, none⟩) m oc) ((List.range m).flatMap fun i => sdC (shortS (S i)) (R' i)) mb cb ck Y c' W6 ∧ LInv Y c' now' k ∧ W6.heap[qb]? = some (.cells (rqC s.q r.ka r.va r.kc r.vc) 35 (0, 0))))
    case first =>
      cases fg with
      | false =>
        go_wp2_with fail
        go_meet
        case rel => exact ⟨c, HLW.out, HLI.out, HQB.out⟩
      | true =>
        obtain ⟨W5, hdl, hc5, hf5⟩ := HLW.out.ca.forget s.q.key
        have hin := HLW.out.inOld HKEY.out
        have hcb0 := HLW.out.ca.blk
        have c0 : WA.cell? ⟨cb, 0, none⟩ = some (.map (some ck)) := blk_cell hcb0 0
        have q5 : WA.cell? ⟨qb, 5, none⟩ = some (.slice r.ka s.q.key.length r.kc) := blk_cell HQB.out 5
        have hcv := convert_sl (P := Try.prog) (w := WA.drew) 23 5 Try.underlying23 Try.underlying5 hin.1 9 Try.underlying9
        have hne : qb ≠ ck := by
          rintro rfl
          obtain ⟨G, hm, _⟩ := HLW.out.ca.map
          exact mapAt_block hm HQB.out
        have hqb5 := (hf5.block qb (blk_lt HQB.out) hne).trans HQB.out
        have S5 : Hid (W5.cell? ⟨cb, 0, none⟩ = some (.map (some ck)) ∧ W5.cell? ⟨qb, 5, none⟩ = some (.slice r.ka s.q.key.length r.kc) ∧ (convert 23 9 (.slice r.ka s.q.key.length r.kc)).run Try.prog W5 = .ok (.string ⟨s.q.key.toArray⟩) W5) :=
          ⟨blk_cell hc5.blk 0, blk_cell hqb5 5, convert_sl (P := Try.prog) (w := W5) 23 5 Try.underlying23 Try.underlying5 (IsSl.frm hin.1 hf5 fun hl b hb e => hin.2 (by intro e; simp [e] at hl) b hb (.inr (.inr e))) 9 Try.underlying9⟩
        have HN5 : Hid (LawW w m (.slice (some ⟨g, 0, none⟩) m oc) ((List.range m).flatMap fun i => sdC (shortS (S i)) (R' i)) mb cb ck Y (c.del s.q.key) W5 ∧ LInv Y (c.del s.q.key) now' k ∧ W5.heap[qb]? = some (.cells (rqC s.q r.ka r.va r.kc r.vc) 35 (0, 0))) :=
          ⟨HLW.out.cstep hc5 (hf5.mono fun _ _ e => .inr e), HLI.out.forget _, hqb5⟩
        clear hc5 hf5 hin hcb0 hqb5 hne
        go_wp2_with fail
        go_region_held3 (fun w' => w'.cell? ⟨cb, 0, none⟩ = some (.map (some ck)) ∧ w'.cell? ⟨qb, 5, none⟩ = some (.slice r.ka s.q.key.length r.kc) ∧ (convert 23 9 (.slice r.ka s.q.key.length r.kc)).run Try.prog w' = .ok (.string ⟨s.q.key.toArray⟩) w') (first | exact ⟨c0, q5, hcv⟩ | exact S5.out) (first | fail)
        all_goals
          go_wp2_with fail
          go_meet
          case rel => exact ⟨_, HN5.out⟩
    case rest =>
    obtain ⟨c', HC6⟩ := hcut
    have HW6 := Lib.hid HC6.out.1
    have HL6 := Lib.hid HC6.out.2.1
    have HQ6 := Lib.hid HC6.out.2.2
    obtain ⟨WB, hwb⟩ : ∃ WB, WB = wc := ⟨_, rfl⟩
    subst hwb
    clear HC6 HLW HLI HQB
    go_upto_block 2 with fail
    go_cut [11, 12] from 55 to 109 (fun s11 s12 W8 => Hid (∃ ck Y c, LawW w m (.slice (some ⟨g, 0, none⟩) m oc) ((List.range m).flatMap fun i => sdC (shortS (S i)) (R' i)) mb cb ck Y c W8 ∧ LInv Y c now' (k + 1)))
    case first =>
      have q0 : WB.cell? ⟨qb, 0, none⟩ = some (.int .i64 s.q.op) := blk_cell HQ6.out 0
      have q3 : WB.cell? ⟨qb, 3, none⟩ = some (.int .i64 s.q.bad) := blk_cell HQ6.out 3
      have HKY : Hid (∀ W7, Below WB.heap.size WB W7 → Calls Try.prog 11 #[.agg #[.int .i64 s.q.op, .bool s.q.quiet, .bool s.q.full, .int .i64 s.q.bad, .int .u32 s.q.opq, .slice r.ka s.q.key.length r.kc, .slice r.va s.q.val.length r.vc, .int .u32 s.q.fl, .int .u32 s.q.ex, .int .u64 s.q.cas, .int .u64 s.q.delta, .int .u64 s.q.ini]] W7 fun e w' => e = .returned (.bool s.q.keyedOk) ∧ Below W7.heap.size W7 w') := fun W7 _ => keyed11 W7 s.q r.ka r.va r.kc r.vc
      by_cases h8 : s.q.op = 8
      · have e8 : (s.q.op == 8) = true := by simp [h8]
        by_cases h0 : s.q.bad = 0
        · have e0 : (s.q.bad == 0) = true := by simp [h0]
          have HFG := Lib.hid (flush_goes HL6.out h8 h0)
          have HH := Lib.hid (flush_here h8)
          clear h8 h0
          go_wp2_with fail
          refine (fail9 _ 4).mono ?_
          rintro e w5 ⟨rfl, hb5⟩
          have HW7 := Lib.hid (HW6.out.below hb5)
          have HQ7 := Lib.hid ((hb5.block qb (blk_lt HQ6.out)).trans HQ6.out)
          obtain ⟨ab, W8, HAB, HW8, HK8, HZ8⟩ := boxed1 w5 #[.int .i64 4, .slice none 0 0, .int .u32 0, .int .u64 0, .int .u64 0, .slice none 0 0, .bool false] 38
          have HW9 := Lib.hid (HW7.out.below HK8.out.below)
          have hq8 := (HK8.out.below.block qb (blk_lt HQ7.out)).trans HQ7.out
          have HQ8 := Lib.hid hq8
          have q8 : W8.cell? ⟨qb, 8, none⟩ = some (.int .u32 s.q.ex) := blk_cell hq8 8
          clear hb5 hq8 q0 q3
          unfold ansV
          go_upto_region 15 with fail
          rw [HAB.out, HW8.out]
          by_cases hx : s.q.ex = 0
          · have ex : (s.q.ex == 0) = true := by simp [hx]
            have HX := Lib.hid hx
            have c0 : (W8.alloc (.map #[] 0)).cell? ⟨cb, 0, none⟩ = some (.map (some ck)) := cellB ((Below.refl W8.heap.size W8).alloc (Nat.le_refl _) _) (blk_cell HW9.out.ca.blk 0)
            have f0 : (W8.alloc (.map #[] 0)).frozen? ⟨cb, 0, none⟩ = false := blk_frozen (e := 31) (cs := #[.map (some ck), .int .u64 c'.last]) (by rw [Below.heap_alloc _ _ _ (blk_lt HW9.out.ca.blk)]; exact HW9.out.ca.blk) 0
            have hcl : cb < (W8.alloc (.map #[] 0)).heap.size := Nat.lt_of_lt_of_le (blk_lt HW9.out.ca.blk) (by simp)
            have hal : ab < W8.heap.size := blk_lt HK8.out.b0
            have hcab : cb ≠ ab := by
              have := blk_lt HW7.out.ca.blk
              have := HAB.out
              omega
            obtain ⟨W9, hW9⟩ : ∃ W9, W9 = ((W8.alloc (.map #[] 0)).setCell ⟨cb, 0, none⟩ (.map (some W8.heap.size))).setCells ab 0 #[.int .i64 0, .slice none 0 0, .int .u32 0, .int .u64 0, .int .u64 0, .slice none 0 0, .bool false].toList := ⟨_, rfl⟩
            have hfw := frm_setCells ((W8.alloc (.map #[] 0)).setCell ⟨cb, 0, none⟩ (.map (some W8.heap.size))) ab #[.int .i64 0, .slice none 0 0, .int .u32 0, .int .u64 0, .int .u64 0, .slice none 0 0, .bool false].toList 0
            have hbk0 : ((W8.alloc (.map #[] 0)).setCell ⟨cb, 0, none⟩ (.map (some W8.heap.size))).heap[ab]? = some (.cells [.int .i64 4, .slice none 0 0, .int .u32 0, .int .u64 0, .int .u64 0, .slice none 0 0, .bool false].toArray 38 (0, 0)) := blk_set (by rw [Below.heap_alloc _ _ _ hal]; exact HK8.out.b0) (Ne.symm hcab) _
            have hbk : W9.heap[ab]? = some (.cells #[.int .i64 0, .slice none 0 0, .int .u32 0, .int .u64 0, .int .u64 0, .slice none 0 0, .bool false] 38 (0, 0)) := by
              rw [hW9]
              exact blk_setCells (w := W8) _ 0 _ _ hbk0 (by decide)
            have HTH : Hid (((W8.alloc (.map #[] 0)).setCell ⟨cb, 0, none⟩ (.map (some W8.heap.size))).there ab 0 7) := there_of_blk hbk0 (by show 7 ≤ 7; omega)
            have HL9 : Hid (LawW w m (.slice (some ⟨g, 0, none⟩) m oc) ((List.range m).flatMap fun i => sdC (shortS (S i)) (R' i)) mb cb W8.heap.size Y c'.none W9) := HW7.out.flush2 HAB.out HK8.out.below hal (by rw [hW9]; exact hfw)
            have hqb9 : W9.heap[qb]? = some (.cells (rqC s.q r.ka r.va r.kc r.vc) 35 (0, 0)) := by
              have h1 : (W8.alloc (.map #[] 0)).heap[qb]? = some (.cells (rqC s.q r.ka r.va r.kc r.vc) 35 (0, 0)) := by rw [Below.heap_alloc _ _ _ (blk_lt HQ8.out)]; exact HQ8.out
              have h2 : qb ≠ cb := by
                rintro rfl
                have := HW9.out.ca.blk
                rw [HQ8.out] at this; injection this with this; injection this with _ e; cases e
              have h3 := blk_set h1 h2 (Value.map (some W8.heap.size)) (p := ⟨cb, 0, none⟩)
              rw [hW9]
              exact (hfw.block qb (blk_lt h3) (by have := blk_lt HQ7.out; have := HAB.out; omega)).trans h3
            have HQ9 := Lib.hid hqb9
            have HWW := Lib.hid hW9.symm
            have HR9 := Lib.hid (rangeAt_blk (l := qL s.q r.ka r.va r.kc r.vc) hqb9)
            have HA9 := Lib.hid (rangeAt_blk (l := aL (flushA s.q) none 0 none 0) (e := 38) (fz := (0, 0)) (by
              have : flushA s.q = okA 0 0 := by unfold flushA; rw [if_pos hx]
              rw [this]; exact hbk))
            have hmk := @run_makeMap Try.prog
            clear hx hfw hbk0 hbk hcab hqb9 hW9
            go_upto_region 17 with (refine wpList_store_mid rfl 38 (.tmp 11) (.tmp 70) rfl ab 0 #[.int .i64 0, .slice none 0 0, .int .u32 0, .int .u64 0, .int .u64 0, .slice none 0 0, .bool false] (by rfl) (by rfl) HTH.out (by kernel_rfl) (by kernel_rfl) ?_)
            rw [HWW.out]
            clear c0 f0 hcl hal
            obtain ⟨Y', hY', hL'⟩ := HFG.out
            have hfo := flushA_ok (q := s.q)
            have hst := step_o W9 w.heap.size (OO mb cb W8.heap.size) mb s.q (flushA s.q) now' ⟨r.ka, r.kc, r.va, r.vc, none, 0, none, 0, none, 0, 0⟩ Y HL9.out.mo HL9.out.bel.size (HL9.out.inOld HKEY.out) (HL9.out.inOld HVAL.out) (by rw [hfo.2.2]; exact BytesIn.nil _ _) (by rw [hfo.2.1]; exact StatsAt.nil _ _) HQOK.out hfo.1 HNN.out.2 (by have := (HL6.out.len s.q.key).1; omega) (by have := HQV.out; omega) HH.out
            rw [hY'] at hst
            have HST := Lib.hid (show Calls Try.prog 10 #[.pointer (some ⟨mb, 0, none⟩), .agg (qL s.q r.ka r.va r.kc r.vc).toArray, .agg (aL (flushA s.q) none 0 none 0).toArray, .int .u32 now'] W9 (fun e w' => e = .returned (.bool true) ∧ MapO w' w.heap.size (OO mb cb W8.heap.size) mb Y' ∧ MFrm w.heap.size (OO mb cb W8.heap.size) mb W9 w') from hst)
            have HLF : Hid (LInv Y' c'.none now' (k + 1)) := by have h := hL'; unfold Ca.flush at h; rw [if_pos HX.out] at h; exact h
            clear hst hfo hL' hY' HFG
            go_wp2_with (first | (refine wpList_load_mid rfl 35 (.tmp 10) rfl qb 0 (by rfl) (qL s.q r.ka r.va r.kc r.vc) _ HR9.out Try.underlying35 rfl (by kernel_rfl) ?_) | (refine wpList_load_mid rfl 38 (.tmp 11) rfl ab 0 (by rfl) (aL (flushA s.q) none 0 none 0) _ HA9.out Try.underlying38 rfl (by kernel_rfl) ?_))
            refine HST.out.mono ?_
            rintro e w9 ⟨rfl, hmo, hfr⟩
            have HFIN : Hid (∃ ck Y c, LawW w m (.slice (some ⟨g, 0, none⟩) m oc) ((List.range m).flatMap fun i => sdC (shortS (S i)) (R' i)) mb cb ck Y c w9 ∧ LInv Y c now' (k + 1)) := ⟨_, _, _, HL9.out.mstep hmo hfr, HLF.out⟩
            clear hmo hfr
            go_wp2_with fail
            go_meet
            case rel => exact HFIN.out
          · have ex : (s.q.ex == 0) = false := by simp [hx]
            have HX := Lib.hid hx
            have HR9 := Lib.hid (rangeAt_blk (l := qL s.q r.ka r.va r.kc r.vc) HQ8.out)
            have HA9 := Lib.hid (rangeAt_blk (l := aL (flushA s.q) none 0 none 0) (e := 38) (fz := (0, 0)) (W := W8) (b := ab) (by
              have : flushA s.q = failA 4 := by unfold flushA; rw [if_neg hx]
              rw [this]; exact HK8.out.b0))
            clear hx
            go_upto_region 17 with fail
            obtain ⟨Y', hY', hL'⟩ := HFG.out
            have hfo := flushA_ok (q := s.q)
            have hst := step_o W8 w.heap.size (OO mb cb ck) mb s.q (flushA s.q) now' ⟨r.ka, r.kc, r.va, r.vc, none, 0, none, 0, none, 0, 0⟩ Y HW9.out.mo HW9.out.bel.size (HW9.out.inOld HKEY.out) (HW9.out.inOld HVAL.out) (by rw [hfo.2.2]; exact BytesIn.nil _ _) (by rw [hfo.2.1]; exact StatsAt.nil _ _) HQOK.out hfo.1 HNN.out.2 (by have := (HL6.out.len s.q.key).1; omega) (by have := HQV.out; omega) HH.out
            rw [hY'] at hst
            have HST := Lib.hid (show Calls Try.prog 10 #[.pointer (some ⟨mb, 0, none⟩), .agg (qL s.q r.ka r.va r.kc r.vc).toArray, .agg (aL (flushA s.q) none 0 none 0).toArray, .int .u32 now'] W8 (fun e w' => e = .returned (.bool true) ∧ MapO w' w.heap.size (OO mb cb ck) mb Y' ∧ MFrm w.heap.size (OO mb cb ck) mb W8 w') from hst)
            have HLF : Hid (LInv Y' c' now' (k + 1)) := by have h := hL'; unfold Ca.flush at h; rw [if_neg HX.out] at h; exact h
            clear hst hfo hL' hY' HFG
            go_wp2_with (first | (refine wpList_load_mid rfl 35 (.tmp 10) rfl qb 0 (by rfl) (qL s.q r.ka r.va r.kc r.vc) _ HR9.out Try.underlying35 rfl (by kernel_rfl) ?_) | (refine wpList_load_mid rfl 38 (.tmp 11) rfl ab 0 (by rfl) (aL (flushA s.q) none 0 none 0) _ HA9.out Try.underlying38 rfl (by kernel_rfl) ?_))
            refine HST.out.mono ?_
            rintro e w9 ⟨rfl, hmo, hfr⟩
            have HFIN : Hid (∃ ck Y c, LawW w m (.slice (some ⟨g, 0, none⟩) m oc) ((List.range m).flatMap fun i => sdC (shortS (S i)) (R' i)) mb cb ck Y c w9 ∧ LInv Y c now' (k + 1)) := ⟨_, _, _, HW9.out.mstep hmo hfr, HLF.out⟩
            clear hmo hfr
            go_wp2_with fail
            go_meet
            case rel => exact HFIN.out
        · have e0 : (s.q.bad == 0) = false := by simp [h0]
          have HNK : Hid (s.q.keyedOk = false) := by show _ = _; unfold Rq.keyedOk; simp [h0]
          have HR6 := Lib.hid (rangeAt_blk (l := qL s.q r.ka r.va r.kc r.vc) HQ6.out)
          have HK11 : Hid (Calls Try.prog 11 #[.agg (qL s.q r.ka r.va r.kc r.vc).toArray] WB fun e w' => e = .returned (.bool false) ∧ Below WB.heap.size WB w') := by rw [← HNK.out]; exact keyed11 WB s.q r.ka r.va r.kc r.vc
          clear h8 h0 HKY
          go_wp2_with (refine wpList_load_mid rfl 35 (.tmp 10) rfl qb 0 (by rfl) (qL s.q r.ka r.va r.kc r.vc) _ HR6.out Try.underlying35 rfl (by kernel_rfl) ?_)
          refine HK11.out.mono ?_
          rintro e w7 ⟨rfl, hb7⟩
          have HFIN : Hid (∃ ck Y c, LawW w m (.slice (some ⟨g, 0, none⟩) m oc) ((List.range m).flatMap fun i => sdC (shortS (S i)) (R' i)) mb cb ck Y c w7 ∧ LInv Y c now' (k + 1)) := ⟨_, _, _, HW6.out.below hb7, HL6.out.more (by omega)⟩
          clear q0 q3 hb7
          go_wp2_with fail
          go_meet
          case rel => exact HFIN.out
      · have e8 : (s.q.op == 8) = false := by simp [h8]
        have HR6 := Lib.hid (rangeAt_blk (l := qL s.q r.ka r.va r.kc r.vc) HQ6.out)
        obtain ⟨kb, hkb⟩ : ∃ b, b = s.q.keyedOk := ⟨_, rfl⟩
        have HK11 : Hid (Calls Try.prog 11 #[.agg (qL s.q r.ka r.va r.kc r.vc).toArray] WB fun e w' => e = .returned (.bool kb) ∧ Below WB.heap.size WB w') := by rw [hkb]; exact keyed11 WB s.q r.ka r.va r.kc r.vc
        have HKB := Lib.hid hkb
        clear h8 hkb HKY
        go_wp2_with (refine wpList_load_mid rfl 35 (.tmp 10) rfl qb 0 (by rfl) (qL s.q r.ka r.va r.kc r.vc) _ HR6.out Try.underlying35 rfl (by kernel_rfl) ?_)
        refine HK11.out.mono ?_
        rintro e w7 ⟨rfl, hb7⟩
        have HW7 := Lib.hid (HW6.out.below hb7)
        have hq7 := (hb7.block qb (blk_lt HQ6.out)).trans HQ6.out
        have HQ7 := Lib.hid hq7
        have HR7 := Lib.hid (rangeAt_blk (l := qL s.q r.ka r.va r.kc r.vc) hq7)
        clear q0 q3 hb7 hq7 HK11 HR6
        cases kb with
        | false =>
          have HFIN : Hid (∃ ck Y c, LawW w m (.slice (some ⟨g, 0, none⟩) m oc) ((List.range m).flatMap fun i => sdC (shortS (S i)) (R' i)) mb cb ck Y c w7 ∧ LInv Y c now' (k + 1)) := ⟨_, _, _, HW7.out, HL6.out.more (by omega)⟩
          go_wp2_with fail
          go_meet
          case rel => exact HFIN.out
        | true =>
          have hk := HKB.out.symm
          have hgo := do_goes HL6.out hk HQOK.out.2.2.2.2.2.2.2.2.1
          have HHERE := Lib.hid (keyedOk_here hk)
          have HL1 : Hid (c'.last < 1000000) := by have := HL6.out.l1; show c'.last < _; omega
          have hst := (do_stats (c := c') (q := s.q) (now := now')).1
          have HDO := Lib.hid (do_law HW7.out s.q r.ka r.va r.kc r.vc HKEY.out HVAL.out HQOK.out (by have := HQV.out; omega) HL1.out now' HNN.out.2)
          obtain ⟨a5, ha5⟩ : ∃ x, x = (c'.do s.q now').2 := ⟨_, rfl⟩
          obtain ⟨c5, hc5⟩ : ∃ x, x = (c'.do s.q now').1 := ⟨_, rfl⟩
          obtain ⟨Y', hY', hL', _⟩ := hgo
          rw [← ha5] at hY' hst HDO
          rw [← hc5] at hL' HDO
          have HY := Lib.hid hY'
          have HL7 := Lib.hid hL'
          have HST := Lib.hid hst
          clear hY' hL' hst ha5 hc5 hk
          go_upto_region 20 with fail
          go_upto_region 21 with (first | (refine wpList_load_mid rfl 35 (.tmp 10) rfl qb 0 (by rfl) (qL s.q r.ka r.va r.kc r.vc) _ HR7.out Try.underlying35 rfl (by kernel_rfl) ?_) | (go_at_call 12; refine HDO.out.mono ?_; rintro e w9 ⟨aa, ac, rfl, hbv, hlw, hao, hfr⟩; have HW9 := hlw; have HAV := Lib.hid hbv; have HAO := Lib.hid hao; have HFR := hfr; clear hbv hlw hao hfr) | (refine wpList_store_mid rfl 38 (.tmp 12) (.tmp 85) rfl w9.heap.size 0 (aL a5 aa ac none 0).toArray (by rfl) (by rfl) (there_whole w9 #[.int .i64 0, .slice none 0 0, .int .u32 0, .int .u64 0, .int .u64 0, .slice none 0 0, .bool false] 38 _ (by show 7 ≤ 7; omega)) (by kernel_rfl) (all_oneCell_toArray (aL_one _ _ _ _ _)) ?_))
          obtain ⟨ab, hab⟩ : ∃ b, b = w9.heap.size := ⟨_, rfl⟩
          obtain ⟨WD, hWD⟩ : ∃ W, W = (w9.alloc (.cells #[.int .i64 0, .slice none 0 0, .int .u32 0, .int .u64 0, .int .u64 0, .slice none 0 0, .bool false] 38)).setCells w9.heap.size 0 (aL a5 aa ac none 0).toArray.toList := ⟨_, rfl⟩
          have hk2 := blk_whole (w := w9) (zs := #[.int .i64 0, .slice none 0 0, .int .u32 0, .int .u64 0, .int .u64 0, .slice none 0 0, .bool false]) (e := 38) (vs := aL a5 aa ac none 0) rfl
          have hbD : Below w9.heap.size w9 WD := by rw [hWD]; exact hk2.2
          have hqn : ¬ (qb = cb ∨ qb = ck) := by
            rintro (rfl | rfl)
            · have := HW7.out.ca.blk
              rw [HQ7.out] at this; injection this with this; injection this with _ e; cases e
            · obtain ⟨G, hm, _⟩ := HW7.out.ca.map
              exact mapAt_block hm HQ7.out
          have HJ1 : Hid (TkJ w m (.slice (some ⟨g, 0, none⟩) m oc) ((List.range m).flatMap fun i => sdC (shortS (S i)) (R' i)) mb cb ck qb ab s.q r.ka r.va r.kc r.vc a5 aa ac Y Y' c5 false WD) :=
            ⟨HW9.out.below hbD, (hbD.block qb (by have := HFR.out.size; have := blk_lt HQ7.out; omega)).trans ((HFR.out.block qb (blk_lt HQ7.out) hqn).trans HQ7.out), by rw [hWD, hab]; exact hk2.1, HAV.out.frm (S := fun _ => False) (frm_below hbD) (fun _ _ h => h)⟩
          have HSB := Lib.hid hab.symm
          have HSD := Lib.hid hWD.symm
          clear hab hWD hk2 hbD hqn
          rw [HSD.out, HSB.out]
          have hlen : (Y.now s.q.key).length ≤ 10000 := by have := (HL6.out.len s.q.key).1; omega
          have HAL : Hid (∀ WW, Hid (TkJ w m (.slice (some ⟨g, 0, none⟩) m oc) ((List.range m).flatMap fun i => sdC (shortS (S i)) (R' i)) mb cb ck qb ab s.q r.ka r.va r.kc r.vc a5 aa ac Y Y' c5 false WW) → Calls Try.prog 13 #[.pointer (some ⟨mb, 0, none⟩), .agg (qL s.q r.ka r.va r.kc r.vc).toArray, .agg (aL a5 aa ac none 0).toArray, .int .u32 now'] WW fun e w' => e = .returned (.bool true) ∧ Hid (TkJ w m (.slice (some ⟨g, 0, none⟩) m oc) ((List.range m).flatMap fun i => sdC (shortS (S i)) (R' i)) mb cb ck qb ab s.q r.ka r.va r.kc r.vc a5 aa ac Y Y' c5 false w')) := fun WW h => h.out.allows HKEY.out HVAL.out HST.out HQOK.out HAO.out now' HNN.out.2 hlen (by have := HQV.out; omega) HHERE.out true (by rw [HY.out]; rfl)
          have HSP : Hid (∀ WW, Hid (TkJ w m (.slice (some ⟨g, 0, none⟩) m oc) ((List.range m).flatMap fun i => sdC (shortS (S i)) (R' i)) mb cb ck qb ab s.q r.ka r.va r.kc r.vc a5 aa ac Y Y' c5 false WW) → Calls Try.prog 10 #[.pointer (some ⟨mb, 0, none⟩), .agg (qL s.q r.ka r.va r.kc r.vc).toArray, .agg (aL a5 aa ac none 0).toArray, .int .u32 now'] WW fun e w' => e = .returned (.bool true) ∧ Hid (TkJ w m (.slice (some ⟨g, 0, none⟩) m oc) ((List.range m).flatMap fun i => sdC (shortS (S i)) (R' i)) mb cb ck qb ab s.q r.ka r.va r.kc r.vc a5 aa ac Y Y' c5 true w')) := fun WW h => h.out.step HKEY.out HVAL.out HST.out HQOK.out HAO.out now' HNN.out.2 hlen (by have := HQV.out; omega) HHERE.out HY.out
          clear hlen
          try dsimp only [Act.put]
          refine wp_region_gh (Θ := Unit) (fun θ => [(0, 86, (.pointer (some ⟨mb, 0, none⟩))), (1, 87, (.agg (qL s.q r.ka r.va r.kc r.vc).toArray)), (2, 88, (.agg (aL a5 aa ac none 0).toArray)), (3, 89, (.int .u32 now')), (4, 90, (.bool true)), (5, 91, (.bool false)), (6, 92, (.bool false)), (7, 93, (.pointer (some ⟨mb, 0, none⟩))), (8, 94, (.agg (qL s.q r.ka r.va r.kc r.vc).toArray)), (9, 95, (.agg (aL a5 aa ac none 0).toArray)), (10, 96, (.int .u32 now')), (11, 97, (.bool true)), (12, 98, (.bool false)), (13, 99, (.bool false)), (14, 100, (.bool false)), (15, 101, (.pointer (some ⟨mb, 0, none⟩))), (16, 102, (.int .u64 c5.last)), (17, 103, (.pointer (some ⟨cb, 0, none⟩))), (18, 104, (.pointer (some ⟨cb, 0, none⟩))), (19, 105, (.pointer (some ⟨cb, 1, none⟩))), (20, 106, (.int .u64 c5.last)), (21, 107, (.bool false)), (22, 108, (.bool false))]) (fun _ done WW => Hid (TkJ w m (.slice (some ⟨g, 0, none⟩) m oc) ((List.range m).flatMap fun i => sdC (shortS (S i)) (R' i)) mb cb ck qb ab s.q r.ka r.va r.kc r.vc a5 aa ac Y Y' c5 (done 11) WW)) (by kernel_rfl) (hord_of2 (by kernel_rfl)) (fun _ => by kernel_rfl) (fun _ => by kernel_rfl) (fun _ => by kernel_rfl) (⟨(), HJ1.out.below (hbelow_drew _)⟩) ?_ ?_
          · intro θ done zb WW j oq ho hd hdep hcl HA HJ
            have hj : j < 23 := (Array.getElem?_eq_some_iff.1 ho).1
            obtain rfl | rfl | rfl | rfl | rfl | rfl | rfl | rfl | rfl | rfl | rfl | rfl | rfl | rfl | rfl | rfl | rfl | rfl | rfl | rfl | rfl | rfl | rfl : j = 0 ∨ j = 1 ∨ j = 2 ∨ j = 3 ∨ j = 4 ∨ j = 5 ∨ j = 6 ∨ j = 7 ∨ j = 8 ∨ j = 9 ∨ j = 10 ∨ j = 11 ∨ j = 12 ∨ j = 13 ∨ j = 14 ∨ j = 15 ∨ j = 16 ∨ j = 17 ∨ j = 18 ∨ j = 19 ∨ j = 20 ∨ j = 21 ∨ j = 22 := by omega
            · exact valG (θ := θ) (.pointer (some ⟨mb, 0, none⟩)) ho (by cases ho; rfl) (by cases ho; simp [execOp, go_sem, HA.tm, lookT]) (by cases ho; exact fun d hd => by cases hd; simp) (HJ)
            · exact loadG (θ := θ) (v := (.agg (qL s.q r.ka r.va r.kc r.vc).toArray)) 35 (.tmp 10) ho (by cases ho; rfl) (by cases ho; rfl) (by simp [HA.ev, HA.tm, lookT, Act.eval]) (run_loadAt_mid WW qb 0 35 (qL s.q r.ka r.va r.kc r.vc) _ (rangeAt_blk HJ.out.qw) Try.underlying35 rfl (by kernel_rfl)) (by cases ho; exact fun d hd => by cases hd; simp) (HJ)
            · exact loadG (θ := θ) (v := (.agg (aL a5 aa ac none 0).toArray)) 38 (.tmp 12) ho (by cases ho; rfl) (by cases ho; rfl) (by simp [HA.ev, HA.tm, lookT, Act.eval]) (run_loadAt_mid WW ab 0 38 (aL a5 aa ac none 0) _ (rangeAt_blk HJ.out.aw) Try.underlying38 rfl (by kernel_rfl)) (by cases ho; exact fun d hd => by cases hd; simp) (HJ)
            · exact valG (θ := θ) (.int .u32 now') ho (by cases ho; rfl) (by cases ho; simp [execOp, go_sem, HA.tm, lookT]) (by cases ho; exact fun d hd => by cases hd; simp) (HJ)
            · have p0 : done 0 = true := by cases ho; exact hdep ⟨0, .data⟩ (by simp) rfl
              have p1 : done 1 = true := by cases ho; exact hdep ⟨1, .data⟩ (by simp) rfl
              have p2 : done 2 = true := by cases ho; exact hdep ⟨2, .data⟩ (by simp) rfl
              have p3 : done 3 = true := by cases ho; exact hdep ⟨3, .data⟩ (by simp) rfl
              have n5 : done 5 = false := by cases hx : done 5 with | false => rfl | true => have := hcl 5 _ rfl hx ⟨4, .data⟩ (by simp) rfl; rw [hd] at this; cases this
              have n6 : done 6 = false := by cases hx : done 6 with | false => rfl | true => have := hcl 6 _ rfl hx ⟨5, .data⟩ (by simp) rfl; rw [n5] at this; cases this
              have n7 : done 7 = false := by cases hx : done 7 with | false => rfl | true => have := hcl 7 _ rfl hx ⟨6, .guard⟩ (by simp) rfl; rw [n6] at this; cases this
              have n11 : done 11 = false := by cases hx : done 11 with | false => rfl | true => have := hcl 11 _ rfl hx ⟨7, .data⟩ (by simp) rfl; rw [n7] at this; cases this
              exact callG (θ := θ) (f := 13) (args := #[.pointer (some ⟨mb, 0, none⟩), (.agg (qL s.q r.ka r.va r.kc r.vc).toArray), (.agg (aL a5 aa ac none 0).toArray), .int .u32 now']) ho (by cases ho; rfl) (by cases ho; simp [execOp, go_sem, HA.tm, lookT, p0, p1, p2, p3]) (HAL.out WW (by have h := HJ; rw [n11] at h; exact h)) (by
                rintro e w' ⟨rfl, h⟩
                exact ⟨_, (), rfl, by cases ho; exact fun d hd => by cases hd; simp, .inl rfl, by show Hid (TkJ w m (.slice (some ⟨g, 0, none⟩) m oc) ((List.range m).flatMap fun i => sdC (shortS (S i)) (R' i)) mb cb ck qb ab s.q r.ka r.va r.kc r.vc a5 aa ac Y Y' c5 (done 11) w'); rw [n11]; exact h⟩)
            · have p4 : done 4 = true := by cases ho; exact hdep ⟨4, .data⟩ (by simp) rfl
              exact valG (θ := θ) (.bool false) ho (by cases ho; rfl) (by cases ho; simp [execOp, go_sem, HA.tm, lookT, p4]) (by cases ho; exact fun d hd => by cases hd; simp) (HJ)
            · have p5 : done 5 = true := by cases ho; exact hdep ⟨5, .data⟩ (by simp) rfl
              exact valG (θ := θ) (.bool false) ho (by cases ho; rfl) (by cases ho; simp [execOp, go_sem, HA.tm, lookT, p5]) (by cases ho; exact fun d hd => by cases hd; simp) (HJ)
            · have p6 : done 6 = true := by cases ho; exact hdep ⟨6, .guard⟩ (by simp) rfl
              exact valG (θ := θ) (.pointer (some ⟨mb, 0, none⟩)) ho (by cases ho; simp [Region.wanted, yielded, HA.tm, lookT, go_sem, p6]) (by cases ho; simp [execOp, go_sem, HA.tm, lookT, p6]) (by cases ho; exact fun d hd => by cases hd; simp) (HJ)
            · have p6 : done 6 = true := by cases ho; exact hdep ⟨6, .guard⟩ (by simp) rfl
              exact loadG (θ := θ) (v := (.agg (qL s.q r.ka r.va r.kc r.vc).toArray)) 35 (.tmp 10) ho (by cases ho; simp [Region.wanted, yielded, HA.tm, lookT, go_sem, p6]) (by cases ho; rfl) (by simp [HA.ev, HA.tm, lookT, Act.eval, p6]) (run_loadAt_mid WW qb 0 35 (qL s.q r.ka r.va r.kc r.vc) _ (rangeAt_blk HJ.out.qw) Try.underlying35 rfl (by kernel_rfl)) (by cases ho; exact fun d hd => by cases hd; simp) (HJ)
            · have p6 : done 6 = true := by cases ho; exact hdep ⟨6, .guard⟩ (by simp) rfl
              exact loadG (θ := θ) (v := (.agg (aL a5 aa ac none 0).toArray)) 38 (.tmp 12) ho (by cases ho; simp [Region.wanted, yielded, HA.tm, lookT, go_sem, p6]) (by cases ho; rfl) (by simp [HA.ev, HA.tm, lookT, Act.eval, p6]) (run_loadAt_mid WW ab 0 38 (aL a5 aa ac none 0) _ (rangeAt_blk HJ.out.aw) Try.underlying38 rfl (by kernel_rfl)) (by cases ho; exact fun d hd => by cases hd; simp) (HJ)
            · have p6 : done 6 = true := by cases ho; exact hdep ⟨6, .guard⟩ (by simp) rfl
              exact valG (θ := θ) (.int .u32 now') ho (by cases ho; simp [Region.wanted, yielded, HA.tm, lookT, go_sem, p6]) (by cases ho; simp [execOp, go_sem, HA.tm, lookT, p6]) (by cases ho; exact fun d hd => by cases hd; simp) (HJ)
            · have p7 : done 7 = true := by cases ho; exact hdep ⟨7, .data⟩ (by simp) rfl
              have p8 : done 8 = true := by cases ho; exact hdep ⟨8, .data⟩ (by simp) rfl
              have p9 : done 9 = true := by cases ho; exact hdep ⟨9, .data⟩ (by simp) rfl
              have p10 : done 10 = true := by cases ho; exact hdep ⟨10, .data⟩ (by simp) rfl
              have p6 : done 6 = true := by cases ho; exact hdep ⟨6, .guard⟩ (by simp) rfl
              exact callG (θ := θ) (f := 10) (args := #[.pointer (some ⟨mb, 0, none⟩), (.agg (qL s.q r.ka r.va r.kc r.vc).toArray), (.agg (aL a5 aa ac none 0).toArray), .int .u32 now']) ho (by cases ho; simp [Region.wanted, yielded, HA.tm, lookT, go_sem, p6, p7, p8, p9, p10]) (by cases ho; simp [execOp, go_sem, HA.tm, lookT, p6, p7, p8, p9, p10]) (HSP.out WW (by have h := HJ; rw [hd] at h; exact h)) (by
                rintro e w' ⟨rfl, h⟩
                exact ⟨_, (), rfl, by cases ho; exact fun d hd => by cases hd; simp, .inl rfl, h⟩)
            · have p11 : done 11 = true := by cases ho; exact hdep ⟨11, .data⟩ (by simp) rfl
              have p6 : done 6 = true := by cases ho; exact hdep ⟨6, .guard⟩ (by simp) rfl
              exact valG (θ := θ) (.bool false) ho (by cases ho; simp [Region.wanted, yielded, HA.tm, lookT, go_sem, p6, p11]) (by cases ho; simp [execOp, go_sem, HA.tm, lookT, p6, p11]) (by cases ho; exact fun d hd => by cases hd; simp) (HJ)
            · have p6 : done 6 = true := by cases ho; exact hdep ⟨6, .data⟩ (by simp) rfl
              have p12 : done 12 = true := by cases ho; exact hdep ⟨12, .data⟩ (by simp) rfl
              exact valG (θ := θ) (.bool false) ho (by cases ho; rfl) (by cases ho; simp [execOp, go_sem, HA.tm, lookT, p6, p12]) (by cases ho; exact fun d hd => by cases hd; simp) (HJ)
            · have p13 : done 13 = true := by cases ho; exact hdep ⟨13, .data⟩ (by simp) rfl
              exact valG (θ := θ) (.bool false) ho (by cases ho; rfl) (by cases ho; simp [execOp, go_sem, HA.tm, lookT, p13]) (by cases ho; exact fun d hd => by cases hd; simp) (HJ)
            · have p14 : done 14 = true := by cases ho; exact hdep ⟨14, .guard⟩ (by simp) rfl
              exact valG (θ := θ) (.pointer (some ⟨mb, 0, none⟩)) ho (by cases ho; simp [Region.wanted, yielded, HA.tm, lookT, go_sem, p14]) (by cases ho; simp [execOp, go_sem, HA.tm, lookT, p14]) (by cases ho; exact fun d hd => by cases hd; simp) (HJ)
            · have p15 : done 15 = true := by cases ho; exact hdep ⟨15, .data⟩ (by simp) rfl
              have p14 : done 14 = true := by cases ho; exact hdep ⟨14, .guard⟩ (by simp) rfl
              have p13 : done 13 = true := hcl 14 _ rfl p14 ⟨13, .data⟩ (by simp) rfl
              have p12 : done 12 = true := hcl 13 _ rfl p13 ⟨12, .data⟩ (by simp) rfl
              have p11 : done 11 = true := hcl 12 _ rfl p12 ⟨11, .data⟩ (by simp) rfl
              exact callG (θ := θ) (f := 14) (args := #[.pointer (some ⟨mb, 0, none⟩)]) ho (by cases ho; simp [Region.wanted, yielded, HA.tm, lookT, go_sem, p11, p12, p13, p14, p15]) (by cases ho; simp [execOp, go_sem, HA.tm, lookT, p11, p12, p13, p14, p15]) ((show TkJ w m (.slice (some ⟨g, 0, none⟩) m oc) ((List.range m).flatMap fun i => sdC (shortS (S i)) (R' i)) mb cb ck qb ab s.q r.ka r.va r.kc r.vc a5 aa ac Y Y' c5 true WW from by have h := HJ.out; rw [p11] at h; exact h).token HL7.out.tok) (by
                rintro e w' ⟨rfl, rfl⟩
                exact ⟨_, (), rfl, by cases ho; exact fun d hd => by cases hd; simp, .inl rfl, HJ⟩)
            · have p14 : done 14 = true := by cases ho; exact hdep ⟨14, .guard⟩ (by simp) rfl
              exact valG (θ := θ) (.pointer (some ⟨cb, 0, none⟩)) ho (by cases ho; simp [Region.wanted, yielded, HA.tm, lookT, go_sem, p14]) (by cases ho; simp [execOp, go_sem, HA.tm, lookT, p14]) (by cases ho; exact fun d hd => by cases hd; simp) (HJ)
            · have p17 : done 17 = true := by cases ho; exact hdep ⟨17, .data⟩ (by simp) rfl
              have p14 : done 14 = true := by cases ho; exact hdep ⟨14, .guard⟩ (by simp) rfl
              exact valG (θ := θ) (.pointer (some ⟨cb, 0, none⟩)) ho (by cases ho; simp [Region.wanted, yielded, HA.tm, lookT, go_sem, p14, p17]) (by cases ho; simp [execOp, go_sem, HA.tm, lookT, p14, p17]) (by cases ho; exact fun d hd => by cases hd; simp) (HJ)
            · have p18 : done 18 = true := by cases ho; exact hdep ⟨18, .data⟩ (by simp) rfl
              have p14 : done 14 = true := by cases ho; exact hdep ⟨14, .guard⟩ (by simp) rfl
              exact valG (θ := θ) (.pointer (some ⟨cb, 1, none⟩)) ho (by cases ho; simp [Region.wanted, yielded, HA.tm, lookT, go_sem, p14, p18]) (by cases ho; simp [execOp, go_sem, HA.tm, lookT, p14, p18]) (by cases ho; exact fun d hd => by cases hd; simp) (HJ)
            · have p19 : done 19 = true := by cases ho; exact hdep ⟨19, .data⟩ (by simp) rfl
              have p14 : done 14 = true := by cases ho; exact hdep ⟨14, .guard⟩ (by simp) rfl
              exact valG (θ := θ) (.int .u64 c5.last) ho (by cases ho; simp [Region.wanted, yielded, HA.tm, lookT, go_sem, p14, p19]) (by cases ho; simp [execOp, go_sem, HA.tm, lookT, p14, p19, blk_cell HJ.out.lw.ca.blk 1]) (by cases ho; exact fun d hd => by cases hd; simp) (HJ)
            · have p16 : done 16 = true := by cases ho; exact hdep ⟨16, .data⟩ (by simp) rfl
              have p20 : done 20 = true := by cases ho; exact hdep ⟨20, .data⟩ (by simp) rfl
              have p14 : done 14 = true := by cases ho; exact hdep ⟨14, .guard⟩ (by simp) rfl
              exact valG (θ := θ) (.bool false) ho (by cases ho; simp [Region.wanted, yielded, HA.tm, lookT, go_sem, p14, p16, p20]) (by cases ho; simp [execOp, go_sem, HA.tm, lookT, p14, p16, p20]) (by cases ho; exact fun d hd => by cases hd; simp) (HJ)
            · have p14 : done 14 = true := by cases ho; exact hdep ⟨14, .data⟩ (by simp) rfl
              have p21 : done 21 = true := by cases ho; exact hdep ⟨21, .data⟩ (by simp) rfl
              exact valG (θ := θ) (.bool false) ho (by cases ho; rfl) (by cases ho; simp [execOp, go_sem, HA.tm, lookT, p14, p21]) (by cases ho; exact fun d hd => by cases hd; simp) (HJ)
          · intro θ done W9 hall HJ0
            have z0 := hall 0 (by decide)
            have z1 := hall 1 (by decide)
            have z2 := hall 2 (by decide)
            have z3 := hall 3 (by decide)
            have z4 := hall 4 (by decide)
            have z5 := hall 5 (by decide)
            have z6 := hall 6 (by decide)
            have z7 := hall 7 (by decide)
            have z8 := hall 8 (by decide)
            have z9 := hall 9 (by decide)
            have z10 := hall 10 (by decide)
            have z11 := hall 11 (by decide)
            have z12 := hall 12 (by decide)
            have z13 := hall 13 (by decide)
            have z14 := hall 14 (by decide)
            have z15 := hall 15 (by decide)
            have z16 := hall 16 (by decide)
            have z17 := hall 17 (by decide)
            have z18 := hall 18 (by decide)
            have z19 := hall 19 (by decide)
            have z20 := hall 20 (by decide)
            have z21 := hall 21 (by decide)
            have z22 := hall 22 (by decide)
            try simp only [z0, z1, z2, z3, z4, z5, z6, z7, z8, z9, z10, z11, z12, z13, z14, z15, z16, z17, z18, z19, z20, z21, z22] at HJ0
            clear hall z0 z1 z2 z3 z4 z5 z6 z7 z8 z9 z10 z11 z12 z13 z14 z15 z16 z17 z18 z19 z20 z21 z22
            simp only [putAll, Act.put, List.setIfInBounds_toArray, List.set_cons_succ, List.set_cons_zero]
            have HFIN : Hid (∃ ck Y c, LawW w m (.slice (some ⟨g, 0, none⟩) m oc) ((List.range m).flatMap fun i => sdC (shortS (S i)) (R' i)) mb cb ck Y c W9 ∧ LInv Y c now' (k + 1)) := ⟨ck, Y', c5, HJ0.out.lw, HL7.out⟩
            clear HJ0
            go_wp2_with fail
            go_meet
            case rel => exact HFIN.out
    case rest =>
    obtain ⟨ck8, Y8, c8, hW8, hL8⟩ := hcut.out
    have HW8 := Lib.hid hW8
    have HL8 := Lib.hid hL8
    clear hW8 hL8 hcut HW6 HL6 HQ6 HKEY HVAL HQOK HQV HQK
    obtain ⟨WB2, hwb⟩ : ∃ WB2, WB2 = wc := ⟨_, rfl⟩
    subst hwb
    have kc := fun (w : World) (C : Array Value) (n c g : Nat) (hg : g = w.heap.size) => Go.Joins.run_convert_bytes_const_at (P := Try.prog) w 23 5 C n c g hg Try.underlying23 Try.underlying5
    obtain ⟨kb, hkb⟩ : ∃ b, WB2.heap.size = b := ⟨_, rfl⟩
    obtain ⟨gb, hgb⟩ : ∃ b, WB2.heap.size + 1 = b := ⟨_, rfl⟩
    obtain ⟨WE, hWE⟩ : ∃ W, (WB2.alloc (.cells #[.int .u8 107] 5 (1, 2))).alloc (.cells #[.int .i64 0, .bool false, .bool false, .int .i64 0, .int .u32 0, .slice (some ⟨kb, 0, none⟩) 1 1, .slice none 0 0, .int .u32 0, .int .u32 0, .int .u64 0, .int .u64 0, .int .u64 0] 35) = W := ⟨_, rfl⟩
    have HJ1 : Hid (TkK w m (.slice (some ⟨g, 0, none⟩) m oc) ((List.range m).flatMap fun i => sdC (shortS (S i)) (R' i)) mb cb ck8 kb gb Y8 c8 WE) := by rw [← hWE]; exact TkK.start HW8.out hkb hgb
    have HKB := Lib.hid hkb
    have HGB := Lib.hid hgb
    have HWE := Lib.hid hWE
    clear hkb hgb hWE
    go_upto_region 24 with fail
    rw [HGB.out, HKB.out, HWE.out]
    clear kc
    try dsimp only [Act.put]
    have hlen : (Y8.now [107]).length ≤ 10000 := by have := (HL8.out.len [107]).1; omega
    have HAL : Hid (∀ WW, Hid (TkK w m (.slice (some ⟨g, 0, none⟩) m oc) ((List.range m).flatMap fun i => sdC (shortS (S i)) (R' i)) mb cb ck8 kb gb Y8 c8 WW) → Calls Try.prog 13 #[.pointer (some ⟨mb, 0, none⟩), .agg (qL (getQ [107]) (some ⟨kb, 0, none⟩) none 1 0).toArray, ansV 1 (.slice none 0 0) 0 0 0 (.slice none 0 0) false, .int .u32 now'] WW fun e w' => e = .returned (.bool true) ∧ Hid (TkK w m (.slice (some ⟨g, 0, none⟩) m oc) ((List.range m).flatMap fun i => sdC (shortS (S i)) (R' i)) mb cb ck8 kb gb Y8 c8 w')) := fun WW h => h.out.allows now' HNN.out.2 hlen
    clear hlen
    refine wp_region_gh (Θ := Unit) (fun θ => [(0, 112, (.pointer (some ⟨mb, 0, none⟩))), (1, 113, (.agg (qL (getQ [107]) (some ⟨kb, 0, none⟩) none 1 0).toArray)), (2, 114, (ansV 1 (.slice none 0 0) 0 0 0 (.slice none 0 0) false)), (3, 115, (.int .u32 now')), (4, 116, (.bool true)), (5, 117, (.bool false))]) (fun _ done WW => Hid (TkK w m (.slice (some ⟨g, 0, none⟩) m oc) ((List.range m).flatMap fun i => sdC (shortS (S i)) (R' i)) mb cb ck8 kb gb Y8 c8 WW)) (by kernel_rfl) (hord_of2 (by kernel_rfl)) (fun _ => by kernel_rfl) (fun _ => by kernel_rfl) (fun _ => by kernel_rfl) (⟨(), HJ1.out.below (hbelow_drew _)⟩) ?_ ?_
    · intro θ done zb WW j oq ho hd hdep hcl HA HJ
      have hj : j < 6 := (Array.getElem?_eq_some_iff.1 ho).1
      obtain rfl | rfl | rfl | rfl | rfl | rfl : j = 0 ∨ j = 1 ∨ j = 2 ∨ j = 3 ∨ j = 4 ∨ j = 5 := by omega
      · exact valG (θ := θ) (.pointer (some ⟨mb, 0, none⟩)) ho (by cases ho; rfl) (by cases ho; simp [execOp, go_sem, HA.tm, lookT]) (by cases ho; exact fun d hd => by cases hd; simp) (HJ)
      · exact loadG (θ := θ) (v := (.agg (qL (getQ [107]) (some ⟨kb, 0, none⟩) none 1 0).toArray)) 35 (.tmp 13) ho (by cases ho; rfl) (by cases ho; rfl) (by simp [HA.ev, HA.tm, lookT, Act.eval]) (run_loadAt_mid WW gb 0 35 (qL (getQ [107]) (some ⟨kb, 0, none⟩) none 1 0) _ (rangeAt_blk HJ.out.qw) Try.underlying35 rfl (by kernel_rfl)) (by cases ho; exact fun d hd => by cases hd; simp) (HJ)
      · exact callG (θ := θ) (f := 9) (args := #[.int .i64 1]) ho (by cases ho; rfl) (by cases ho; simp [execOp, go_sem, HA.tm, lookT]) (fail9 WW 1) (by
          rintro e w' ⟨rfl, h⟩
          exact ⟨_, (), rfl, by cases ho; exact fun d hd => by cases hd; simp, .inl rfl, HJ.out.below h⟩)
      · exact valG (θ := θ) (.int .u32 now') ho (by cases ho; rfl) (by cases ho; simp [execOp, go_sem, HA.tm, lookT]) (by cases ho; exact fun d hd => by cases hd; simp) (HJ)
      · have p0 : done 0 = true := by cases ho; exact hdep ⟨0, .data⟩ (by simp) rfl
        have p1 : done 1 = true := by cases ho; exact hdep ⟨1, .data⟩ (by simp) rfl
        have p2 : done 2 = true := by cases ho; exact hdep ⟨2, .data⟩ (by simp) rfl
        have p3 : done 3 = true := by cases ho; exact hdep ⟨3, .data⟩ (by simp) rfl
        exact callG (θ := θ) (f := 13) (args := #[.pointer (some ⟨mb, 0, none⟩), (.agg (qL (getQ [107]) (some ⟨kb, 0, none⟩) none 1 0).toArray), (ansV 1 (.slice none 0 0) 0 0 0 (.slice none 0 0) false), .int .u32 now']) ho (by cases ho; rfl) (by cases ho; simp [execOp, go_sem, HA.tm, lookT, p0, p1, p2, p3]) (HAL.out WW HJ) (by
          rintro e w' ⟨rfl, h⟩
          exact ⟨_, (), rfl, by cases ho; exact fun d hd => by cases hd; simp, .inl rfl, h⟩)
      · have p4 : done 4 = true := by cases ho; exact hdep ⟨4, .data⟩ (by simp) rfl
        exact valG (θ := θ) (.bool false) ho (by cases ho; rfl) (by cases ho; simp [execOp, go_sem, HA.tm, lookT, p4]) (by cases ho; exact fun d hd => by cases hd; simp) (HJ)
    · intro θ done W9 hall HJ0
      have z0 := hall 0 (by decide)
      have z1 := hall 1 (by decide)
      have z2 := hall 2 (by decide)
      have z3 := hall 3 (by decide)
      have z4 := hall 4 (by decide)
      have z5 := hall 5 (by decide)
      try simp only [z0, z1, z2, z3, z4, z5] at HJ0
      clear hall z0 z1 z2 z3 z4 z5
      simp only [putAll, Act.put, List.setIfInBounds_toArray, List.set_cons_succ, List.set_cons_zero]
      have HFIN : Hid (TakI w m (.slice (some ⟨g, 0, none⟩) m oc) ((List.range m).flatMap fun i => sdC (shortS (S i)) (R' i)) mb cb now' (k + 1) W9) := ⟨⟨ck8, Y8, c8, HJ0.out.lw, HL8.out⟩, HNN.out.2⟩
      clear HJ0
      go_wp2_with fail
      go_roundg (m - (k + 1))
      case measure => omega
      case rel => exact ⟨k + 1, now', by omega, rfl, rfl, by go_num, HFIN.out⟩
  · obtain rfl : m = k := by omega
    have hb := HTK.out.1
    obtain ⟨ck, Y, c, hW, _⟩ := hb
    have HB := Lib.hid hW.bel
    clear hW HTK
    go_wp2_with fail
    go_ret
    exact ⟨rfl, HB.out⟩
end Go.Proofs.Ytngpffmgkponfaa
