/- The law's cache: do. Conditions: the cache, the request lie in memory. -/
import Derived.Test.YtngpffmgkponfaaTrn
import Derived.Test.YtngpffmgkponfaaRegD
set_option linter.unusedVariables false
set_option linter.unusedSimpArgs false
namespace Go.Idl
open Go.Proofs.Ytngpffmgkponfaa
section
variable {c : Ca} {q : Rq} {now : Int}
theorem turn_bare (c : Ca) (q : Rq) (t : Tv) (is : Bool) (now : Int) : (c.turn q t is now).2.val = [] ∧ (c.turn q t is now).2.fl = 0 ∧ (c.turn q t is now).2.stats = [] ∧ (c.turn q t is now).2.cl = false := by
  unfold Ca.turn
  repeat' split
  all_goals exact ⟨rfl, rfl, rfl, rfl⟩
theorem do_a (h : c.has q.key now = false) (ho : q.op = 14 ∨ q.op = 15) : c.do q now = (c, failA 5) := by unfold Ca.do; rw [if_pos ⟨h, ho⟩]
theorem do_t0 (h : c.has q.key now = false) (ho : q.op = 5 ∨ q.op = 6) : c.do q now = c.turn q (c.raw q.key) false now := by
  unfold Ca.do
  rw [if_neg (by omega), if_neg (by rintro ⟨_, _, h1, h2, _⟩; omega), if_neg (by rw [h]; simp), if_neg (by omega), if_neg (by omega), if_neg (by omega), if_neg (by omega), if_pos ho, h]
theorem do_o2 (h : c.has q.key now = false) (ho : q.op = 2) : c.do q now = (c.put q.key (ownT q now), okA (c.last + 1) 0) := by
  unfold Ca.do
  rw [if_neg (by omega), if_neg (by rintro ⟨_, h1, _⟩; omega), if_neg (by rw [h]; simp), if_neg (by omega), if_neg (by omega), if_neg (by omega), if_neg (by omega), if_neg (by omega)]
theorem do_m1 (h : c.has q.key now = false) (ho : q.op = 1) (hc : q.casB = true) : c.do q now = (c, failA 1) := by
  unfold Ca.do
  rw [if_neg (by omega), if_pos ⟨h, by omega, by omega, by omega, .inr hc⟩]
theorem do_o1 (h : c.has q.key now = false) (ho : q.op = 1) (hc : q.casB = false) : c.do q now = (c.put q.key (ownT q now), okA (c.last + 1) 0) := by
  unfold Ca.do
  rw [if_neg (by omega), if_neg (by rintro ⟨_, _, _, _, h1 | h1⟩; omega; rw [hc] at h1; cases h1), if_neg (by rw [h]; simp), if_neg (by omega), if_neg (by omega), if_neg (by omega), if_neg (by omega), if_neg (by omega)]
theorem do_m (h : c.has q.key now = false) (ho : ¬ q.op = 14 ∧ ¬ q.op = 15 ∧ ¬ q.op = 5 ∧ ¬ q.op = 6 ∧ ¬ q.op = 2 ∧ ¬ q.op = 1) : c.do q now = (c, failA 1) := by
  unfold Ca.do
  rw [if_neg (by omega), if_pos ⟨h, by omega, by omega, by omega, .inl (by omega)⟩]
theorem do_th2 (h : c.has q.key now = true) (ho : q.op = 2) : c.do q now = (c, failA 2) := by
  unfold Ca.do
  rw [if_neg (by rw [h]; simp), if_neg (by rw [h]; simp), if_pos (.inr ⟨h, ho⟩)]
theorem do_thc (h : c.has q.key now = true) (hc : q.casB = true) (hn : (c.raw q.key).cas ≠ q.cas) : c.do q now = (c, failA 2) := by
  unfold Ca.do
  rw [if_neg (by rw [h]; simp), if_neg (by rw [h]; simp), if_pos (.inl ⟨h, hc, hn⟩)]
theorem do_is (h : c.has q.key now = true) (hn : ¬ (q.casB = true ∧ (c.raw q.key).cas ≠ q.cas)) (h2 : q.op ≠ 2) : c.do q now = 
  if q.op = 0 then (c, tellA (c.raw q.key) (c.raw q.key).cas)
  else if q.op = 28 ∨ q.op = 29 then (c.put q.key ⟨(c.raw q.key).val, (c.raw q.key).fl, expiryF now q.ex, (c.raw q.key).cas⟩, if q.op = 29 then tellA (c.raw q.key) (c.last + 1) else okA (c.last + 1) 0)
  else if q.op = 14 ∨ q.op = 15 then (if 512 < (c.raw q.key).val.length + q.val.length then (c, failA 3) else (c.put q.key (joinT q (c.raw q.key)), okA (c.last + 1) 0))
  else if q.op = 4 then (c.del q.key, okA 0 0)
  else if q.op = 5 ∨ q.op = 6 then c.turn q (c.raw q.key) true now
  else (c.put q.key (ownT q now), okA (c.last + 1) 0) := by
  unfold Ca.do
  rw [if_neg (by rw [h]; simp), if_neg (by rw [h]; simp), if_neg (by rintro (⟨_, e⟩ | ⟨_, e⟩); exact hn e; exact h2 e), h]
end
end Go.Idl
namespace Go.Proofs.Ytngpffmgkponfaa
open Go.RowKit Go.Ice Go.Idl
theorem keep7 {W : World} {a b j : Nat} (h : a ≠ b) {x x0 x1 x2 x3 x4 x5 x6 : Value} (hc : W.cell? ⟨a, j, none⟩ = some x) : (((((((W.setCell ⟨b, 0, none⟩ x0).setCell ⟨b, 1, none⟩ x1).setCell ⟨b, 2, none⟩ x2).setCell ⟨b, 3, none⟩ x3).setCell ⟨b, 4, none⟩ x4).setCell ⟨b, 5, none⟩ x5).setCell ⟨b, 6, none⟩ x6).cell? ⟨a, j, none⟩ = some x :=
  keepv h _ (keepv h _ (keepv h _ (keepv h _ (keepv h _ (keepv h _ (keepv h _ hc))))))
theorem wp_opaque {P : Program} {c : Code} {Q : Exit → Act → World → Prop} {a : Act} {w : World} (h : ∀ A : Act, A = a → Code.wp P c Q A w) : Code.wp P c Q a w := h a rfl
theorem copy_bytes_d (w : World) (x : Value) (l : List UInt8) (hl : BytesAt w x l) (hm : l.length ≤ 1000000) : ∃ a c w', (Builtin.append_ #[23, 23] 23 #[.slice (some ⟨w.heap.size, 0, none⟩) 0 0, x]).run Try.prog (w.alloc (.cells #[] 5)).drew = .ok (.slice a l.length c) w' ∧
    w'.ownsRow w.heap.size 5 1 (.slice a l.length c) l.length (l.map u8v) ∧ Below w.heap.size w w' := by
  obtain ⟨a, c, w', h1, h2, h3⟩ := copy_bytes w.drew x l hl hm
  exact ⟨a, c, w', h1, h2, (hbelow_drew w).trans h3⟩
def ansF (f L : Int) : Array Value := #[.int .i64 0, .slice none 0 0, .int .u32 f, .int .u64 L, .int .u64 0, .slice none 0 0, .bool false]
theorem ansF_u8 (f L : Int) : ∀ (j : Nat) (c : UInt8), (ansF f L)[j]? ≠ some (u8v c) := by
  intro j c
  unfold ansF u8v
  rcases (show j = 0 ∨ j = 1 ∨ j = 2 ∨ j = 3 ∨ j = 4 ∨ j = 5 ∨ j = 6 ∨ 7 ≤ j by omega) with rfl | rfl | rfl | rfl | rfl | rfl | rfl | h
  all_goals first | simp; done | skip
  rw [Array.getElem?_eq_none (by simpa using h)]
  simp
section
variable {W4 W5 : World} {E : Nat → Prop} {cb ck ab : Nat} {c' : Ca} {f L : Int} {v : Value} {l : List UInt8}
theorem gat_a (hb : W5.heap[ab]? = some (.cells (ansF 0 L) 38 (0, 0))) (hx : BytesIn W5 E v l) (hc : CaAt W5 E cb ck c') (hf : Frm (fun b => b = ab) W4 W5) :
    ((W5.setCell ⟨ab, 1, none⟩ v).setCell ⟨ab, 2, none⟩ (.int .u32 f)).heap[ab]? = some (.cells #[.int .i64 0, v, .int .u32 f, .int .u64 L, .int .u64 0, .slice none 0 0, .bool false] 38 (0, 0)) ∧ BytesIn ((W5.setCell ⟨ab, 1, none⟩ v).setCell ⟨ab, 2, none⟩ (.int .u32 f)) E v l ∧ CaAt ((W5.setCell ⟨ab, 1, none⟩ v).setCell ⟨ab, 2, none⟩ (.int .u32 f)) E cb ck c' ∧ Frm (fun b => b = ab) W4 ((W5.setCell ⟨ab, 1, none⟩ v).setCell ⟨ab, 2, none⟩ (.int .u32 f)) := by
  have h2 := (setCell_frm1 W5 ab 1 v).trans (setCell_frm1 (W5.setCell ⟨ab, 1, none⟩ v) ab 2 (.int .u32 f))
  exact ⟨(blk_setAt (blk_setAt hb v) _).trans (congrArg (fun c => some (Obj.cells c 38 (0, 0))) (by simp [ansF])), hx.keepB h2 hb (ansF_u8 _ _), hc.keepB h2 hb (by decide) (ansF_u8 _ _), hf.trans h2⟩
theorem gat_b (hb : W5.heap[ab]? = some (.cells (ansF 0 L) 38 (0, 0))) (hx : BytesIn W5 E v l) (hc : CaAt W5 E cb ck c') (hf : Frm (fun b => b = ab) W4 W5) :
    ((W5.setCell ⟨ab, 2, none⟩ (.int .u32 f)).setCell ⟨ab, 1, none⟩ v).heap[ab]? = some (.cells #[.int .i64 0, v, .int .u32 f, .int .u64 L, .int .u64 0, .slice none 0 0, .bool false] 38 (0, 0)) ∧ BytesIn ((W5.setCell ⟨ab, 2, none⟩ (.int .u32 f)).setCell ⟨ab, 1, none⟩ v) E v l ∧ CaAt ((W5.setCell ⟨ab, 2, none⟩ (.int .u32 f)).setCell ⟨ab, 1, none⟩ v) E cb ck c' ∧ Frm (fun b => b = ab) W4 ((W5.setCell ⟨ab, 2, none⟩ (.int .u32 f)).setCell ⟨ab, 1, none⟩ v) := by
  have h2 := (setCell_frm1 W5 ab 2 (.int .u32 f)).trans (setCell_frm1 (W5.setCell ⟨ab, 2, none⟩ (.int .u32 f)) ab 1 v)
  exact ⟨(blk_setAt (blk_setAt hb (.int .u32 f)) _).trans (congrArg (fun c => some (Obj.cells c 38 (0, 0))) (by simp [ansF])), hx.keepB h2 hb (ansF_u8 _ _), hc.keepB h2 hb (by decide) (ansF_u8 _ _), hf.trans h2⟩
theorem gat_c (hb : W5.heap[ab]? = some (.cells (ansF f L) 38 (0, 0))) (hx : BytesIn W5 E v l) (hc : CaAt W5 E cb ck c') (hf : Frm (fun b => b = ab) W4 W5) :
    (W5.setCell ⟨ab, 1, none⟩ v).heap[ab]? = some (.cells #[.int .i64 0, v, .int .u32 f, .int .u64 L, .int .u64 0, .slice none 0 0, .bool false] 38 (0, 0)) ∧ BytesIn (W5.setCell ⟨ab, 1, none⟩ v) E v l ∧ CaAt (W5.setCell ⟨ab, 1, none⟩ v) E cb ck c' ∧ Frm (fun b => b = ab) W4 (W5.setCell ⟨ab, 1, none⟩ v) := by
  have h2 := setCell_frm1 W5 ab 1 v
  exact ⟨(blk_setAt hb v).trans (congrArg (fun c => some (Obj.cells c 38 (0, 0))) (by simp [ansF])), hx.keepB h2 hb (ansF_u8 _ _), hc.keepB h2 hb (by decide) (ansF_u8 _ _), hf.trans h2⟩
end
/-- What stands behind the first two statements of do. -/
structure DoI (w : World) (E : Nat → Prop) (cb ck : Nat) (c : Ca) (q : Rq) (r : Raw) (now : Int) (t : Tv) (x : Value) (qb rb vb ob : Nat) (W : World) : Prop where
  bel : Below w.heap.size w W
  ca : CaAt W E cb ck c
  hq : W.heap[qb]? = some (.cells (rqC q r.ka r.va r.kc r.vc) 35 (0, 0))
  hr : W.heap[rb]? = some (.cells (ansC0 0 0 0) 38 (0, 0))
  hv : W.heap[vb]? = some (.cells (boxC x t) 49 (0, 0))
  ho : W.heap[ob]? = some (.cells (boxC (.slice r.va q.val.length r.vc) (ownT q now)) 49 (0, 0))
  xb : BytesIn W E x t.val
  tok : Tv.ok t

set_option maxHeartbeats 8000000 in
set_option maxRecDepth 20000 in
theorem do12 (w : World) (E : Nat → Prop) (cb ck : Nat) (c : Ca) (h : CaAt w E cb ck c) (hE : ∀ b, w.heap.size ≤ b → E b) (q : Rq) (r : Raw) (hkey : BytesIn w E (.slice r.ka q.key.length r.kc) q.key) (hval : BytesIn w E (.slice r.va q.val.length r.vc) q.val) (hqok : Rq.ok q) (hqv : q.val.length ≤ 1000) (hl : c.last < 1000000) (now : Int) (hnow : 0 ≤ now ∧ now ≤ 4294967295) :
    Calls Try.prog 12 #[.pointer (some ⟨cb, 0, none⟩), rqV q r.ka r.va r.kc r.vc, .int .u32 now] w fun e w' => ∃ va vc, e = .returned (ansV (c.do q now).2.st (.slice va (c.do q now).2.val.length vc) (c.do q now).2.fl (c.do q now).2.cas (c.do q now).2.num (.slice none 0 0) (c.do q now).2.cl) ∧
      BytesIn w' E (.slice va (c.do q now).2.val.length vc) (c.do q now).2.val ∧ CaAt w' E cb ck (c.do q now).1 ∧ Frm (fun b => b = cb ∨ b = ck) w w' := by
  obtain ⟨res, hres⟩ : ∃ res, res = c.do q now := ⟨_, rfl⟩
  rw [← hres]
  have HRES := Lib.hid hres
  clear hres
  unfold rqV
  obtain ⟨qb, rb, W, HQ, HR, HW, HK, HZ⟩ := boxed2 w #[.int .i64 q.op, .bool q.quiet, .bool q.full, .int .i64 q.bad, .int .u32 q.opq, .slice r.ka q.key.length r.kc, .slice r.va q.val.length r.vc, .int .u32 q.fl, .int .u32 q.ex, .int .u64 q.cas, .int .u64 q.delta, .int .u64 q.ini] 35 #[.int .i64 0, .slice none 0 0, .int .u32 0, .int .u64 0, .int .u64 0, .slice none 0 0, .bool false] 38
  have HC := Lib.hid (h.below HK.out.below)
  have HKEY : Hid (BytesIn W E (.slice r.ka q.key.length r.kc) q.key) := hkey.frm (S := fun _ => False) (frm_below HK.out.below) (fun _ _ h => h)
  have HVAL : Hid (BytesIn W E (.slice r.va q.val.length r.vc) q.val) := hval.frm (S := fun _ => False) (frm_below HK.out.below) (fun _ _ h => h)
  have HQOK := Lib.hid hqok
  have HNOW := Lib.hid hnow
  have HLL := Lib.hid hl
  have HE := Lib.hid hE
  have HRW : Hid (w.heap.size ≤ rb) := by have := HR.out; show _ ≤ _; omega
  have hex := expiryF_bound hnow.1 hnow.2 hqok.2.2.1 hqok.2.2.2.1
  have HOWN : Hid (Tv.ok (ownT q now)) := ⟨hqv, hqok.1, hqok.2.1, hex.1, hex.2, Int.le_refl _, by show (0 : Int) ≤ _; omega⟩
  have q5 : W.cell? ⟨qb, 5, none⟩ = some (.slice r.ka q.key.length r.kc) := blk_cell HK.out.b0 5
  clear h hkey hval hqok hqv hl hnow hE hex
  go_enter Try.func12, Try.ntmps12
  go_upto_region 1 with fail
  rw [HR.out, HQ.out, HW.out]
  go_wp2_with fail
  refine (found24 W E cb ck c HC.out r.ka r.kc q.key HKEY.out.1 now HNOW.out).mono ?_
  rintro e w1 ⟨xv, rfl, hxb, hxok, hb1⟩
  obtain ⟨xa, xc, rfl, _⟩ := hxb.1.form
  obtain ⟨t, ht⟩ : ∃ t, t = c.raw q.key := ⟨_, rfl⟩
  obtain ⟨is, his⟩ : ∃ b, b = c.has q.key now := ⟨_, rfl⟩
  rw [← ht] at hxb hxok ⊢
  rw [← his]
  have HT := Lib.hid ht
  have HIS := Lib.hid his
  obtain ⟨xn, hxn⟩ : ∃ n, n = t.val.length := ⟨_, rfl⟩
  have HXB := Lib.hid hxb
  rw [← hxn]
  have HXN := Lib.hid hxn
  unfold boxC
  obtain ⟨vb, W2, HVB, HW2, HK2, HZ2⟩ := boxed1 w1 #[.slice xa xn xc, .int .u32 t.fl, .int .u32 t.ex, .int .u64 t.cas] 49
  have HB2 : Hid (Below W.heap.size W W2) := Below.trans hb1 (HK2.out.below.mono (Below.size hb1))
  have HXOK := Lib.hid hxok
  have HB1 := Lib.hid hb1
  clear hxb hxok hb1 ht his hxn q5
  go_upto_region 2 with fail
  rw [HVB.out, HW2.out]
  have hq2 := (HB2.out.block qb (blk_lt HK.out.b0)).trans HK.out.b0
  have r6 : W2.cell? ⟨qb, 6, none⟩ = some (.slice r.va q.val.length r.vc) := blk_cell hq2 6
  have r7 : W2.cell? ⟨qb, 7, none⟩ = some (.int .u32 q.fl) := blk_cell hq2 7
  have r8 : W2.cell? ⟨qb, 8, none⟩ = some (.int .u32 q.ex) := blk_cell hq2 8
  clear hq2
  have HXP := Lib.hid (fun W1 : World => expiry25 now q.ex W1 HNOW.out.1 HNOW.out.2 HQOK.out.2.2.1 HQOK.out.2.2.2.1)
  go_cut [9] from 24 to 33 (fun s9 W6 => ∃ ob : Nat, s9 = .pointer (some ⟨ob, 0, none⟩) ∧ Hid (Below W2.heap.size W2 W6 ∧ W6.heap[ob]? = some (.cells (boxC (.slice r.va q.val.length r.vc) (ownT q now)) 49 (0, 0))))
  case first =>
    go_region_held3 (fun w' => w'.cell? ⟨qb, 6, none⟩ = some (.slice r.va q.val.length r.vc) ∧ w'.cell? ⟨qb, 7, none⟩ = some (.int .u32 q.fl) ∧ w'.cell? ⟨qb, 8, none⟩ = some (.int .u32 q.ex)) (first | exact ⟨r6, r7, r8⟩ | go_keep) (first | (go_at_call 25; refine (HXP.out _).mono ?_; rintro e w2 ⟨rfl, rfl⟩))
    all_goals
      go_wp2_with fail
      go_meet
      case rel =>
        exact ⟨_, rfl, ((Below.refl _ _).alloc (Nat.le_refl _) _).drew, heap_alloc_new _ _⟩
  case rest =>
    obtain ⟨ob, hs9, HO⟩ := hcut
    subst hs9
    clear r6 r7 r8
    have hbw : Below W.heap.size W wc := HB2.out.trans (HO.out.1.mono HB2.out.size)
    have hi : DoI w E cb ck c q r now t (.slice xa t.val.length xc) qb rb vb ob wc := ⟨HK.out.below.trans (hbw.mono HK.out.below.size), HC.out.below hbw, (hbw.block qb (blk_lt HK.out.b0)).trans HK.out.b0, (hbw.block rb (blk_lt HK.out.b1)).trans HK.out.b1, by
      have := (HO.out.1.block vb (blk_lt HK2.out.b0)).trans HK2.out.b0
      rw [HXN.out] at this
      exact this, HO.out.2, HXB.out.frm (S := fun _ => False) (frm_below (HK2.out.below.trans (HO.out.1.mono HK2.out.below.size))) (fun _ _ h => h), HXOK.out⟩
    have HI := Lib.hid hi
    have HWV : Hid (w.heap.size ≤ vb) := by have h1 := HVB.out; have h2 := HK.out.below.size; have h3 := Below.size HB1.out; show _ ≤ _; omega
    have HKEYW : Hid (BytesIn wc E (.slice r.ka q.key.length r.kc) q.key) := HKEY.out.frm (S := fun _ => False) (frm_below hbw) (fun _ _ h => h)
    have HVALW : Hid (BytesIn wc E (.slice r.va q.val.length r.vc) q.val) := HVAL.out.frm (S := fun _ => False) (frm_below hbw) (fun _ _ h => h)
    clear hi hbw HK HZ HC HKEY HVAL HXB HVB HW2 HK2 HZ2 HB2 HXOK HB1 HXP HO HQ HW
    have q0 : wc.cell? ⟨qb, 0, none⟩ = some (.int .i64 q.op) := blk_cell HI.out.hq 0
    have q1 : wc.cell? ⟨qb, 1, none⟩ = some (.bool q.quiet) := blk_cell HI.out.hq 1
    have q2 : wc.cell? ⟨qb, 2, none⟩ = some (.bool q.full) := blk_cell HI.out.hq 2
    have q3 : wc.cell? ⟨qb, 3, none⟩ = some (.int .i64 q.bad) := blk_cell HI.out.hq 3
    have q4 : wc.cell? ⟨qb, 4, none⟩ = some (.int .u32 q.opq) := blk_cell HI.out.hq 4
    have q5 : wc.cell? ⟨qb, 5, none⟩ = some (.slice r.ka q.key.length r.kc) := blk_cell HI.out.hq 5
    have q6 : wc.cell? ⟨qb, 6, none⟩ = some (.slice r.va q.val.length r.vc) := blk_cell HI.out.hq 6
    have q7 : wc.cell? ⟨qb, 7, none⟩ = some (.int .u32 q.fl) := blk_cell HI.out.hq 7
    have q8 : wc.cell? ⟨qb, 8, none⟩ = some (.int .u32 q.ex) := blk_cell HI.out.hq 8
    have q9 : wc.cell? ⟨qb, 9, none⟩ = some (.int .u64 q.cas) := blk_cell HI.out.hq 9
    have q10 : wc.cell? ⟨qb, 10, none⟩ = some (.int .u64 q.delta) := blk_cell HI.out.hq 10
    have q11 : wc.cell? ⟨qb, 11, none⟩ = some (.int .u64 q.ini) := blk_cell HI.out.hq 11
    have t0 : wc.cell? ⟨vb, 0, none⟩ = some (.slice xa xn xc) := by rw [HXN.out]; exact blk_cell HI.out.hv 0
    have t1 : wc.cell? ⟨vb, 1, none⟩ = some (.int .u32 t.fl) := blk_cell HI.out.hv 1
    have t2 : wc.cell? ⟨vb, 2, none⟩ = some (.int .u32 t.ex) := blk_cell HI.out.hv 2
    have t3 : wc.cell? ⟨vb, 3, none⟩ = some (.int .u64 t.cas) := blk_cell HI.out.hv 3
    obtain ⟨x, hx⟩ : ∃ x, x = q.op := ⟨_, rfl⟩
    have HOP := Lib.hid hx
    rw [← hx] at q0
    clear hx
    obtain ⟨cz, hcz⟩ : ∃ b, b = q.casB := ⟨_, rfl⟩
    have HCZ := Lib.hid hcz
    clear hcz
    obtain ⟨WA, hwa⟩ : ∃ WA, WA = wc := ⟨_, rfl⟩
    subst hwa
    go_upto_region 3 with fail
    go_cut [10] from 33 to 56 (fun s10 W6 => s10 = .bool cz ∧ W6 = WA)
    case first =>
      by_cases h0 : q.cas = 0
      · have e0 : (q.cas != 0) = false := by simp [h0]
        go_wp2_with fail
        go_meet
        case rel => exact ⟨by rw [HCZ.out]; unfold Rq.casB; rw [e0]; rfl, rfl⟩
      · have e0 : (q.cas != 0) = true := by simp [h0]
        by_cases k0 : x = 0
        · have g0 : (x != 0) = false := by simp [k0]
          have HG : Hid (q.op = 0) := by show _ = _; rw [← HOP.out]; exact k0
          clear k0
          go_wp2_with fail
          go_meet
          case rel => exact ⟨by rw [HCZ.out]; unfold Rq.casB; simp [HG.out], rfl⟩
        · have g0 : (x != 0) = true := by simp [k0]
          have HK0 : Hid (¬ q.op = 0) := by show ¬ _; rw [← HOP.out]; exact k0
          clear k0
          by_cases k28 : x = 28
          · have g28 : (x != 28) = false := by simp [k28]
            have HG : Hid (q.op = 28) := by show _ = _; rw [← HOP.out]; exact k28
            clear k28
            go_wp2_with fail
            go_meet
            case rel => exact ⟨by rw [HCZ.out]; unfold Rq.casB; simp [HG.out], rfl⟩
          · have g28 : (x != 28) = true := by simp [k28]
            have HK28 : Hid (¬ q.op = 28) := by show ¬ _; rw [← HOP.out]; exact k28
            clear k28
            by_cases k29 : x = 29
            · have g29 : (x != 29) = false := by simp [k29]
              have HG : Hid (q.op = 29) := by show _ = _; rw [← HOP.out]; exact k29
              clear k29
              go_wp2_with fail
              go_meet
              case rel => exact ⟨by rw [HCZ.out]; unfold Rq.casB; simp [HG.out], rfl⟩
            · have g29 : (x != 29) = true := by simp [k29]
              have HK29 : Hid (¬ q.op = 29) := by show ¬ _; rw [← HOP.out]; exact k29
              clear k29
              by_cases k2 : x = 2
              · have g2 : (x != 2) = false := by simp [k2]
                have HG : Hid (q.op = 2) := by show _ = _; rw [← HOP.out]; exact k2
                clear k2
                go_wp2_with fail
                go_meet
                case rel => exact ⟨by rw [HCZ.out]; unfold Rq.casB; simp [HG.out], rfl⟩
              · have g2 : (x != 2) = true := by simp [k2]
                have HK2 : Hid (¬ q.op = 2) := by show ¬ _; rw [← HOP.out]; exact k2
                clear k2
                go_wp2_with fail
                go_meet
                case rel => exact ⟨by rw [HCZ.out]; unfold Rq.casB; simp [h0, HK0.out, HK28.out, HK29.out, HK2.out], rfl⟩
    case rest =>
      obtain ⟨hs10, hw⟩ := hcut
      subst hs10 hw
      cases is with
      | false =>
        have his : c.has q.key now = false := HIS.out.symm
        have HIF := Lib.hid his
        clear his
        by_cases h14 : x = 14
        · subst h14
          go_wp2_with fail
          refine (fail9 _ 5).mono ?_
          rintro e w9 ⟨rfl, hb9⟩
          have hb9 : Below wc.heap.size wc w9 := hb9
          have hrb9 := (hb9.block rb (blk_lt HI.out.hr)).trans HI.out.hr
          have HRB9 := Lib.hid hrb9
          have HC9 := Lib.hid (HI.out.ca.below hb9)
          have HF9 : Hid (Frm (fun b => b = cb ∨ b = ck) w w9) := frm_below (HI.out.bel.trans (hb9.mono HI.out.bel.size))
          have r0 : w9.cell? ⟨rb, 0, none⟩ = some (.int .i64 0) := blk_cell hrb9 0
          have z0 : w9.frozen? ⟨rb, 0, none⟩ = false := blk_frozen hrb9 0
          have r1 : w9.cell? ⟨rb, 1, none⟩ = some (.slice none 0 0) := blk_cell hrb9 1
          have z1 : w9.frozen? ⟨rb, 1, none⟩ = false := blk_frozen hrb9 1
          have r2 : w9.cell? ⟨rb, 2, none⟩ = some (.int .u32 0) := blk_cell hrb9 2
          have z2 : w9.frozen? ⟨rb, 2, none⟩ = false := blk_frozen hrb9 2
          have r3 : w9.cell? ⟨rb, 3, none⟩ = some (.int .u64 0) := blk_cell hrb9 3
          have z3 : w9.frozen? ⟨rb, 3, none⟩ = false := blk_frozen hrb9 3
          have r4 : w9.cell? ⟨rb, 4, none⟩ = some (.int .u64 0) := blk_cell hrb9 4
          have z4 : w9.frozen? ⟨rb, 4, none⟩ = false := blk_frozen hrb9 4
          have r5 : w9.cell? ⟨rb, 5, none⟩ = some (.slice none 0 0) := blk_cell hrb9 5
          have z5 : w9.frozen? ⟨rb, 5, none⟩ = false := blk_frozen hrb9 5
          have r6 : w9.cell? ⟨rb, 6, none⟩ = some (.bool false) := blk_cell hrb9 6
          have z6 : w9.frozen? ⟨rb, 6, none⟩ = false := blk_frozen hrb9 6
          have hrl := blk_lt hrb9
          clear hb9 hrb9
          try unfold ansV
          go_wp2_with fail
          obtain ⟨hrf, hcf, hff⟩ := fin38 HF9.out HRW.out HC9.out HRB9.out (.int .i64 5) (.slice none 0 0) (.int .u32 0) (.int .u64 0) (.int .u64 0) (.slice none 0 0) (.bool false)
          unfold putA at hrf hcf hff
          have y0 := blk_cell hrf 0
          have y1 := blk_cell hrf 1
          have y2 := blk_cell hrf 2
          have y3 := blk_cell hrf 3
          have y4 := blk_cell hrf 4
          have y5 := blk_cell hrf 5
          have y6 := blk_cell hrf 6
          have hr : res = (c, failA 5) := by rw [HRES.out]; exact do_a HIF.out (.inl HOP.out.symm)
          exact bodyPost_ret (v := .agg #[.int .i64 5, .slice none 0 0, .int .u32 0, .int .u64 0, .int .u64 0, .slice none 0 0, .bool false]) (by simp [results, Try.f12, go_sem, y0, y1, y2, y3, y4, y5, y6]) rfl ⟨_, _, by rw [hr]; rfl, by rw [hr]; exact BytesIn.nil _ _, by rw [hr]; exact hcf, hff⟩
        by_cases h15 : x = 15
        · subst h15
          go_wp2_with fail
          refine (fail9 _ 5).mono ?_
          rintro e w9 ⟨rfl, hb9⟩
          have hb9 : Below wc.heap.size wc w9 := hb9
          have hrb9 := (hb9.block rb (blk_lt HI.out.hr)).trans HI.out.hr
          have HRB9 := Lib.hid hrb9
          have HC9 := Lib.hid (HI.out.ca.below hb9)
          have HF9 : Hid (Frm (fun b => b = cb ∨ b = ck) w w9) := frm_below (HI.out.bel.trans (hb9.mono HI.out.bel.size))
          have r0 : w9.cell? ⟨rb, 0, none⟩ = some (.int .i64 0) := blk_cell hrb9 0
          have z0 : w9.frozen? ⟨rb, 0, none⟩ = false := blk_frozen hrb9 0
          have r1 : w9.cell? ⟨rb, 1, none⟩ = some (.slice none 0 0) := blk_cell hrb9 1
          have z1 : w9.frozen? ⟨rb, 1, none⟩ = false := blk_frozen hrb9 1
          have r2 : w9.cell? ⟨rb, 2, none⟩ = some (.int .u32 0) := blk_cell hrb9 2
          have z2 : w9.frozen? ⟨rb, 2, none⟩ = false := blk_frozen hrb9 2
          have r3 : w9.cell? ⟨rb, 3, none⟩ = some (.int .u64 0) := blk_cell hrb9 3
          have z3 : w9.frozen? ⟨rb, 3, none⟩ = false := blk_frozen hrb9 3
          have r4 : w9.cell? ⟨rb, 4, none⟩ = some (.int .u64 0) := blk_cell hrb9 4
          have z4 : w9.frozen? ⟨rb, 4, none⟩ = false := blk_frozen hrb9 4
          have r5 : w9.cell? ⟨rb, 5, none⟩ = some (.slice none 0 0) := blk_cell hrb9 5
          have z5 : w9.frozen? ⟨rb, 5, none⟩ = false := blk_frozen hrb9 5
          have r6 : w9.cell? ⟨rb, 6, none⟩ = some (.bool false) := blk_cell hrb9 6
          have z6 : w9.frozen? ⟨rb, 6, none⟩ = false := blk_frozen hrb9 6
          have hrl := blk_lt hrb9
          clear hb9 hrb9
          try unfold ansV
          go_wp2_with fail
          obtain ⟨hrf, hcf, hff⟩ := fin38 HF9.out HRW.out HC9.out HRB9.out (.int .i64 5) (.slice none 0 0) (.int .u32 0) (.int .u64 0) (.int .u64 0) (.slice none 0 0) (.bool false)
          unfold putA at hrf hcf hff
          have y0 := blk_cell hrf 0
          have y1 := blk_cell hrf 1
          have y2 := blk_cell hrf 2
          have y3 := blk_cell hrf 3
          have y4 := blk_cell hrf 4
          have y5 := blk_cell hrf 5
          have y6 := blk_cell hrf 6
          have hr : res = (c, failA 5) := by rw [HRES.out]; exact do_a HIF.out (.inr HOP.out.symm)
          exact bodyPost_ret (v := .agg #[.int .i64 5, .slice none 0 0, .int .u32 0, .int .u64 0, .int .u64 0, .slice none 0 0, .bool false]) (by simp [results, Try.f12, go_sem, y0, y1, y2, y3, y4, y5, y6]) rfl ⟨_, _, by rw [hr]; rfl, by rw [hr]; exact BytesIn.nil _ _, by rw [hr]; exact hcf, hff⟩
        by_cases h5 : x = 5
        · subst h5
          have HTN := Lib.hid (turn28 wc E cb ck c HI.out.ca (fun b hb => HE.out b (Nat.le_trans HI.out.bel.size hb)) q r HKEYW.out HQOK.out t (.slice xa t.val.length xc) HI.out.xb HI.out.tok HLL.out false now HNOW.out)
          unfold rqV boxC at HTN
          rw [← HXN.out, ← HOP.out] at HTN
          obtain ⟨tr, htr⟩ : ∃ tr, tr = c.turn q t false now := ⟨_, rfl⟩
          rw [← htr] at HTN
          have HTR := Lib.hid htr
          clear htr
          go_wp2_with fail
          refine HTN.out.mono ?_
          rintro e w9 ⟨rfl, hc9, hf9⟩
          have hrn := HI.out.ca.blkne HI.out.hr (by decide)
          have hrb9 := (hf9.block rb (blk_lt HI.out.hr) (by rintro (e | e); exact hrn.1 e; exact hrn.2 e)).trans HI.out.hr
          have HRB9 := Lib.hid hrb9
          have HC9 := Lib.hid hc9
          have HF9 : Hid (Frm (fun b => b = cb ∨ b = ck) w w9) := (frm_below HI.out.bel : Frm (fun b => b = cb ∨ b = ck) w wc).trans hf9
          have r0 : w9.cell? ⟨rb, 0, none⟩ = some (.int .i64 0) := blk_cell hrb9 0
          have z0 : w9.frozen? ⟨rb, 0, none⟩ = false := blk_frozen hrb9 0
          have r1 : w9.cell? ⟨rb, 1, none⟩ = some (.slice none 0 0) := blk_cell hrb9 1
          have z1 : w9.frozen? ⟨rb, 1, none⟩ = false := blk_frozen hrb9 1
          have r2 : w9.cell? ⟨rb, 2, none⟩ = some (.int .u32 0) := blk_cell hrb9 2
          have z2 : w9.frozen? ⟨rb, 2, none⟩ = false := blk_frozen hrb9 2
          have r3 : w9.cell? ⟨rb, 3, none⟩ = some (.int .u64 0) := blk_cell hrb9 3
          have z3 : w9.frozen? ⟨rb, 3, none⟩ = false := blk_frozen hrb9 3
          have r4 : w9.cell? ⟨rb, 4, none⟩ = some (.int .u64 0) := blk_cell hrb9 4
          have z4 : w9.frozen? ⟨rb, 4, none⟩ = false := blk_frozen hrb9 4
          have r5 : w9.cell? ⟨rb, 5, none⟩ = some (.slice none 0 0) := blk_cell hrb9 5
          have z5 : w9.frozen? ⟨rb, 5, none⟩ = false := blk_frozen hrb9 5
          have r6 : w9.cell? ⟨rb, 6, none⟩ = some (.bool false) := blk_cell hrb9 6
          have z6 : w9.frozen? ⟨rb, 6, none⟩ = false := blk_frozen hrb9 6
          have hrl := blk_lt hrb9
          clear hc9 hf9 hrb9 hrn
          obtain ⟨t1, t2, t3, t4⟩ : tr.2.val = [] ∧ tr.2.fl = 0 ∧ tr.2.stats = [] ∧ tr.2.cl = false := by rw [HTR.out]; exact turn_bare _ _ _ _ _
          have hz : ansZ tr.2 = .agg #[.int .i64 tr.2.st, .slice none 0 0, .int .u32 0, .int .u64 tr.2.cas, .int .u64 tr.2.num, .slice none 0 0, .bool false] := by unfold ansZ ansV; rw [t2, t4]
          rw [hz]
          have HT1 := Lib.hid t1
          have HT2 := Lib.hid t2
          have HT3 := Lib.hid t3
          have HT4 := Lib.hid t4
          clear t1 t2 t3 t4 hz
          obtain ⟨ust, hust⟩ : ∃ x, x = tr.2.st := ⟨_, rfl⟩
          obtain ⟨ucas, hucas⟩ : ∃ x, x = tr.2.cas := ⟨_, rfl⟩
          obtain ⟨unum, hunum⟩ : ∃ x, x = tr.2.num := ⟨_, rfl⟩
          rw [← hust, ← hucas, ← hunum]
          have HU := Lib.hid (show _ ∧ _ ∧ _ from ⟨hust, hucas, hunum⟩)
          clear hust hucas hunum
          go_wp2_with fail
          obtain ⟨hrf, hcf, hff⟩ := fin38 HF9.out HRW.out HC9.out HRB9.out (.int .i64 ust) (.slice none 0 0) (.int .u32 0) (.int .u64 ucas) (.int .u64 unum) (.slice none 0 0) (.bool false)
          unfold putA at hrf hcf hff
          have y0 := blk_cell hrf 0
          have y1 := blk_cell hrf 1
          have y2 := blk_cell hrf 2
          have y3 := blk_cell hrf 3
          have y4 := blk_cell hrf 4
          have y5 := blk_cell hrf 5
          have y6 := blk_cell hrf 6
          have hr : res = tr := by rw [HRES.out, HTR.out]; exact do_t0 HIF.out (.inl HOP.out.symm)
          exact bodyPost_ret (v := .agg #[.int .i64 ust, .slice none 0 0, .int .u32 0, .int .u64 ucas, .int .u64 unum, .slice none 0 0, .bool false]) (by simp [results, Try.f12, go_sem, y0, y1, y2, y3, y4, y5, y6]) rfl ⟨none, 0, by rw [hr, HT1.out, HT2.out, HT4.out, HU.out.1, HU.out.2.1, HU.out.2.2]; rfl, by rw [hr, HT1.out]; exact BytesIn.nil _ _, by rw [hr]; exact hcf, hff⟩
        by_cases h6 : x = 6
        · subst h6
          have HTN := Lib.hid (turn28 wc E cb ck c HI.out.ca (fun b hb => HE.out b (Nat.le_trans HI.out.bel.size hb)) q r HKEYW.out HQOK.out t (.slice xa t.val.length xc) HI.out.xb HI.out.tok HLL.out false now HNOW.out)
          unfold rqV boxC at HTN
          rw [← HXN.out, ← HOP.out] at HTN
          obtain ⟨tr, htr⟩ : ∃ tr, tr = c.turn q t false now := ⟨_, rfl⟩
          rw [← htr] at HTN
          have HTR := Lib.hid htr
          clear htr
          go_wp2_with fail
          refine HTN.out.mono ?_
          rintro e w9 ⟨rfl, hc9, hf9⟩
          have hrn := HI.out.ca.blkne HI.out.hr (by decide)
          have hrb9 := (hf9.block rb (blk_lt HI.out.hr) (by rintro (e | e); exact hrn.1 e; exact hrn.2 e)).trans HI.out.hr
          have HRB9 := Lib.hid hrb9
          have HC9 := Lib.hid hc9
          have HF9 : Hid (Frm (fun b => b = cb ∨ b = ck) w w9) := (frm_below HI.out.bel : Frm (fun b => b = cb ∨ b = ck) w wc).trans hf9
          have r0 : w9.cell? ⟨rb, 0, none⟩ = some (.int .i64 0) := blk_cell hrb9 0
          have z0 : w9.frozen? ⟨rb, 0, none⟩ = false := blk_frozen hrb9 0
          have r1 : w9.cell? ⟨rb, 1, none⟩ = some (.slice none 0 0) := blk_cell hrb9 1
          have z1 : w9.frozen? ⟨rb, 1, none⟩ = false := blk_frozen hrb9 1
          have r2 : w9.cell? ⟨rb, 2, none⟩ = some (.int .u32 0) := blk_cell hrb9 2
          have z2 : w9.frozen? ⟨rb, 2, none⟩ = false := blk_frozen hrb9 2
          have r3 : w9.cell? ⟨rb, 3, none⟩ = some (.int .u64 0) := blk_cell hrb9 3
          have z3 : w9.frozen? ⟨rb, 3, none⟩ = false := blk_frozen hrb9 3
          have r4 : w9.cell? ⟨rb, 4, none⟩ = some (.int .u64 0) := blk_cell hrb9 4
          have z4 : w9.frozen? ⟨rb, 4, none⟩ = false := blk_frozen hrb9 4
          have r5 : w9.cell? ⟨rb, 5, none⟩ = some (.slice none 0 0) := blk_cell hrb9 5
          have z5 : w9.frozen? ⟨rb, 5, none⟩ = false := blk_frozen hrb9 5
          have r6 : w9.cell? ⟨rb, 6, none⟩ = some (.bool false) := blk_cell hrb9 6
          have z6 : w9.frozen? ⟨rb, 6, none⟩ = false := blk_frozen hrb9 6
          have hrl := blk_lt hrb9
          clear hc9 hf9 hrb9 hrn
          obtain ⟨t1, t2, t3, t4⟩ : tr.2.val = [] ∧ tr.2.fl = 0 ∧ tr.2.stats = [] ∧ tr.2.cl = false := by rw [HTR.out]; exact turn_bare _ _ _ _ _
          have hz : ansZ tr.2 = .agg #[.int .i64 tr.2.st, .slice none 0 0, .int .u32 0, .int .u64 tr.2.cas, .int .u64 tr.2.num, .slice none 0 0, .bool false] := by unfold ansZ ansV; rw [t2, t4]
          rw [hz]
          have HT1 := Lib.hid t1
          have HT2 := Lib.hid t2
          have HT3 := Lib.hid t3
          have HT4 := Lib.hid t4
          clear t1 t2 t3 t4 hz
          obtain ⟨ust, hust⟩ : ∃ x, x = tr.2.st := ⟨_, rfl⟩
          obtain ⟨ucas, hucas⟩ : ∃ x, x = tr.2.cas := ⟨_, rfl⟩
          obtain ⟨unum, hunum⟩ : ∃ x, x = tr.2.num := ⟨_, rfl⟩
          rw [← hust, ← hucas, ← hunum]
          have HU := Lib.hid (show _ ∧ _ ∧ _ from ⟨hust, hucas, hunum⟩)
          clear hust hucas hunum
          go_wp2_with fail
          obtain ⟨hrf, hcf, hff⟩ := fin38 HF9.out HRW.out HC9.out HRB9.out (.int .i64 ust) (.slice none 0 0) (.int .u32 0) (.int .u64 ucas) (.int .u64 unum) (.slice none 0 0) (.bool false)
          unfold putA at hrf hcf hff
          have y0 := blk_cell hrf 0
          have y1 := blk_cell hrf 1
          have y2 := blk_cell hrf 2
          have y3 := blk_cell hrf 3
          have y4 := blk_cell hrf 4
          have y5 := blk_cell hrf 5
          have y6 := blk_cell hrf 6
          have hr : res = tr := by rw [HRES.out, HTR.out]; exact do_t0 HIF.out (.inr HOP.out.symm)
          exact bodyPost_ret (v := .agg #[.int .i64 ust, .slice none 0 0, .int .u32 0, .int .u64 ucas, .int .u64 unum, .slice none 0 0, .bool false]) (by simp [results, Try.f12, go_sem, y0, y1, y2, y3, y4, y5, y6]) rfl ⟨none, 0, by rw [hr, HT1.out, HT2.out, HT4.out, HU.out.1, HU.out.2.1, HU.out.2.2]; rfl, by rw [hr, HT1.out]; exact BytesIn.nil _ _, by rw [hr]; exact hcf, hff⟩
        by_cases h2 : x = 2
        · subst h2
          have HWR := Lib.hid (write26 wc E cb ck c HI.out.ca (fun b hb => HE.out b (Nat.le_trans HI.out.bel.size hb)) r.ka r.kc q.key HKEYW.out (ownT q now) (.slice r.va q.val.length r.vc) HVALW.out HOWN.out HLL.out)
          have o0 : wc.cell? ⟨ob, 0, none⟩ = some (.slice r.va q.val.length r.vc) := blk_cell HI.out.ho 0
          have o1 : wc.cell? ⟨ob, 1, none⟩ = some (.int .u32 q.fl) := blk_cell HI.out.ho 1
          have o2 : wc.cell? ⟨ob, 2, none⟩ = some (.int .u32 (expiryF now q.ex)) := blk_cell HI.out.ho 2
          have o3 : wc.cell? ⟨ob, 3, none⟩ = some (.int .u64 0) := blk_cell HI.out.ho 3
          go_wp2_with fail
          refine HWR.out.mono ?_
          rintro e w9 ⟨rfl, hc9, hf9⟩
          have hrn := HI.out.ca.blkne HI.out.hr (by decide)
          have hrb9 := (hf9.block rb (blk_lt HI.out.hr) (by rintro (e | e); exact hrn.1 e; exact hrn.2 e)).trans HI.out.hr
          have HRB9 := Lib.hid hrb9
          have HC9 := Lib.hid hc9
          have HF9 : Hid (Frm (fun b => b = cb ∨ b = ck) w w9) := ((frm_below HI.out.bel) : Frm (fun b => b = cb ∨ b = ck) w wc).trans hf9
          have r0 : w9.cell? ⟨rb, 0, none⟩ = some (.int .i64 0) := blk_cell hrb9 0
          have z0 : w9.frozen? ⟨rb, 0, none⟩ = false := blk_frozen hrb9 0
          have r1 : w9.cell? ⟨rb, 1, none⟩ = some (.slice none 0 0) := blk_cell hrb9 1
          have z1 : w9.frozen? ⟨rb, 1, none⟩ = false := blk_frozen hrb9 1
          have r2 : w9.cell? ⟨rb, 2, none⟩ = some (.int .u32 0) := blk_cell hrb9 2
          have z2 : w9.frozen? ⟨rb, 2, none⟩ = false := blk_frozen hrb9 2
          have r3 : w9.cell? ⟨rb, 3, none⟩ = some (.int .u64 0) := blk_cell hrb9 3
          have z3 : w9.frozen? ⟨rb, 3, none⟩ = false := blk_frozen hrb9 3
          have r4 : w9.cell? ⟨rb, 4, none⟩ = some (.int .u64 0) := blk_cell hrb9 4
          have z4 : w9.frozen? ⟨rb, 4, none⟩ = false := blk_frozen hrb9 4
          have r5 : w9.cell? ⟨rb, 5, none⟩ = some (.slice none 0 0) := blk_cell hrb9 5
          have z5 : w9.frozen? ⟨rb, 5, none⟩ = false := blk_frozen hrb9 5
          have r6 : w9.cell? ⟨rb, 6, none⟩ = some (.bool false) := blk_cell hrb9 6
          have z6 : w9.frozen? ⟨rb, 6, none⟩ = false := blk_frozen hrb9 6
          have hrl := blk_lt hrb9
          clear hc9 hf9 hrb9 hrn
          try unfold ansV
          go_wp2_with fail
          obtain ⟨hrf, hcf, hff⟩ := fin38 HF9.out HRW.out HC9.out HRB9.out (.int .i64 0) (.slice none 0 0) (.int .u32 0) (.int .u64 (c.last + 1)) (.int .u64 0) (.slice none 0 0) (.bool false)
          unfold putA at hrf hcf hff
          have y0 := blk_cell hrf 0
          have y1 := blk_cell hrf 1
          have y2 := blk_cell hrf 2
          have y3 := blk_cell hrf 3
          have y4 := blk_cell hrf 4
          have y5 := blk_cell hrf 5
          have y6 := blk_cell hrf 6
          have hr : res = (c.put q.key (ownT q now), okA (c.last + 1) 0) := by rw [HRES.out]; exact do_o2 HIF.out HOP.out.symm
          exact bodyPost_ret (v := .agg #[.int .i64 0, .slice none 0 0, .int .u32 0, .int .u64 (c.last + 1), .int .u64 0, .slice none 0 0, .bool false]) (by simp [results, Try.f12, go_sem, y0, y1, y2, y3, y4, y5, y6]) rfl ⟨_, _, by rw [hr]; rfl, by rw [hr]; exact BytesIn.nil _ _, by rw [hr]; exact hcf, hff⟩
        by_cases h1 : x = 1
        · subst h1
          cases cz with
          | true =>
            go_wp2_with fail
            refine (fail9 _ 1).mono ?_
            rintro e w9 ⟨rfl, hb9⟩
            have hb9 : Below wc.heap.size wc w9 := hb9
            have hrb9 := (hb9.block rb (blk_lt HI.out.hr)).trans HI.out.hr
            have HRB9 := Lib.hid hrb9
            have HC9 := Lib.hid (HI.out.ca.below hb9)
            have HF9 : Hid (Frm (fun b => b = cb ∨ b = ck) w w9) := frm_below (HI.out.bel.trans (hb9.mono HI.out.bel.size))
            have r0 : w9.cell? ⟨rb, 0, none⟩ = some (.int .i64 0) := blk_cell hrb9 0
            have z0 : w9.frozen? ⟨rb, 0, none⟩ = false := blk_frozen hrb9 0
            have r1 : w9.cell? ⟨rb, 1, none⟩ = some (.slice none 0 0) := blk_cell hrb9 1
            have z1 : w9.frozen? ⟨rb, 1, none⟩ = false := blk_frozen hrb9 1
            have r2 : w9.cell? ⟨rb, 2, none⟩ = some (.int .u32 0) := blk_cell hrb9 2
            have z2 : w9.frozen? ⟨rb, 2, none⟩ = false := blk_frozen hrb9 2
            have r3 : w9.cell? ⟨rb, 3, none⟩ = some (.int .u64 0) := blk_cell hrb9 3
            have z3 : w9.frozen? ⟨rb, 3, none⟩ = false := blk_frozen hrb9 3
            have r4 : w9.cell? ⟨rb, 4, none⟩ = some (.int .u64 0) := blk_cell hrb9 4
            have z4 : w9.frozen? ⟨rb, 4, none⟩ = false := blk_frozen hrb9 4
            have r5 : w9.cell? ⟨rb, 5, none⟩ = some (.slice none 0 0) := blk_cell hrb9 5
            have z5 : w9.frozen? ⟨rb, 5, none⟩ = false := blk_frozen hrb9 5
            have r6 : w9.cell? ⟨rb, 6, none⟩ = some (.bool false) := blk_cell hrb9 6
            have z6 : w9.frozen? ⟨rb, 6, none⟩ = false := blk_frozen hrb9 6
            have hrl := blk_lt hrb9
            clear hb9 hrb9
            try unfold ansV
            go_wp2_with fail
            obtain ⟨hrf, hcf, hff⟩ := fin38 HF9.out HRW.out HC9.out HRB9.out (.int .i64 1) (.slice none 0 0) (.int .u32 0) (.int .u64 0) (.int .u64 0) (.slice none 0 0) (.bool false)
            unfold putA at hrf hcf hff
            have y0 := blk_cell hrf 0
            have y1 := blk_cell hrf 1
            have y2 := blk_cell hrf 2
            have y3 := blk_cell hrf 3
            have y4 := blk_cell hrf 4
            have y5 := blk_cell hrf 5
            have y6 := blk_cell hrf 6
            have hr : res = (c, failA 1) := by rw [HRES.out]; exact do_m1 HIF.out HOP.out.symm HCZ.out.symm
            exact bodyPost_ret (v := .agg #[.int .i64 1, .slice none 0 0, .int .u32 0, .int .u64 0, .int .u64 0, .slice none 0 0, .bool false]) (by simp [results, Try.f12, go_sem, y0, y1, y2, y3, y4, y5, y6]) rfl ⟨_, _, by rw [hr]; rfl, by rw [hr]; exact BytesIn.nil _ _, by rw [hr]; exact hcf, hff⟩
          | false =>
            have HWR := Lib.hid (write26 wc E cb ck c HI.out.ca (fun b hb => HE.out b (Nat.le_trans HI.out.bel.size hb)) r.ka r.kc q.key HKEYW.out (ownT q now) (.slice r.va q.val.length r.vc) HVALW.out HOWN.out HLL.out)
            have o0 : wc.cell? ⟨ob, 0, none⟩ = some (.slice r.va q.val.length r.vc) := blk_cell HI.out.ho 0
            have o1 : wc.cell? ⟨ob, 1, none⟩ = some (.int .u32 q.fl) := blk_cell HI.out.ho 1
            have o2 : wc.cell? ⟨ob, 2, none⟩ = some (.int .u32 (expiryF now q.ex)) := blk_cell HI.out.ho 2
            have o3 : wc.cell? ⟨ob, 3, none⟩ = some (.int .u64 0) := blk_cell HI.out.ho 3
            go_wp2_with fail
            refine HWR.out.mono ?_
            rintro e w9 ⟨rfl, hc9, hf9⟩
            have hrn := HI.out.ca.blkne HI.out.hr (by decide)
            have hrb9 := (hf9.block rb (blk_lt HI.out.hr) (by rintro (e | e); exact hrn.1 e; exact hrn.2 e)).trans HI.out.hr
            have HRB9 := Lib.hid hrb9
            have HC9 := Lib.hid hc9
            have HF9 : Hid (Frm (fun b => b = cb ∨ b = ck) w w9) := ((frm_below HI.out.bel) : Frm (fun b => b = cb ∨ b = ck) w wc).trans hf9
            have r0 : w9.cell? ⟨rb, 0, none⟩ = some (.int .i64 0) := blk_cell hrb9 0
            have z0 : w9.frozen? ⟨rb, 0, none⟩ = false := blk_frozen hrb9 0
            have r1 : w9.cell? ⟨rb, 1, none⟩ = some (.slice none 0 0) := blk_cell hrb9 1
            have z1 : w9.frozen? ⟨rb, 1, none⟩ = false := blk_frozen hrb9 1
            have r2 : w9.cell? ⟨rb, 2, none⟩ = some (.int .u32 0) := blk_cell hrb9 2
            have z2 : w9.frozen? ⟨rb, 2, none⟩ = false := blk_frozen hrb9 2
            have r3 : w9.cell? ⟨rb, 3, none⟩ = some (.int .u64 0) := blk_cell hrb9 3
            have z3 : w9.frozen? ⟨rb, 3, none⟩ = false := blk_frozen hrb9 3
            have r4 : w9.cell? ⟨rb, 4, none⟩ = some (.int .u64 0) := blk_cell hrb9 4
            have z4 : w9.frozen? ⟨rb, 4, none⟩ = false := blk_frozen hrb9 4
            have r5 : w9.cell? ⟨rb, 5, none⟩ = some (.slice none 0 0) := blk_cell hrb9 5
            have z5 : w9.frozen? ⟨rb, 5, none⟩ = false := blk_frozen hrb9 5
            have r6 : w9.cell? ⟨rb, 6, none⟩ = some (.bool false) := blk_cell hrb9 6
            have z6 : w9.frozen? ⟨rb, 6, none⟩ = false := blk_frozen hrb9 6
            have hrl := blk_lt hrb9
            clear hc9 hf9 hrb9 hrn
            try unfold ansV
            go_wp2_with fail
            obtain ⟨hrf, hcf, hff⟩ := fin38 HF9.out HRW.out HC9.out HRB9.out (.int .i64 0) (.slice none 0 0) (.int .u32 0) (.int .u64 (c.last + 1)) (.int .u64 0) (.slice none 0 0) (.bool false)
            unfold putA at hrf hcf hff
            have y0 := blk_cell hrf 0
            have y1 := blk_cell hrf 1
            have y2 := blk_cell hrf 2
            have y3 := blk_cell hrf 3
            have y4 := blk_cell hrf 4
            have y5 := blk_cell hrf 5
            have y6 := blk_cell hrf 6
            have hr : res = (c.put q.key (ownT q now), okA (c.last + 1) 0) := by rw [HRES.out]; exact do_o1 HIF.out HOP.out.symm HCZ.out.symm
            exact bodyPost_ret (v := .agg #[.int .i64 0, .slice none 0 0, .int .u32 0, .int .u64 (c.last + 1), .int .u64 0, .slice none 0 0, .bool false]) (by simp [results, Try.f12, go_sem, y0, y1, y2, y3, y4, y5, y6]) rfl ⟨_, _, by rw [hr]; rfl, by rw [hr]; exact BytesIn.nil _ _, by rw [hr]; exact hcf, hff⟩
        have HNX : Hid (¬ x = 14 ∧ ¬ x = 15 ∧ ¬ x = 5 ∧ ¬ x = 6 ∧ ¬ x = 2 ∧ ¬ x = 1) := ⟨h14, h15, h5, h6, h2, h1⟩
        have e14 : (x == 14) = false := by simp [h14]
        have e15 : (x == 15) = false := by simp [h15]
        have e2 : (x != 2) = true := by simp [h2]
        have e5 : (x != 5) = true := by simp [h5]
        have e6 : (x != 6) = true := by simp [h6]
        have e1 : (x != 1) = true := by simp [h1]
        clear h14 h15 h5 h6 h2 h1
        go_wp2_with fail
        refine (fail9 _ 1).mono ?_
        rintro e w9 ⟨rfl, hb9⟩
        have hb9 : Below wc.heap.size wc w9 := hb9
        have hrb9 := (hb9.block rb (blk_lt HI.out.hr)).trans HI.out.hr
        have HRB9 := Lib.hid hrb9
        have HC9 := Lib.hid (HI.out.ca.below hb9)
        have HF9 : Hid (Frm (fun b => b = cb ∨ b = ck) w w9) := frm_below (HI.out.bel.trans (hb9.mono HI.out.bel.size))
        have r0 : w9.cell? ⟨rb, 0, none⟩ = some (.int .i64 0) := blk_cell hrb9 0
        have z0 : w9.frozen? ⟨rb, 0, none⟩ = false := blk_frozen hrb9 0
        have r1 : w9.cell? ⟨rb, 1, none⟩ = some (.slice none 0 0) := blk_cell hrb9 1
        have z1 : w9.frozen? ⟨rb, 1, none⟩ = false := blk_frozen hrb9 1
        have r2 : w9.cell? ⟨rb, 2, none⟩ = some (.int .u32 0) := blk_cell hrb9 2
        have z2 : w9.frozen? ⟨rb, 2, none⟩ = false := blk_frozen hrb9 2
        have r3 : w9.cell? ⟨rb, 3, none⟩ = some (.int .u64 0) := blk_cell hrb9 3
        have z3 : w9.frozen? ⟨rb, 3, none⟩ = false := blk_frozen hrb9 3
        have r4 : w9.cell? ⟨rb, 4, none⟩ = some (.int .u64 0) := blk_cell hrb9 4
        have z4 : w9.frozen? ⟨rb, 4, none⟩ = false := blk_frozen hrb9 4
        have r5 : w9.cell? ⟨rb, 5, none⟩ = some (.slice none 0 0) := blk_cell hrb9 5
        have z5 : w9.frozen? ⟨rb, 5, none⟩ = false := blk_frozen hrb9 5
        have r6 : w9.cell? ⟨rb, 6, none⟩ = some (.bool false) := blk_cell hrb9 6
        have z6 : w9.frozen? ⟨rb, 6, none⟩ = false := blk_frozen hrb9 6
        have hrl := blk_lt hrb9
        clear hb9 hrb9
        try unfold ansV
        go_wp2_with fail
        obtain ⟨hrf, hcf, hff⟩ := fin38 HF9.out HRW.out HC9.out HRB9.out (.int .i64 1) (.slice none 0 0) (.int .u32 0) (.int .u64 0) (.int .u64 0) (.slice none 0 0) (.bool false)
        unfold putA at hrf hcf hff
        have y0 := blk_cell hrf 0
        have y1 := blk_cell hrf 1
        have y2 := blk_cell hrf 2
        have y3 := blk_cell hrf 3
        have y4 := blk_cell hrf 4
        have y5 := blk_cell hrf 5
        have y6 := blk_cell hrf 6
        have hr : res = (c, failA 1) := by rw [HRES.out]; exact do_m HIF.out (by rw [← HOP.out]; exact HNX.out)
        exact bodyPost_ret (v := .agg #[.int .i64 1, .slice none 0 0, .int .u32 0, .int .u64 0, .int .u64 0, .slice none 0 0, .bool false]) (by simp [results, Try.f12, go_sem, y0, y1, y2, y3, y4, y5, y6]) rfl ⟨_, _, by rw [hr]; rfl, by rw [hr]; exact BytesIn.nil _ _, by rw [hr]; exact hcf, hff⟩
      | true =>
        have his : c.has q.key now = true := HIS.out.symm
        have HIT := Lib.hid his
        clear his
        by_cases h2 : x = 2
        · subst h2
          obtain rfl : cz = false := by rw [HCZ.out]; unfold Rq.casB; simp [← HOP.out]
          go_wp2_with fail
          refine (fail9 _ 2).mono ?_
          rintro e w9 ⟨rfl, hb9⟩
          have hb9 : Below wc.heap.size wc w9 := hb9
          have hrb9 := (hb9.block rb (blk_lt HI.out.hr)).trans HI.out.hr
          have HRB9 := Lib.hid hrb9
          have HC9 := Lib.hid (HI.out.ca.below hb9)
          have HF9 : Hid (Frm (fun b => b = cb ∨ b = ck) w w9) := frm_below (HI.out.bel.trans (hb9.mono HI.out.bel.size))
          have r0 : w9.cell? ⟨rb, 0, none⟩ = some (.int .i64 0) := blk_cell hrb9 0
          have z0 : w9.frozen? ⟨rb, 0, none⟩ = false := blk_frozen hrb9 0
          have r1 : w9.cell? ⟨rb, 1, none⟩ = some (.slice none 0 0) := blk_cell hrb9 1
          have z1 : w9.frozen? ⟨rb, 1, none⟩ = false := blk_frozen hrb9 1
          have r2 : w9.cell? ⟨rb, 2, none⟩ = some (.int .u32 0) := blk_cell hrb9 2
          have z2 : w9.frozen? ⟨rb, 2, none⟩ = false := blk_frozen hrb9 2
          have r3 : w9.cell? ⟨rb, 3, none⟩ = some (.int .u64 0) := blk_cell hrb9 3
          have z3 : w9.frozen? ⟨rb, 3, none⟩ = false := blk_frozen hrb9 3
          have r4 : w9.cell? ⟨rb, 4, none⟩ = some (.int .u64 0) := blk_cell hrb9 4
          have z4 : w9.frozen? ⟨rb, 4, none⟩ = false := blk_frozen hrb9 4
          have r5 : w9.cell? ⟨rb, 5, none⟩ = some (.slice none 0 0) := blk_cell hrb9 5
          have z5 : w9.frozen? ⟨rb, 5, none⟩ = false := blk_frozen hrb9 5
          have r6 : w9.cell? ⟨rb, 6, none⟩ = some (.bool false) := blk_cell hrb9 6
          have z6 : w9.frozen? ⟨rb, 6, none⟩ = false := blk_frozen hrb9 6
          have hrl := blk_lt hrb9
          clear hb9 hrb9
          try unfold ansV
          go_wp2_with fail
          obtain ⟨hrf, hcf, hff⟩ := fin38 HF9.out HRW.out HC9.out HRB9.out (.int .i64 2) (.slice none 0 0) (.int .u32 0) (.int .u64 0) (.int .u64 0) (.slice none 0 0) (.bool false)
          unfold putA at hrf hcf hff
          have y0 := blk_cell hrf 0
          have y1 := blk_cell hrf 1
          have y2 := blk_cell hrf 2
          have y3 := blk_cell hrf 3
          have y4 := blk_cell hrf 4
          have y5 := blk_cell hrf 5
          have y6 := blk_cell hrf 6
          have hr : res = (c, failA 2) := by rw [HRES.out]; exact do_th2 HIT.out HOP.out.symm
          exact bodyPost_ret (v := .agg #[.int .i64 2, .slice none 0 0, .int .u32 0, .int .u64 0, .int .u64 0, .slice none 0 0, .bool false]) (by simp [results, Try.f12, go_sem, y0, y1, y2, y3, y4, y5, y6]) rfl ⟨_, _, by rw [hr]; rfl, by rw [hr]; exact BytesIn.nil _ _, by rw [hr]; exact hcf, hff⟩
        obtain ⟨nb, hnb⟩ : ∃ b, b = (t.cas != q.cas) := ⟨_, rfl⟩
        have hn := hnb.symm
        have HNB := Lib.hid hnb
        clear hnb
        by_cases hth : cz = true ∧ nb = true
        · obtain ⟨rfl, rfl⟩ := hth
          go_wp2_with fail
          refine (fail9 _ 2).mono ?_
          rintro e w9 ⟨rfl, hb9⟩
          have hb9 : Below wc.heap.size wc w9 := hb9
          have hrb9 := (hb9.block rb (blk_lt HI.out.hr)).trans HI.out.hr
          have HRB9 := Lib.hid hrb9
          have HC9 := Lib.hid (HI.out.ca.below hb9)
          have HF9 : Hid (Frm (fun b => b = cb ∨ b = ck) w w9) := frm_below (HI.out.bel.trans (hb9.mono HI.out.bel.size))
          have r0 : w9.cell? ⟨rb, 0, none⟩ = some (.int .i64 0) := blk_cell hrb9 0
          have z0 : w9.frozen? ⟨rb, 0, none⟩ = false := blk_frozen hrb9 0
          have r1 : w9.cell? ⟨rb, 1, none⟩ = some (.slice none 0 0) := blk_cell hrb9 1
          have z1 : w9.frozen? ⟨rb, 1, none⟩ = false := blk_frozen hrb9 1
          have r2 : w9.cell? ⟨rb, 2, none⟩ = some (.int .u32 0) := blk_cell hrb9 2
          have z2 : w9.frozen? ⟨rb, 2, none⟩ = false := blk_frozen hrb9 2
          have r3 : w9.cell? ⟨rb, 3, none⟩ = some (.int .u64 0) := blk_cell hrb9 3
          have z3 : w9.frozen? ⟨rb, 3, none⟩ = false := blk_frozen hrb9 3
          have r4 : w9.cell? ⟨rb, 4, none⟩ = some (.int .u64 0) := blk_cell hrb9 4
          have z4 : w9.frozen? ⟨rb, 4, none⟩ = false := blk_frozen hrb9 4
          have r5 : w9.cell? ⟨rb, 5, none⟩ = some (.slice none 0 0) := blk_cell hrb9 5
          have z5 : w9.frozen? ⟨rb, 5, none⟩ = false := blk_frozen hrb9 5
          have r6 : w9.cell? ⟨rb, 6, none⟩ = some (.bool false) := blk_cell hrb9 6
          have z6 : w9.frozen? ⟨rb, 6, none⟩ = false := blk_frozen hrb9 6
          have hrl := blk_lt hrb9
          clear hb9 hrb9
          try unfold ansV
          go_wp2_with fail
          obtain ⟨hrf, hcf, hff⟩ := fin38 HF9.out HRW.out HC9.out HRB9.out (.int .i64 2) (.slice none 0 0) (.int .u32 0) (.int .u64 0) (.int .u64 0) (.slice none 0 0) (.bool false)
          unfold putA at hrf hcf hff
          have y0 := blk_cell hrf 0
          have y1 := blk_cell hrf 1
          have y2 := blk_cell hrf 2
          have y3 := blk_cell hrf 3
          have y4 := blk_cell hrf 4
          have y5 := blk_cell hrf 5
          have y6 := blk_cell hrf 6
          have hr : res = (c, failA 2) := by rw [HRES.out]; exact do_thc HIT.out HCZ.out.symm (by have := HNB.out; rw [← HT.out]; simpa using this.symm)
          exact bodyPost_ret (v := .agg #[.int .i64 2, .slice none 0 0, .int .u32 0, .int .u64 0, .int .u64 0, .slice none 0 0, .bool false]) (by simp [results, Try.f12, go_sem, y0, y1, y2, y3, y4, y5, y6]) rfl ⟨_, _, by rw [hr]; rfl, by rw [hr]; exact BytesIn.nil _ _, by rw [hr]; exact hcf, hff⟩
        have HNT : Hid (¬ (q.casB = true ∧ (c.raw q.key).cas ≠ q.cas)) := by
          rintro ⟨e1, e2⟩
          refine hth ⟨HCZ.out.trans e1, ?_⟩
          rw [HNB.out, HT.out]; simpa using e2
        have H2 : Hid (q.op ≠ 2) := by show _ ≠ _; rw [← HOP.out]; exact h2
        have hx2 : (x == 2) = false := by simp [h2]
        clear h2
        go_upto_region 8 with fail
        obtain ⟨WB, hwb⟩ : ∃ WB, WB = wc := ⟨_, rfl⟩
        subst hwb
        go_cut [97] from 98 to 109 (fun s97 W6 => s97 = .bool false ∧ W6 = WB)
        case first =>
          cases cz with
          | false =>
            go_wp2_with fail
            go_meet
            case rel => exact ⟨rfl, rfl⟩
          | true =>
            obtain rfl : nb = false := by cases nb <;> simp_all
            go_wp2_with fail
            go_meet
            case rel => exact ⟨rfl, rfl⟩
        case rest =>
          obtain ⟨hs97, hw⟩ := hcut
          subst hs97 hw
          by_cases h0 : x = 0
          · subst h0
            obtain ⟨na, nc, W4, hr4, ho4, hb4⟩ := copy_bytes_d wc (.slice xa xn xc) t.val (by rw [HXN.out]; exact HI.out.xb.1) (Nat.le_trans HI.out.tok.1 (by decide))
            rw [← HXN.out] at hr4 ho4
            have hba : Below wc.heap.size wc (wc.alloc (.cells #[] 5)) := (Below.refl _ wc).alloc (Nat.le_refl _) _
            have hb4' : Below wc.heap.size wc W4 := hb4
            have t0a : (wc.alloc (.cells #[] 5)).cell? ⟨vb, 0, none⟩ = some (.slice xa xn xc) := cellB hba t0
            have t1a : (wc.alloc (.cells #[] 5)).cell? ⟨vb, 1, none⟩ = some (.int .u32 t.fl) := cellB hba t1
            have t3a : (wc.alloc (.cells #[] 5)).cell? ⟨vb, 3, none⟩ = some (.int .u64 t.cas) := cellB hba t3
            have t0b : W4.cell? ⟨vb, 0, none⟩ = some (.slice xa xn xc) := cellB hb4' t0
            have t1b : W4.cell? ⟨vb, 1, none⟩ = some (.int .u32 t.fl) := cellB hb4' t1
            have t3b : W4.cell? ⟨vb, 3, none⟩ = some (.int .u64 t.cas) := cellB hb4' t3
            have t0d : wc.drew.cell? ⟨vb, 0, none⟩ = some (.slice xa xn xc) := t0
            have t1d : wc.drew.cell? ⟨vb, 1, none⟩ = some (.int .u32 t.fl) := t1
            have t3d : wc.drew.cell? ⟨vb, 3, none⟩ = some (.int .u64 t.cas) := t3
            have t0A : (wc.alloc (.cells #[] 5)).drew.cell? ⟨vb, 0, none⟩ = some (.slice xa xn xc) := t0a
            have t1A : (wc.alloc (.cells #[] 5)).drew.cell? ⟨vb, 1, none⟩ = some (.int .u32 t.fl) := t1a
            have t3A : (wc.alloc (.cells #[] 5)).drew.cell? ⟨vb, 3, none⟩ = some (.int .u64 t.cas) := t3a
            have hrb4 := (hb4'.block rb (blk_lt HI.out.hr)).trans HI.out.hr
            have r0 : W4.cell? ⟨rb, 0, none⟩ = some (.int .i64 0) := blk_cell hrb4 0
            have z0 : W4.frozen? ⟨rb, 0, none⟩ = false := blk_frozen hrb4 0
            have r1 : W4.cell? ⟨rb, 1, none⟩ = some (.slice none 0 0) := blk_cell hrb4 1
            have z1 : W4.frozen? ⟨rb, 1, none⟩ = false := blk_frozen hrb4 1
            have r2 : W4.cell? ⟨rb, 2, none⟩ = some (.int .u32 0) := blk_cell hrb4 2
            have z2 : W4.frozen? ⟨rb, 2, none⟩ = false := blk_frozen hrb4 2
            have r3 : W4.cell? ⟨rb, 3, none⟩ = some (.int .u64 0) := blk_cell hrb4 3
            have z3 : W4.frozen? ⟨rb, 3, none⟩ = false := blk_frozen hrb4 3
            have r4 : W4.cell? ⟨rb, 4, none⟩ = some (.int .u64 0) := blk_cell hrb4 4
            have z4 : W4.frozen? ⟨rb, 4, none⟩ = false := blk_frozen hrb4 4
            have r5 : W4.cell? ⟨rb, 5, none⟩ = some (.slice none 0 0) := blk_cell hrb4 5
            have z5 : W4.frozen? ⟨rb, 5, none⟩ = false := blk_frozen hrb4 5
            have r6 : W4.cell? ⟨rb, 6, none⟩ = some (.bool false) := blk_cell hrb4 6
            have z6 : W4.frozen? ⟨rb, 6, none⟩ = false := blk_frozen hrb4 6
            have hrl := blk_lt hrb4
            have HRB4 := Lib.hid hrb4
            have HC4 := Lib.hid (HI.out.ca.below hb4')
            have HB4 := Lib.hid hb4
            have HR4 := Lib.hid hr4
            have HY4 : Hid (BytesIn W4 E (.slice na xn nc) t.val) := ⟨by have := own_isSl ho4; exact this, fun _ b hb => HE.out b (by have := (ho4.lt b hb).1; have h1 := HI.out.bel.size; omega)⟩
            have hvr : vb ≠ rb := by intro e; have h1 := HI.out.hv; rw [e, HI.out.hr] at h1; cases h1
            clear hr4 ho4 hba hb4 hb4' hrb4
            go_wp2_with fail
            refine wp_opaque ?_
            intro A hA
            have hsz : A.tmps.size = 204 := by rw [hA]; rfl
            have a6 : A.tmps[6]? = some (.pointer (some ⟨rb, 0, none⟩)) := by rw [hA]; rfl
            have a7 : A.tmps[7]? = some (.pointer (some ⟨vb, 0, none⟩)) := by rw [hA]; rfl
            have a120 : A.tmps[120]? = some undef := by rw [hA]; rfl
            have a121 : A.tmps[121]? = some undef := by rw [hA]; rfl
            have a122 : A.tmps[122]? = some undef := by rw [hA]; rfl
            have a123 : A.tmps[123]? = some undef := by rw [hA]; rfl
            have a124 : A.tmps[124]? = some undef := by rw [hA]; rfl
            have a125 : A.tmps[125]? = some undef := by rw [hA]; rfl
            have a126 : A.tmps[126]? = some undef := by rw [hA]; rfl
            have a127 : A.tmps[127]? = some undef := by rw [hA]; rfl
            have a128 : A.tmps[128]? = some undef := by rw [hA]; rfl
            refine wp_region_tbl [(0, 120, (.slice (some ⟨wc.heap.size, 0, none⟩) 0 0)), (1, 121, (.pointer (some ⟨vb, 0, none⟩))), (2, 122, (.slice xa xn xc)), (3, 123, (.slice na xn nc)), (4, 124, (.pointer (some ⟨vb, 1, none⟩))), (5, 125, (.int .u32 t.fl)), (6, 126, (.pointer (some ⟨vb, 3, none⟩))), (7, 127, (.int .u64 t.cas)), (8, 128, (.agg #[.int .i64 0, .slice na xn nc, .int .u32 t.fl, .int .u64 t.cas, .int .u64 0, .slice none 0 0, .bool false]))] (fun done WW => WW = (if done 9 then putA W4 rb (.int .i64 0) (.slice na xn nc) (.int .u32 t.fl) (.int .u64 t.cas) (.int .u64 0) (.slice none 0 0) (.bool false) else if done 3 then W4 else if done 0 then (wc.alloc (.cells #[] 5)).drew else wc.drew)) (by kernel_rfl) (hord_of2 (by kernel_rfl)) (by kernel_rfl) (by kernel_rfl) (by rw [hsz]; kernel_rfl) rfl ?_ ?_
            · intro done zb WW j oq ho hd hdep hcl HA hww
              have hj : j < 10 := (Array.getElem?_eq_some_iff.1 ho).1
              obtain rfl | rfl | rfl | rfl | rfl | rfl | rfl | rfl | rfl | rfl : j = 0 ∨ j = 1 ∨ j = 2 ∨ j = 3 ∨ j = 4 ∨ j = 5 ∨ j = 6 ∨ j = 7 ∨ j = 8 ∨ j = 9 := by omega
              · have n3 : done 3 = false := by cases hx : done 3 with | false => rfl | true => have := hcl 3 _ rfl hx ⟨0, .data⟩ (by simp) rfl; rw [hd] at this; cases this
                have n8 : done 8 = false := by cases hx : done 8 with | false => rfl | true => have := hcl 8 _ rfl hx ⟨3, .data⟩ (by simp) rfl; rw [n3] at this; cases this
                have n9 : done 9 = false := by cases hx : done 9 with | false => rfl | true => have := hcl 9 _ rfl hx ⟨8, .data⟩ (by simp) rfl; rw [n8] at this; cases this
                have hw : WW = wc.drew := by rw [hww]; simp [n3, n9, hd]
                rw [hw]
                exact valT (W' := (wc.alloc (.cells #[] 5)).drew) (.slice (some ⟨wc.heap.size, 0, none⟩) 0 0) ho (by cases ho; rfl) (by cases ho; simp [execOp, go_sem, HA.tm, lookT, a6, a7, a120, a121, a122, a123, a124, a125, a126, a127, a128]) (by cases ho; exact fun d hd => by cases hd; simp) (by simp [n3, n9])
              · have n2 : done 2 = false := by cases hx : done 2 with | false => rfl | true => have := hcl 2 _ rfl hx ⟨1, .data⟩ (by simp) rfl; rw [hd] at this; cases this
                have n3 : done 3 = false := by cases hx : done 3 with | false => rfl | true => have := hcl 3 _ rfl hx ⟨2, .data⟩ (by simp) rfl; rw [n2] at this; cases this
                have n8 : done 8 = false := by cases hx : done 8 with | false => rfl | true => have := hcl 8 _ rfl hx ⟨3, .data⟩ (by simp) rfl; rw [n3] at this; cases this
                have n9 : done 9 = false := by cases hx : done 9 with | false => rfl | true => have := hcl 9 _ rfl hx ⟨8, .data⟩ (by simp) rfl; rw [n8] at this; cases this
                exact valT (W' := WW) (.pointer (some ⟨vb, 0, none⟩)) ho (by cases ho; rfl) (by cases ho; simp [execOp, go_sem, HA.tm, lookT, a6, a7, a120, a121, a122, a123, a124, a125, a126, a127, a128]) (by cases ho; exact fun d hd => by cases hd; simp) (hww)
              · have p1 : done 1 = true := by cases ho; exact hdep ⟨1, .data⟩ (by simp) rfl
                have n3 : done 3 = false := by cases hx : done 3 with | false => rfl | true => have := hcl 3 _ rfl hx ⟨2, .data⟩ (by simp) rfl; rw [hd] at this; cases this
                have n8 : done 8 = false := by cases hx : done 8 with | false => rfl | true => have := hcl 8 _ rfl hx ⟨3, .data⟩ (by simp) rfl; rw [n3] at this; cases this
                have n9 : done 9 = false := by cases hx : done 9 with | false => rfl | true => have := hcl 9 _ rfl hx ⟨8, .data⟩ (by simp) rfl; rw [n8] at this; cases this
                have hcell0 : WW.cell? ⟨vb, 0, none⟩ = some ((.slice xa xn xc)) := by
                  rw [hww]
                  simp only [n9, Bool.false_eq_true, if_false]
                  simp only [n3, Bool.false_eq_true, if_false]
                  cases hz0 : done 0 with
                  | true =>
                    simp only [if_true]
                    assumption
                  | false =>
                    simp only [Bool.false_eq_true, if_false]
                    assumption
                exact valT (W' := WW) (.slice xa xn xc) ho (by cases ho; rfl) (by cases ho; simp [execOp, go_sem, HA.tm, lookT, a6, a7, a120, a121, a122, a123, a124, a125, a126, a127, a128, p1, hcell0]) (by cases ho; exact fun d hd => by cases hd; simp) (hww)
              · have p0 : done 0 = true := by cases ho; exact hdep ⟨0, .data⟩ (by simp) rfl
                have p2 : done 2 = true := by cases ho; exact hdep ⟨2, .data⟩ (by simp) rfl
                have n8 : done 8 = false := by cases hx : done 8 with | false => rfl | true => have := hcl 8 _ rfl hx ⟨3, .data⟩ (by simp) rfl; rw [hd] at this; cases this
                have n9 : done 9 = false := by cases hx : done 9 with | false => rfl | true => have := hcl 9 _ rfl hx ⟨8, .data⟩ (by simp) rfl; rw [n8] at this; cases this
                have hw : WW = (wc.alloc (.cells #[] 5)).drew := by rw [hww]; simp [p0, n9, hd]
                rw [hw]
                exact appT (W' := W4) (v := .slice (some ⟨wc.heap.size, 0, none⟩) 0 0) (vx := .slice xa xn xc) (v' := .slice na xn nc) ho (by cases ho; rfl) (.tmp 120) (.tmp 122) 23 (by cases ho; rfl) (by simp [HA.ev, lookT, p0, p2]) (by simp [HA.ev, lookT, p0, p2]) (by cases ho; exact HR4.out) (by cases ho; exact fun d hd => by cases hd; simp) (by simp [n9])
              · have n5 : done 5 = false := by cases hx : done 5 with | false => rfl | true => have := hcl 5 _ rfl hx ⟨4, .data⟩ (by simp) rfl; rw [hd] at this; cases this
                have n8 : done 8 = false := by cases hx : done 8 with | false => rfl | true => have := hcl 8 _ rfl hx ⟨5, .data⟩ (by simp) rfl; rw [n5] at this; cases this
                have n9 : done 9 = false := by cases hx : done 9 with | false => rfl | true => have := hcl 9 _ rfl hx ⟨8, .data⟩ (by simp) rfl; rw [n8] at this; cases this
                exact valT (W' := WW) (.pointer (some ⟨vb, 1, none⟩)) ho (by cases ho; rfl) (by cases ho; simp [execOp, go_sem, HA.tm, lookT, a6, a7, a120, a121, a122, a123, a124, a125, a126, a127, a128]) (by cases ho; exact fun d hd => by cases hd; simp) (hww)
              · have p4 : done 4 = true := by cases ho; exact hdep ⟨4, .data⟩ (by simp) rfl
                have n8 : done 8 = false := by cases hx : done 8 with | false => rfl | true => have := hcl 8 _ rfl hx ⟨5, .data⟩ (by simp) rfl; rw [hd] at this; cases this
                have n9 : done 9 = false := by cases hx : done 9 with | false => rfl | true => have := hcl 9 _ rfl hx ⟨8, .data⟩ (by simp) rfl; rw [n8] at this; cases this
                have hcell0 : WW.cell? ⟨vb, 1, none⟩ = some ((.int .u32 t.fl)) := by
                  rw [hww]
                  simp only [n9, Bool.false_eq_true, if_false]
                  cases hz3 : done 3 with
                  | true =>
                    simp only [if_true]
                    assumption
                  | false =>
                    simp only [Bool.false_eq_true, if_false]
                    cases hz0 : done 0 with
                    | true =>
                      simp only [if_true]
                      assumption
                    | false =>
                      simp only [Bool.false_eq_true, if_false]
                      assumption
                exact valT (W' := WW) (.int .u32 t.fl) ho (by cases ho; rfl) (by cases ho; simp [execOp, go_sem, HA.tm, lookT, a6, a7, a120, a121, a122, a123, a124, a125, a126, a127, a128, p4, hcell0]) (by cases ho; exact fun d hd => by cases hd; simp) (hww)
              · have n7 : done 7 = false := by cases hx : done 7 with | false => rfl | true => have := hcl 7 _ rfl hx ⟨6, .data⟩ (by simp) rfl; rw [hd] at this; cases this
                have n8 : done 8 = false := by cases hx : done 8 with | false => rfl | true => have := hcl 8 _ rfl hx ⟨7, .data⟩ (by simp) rfl; rw [n7] at this; cases this
                have n9 : done 9 = false := by cases hx : done 9 with | false => rfl | true => have := hcl 9 _ rfl hx ⟨8, .data⟩ (by simp) rfl; rw [n8] at this; cases this
                exact valT (W' := WW) (.pointer (some ⟨vb, 3, none⟩)) ho (by cases ho; rfl) (by cases ho; simp [execOp, go_sem, HA.tm, lookT, a6, a7, a120, a121, a122, a123, a124, a125, a126, a127, a128]) (by cases ho; exact fun d hd => by cases hd; simp) (hww)
              · have p6 : done 6 = true := by cases ho; exact hdep ⟨6, .data⟩ (by simp) rfl
                have n8 : done 8 = false := by cases hx : done 8 with | false => rfl | true => have := hcl 8 _ rfl hx ⟨7, .data⟩ (by simp) rfl; rw [hd] at this; cases this
                have n9 : done 9 = false := by cases hx : done 9 with | false => rfl | true => have := hcl 9 _ rfl hx ⟨8, .data⟩ (by simp) rfl; rw [n8] at this; cases this
                have hcell0 : WW.cell? ⟨vb, 3, none⟩ = some ((.int .u64 t.cas)) := by
                  rw [hww]
                  simp only [n9, Bool.false_eq_true, if_false]
                  cases hz3 : done 3 with
                  | true =>
                    simp only [if_true]
                    assumption
                  | false =>
                    simp only [Bool.false_eq_true, if_false]
                    cases hz0 : done 0 with
                    | true =>
                      simp only [if_true]
                      assumption
                    | false =>
                      simp only [Bool.false_eq_true, if_false]
                      assumption
                exact valT (W' := WW) (.int .u64 t.cas) ho (by cases ho; rfl) (by cases ho; simp [execOp, go_sem, HA.tm, lookT, a6, a7, a120, a121, a122, a123, a124, a125, a126, a127, a128, p6, hcell0]) (by cases ho; exact fun d hd => by cases hd; simp) (hww)
              · have p3 : done 3 = true := by cases ho; exact hdep ⟨3, .data⟩ (by simp) rfl
                have p5 : done 5 = true := by cases ho; exact hdep ⟨5, .data⟩ (by simp) rfl
                have p7 : done 7 = true := by cases ho; exact hdep ⟨7, .data⟩ (by simp) rfl
                have p0 : done 0 = true := hcl 3 _ rfl p3 ⟨0, .data⟩ (by simp) rfl
                have n9 : done 9 = false := by cases hx : done 9 with | false => rfl | true => have := hcl 9 _ rfl hx ⟨8, .data⟩ (by simp) rfl; rw [hd] at this; cases this
                exact valT (W' := WW) (.agg #[.int .i64 0, .slice na xn nc, .int .u32 t.fl, .int .u64 t.cas, .int .u64 0, .slice none 0 0, .bool false]) ho (by cases ho; rfl) (by cases ho; simp [execOp, go_sem, HA.tm, lookT, a6, a7, a120, a121, a122, a123, a124, a125, a126, a127, a128, p3, p5, p7]) (by cases ho; exact fun d hd => by cases hd; simp) (hww)
              · have p8 : done 8 = true := by cases ho; exact hdep ⟨8, .data⟩ (by simp) rfl
                have p3 : done 3 = true := by cases ho; exact hdep ⟨3, .chain⟩ (by simp) rfl
                have p0 : done 0 = true := by cases ho; exact hdep ⟨0, .phase⟩ (by simp) rfl
                have hw : WW = W4 := by rw [hww]; simp [p0, p3, hd]
                rw [hw]
                exact skipT (W' := putA W4 rb (.int .i64 0) (.slice na xn nc) (.int .u32 t.fl) (.int .u64 t.cas) (.int .u64 0) (.slice none 0 0) (.bool false)) ho (by cases ho; rfl) (by cases ho; rfl) (by cases ho; simp [execOp, go_sem, HA.tm, lookT, a6, a7, a120, a121, a122, a123, a124, a125, a126, a127, a128, p0, p3, p8, putA, r0, r1, r2, r3, r4, r5, r6, z0, z1, z2, z3, z4, z5, z6, hrl]) (by simp)
            · intro done WW hall hww
              have z0 := hall 0 (by decide)
              have z3 := hall 3 (by decide)
              have z9 := hall 9 (by decide)
              simp only [z0, z3, z9, if_true] at hww
              subst hww
              clear hall z0 z3 z9
              subst hA
              simp only [putAll, Act.put, List.setIfInBounds_toArray, List.set_cons_succ, List.set_cons_zero]
              have HF4 : Hid (Frm (fun b => b = cb ∨ b = ck) w W4) := frm_below (HI.out.bel.trans (Below.mono HB4.out HI.out.bel.size))
              go_wp2_with fail
              obtain ⟨hrf, hcf, hff⟩ := fin38 HF4.out HRW.out HC4.out HRB4.out (.int .i64 0) (.slice na xn nc) (.int .u32 t.fl) (.int .u64 t.cas) (.int .u64 0) (.slice none 0 0) (.bool false)
              have hbf := (BytesIn.keepB HY4.out (set7 HRB4.out (.int .i64 0) (.slice na xn nc) (.int .u32 t.fl) (.int .u64 t.cas) (.int .u64 0) (.slice none 0 0) (.bool false)).2 HRB4.out (ansC0_u8 0 0 0))
              have y0 := blk_cell hrf 0
              have y1 := blk_cell hrf 1
              have y2 := blk_cell hrf 2
              have y3 := blk_cell hrf 3
              have y4 := blk_cell hrf 4
              have y5 := blk_cell hrf 5
              have y6 := blk_cell hrf 6
              have hr : res = (c, tellA t t.cas) := by rw [HRES.out, do_is HIT.out HNT.out (by rw [← HOP.out]; decide), if_pos HOP.out.symm, HT.out]
              exact bodyPost_ret (v := .agg #[.int .i64 0, .slice na xn nc, .int .u32 t.fl, .int .u64 t.cas, .int .u64 0, .slice none 0 0, .bool false]) (by simp [results, Try.f12, go_sem, y0, y1, y2, y3, y4, y5, y6]) rfl ⟨na, nc, by rw [hr, HXN.out]; rfl, by rw [hr]; show BytesIn _ E (.slice _ t.val.length _) t.val; rw [← HXN.out]; exact hbf, by rw [hr]; exact hcf, hff⟩
          by_cases h4 : x = 4
          · subst h4
            obtain ⟨G, hmG, haG⟩ := HI.out.ca.map
            have HMG := Lib.hid hmG
            have HAG := Lib.hid haG
            obtain ⟨w5, hdl, hm5, hf5⟩ := (hmG.keep (w' := wc.drew) rfl).delete strKey Try.underlying28 Try.underlying9 q.key 0 9
            have hkd : BytesAt wc.drew (.slice r.ka q.key.length r.kc) q.key := HKEYW.out.1
            have hk5 : BytesAt w5 (.slice r.ka q.key.length r.kc) q.key := IsSl.frm hkd hf5 fun hl b hb e => HI.out.ca.ek ((show b = ck from e) ▸ HKEYW.out.2 (by intro e; simp [e] at hl) b hb)
            have c0 : wc.cell? ⟨cb, 0, none⟩ = some (.map (some ck)) := blk_cell HI.out.ca.blk 0
            have hmc : ∀ (b : Nat) (cs : Array Value) (e : TypeId), wc.heap[b]? = some (.cells cs e (0, 0)) → w5.heap[b]? = some (.cells cs e (0, 0)) := fun b cs e hb => (hf5.block b (blk_lt hb) fun e' => mapAt_block hmG ((congrArg (fun b => wc.heap[b]?) (show ck = b from e'.symm)).trans hb)).trans hb
            have hcb5 := hmc _ _ _ HI.out.ca.blk
            have hqb5 := hmc _ _ _ HI.out.hq
            have hrb5 := hmc _ _ _ HI.out.hr
            have hcv := convert_sl (P := Try.prog) 23 5 Try.underlying23 Try.underlying5 hkd 9 Try.underlying9
            have S5 : Hid (w5.cell? ⟨cb, 0, none⟩ = some (.map (some ck)) ∧ w5.cell? ⟨qb, 5, none⟩ = some (.slice r.ka q.key.length r.kc) ∧ (convert 23 9 (.slice r.ka q.key.length r.kc)).run Try.prog w5 = .ok (.string ⟨q.key.toArray⟩) w5) := ⟨blk_cell hcb5 0, blk_cell hqb5 5, convert_sl (P := Try.prog) 23 5 Try.underlying23 Try.underlying5 hk5 9 Try.underlying9⟩
            have hC5 : CaAt w5 E cb ck (c.del q.key) := ⟨hcb5, ⟨_, hm5, fun k => by
              show ((if k = q.key then none else c.keys k) = none ∧ (if k = q.key then none else G k) = none) ∨ ∃ t' x, (if k = q.key then none else c.keys k) = some t' ∧ (if k = q.key then none else G k) = some (.agg (boxC x t')) ∧ _ ∧ _
              by_cases e : k = q.key
              · rw [if_pos e, if_pos e]; exact .inl ⟨rfl, rfl⟩
              · rw [if_neg e, if_neg e]
                rcases HAG.out k with h3 | ⟨t', x, h3, h4, h5, h6⟩
                · exact .inl h3
                · exact .inr ⟨t', x, h3, h4, h5.frm (S := fun b => b = ck) ((Frm.refl _ wc).drew.trans hf5) (fun b hb e => HI.out.ca.ek ((show b = ck from e) ▸ hb)), h6⟩⟩, HI.out.ca.bnd, HI.out.ca.eb, HI.out.ca.ek⟩
            have HC5 := Lib.hid hC5
            have HRB5 := Lib.hid hrb5
            have HF5 : Hid (Frm (fun b => b = cb ∨ b = ck) w w5) := (frm_below (HI.out.bel.drew) : Frm (fun b => b = cb ∨ b = ck) w wc.drew).trans (hf5.mono fun _ _ e => .inr e)
            have r0 : w5.cell? ⟨rb, 0, none⟩ = some (.int .i64 0) := blk_cell hrb5 0
            have z0 : w5.frozen? ⟨rb, 0, none⟩ = false := blk_frozen hrb5 0
            have r1 : w5.cell? ⟨rb, 1, none⟩ = some (.slice none 0 0) := blk_cell hrb5 1
            have z1 : w5.frozen? ⟨rb, 1, none⟩ = false := blk_frozen hrb5 1
            have r2 : w5.cell? ⟨rb, 2, none⟩ = some (.int .u32 0) := blk_cell hrb5 2
            have z2 : w5.frozen? ⟨rb, 2, none⟩ = false := blk_frozen hrb5 2
            have r3 : w5.cell? ⟨rb, 3, none⟩ = some (.int .u64 0) := blk_cell hrb5 3
            have z3 : w5.frozen? ⟨rb, 3, none⟩ = false := blk_frozen hrb5 3
            have r4 : w5.cell? ⟨rb, 4, none⟩ = some (.int .u64 0) := blk_cell hrb5 4
            have z4 : w5.frozen? ⟨rb, 4, none⟩ = false := blk_frozen hrb5 4
            have r5 : w5.cell? ⟨rb, 5, none⟩ = some (.slice none 0 0) := blk_cell hrb5 5
            have z5 : w5.frozen? ⟨rb, 5, none⟩ = false := blk_frozen hrb5 5
            have r6 : w5.cell? ⟨rb, 6, none⟩ = some (.bool false) := blk_cell hrb5 6
            have z6 : w5.frozen? ⟨rb, 6, none⟩ = false := blk_frozen hrb5 6
            have hrl := blk_lt hrb5
            unfold strV at hdl
            clear hmG haG hm5 hf5 hkd hk5 hmc hcb5 hqb5 hrb5 hC5
            go_wp2_with fail
            go_region_held3 (fun w' => w'.cell? ⟨cb, 0, none⟩ = some (.map (some ck)) ∧ w'.cell? ⟨qb, 5, none⟩ = some (.slice r.ka q.key.length r.kc) ∧ (convert 23 9 (.slice r.ka q.key.length r.kc)).run Try.prog w' = .ok (.string ⟨q.key.toArray⟩) w') (first | exact ⟨c0, q5, hcv⟩ | exact S5.out) (first | fail)
            all_goals
              go_wp2_with fail
              obtain ⟨hrf, hcf, hff⟩ := fin38 HF5.out HRW.out HC5.out HRB5.out (.int .i64 0) (.slice none 0 0) (.int .u32 0) (.int .u64 0) (.int .u64 0) (.slice none 0 0) (.bool false)
              unfold putA at hrf hcf hff
              have y0 := blk_cell hrf 0
              have y1 := blk_cell hrf 1
              have y2 := blk_cell hrf 2
              have y3 := blk_cell hrf 3
              have y4 := blk_cell hrf 4
              have y5 := blk_cell hrf 5
              have y6 := blk_cell hrf 6
              have hr : res = (c.del q.key, okA 0 0) := by rw [HRES.out, do_is HIT.out HNT.out (by rw [← HOP.out]; decide), ← HOP.out]; simp
              exact bodyPost_ret (v := .agg #[.int .i64 0, .slice none 0 0, .int .u32 0, .int .u64 0, .int .u64 0, .slice none 0 0, .bool false]) (by simp [results, Try.f12, go_sem, y0, y1, y2, y3, y4, y5, y6]) rfl ⟨_, _, by rw [hr]; rfl, by rw [hr]; exact BytesIn.nil _ _, by rw [hr]; exact hcf, hff⟩
          by_cases h5 : x = 5
          · subst h5
            have HTN := Lib.hid (turn28 wc E cb ck c HI.out.ca (fun b hb => HE.out b (Nat.le_trans HI.out.bel.size hb)) q r HKEYW.out HQOK.out t (.slice xa t.val.length xc) HI.out.xb HI.out.tok HLL.out true now HNOW.out)
            unfold rqV boxC at HTN
            rw [← HXN.out, ← HOP.out] at HTN
            obtain ⟨tr, htr⟩ : ∃ tr, tr = c.turn q t true now := ⟨_, rfl⟩
            rw [← htr] at HTN
            have HTR := Lib.hid htr
            clear htr
            go_wp2_with fail
            refine HTN.out.mono ?_
            rintro e w9 ⟨rfl, hc9, hf9⟩
            have hrn := HI.out.ca.blkne HI.out.hr (by decide)
            have hrb9 := (hf9.block rb (blk_lt HI.out.hr) (by rintro (e | e); exact hrn.1 e; exact hrn.2 e)).trans HI.out.hr
            have HRB9 := Lib.hid hrb9
            have HC9 := Lib.hid hc9
            have HF9 : Hid (Frm (fun b => b = cb ∨ b = ck) w w9) := (frm_below HI.out.bel : Frm (fun b => b = cb ∨ b = ck) w wc).trans hf9
            have r0 : w9.cell? ⟨rb, 0, none⟩ = some (.int .i64 0) := blk_cell hrb9 0
            have z0 : w9.frozen? ⟨rb, 0, none⟩ = false := blk_frozen hrb9 0
            have r1 : w9.cell? ⟨rb, 1, none⟩ = some (.slice none 0 0) := blk_cell hrb9 1
            have z1 : w9.frozen? ⟨rb, 1, none⟩ = false := blk_frozen hrb9 1
            have r2 : w9.cell? ⟨rb, 2, none⟩ = some (.int .u32 0) := blk_cell hrb9 2
            have z2 : w9.frozen? ⟨rb, 2, none⟩ = false := blk_frozen hrb9 2
            have r3 : w9.cell? ⟨rb, 3, none⟩ = some (.int .u64 0) := blk_cell hrb9 3
            have z3 : w9.frozen? ⟨rb, 3, none⟩ = false := blk_frozen hrb9 3
            have r4 : w9.cell? ⟨rb, 4, none⟩ = some (.int .u64 0) := blk_cell hrb9 4
            have z4 : w9.frozen? ⟨rb, 4, none⟩ = false := blk_frozen hrb9 4
            have r5 : w9.cell? ⟨rb, 5, none⟩ = some (.slice none 0 0) := blk_cell hrb9 5
            have z5 : w9.frozen? ⟨rb, 5, none⟩ = false := blk_frozen hrb9 5
            have r6 : w9.cell? ⟨rb, 6, none⟩ = some (.bool false) := blk_cell hrb9 6
            have z6 : w9.frozen? ⟨rb, 6, none⟩ = false := blk_frozen hrb9 6
            have hrl := blk_lt hrb9
            clear hc9 hf9 hrb9 hrn
            obtain ⟨t1, t2, t3, t4⟩ : tr.2.val = [] ∧ tr.2.fl = 0 ∧ tr.2.stats = [] ∧ tr.2.cl = false := by rw [HTR.out]; exact turn_bare _ _ _ _ _
            have hz : ansZ tr.2 = .agg #[.int .i64 tr.2.st, .slice none 0 0, .int .u32 0, .int .u64 tr.2.cas, .int .u64 tr.2.num, .slice none 0 0, .bool false] := by unfold ansZ ansV; rw [t2, t4]
            rw [hz]
            have HT1 := Lib.hid t1
            have HT2 := Lib.hid t2
            have HT3 := Lib.hid t3
            have HT4 := Lib.hid t4
            clear t1 t2 t3 t4 hz
            obtain ⟨ust, hust⟩ : ∃ x, x = tr.2.st := ⟨_, rfl⟩
            obtain ⟨ucas, hucas⟩ : ∃ x, x = tr.2.cas := ⟨_, rfl⟩
            obtain ⟨unum, hunum⟩ : ∃ x, x = tr.2.num := ⟨_, rfl⟩
            rw [← hust, ← hucas, ← hunum]
            have HU := Lib.hid (show _ ∧ _ ∧ _ from ⟨hust, hucas, hunum⟩)
            clear hust hucas hunum
            go_wp2_with fail
            obtain ⟨hrf, hcf, hff⟩ := fin38 HF9.out HRW.out HC9.out HRB9.out (.int .i64 ust) (.slice none 0 0) (.int .u32 0) (.int .u64 ucas) (.int .u64 unum) (.slice none 0 0) (.bool false)
            unfold putA at hrf hcf hff
            have y0 := blk_cell hrf 0
            have y1 := blk_cell hrf 1
            have y2 := blk_cell hrf 2
            have y3 := blk_cell hrf 3
            have y4 := blk_cell hrf 4
            have y5 := blk_cell hrf 5
            have y6 := blk_cell hrf 6
            have hr : res = tr := by rw [HRES.out, HTR.out, HT.out]; rw [do_is HIT.out HNT.out (by rw [← HOP.out]; decide), if_neg (by rw [← HOP.out]; decide), if_neg (by rw [← HOP.out]; decide), if_neg (by rw [← HOP.out]; decide), if_neg (by rw [← HOP.out]; decide), if_pos (.inl HOP.out.symm), ← HT.out]
            exact bodyPost_ret (v := .agg #[.int .i64 ust, .slice none 0 0, .int .u32 0, .int .u64 ucas, .int .u64 unum, .slice none 0 0, .bool false]) (by simp [results, Try.f12, go_sem, y0, y1, y2, y3, y4, y5, y6]) rfl ⟨none, 0, by rw [hr, HT1.out, HT2.out, HT4.out, HU.out.1, HU.out.2.1, HU.out.2.2]; rfl, by rw [hr, HT1.out]; exact BytesIn.nil _ _, by rw [hr]; exact hcf, hff⟩
          by_cases h6 : x = 6
          · subst h6
            have HTN := Lib.hid (turn28 wc E cb ck c HI.out.ca (fun b hb => HE.out b (Nat.le_trans HI.out.bel.size hb)) q r HKEYW.out HQOK.out t (.slice xa t.val.length xc) HI.out.xb HI.out.tok HLL.out true now HNOW.out)
            unfold rqV boxC at HTN
            rw [← HXN.out, ← HOP.out] at HTN
            obtain ⟨tr, htr⟩ : ∃ tr, tr = c.turn q t true now := ⟨_, rfl⟩
            rw [← htr] at HTN
            have HTR := Lib.hid htr
            clear htr
            go_wp2_with fail
            refine HTN.out.mono ?_
            rintro e w9 ⟨rfl, hc9, hf9⟩
            have hrn := HI.out.ca.blkne HI.out.hr (by decide)
            have hrb9 := (hf9.block rb (blk_lt HI.out.hr) (by rintro (e | e); exact hrn.1 e; exact hrn.2 e)).trans HI.out.hr
            have HRB9 := Lib.hid hrb9
            have HC9 := Lib.hid hc9
            have HF9 : Hid (Frm (fun b => b = cb ∨ b = ck) w w9) := (frm_below HI.out.bel : Frm (fun b => b = cb ∨ b = ck) w wc).trans hf9
            have r0 : w9.cell? ⟨rb, 0, none⟩ = some (.int .i64 0) := blk_cell hrb9 0
            have z0 : w9.frozen? ⟨rb, 0, none⟩ = false := blk_frozen hrb9 0
            have r1 : w9.cell? ⟨rb, 1, none⟩ = some (.slice none 0 0) := blk_cell hrb9 1
            have z1 : w9.frozen? ⟨rb, 1, none⟩ = false := blk_frozen hrb9 1
            have r2 : w9.cell? ⟨rb, 2, none⟩ = some (.int .u32 0) := blk_cell hrb9 2
            have z2 : w9.frozen? ⟨rb, 2, none⟩ = false := blk_frozen hrb9 2
            have r3 : w9.cell? ⟨rb, 3, none⟩ = some (.int .u64 0) := blk_cell hrb9 3
            have z3 : w9.frozen? ⟨rb, 3, none⟩ = false := blk_frozen hrb9 3
            have r4 : w9.cell? ⟨rb, 4, none⟩ = some (.int .u64 0) := blk_cell hrb9 4
            have z4 : w9.frozen? ⟨rb, 4, none⟩ = false := blk_frozen hrb9 4
            have r5 : w9.cell? ⟨rb, 5, none⟩ = some (.slice none 0 0) := blk_cell hrb9 5
            have z5 : w9.frozen? ⟨rb, 5, none⟩ = false := blk_frozen hrb9 5
            have r6 : w9.cell? ⟨rb, 6, none⟩ = some (.bool false) := blk_cell hrb9 6
            have z6 : w9.frozen? ⟨rb, 6, none⟩ = false := blk_frozen hrb9 6
            have hrl := blk_lt hrb9
            clear hc9 hf9 hrb9 hrn
            obtain ⟨t1, t2, t3, t4⟩ : tr.2.val = [] ∧ tr.2.fl = 0 ∧ tr.2.stats = [] ∧ tr.2.cl = false := by rw [HTR.out]; exact turn_bare _ _ _ _ _
            have hz : ansZ tr.2 = .agg #[.int .i64 tr.2.st, .slice none 0 0, .int .u32 0, .int .u64 tr.2.cas, .int .u64 tr.2.num, .slice none 0 0, .bool false] := by unfold ansZ ansV; rw [t2, t4]
            rw [hz]
            have HT1 := Lib.hid t1
            have HT2 := Lib.hid t2
            have HT3 := Lib.hid t3
            have HT4 := Lib.hid t4
            clear t1 t2 t3 t4 hz
            obtain ⟨ust, hust⟩ : ∃ x, x = tr.2.st := ⟨_, rfl⟩
            obtain ⟨ucas, hucas⟩ : ∃ x, x = tr.2.cas := ⟨_, rfl⟩
            obtain ⟨unum, hunum⟩ : ∃ x, x = tr.2.num := ⟨_, rfl⟩
            rw [← hust, ← hucas, ← hunum]
            have HU := Lib.hid (show _ ∧ _ ∧ _ from ⟨hust, hucas, hunum⟩)
            clear hust hucas hunum
            go_wp2_with fail
            obtain ⟨hrf, hcf, hff⟩ := fin38 HF9.out HRW.out HC9.out HRB9.out (.int .i64 ust) (.slice none 0 0) (.int .u32 0) (.int .u64 ucas) (.int .u64 unum) (.slice none 0 0) (.bool false)
            unfold putA at hrf hcf hff
            have y0 := blk_cell hrf 0
            have y1 := blk_cell hrf 1
            have y2 := blk_cell hrf 2
            have y3 := blk_cell hrf 3
            have y4 := blk_cell hrf 4
            have y5 := blk_cell hrf 5
            have y6 := blk_cell hrf 6
            have hr : res = tr := by rw [HRES.out, HTR.out, HT.out]; rw [do_is HIT.out HNT.out (by rw [← HOP.out]; decide), if_neg (by rw [← HOP.out]; decide), if_neg (by rw [← HOP.out]; decide), if_neg (by rw [← HOP.out]; decide), if_neg (by rw [← HOP.out]; decide), if_pos (.inr HOP.out.symm), ← HT.out]
            exact bodyPost_ret (v := .agg #[.int .i64 ust, .slice none 0 0, .int .u32 0, .int .u64 ucas, .int .u64 unum, .slice none 0 0, .bool false]) (by simp [results, Try.f12, go_sem, y0, y1, y2, y3, y4, y5, y6]) rfl ⟨none, 0, by rw [hr, HT1.out, HT2.out, HT4.out, HU.out.1, HU.out.2.1, HU.out.2.2]; rfl, by rw [hr, HT1.out]; exact BytesIn.nil _ _, by rw [hr]; exact hcf, hff⟩
          by_cases h28 : x = 28
          · subst h28
            have o2 : wc.cell? ⟨ob, 2, none⟩ = some (.int .u32 (expiryF now q.ex)) := blk_cell HI.out.ho 2
            have t2f : wc.frozen? ⟨vb, 2, none⟩ = false := blk_frozen HI.out.hv 2
            have hvl := blk_lt HI.out.hv
            have hex : 0 ≤ expiryF now q.ex ∧ expiryF now q.ex ≤ 4294967295 := ⟨HOWN.out.2.2.2.1, HOWN.out.2.2.2.2.1⟩
            have HEX := Lib.hid hex
            clear hex
            go_upto_region 17 with fail
            obtain ⟨W3, hW3⟩ : ∃ W3, W3 = wc.setCell ⟨vb, 2, none⟩ (.int .u32 (expiryF now q.ex)) := ⟨_, rfl⟩
            rw [← hW3]
            have hf3 : Frm (fun b => b = vb) wc W3 := by rw [hW3]; exact setCell_frm1 wc vb 2 _
            have hv3 : W3.heap[vb]? = some (.cells (boxC (.slice xa t.val.length xc) ⟨t.val, t.fl, expiryF now q.ex, t.cas⟩) 49 (0, 0)) := by rw [hW3]; exact blk_setAt HI.out.hv _
            have hqh := HI.out.hq
            have hrh := HI.out.hr
            have hq3 := (hf3.block qb (blk_lt HI.out.hq) (fun e => by rw [show qb = vb from e, HI.out.hv] at hqh; cases hqh)).trans HI.out.hq
            have hr3 := (hf3.block rb (blk_lt HI.out.hr) (fun e => by rw [show rb = vb from e, HI.out.hv] at hrh; cases hrh)).trans HI.out.hr
            have hc3 := HI.out.ca.keepB hf3 HI.out.hv (by decide) (boxC_u8 _ _ _ t)
            have hk3 := HKEYW.out.keepB hf3 HI.out.hv (boxC_u8 _ _ _ t)
            have hx3 := HI.out.xb.keepB hf3 HI.out.hv (boxC_u8 _ _ _ t)
            have hwv : w.heap.size ≤ vb := HWV.out
            have hF3 : Frm (fun b => b = cb ∨ b = ck) w W3 := ((frm_below (T := fun b => b = vb) HI.out.bel).trans hf3).mono fun b hb e => by have e : b = vb := e; omega
            have hwr := write26 W3 E cb ck c hc3 (fun b hb => HE.out b (Nat.le_trans hF3.size hb)) r.ka r.kc q.key hk3 ⟨t.val, t.fl, expiryF now q.ex, t.cas⟩ (.slice xa t.val.length xc) hx3 ⟨HI.out.tok.1, HI.out.tok.2.1, HI.out.tok.2.2.1, HEX.out.1, HEX.out.2, HI.out.tok.2.2.2.2.2⟩ HLL.out
            unfold boxC ansV at hwr
            rw [← HXN.out] at hwr
            have HWR := Lib.hid hwr
            have s5 : W3.cell? ⟨qb, 5, none⟩ = some (.slice r.ka q.key.length r.kc) := blk_cell hq3 5
            have s0 : W3.cell? ⟨vb, 0, none⟩ = some (.slice xa xn xc) := by rw [HXN.out]; exact blk_cell hv3 0
            have s1 : W3.cell? ⟨vb, 1, none⟩ = some (.int .u32 t.fl) := blk_cell hv3 1
            have s2 : W3.cell? ⟨vb, 2, none⟩ = some (.int .u32 (expiryF now q.ex)) := blk_cell hv3 2
            have s3 : W3.cell? ⟨vb, 3, none⟩ = some (.int .u64 t.cas) := blk_cell hv3 3
            have HF3 := Lib.hid hF3
            have HR3 := Lib.hid hr3
            have HQ3 := Lib.hid hq3
            have HC3 := Lib.hid hc3
            have HV3 := Lib.hid hv3
            have HX3 := Lib.hid hx3
            clear hqh hrh hf3 hv3 hq3 hr3 hc3 hk3 hx3 hF3 hwr hW3 o2 t2f hvl
            go_wp2_with fail
            refine HWR.out.mono ?_
            rintro e w4 ⟨rfl, hc4, hf4⟩
            obtain ⟨ab, W4, HA4, HW4, HK4, HZ4⟩ := boxed1 w4 #[.int .i64 0, .slice none 0 0, .int .u32 0, .int .u64 (c.last + 1), .int .u64 0, .slice none 0 0, .bool false] 38
            have hk : ∀ (b : Nat) (cs : Array Value) (e : TypeId), W3.heap[b]? = some (.cells cs e (0, 0)) → e ≠ 31 → W4.heap[b]? = some (.cells cs e (0, 0)) := fun b cs e hb he => by
              have hn := HC3.out.blkne hb he
              have h1 := (hf4.block b (blk_lt hb) (by rintro (e | e); exact hn.1 e; exact hn.2 e)).trans hb
              exact (HK4.out.below.block b (blk_lt h1)).trans h1
            have hr4 := hk _ _ _ HR3.out (by decide)
            have hq4 := hk _ _ _ HQ3.out (by decide)
            have hv4 := hk _ _ _ HV3.out (by decide)
            have HC4 := Lib.hid (CaAt.below hc4 HK4.out.below)
            have HF4 : Hid (Frm (fun b => b = cb ∨ b = ck) w W4) := (HF3.out.trans hf4).trans (frm_below HK4.out.below)
            have HX4 : Hid (BytesIn W4 E (.slice xa t.val.length xc) t.val) := (HX3.out.frm hf4 (fun b hb e => e.elim (fun e => HC3.out.eb (e ▸ hb)) (fun e => HC3.out.ek (e ▸ hb)))).frm (S := fun _ => False) (frm_below HK4.out.below) (fun _ _ h => h)
            have p0 : W4.cell? ⟨qb, 0, none⟩ = some (.int .i64 28) := by rw [HOP.out]; exact blk_cell hq4 0
            have HR4 := Lib.hid hr4
            have HV4 := Lib.hid hv4
            have HG4 : Hid (W3.heap.size ≤ w4.heap.size) := Frm.size hf4
            have HRR : Hid (rb < W3.heap.size) := blk_lt HR3.out
            clear hc4 hf4 hk hr4 hq4 hv4 HWR
            go_upto_region 18 with fail
            rw [HA4.out, HW4.out]
            have b0 : W4.cell? ⟨ab, 0, none⟩ = some (.int .i64 0) := blk_cell HK4.out.b0 0
            have b1 : W4.cell? ⟨ab, 1, none⟩ = some (.slice none 0 0) := blk_cell HK4.out.b0 1
            have b2 : W4.cell? ⟨ab, 2, none⟩ = some (.int .u32 0) := blk_cell HK4.out.b0 2
            have b3 : W4.cell? ⟨ab, 3, none⟩ = some (.int .u64 (c.last + 1)) := blk_cell HK4.out.b0 3
            have b4 : W4.cell? ⟨ab, 4, none⟩ = some (.int .u64 0) := blk_cell HK4.out.b0 4
            have b5 : W4.cell? ⟨ab, 5, none⟩ = some (.slice none 0 0) := blk_cell HK4.out.b0 5
            have b6 : W4.cell? ⟨ab, 6, none⟩ = some (.bool false) := blk_cell HK4.out.b0 6
            have r0 : W4.cell? ⟨rb, 0, none⟩ = some (.int .i64 0) := blk_cell HR4.out 0
            have z0 : W4.frozen? ⟨rb, 0, none⟩ = false := blk_frozen HR4.out 0
            have r1 : W4.cell? ⟨rb, 1, none⟩ = some (.slice none 0 0) := blk_cell HR4.out 1
            have z1 : W4.frozen? ⟨rb, 1, none⟩ = false := blk_frozen HR4.out 1
            have r2 : W4.cell? ⟨rb, 2, none⟩ = some (.int .u32 0) := blk_cell HR4.out 2
            have z2 : W4.frozen? ⟨rb, 2, none⟩ = false := blk_frozen HR4.out 2
            have r3 : W4.cell? ⟨rb, 3, none⟩ = some (.int .u64 0) := blk_cell HR4.out 3
            have z3 : W4.frozen? ⟨rb, 3, none⟩ = false := blk_frozen HR4.out 3
            have r4 : W4.cell? ⟨rb, 4, none⟩ = some (.int .u64 0) := blk_cell HR4.out 4
            have z4 : W4.frozen? ⟨rb, 4, none⟩ = false := blk_frozen HR4.out 4
            have r5 : W4.cell? ⟨rb, 5, none⟩ = some (.slice none 0 0) := blk_cell HR4.out 5
            have z5 : W4.frozen? ⟨rb, 5, none⟩ = false := blk_frozen HR4.out 5
            have r6 : W4.cell? ⟨rb, 6, none⟩ = some (.bool false) := blk_cell HR4.out 6
            have z6 : W4.frozen? ⟨rb, 6, none⟩ = false := blk_frozen HR4.out 6
            have hrl := blk_lt HR4.out
            go_wp2_with fail
            obtain ⟨hrf, hcf, hff⟩ := fin38 HF4.out HRW.out HC4.out HR4.out (.int .i64 0) (.slice none 0 0) (.int .u32 0) (.int .u64 (c.last + 1)) (.int .u64 0) (.slice none 0 0) (.bool false)
            unfold putA at hrf hcf hff
            have y0 := blk_cell hrf 0
            have y1 := blk_cell hrf 1
            have y2 := blk_cell hrf 2
            have y3 := blk_cell hrf 3
            have y4 := blk_cell hrf 4
            have y5 := blk_cell hrf 5
            have y6 := blk_cell hrf 6
            have hr : res = (c.put q.key ⟨t.val, t.fl, expiryF now q.ex, t.cas⟩, okA (c.last + 1) 0) := by rw [HRES.out]; exact (by rw [do_is HIT.out HNT.out (by rw [← HOP.out]; decide), if_neg (by rw [← HOP.out]; decide), if_pos (.inl HOP.out.symm), if_neg (by rw [← HOP.out]; decide), ← HT.out])
            exact bodyPost_ret (v := .agg #[.int .i64 0, .slice none 0 0, .int .u32 0, .int .u64 (c.last + 1), .int .u64 0, .slice none 0 0, .bool false]) (by simp [results, Try.f12, go_sem, y0, y1, y2, y3, y4, y5, y6]) rfl ⟨_, _, by rw [hr]; rfl, by rw [hr]; exact BytesIn.nil _ _, by rw [hr]; exact hcf, hff⟩
          by_cases h29 : x = 29
          · subst h29
            have o2 : wc.cell? ⟨ob, 2, none⟩ = some (.int .u32 (expiryF now q.ex)) := blk_cell HI.out.ho 2
            have t2f : wc.frozen? ⟨vb, 2, none⟩ = false := blk_frozen HI.out.hv 2
            have hvl := blk_lt HI.out.hv
            have hex : 0 ≤ expiryF now q.ex ∧ expiryF now q.ex ≤ 4294967295 := ⟨HOWN.out.2.2.2.1, HOWN.out.2.2.2.2.1⟩
            have HEX := Lib.hid hex
            clear hex
            go_upto_region 17 with fail
            obtain ⟨W3, hW3⟩ : ∃ W3, W3 = wc.setCell ⟨vb, 2, none⟩ (.int .u32 (expiryF now q.ex)) := ⟨_, rfl⟩
            rw [← hW3]
            have hf3 : Frm (fun b => b = vb) wc W3 := by rw [hW3]; exact setCell_frm1 wc vb 2 _
            have hv3 : W3.heap[vb]? = some (.cells (boxC (.slice xa t.val.length xc) ⟨t.val, t.fl, expiryF now q.ex, t.cas⟩) 49 (0, 0)) := by rw [hW3]; exact blk_setAt HI.out.hv _
            have hqh := HI.out.hq
            have hrh := HI.out.hr
            have hq3 := (hf3.block qb (blk_lt HI.out.hq) (fun e => by rw [show qb = vb from e, HI.out.hv] at hqh; cases hqh)).trans HI.out.hq
            have hr3 := (hf3.block rb (blk_lt HI.out.hr) (fun e => by rw [show rb = vb from e, HI.out.hv] at hrh; cases hrh)).trans HI.out.hr
            have hc3 := HI.out.ca.keepB hf3 HI.out.hv (by decide) (boxC_u8 _ _ _ t)
            have hk3 := HKEYW.out.keepB hf3 HI.out.hv (boxC_u8 _ _ _ t)
            have hx3 := HI.out.xb.keepB hf3 HI.out.hv (boxC_u8 _ _ _ t)
            have hwv : w.heap.size ≤ vb := HWV.out
            have hF3 : Frm (fun b => b = cb ∨ b = ck) w W3 := ((frm_below (T := fun b => b = vb) HI.out.bel).trans hf3).mono fun b hb e => by have e : b = vb := e; omega
            have hwr := write26 W3 E cb ck c hc3 (fun b hb => HE.out b (Nat.le_trans hF3.size hb)) r.ka r.kc q.key hk3 ⟨t.val, t.fl, expiryF now q.ex, t.cas⟩ (.slice xa t.val.length xc) hx3 ⟨HI.out.tok.1, HI.out.tok.2.1, HI.out.tok.2.2.1, HEX.out.1, HEX.out.2, HI.out.tok.2.2.2.2.2⟩ HLL.out
            unfold boxC ansV at hwr
            rw [← HXN.out] at hwr
            have HWR := Lib.hid hwr
            have s5 : W3.cell? ⟨qb, 5, none⟩ = some (.slice r.ka q.key.length r.kc) := blk_cell hq3 5
            have s0 : W3.cell? ⟨vb, 0, none⟩ = some (.slice xa xn xc) := by rw [HXN.out]; exact blk_cell hv3 0
            have s1 : W3.cell? ⟨vb, 1, none⟩ = some (.int .u32 t.fl) := blk_cell hv3 1
            have s2 : W3.cell? ⟨vb, 2, none⟩ = some (.int .u32 (expiryF now q.ex)) := blk_cell hv3 2
            have s3 : W3.cell? ⟨vb, 3, none⟩ = some (.int .u64 t.cas) := blk_cell hv3 3
            have HF3 := Lib.hid hF3
            have HR3 := Lib.hid hr3
            have HQ3 := Lib.hid hq3
            have HC3 := Lib.hid hc3
            have HV3 := Lib.hid hv3
            have HX3 := Lib.hid hx3
            clear hqh hrh hf3 hv3 hq3 hr3 hc3 hk3 hx3 hF3 hwr hW3 o2 t2f hvl
            go_wp2_with fail
            refine HWR.out.mono ?_
            rintro e w4 ⟨rfl, hc4, hf4⟩
            obtain ⟨ab, W4, HA4, HW4, HK4, HZ4⟩ := boxed1 w4 #[.int .i64 0, .slice none 0 0, .int .u32 0, .int .u64 (c.last + 1), .int .u64 0, .slice none 0 0, .bool false] 38
            have hk : ∀ (b : Nat) (cs : Array Value) (e : TypeId), W3.heap[b]? = some (.cells cs e (0, 0)) → e ≠ 31 → W4.heap[b]? = some (.cells cs e (0, 0)) := fun b cs e hb he => by
              have hn := HC3.out.blkne hb he
              have h1 := (hf4.block b (blk_lt hb) (by rintro (e | e); exact hn.1 e; exact hn.2 e)).trans hb
              exact (HK4.out.below.block b (blk_lt h1)).trans h1
            have hr4 := hk _ _ _ HR3.out (by decide)
            have hq4 := hk _ _ _ HQ3.out (by decide)
            have hv4 := hk _ _ _ HV3.out (by decide)
            have HC4 := Lib.hid (CaAt.below hc4 HK4.out.below)
            have HF4 : Hid (Frm (fun b => b = cb ∨ b = ck) w W4) := (HF3.out.trans hf4).trans (frm_below HK4.out.below)
            have HX4 : Hid (BytesIn W4 E (.slice xa t.val.length xc) t.val) := (HX3.out.frm hf4 (fun b hb e => e.elim (fun e => HC3.out.eb (e ▸ hb)) (fun e => HC3.out.ek (e ▸ hb)))).frm (S := fun _ => False) (frm_below HK4.out.below) (fun _ _ h => h)
            have p0 : W4.cell? ⟨qb, 0, none⟩ = some (.int .i64 29) := by rw [HOP.out]; exact blk_cell hq4 0
            have HR4 := Lib.hid hr4
            have HV4 := Lib.hid hv4
            have HG4 : Hid (W3.heap.size ≤ w4.heap.size) := Frm.size hf4
            have HRR : Hid (rb < W3.heap.size) := blk_lt HR3.out
            clear hc4 hf4 hk hr4 hq4 hv4 HWR
            go_upto_region 18 with fail
            rw [HA4.out, HW4.out]
            have hx4 : BytesAt W4 (.slice xa xn xc) t.val := by rw [HXN.out]; exact HX4.out.1
            have htl : t.val.length ≤ 1000000 := Nat.le_trans HI.out.tok.1 (by decide)
            have u0 : W4.cell? ⟨vb, 0, none⟩ = some (.slice xa xn xc) := by rw [HXN.out]; exact blk_cell HV4.out 0
            have u1 : W4.cell? ⟨vb, 1, none⟩ = some (.int .u32 t.fl) := blk_cell HV4.out 1
            have hva : vb ≠ ab := by intro e; have h1 := HV4.out; rw [e, HK4.out.b0] at h1; cases h1
            have hfs := setCell_frm1 W4 ab 2 (.int .u32 t.fl)
            have hbf : (W4.setCell ⟨ab, 2, none⟩ (.int .u32 t.fl)).heap[ab]? = some (.cells (ansF t.fl (c.last + 1)) 38 (0, 0)) := blk_setAt HK4.out.b0 _
            have hxf : BytesAt (W4.setCell ⟨ab, 2, none⟩ (.int .u32 t.fl)) (.slice xa xn xc) t.val := by rw [HXN.out]; exact (HX4.out.keepB hfs HK4.out.b0 (ansF_u8 0 (c.last + 1))).1
            have hcf := HC4.out.keepB hfs HK4.out.b0 (by decide) (ansF_u8 0 (c.last + 1))
            obtain ⟨na, nc, W5, hr5, ho5, hb5⟩ := copy_bytes_d W4 (.slice xa xn xc) t.val hx4 htl
            obtain ⟨nb, ne, W6, hr6, ho6, hb6⟩ := copy_bytes_d (W4.setCell ⟨ab, 2, none⟩ (.int .u32 t.fl)) (.slice xa xn xc) t.val hxf htl
            rw [← HXN.out] at hr5 ho5 hr6 ho6
            have hb5' : Below W4.heap.size W4 W5 := hb5
            have hb6' : Below (W4.setCell ⟨ab, 2, none⟩ (.int .u32 t.fl)).heap.size (W4.setCell ⟨ab, 2, none⟩ (.int .u32 t.fl)) W6 := hb6
            have hba : Below W4.heap.size W4 (W4.alloc (.cells #[] 5)) := (Below.refl _ W4).alloc (Nat.le_refl _) _
            have hbfa : Below (W4.setCell ⟨ab, 2, none⟩ (.int .u32 t.fl)).heap.size (W4.setCell ⟨ab, 2, none⟩ (.int .u32 t.fl)) ((W4.setCell ⟨ab, 2, none⟩ (.int .u32 t.fl)).alloc (.cells #[] 5)) := (Below.refl _ _).alloc (Nat.le_refl _) _
            have hab5 := (hb5'.block ab (blk_lt HK4.out.b0)).trans HK4.out.b0
            have hab6 := (hb6'.block ab (blk_lt hbf)).trans hbf
            have u0a := cellB hba u0
            have u1a := cellB hba u1
            have u05 := cellB hb5' u0
            have u15 := cellB hb5' u1
            have u0f : (W4.setCell ⟨ab, 2, none⟩ (.int .u32 t.fl)).cell? ⟨vb, 0, none⟩ = some (.slice xa xn xc) := keepv hva _ u0
            have u1f : (W4.setCell ⟨ab, 2, none⟩ (.int .u32 t.fl)).cell? ⟨vb, 1, none⟩ = some (.int .u32 t.fl) := keepv hva _ u1
            have u0g := cellB hbfa u0f
            have u1g := cellB hbfa u1f
            have u06 := cellB hb6' u0f
            have u16 := cellB hb6' u1f
            have u0d : W4.drew.cell? ⟨vb, 0, none⟩ = some (.slice xa xn xc) := u0
            have u1d : W4.drew.cell? ⟨vb, 1, none⟩ = some (.int .u32 t.fl) := u1
            have u0A : (W4.alloc (.cells #[] 5)).drew.cell? ⟨vb, 0, none⟩ = some (.slice xa xn xc) := u0a
            have u1A : (W4.alloc (.cells #[] 5)).drew.cell? ⟨vb, 1, none⟩ = some (.int .u32 t.fl) := u1a
            have u0F : (W4.setCell ⟨ab, 2, none⟩ (.int .u32 t.fl)).drew.cell? ⟨vb, 0, none⟩ = some (.slice xa xn xc) := u0f
            have u1F : (W4.setCell ⟨ab, 2, none⟩ (.int .u32 t.fl)).drew.cell? ⟨vb, 1, none⟩ = some (.int .u32 t.fl) := u1f
            have u0G : ((W4.setCell ⟨ab, 2, none⟩ (.int .u32 t.fl)).alloc (.cells #[] 5)).drew.cell? ⟨vb, 0, none⟩ = some (.slice xa xn xc) := u0g
            have u1G : ((W4.setCell ⟨ab, 2, none⟩ (.int .u32 t.fl)).alloc (.cells #[] 5)).drew.cell? ⟨vb, 1, none⟩ = some (.int .u32 t.fl) := u1g
            have a1 : W4.cell? ⟨ab, 1, none⟩ = some (.slice none 0 0) := blk_cell HK4.out.b0 1
            have a2 : W4.cell? ⟨ab, 2, none⟩ = some (.int .u32 0) := blk_cell HK4.out.b0 2
            have a1f : W4.frozen? ⟨ab, 1, none⟩ = false := blk_frozen HK4.out.b0 1
            have a2f : W4.frozen? ⟨ab, 2, none⟩ = false := blk_frozen HK4.out.b0 2
            have c1 : W5.cell? ⟨ab, 1, none⟩ = some (.slice none 0 0) := blk_cell hab5 1
            have c2 : W5.cell? ⟨ab, 2, none⟩ = some (.int .u32 0) := blk_cell hab5 2
            have c1f : W5.frozen? ⟨ab, 1, none⟩ = false := blk_frozen hab5 1
            have c2f : W5.frozen? ⟨ab, 2, none⟩ = false := blk_frozen hab5 2
            have g1 : W6.cell? ⟨ab, 1, none⟩ = some (.slice none 0 0) := blk_cell hab6 1
            have g1f : W6.frozen? ⟨ab, 1, none⟩ = false := blk_frozen hab6 1
            have hl4 := blk_lt HK4.out.b0
            have hl5 := blk_lt hab5
            have hl6 := blk_lt hab6
            have hwa : w.heap.size ≤ W4.heap.size := HF4.out.size
            have HN5 : Hid (BytesIn W5 E (.slice na xn nc) t.val) := ⟨own_isSl ho5, fun _ b hb => HE.out b (Nat.le_trans hwa (ho5.lt b hb).1)⟩
            have hz6 : (W4.setCell ⟨ab, 2, none⟩ (.int .u32 t.fl)).heap.size = W4.heap.size := by simp [World.setCell]
            have HN6 : Hid (BytesIn W6 E (.slice nb xn ne) t.val) := ⟨own_isSl ho6, fun _ b hb => HE.out b (Nat.le_trans hwa (Nat.le_trans (Nat.le_of_eq hz6.symm) (ho6.lt b hb).1))⟩
            have HC5 := Lib.hid (HC4.out.below hb5')
            have HC6 := Lib.hid (hcf.below hb6')
            have HB5 := Lib.hid hab5
            have HB6 := Lib.hid hab6
            have HFa : Hid (Frm (fun b => b = ab) W4 W5) := frm_below hb5'
            have HFb : Hid (Frm (fun b => b = ab) W4 W6) := hfs.trans (frm_below hb6')
            have HR5 := Lib.hid hr5
            have HR6 := Lib.hid hr6
            clear hx4 hbf hxf hcf hr5 ho5 hb5 hr6 ho6 hb6 hb5' hb6' hba hbfa hab5 hab6 hfs hz6 htl
            go_wp2_with fail
            go_cut [11] from 143 to 151 (fun s11 W8 => s11 = .pointer (some ⟨ab, 0, none⟩) ∧ Hid (∃ va vc, W8.heap[ab]? = some (.cells #[.int .i64 0, .slice va xn vc, .int .u32 t.fl, .int .u64 (c.last + 1), .int .u64 0, .slice none 0 0, .bool false] 38 (0, 0)) ∧ BytesIn W8 E (.slice va xn vc) t.val ∧ CaAt W8 E cb ck (c.put q.key ⟨t.val, t.fl, expiryF now q.ex, t.cas⟩) ∧ Frm (fun b => b = ab) W4 W8))
            case first =>
              go_region_held3 (fun w' => w'.cell? ⟨vb, 0, none⟩ = some (.slice xa xn xc) ∧ w'.cell? ⟨vb, 1, none⟩ = some (.int .u32 t.fl)) (first | with_reducible exact ⟨u0d, u1d⟩ | with_reducible exact ⟨u0A, u1A⟩ | with_reducible exact ⟨u05, u15⟩ | with_reducible exact ⟨u0F, u1F⟩ | with_reducible exact ⟨u0f, u1f⟩ | with_reducible exact ⟨u0G, u1G⟩ | with_reducible exact ⟨u06, u16⟩ | with_reducible exact ⟨keepv hva _ u05, keepv hva _ u15⟩ | with_reducible exact ⟨keepv hva _ (keepv hva _ u05), keepv hva _ (keepv hva _ u15)⟩ | with_reducible exact ⟨keepv hva _ u06, keepv hva _ u16⟩) (first | (refine step_append_eq (v := .slice (some ⟨W4.heap.size, 0, none⟩) 0 0) (vx := .slice xa xn xc) rfl (.tmp 143) (.tmp 145) 23 rfl (by simp [Act.eval]) (by simp [Act.eval]) HR5.out ?_) | (refine step_append_eq (v := .slice (some ⟨(W4.setCell ⟨ab, 2, none⟩ (.int .u32 t.fl)).heap.size, 0, none⟩) 0 0) (vx := .slice xa xn xc) rfl (.tmp 143) (.tmp 145) 23 rfl (by simp [Act.eval]) (by simp [Act.eval]) HR6.out ?_))
              all_goals
                go_wp2_with fail
                go_meet
                case rel =>
                  first
                    | exact ⟨rfl, na, nc, gat_a HB5.out HN5.out HC5.out HFa.out⟩
                    | exact ⟨rfl, na, nc, gat_b HB5.out HN5.out HC5.out HFa.out⟩
                    | exact ⟨rfl, nb, ne, gat_c HB6.out HN6.out HC6.out HFb.out⟩
            case rest =>
              obtain ⟨hs11, HG⟩ := hcut
              subst hs11
              obtain ⟨va, vc, hgb, hgx, hgc, hgf⟩ := HG.out
              have hra : rb ≠ ab := by have := blk_lt HR4.out; intro e; have h1 := HA4.out; have h2 := HR4.out; rw [e, HK4.out.b0] at h2; have h3 := HRR.out; have h4 := HG4.out; omega
              have hrw := (hgf.block rb (blk_lt HR4.out) hra).trans HR4.out
              have hwab : w.heap.size ≤ ab := by have := HA4.out; have := HF3.out.size; have := HG4.out; omega
              have hfw : Frm (fun b => b = cb ∨ b = ck) w wc := ((HF4.out.mono (T := fun b => (b = cb ∨ b = ck) ∨ b = ab) fun _ _ e => .inl e).trans (hgf.mono fun _ _ e => .inr e)).mono fun b hb e => by
                rcases e with e | e
                · exact e
                · omega
              have b0 : wc.cell? ⟨ab, 0, none⟩ = some (.int .i64 0) := blk_cell hgb 0
              have b1 : wc.cell? ⟨ab, 1, none⟩ = some (.slice va xn vc) := blk_cell hgb 1
              have b2 : wc.cell? ⟨ab, 2, none⟩ = some (.int .u32 t.fl) := blk_cell hgb 2
              have b3 : wc.cell? ⟨ab, 3, none⟩ = some (.int .u64 (c.last + 1)) := blk_cell hgb 3
              have b4 : wc.cell? ⟨ab, 4, none⟩ = some (.int .u64 0) := blk_cell hgb 4
              have b5 : wc.cell? ⟨ab, 5, none⟩ = some (.slice none 0 0) := blk_cell hgb 5
              have b6 : wc.cell? ⟨ab, 6, none⟩ = some (.bool false) := blk_cell hgb 6
              have r0 : wc.cell? ⟨rb, 0, none⟩ = some (.int .i64 0) := blk_cell hrw 0
              have z0 : wc.frozen? ⟨rb, 0, none⟩ = false := blk_frozen hrw 0
              have r1 : wc.cell? ⟨rb, 1, none⟩ = some (.slice none 0 0) := blk_cell hrw 1
              have z1 : wc.frozen? ⟨rb, 1, none⟩ = false := blk_frozen hrw 1
              have r2 : wc.cell? ⟨rb, 2, none⟩ = some (.int .u32 0) := blk_cell hrw 2
              have z2 : wc.frozen? ⟨rb, 2, none⟩ = false := blk_frozen hrw 2
              have r3 : wc.cell? ⟨rb, 3, none⟩ = some (.int .u64 0) := blk_cell hrw 3
              have z3 : wc.frozen? ⟨rb, 3, none⟩ = false := blk_frozen hrw 3
              have r4 : wc.cell? ⟨rb, 4, none⟩ = some (.int .u64 0) := blk_cell hrw 4
              have z4 : wc.frozen? ⟨rb, 4, none⟩ = false := blk_frozen hrw 4
              have r5 : wc.cell? ⟨rb, 5, none⟩ = some (.slice none 0 0) := blk_cell hrw 5
              have z5 : wc.frozen? ⟨rb, 5, none⟩ = false := blk_frozen hrw 5
              have r6 : wc.cell? ⟨rb, 6, none⟩ = some (.bool false) := blk_cell hrw 6
              have z6 : wc.frozen? ⟨rb, 6, none⟩ = false := blk_frozen hrw 6
              have hrl := blk_lt hrw
              have HRW' := Lib.hid hrw
              have HGC := Lib.hid hgc
              have HFW := Lib.hid hfw
              have HGX := Lib.hid hgx
              clear hgb hgx hgc hgf hra hrw hfw u0d u1d u0A u1A u0F u1F u0G u1G u0 u1 u0a u1a u05 u15 u0f u1f u0g u1g u06 u16 a1 a2 a1f a2f c1 c2 c1f c2f g1 g1f
              go_wp2_with fail
              obtain ⟨hrf, hcf, hff⟩ := fin38 HFW.out HRW.out HGC.out HRW'.out (.int .i64 0) (.slice va xn vc) (.int .u32 t.fl) (.int .u64 (c.last + 1)) (.int .u64 0) (.slice none 0 0) (.bool false)
              have hbf := (BytesIn.keepB HGX.out (set7 HRW'.out (.int .i64 0) (.slice va xn vc) (.int .u32 t.fl) (.int .u64 (c.last + 1)) (.int .u64 0) (.slice none 0 0) (.bool false)).2 HRW'.out (ansC0_u8 0 0 0))
              unfold putA at hrf hcf hff
              have y0 := blk_cell hrf 0
              have y1 := blk_cell hrf 1
              have y2 := blk_cell hrf 2
              have y3 := blk_cell hrf 3
              have y4 := blk_cell hrf 4
              have y5 := blk_cell hrf 5
              have y6 := blk_cell hrf 6
              have hr : res = (c.put q.key ⟨t.val, t.fl, expiryF now q.ex, t.cas⟩, tellA t (c.last + 1)) := by rw [HRES.out]; exact (by rw [do_is HIT.out HNT.out (by rw [← HOP.out]; decide), if_neg (by rw [← HOP.out]; decide), if_pos (.inr HOP.out.symm), if_pos HOP.out.symm, ← HT.out])
              exact bodyPost_ret (v := .agg #[.int .i64 0, .slice va xn vc, .int .u32 t.fl, .int .u64 (c.last + 1), .int .u64 0, .slice none 0 0, .bool false]) (by simp [results, Try.f12, go_sem, y0, y1, y2, y3, y4, y5, y6]) rfl ⟨va, vc, by rw [hr, HXN.out]; rfl, by rw [hr]; show BytesIn _ E (.slice _ t.val.length _) t.val; rw [← HXN.out]; exact hbf, by rw [hr]; exact hcf, hff⟩
          by_cases h14 : x = 14
          · subst h14
            obtain ⟨WD, hwd⟩ : ∃ WD, WD = wc.drew := ⟨_, rfl⟩
            have hbd : Below wc.heap.size wc WD := by rw [hwd]; exact hbelow_drew wc
            have HD : Hid (DoI w E cb ck c q r now t (.slice xa t.val.length xc) qb rb vb ob WD) := ⟨HI.out.bel.trans (hbd.mono HI.out.bel.size), HI.out.ca.below hbd, (hbd.block _ (blk_lt HI.out.hq)).trans HI.out.hq, (hbd.block _ (blk_lt HI.out.hr)).trans HI.out.hr, (hbd.block _ (blk_lt HI.out.hv)).trans HI.out.hv, (hbd.block _ (blk_lt HI.out.ho)).trans HI.out.ho, HI.out.xb.frm (S := fun _ => False) (frm_below hbd) (fun _ _ h => h), HI.out.tok⟩
            have HKD : Hid (BytesIn WD E (.slice r.ka q.key.length r.kc) q.key) := HKEYW.out.frm (S := fun _ => False) (frm_below hbd) (fun _ _ h => h)
            have HVD : Hid (BytesIn WD E (.slice r.va q.val.length r.vc) q.val) := HVALW.out.frm (S := fun _ => False) (frm_below hbd) (fun _ _ h => h)
            have d0 : WD.cell? ⟨qb, 0, none⟩ = some (.int .i64 14) := cellB hbd q0
            have hqn : q.val.length ≤ 1000000 := HQOK.out.2.2.2.2.2.2.2.2.2.2.2
            have hxl : xn ≤ 1000 := by rw [HXN.out]; exact HI.out.tok.1
            go_wp2_with fail
            go_region_held3 (fun w' => w'.cell? ⟨vb, 0, none⟩ = some (.slice xa xn xc) ∧ w'.cell? ⟨qb, 6, none⟩ = some (.slice r.va q.val.length r.vc)) (first | exact ⟨t0, q6⟩) (first | fail)
            rw [← hwd]
            clear hbd hwd
            by_cases hjl : 512 < xn + q.val.length
            · have HJL := Lib.hid hjl
              clear hjl
              go_wp2_with fail
              refine (join_long WD xa r.va xn q.val.length xc r.vc (by have := HJL.out; omega) (by omega) (by omega)).mono ?_
              rintro e wx ⟨rfl, rfl⟩
              go_wp2_with fail
              refine (fail9 _ 3).mono ?_
              rintro e w9 ⟨rfl, hb9⟩
              have hb9 : Below WD.heap.size WD w9 := hb9
              have hrb9 := (hb9.block rb (blk_lt HD.out.hr)).trans HD.out.hr
              have HRB9 := Lib.hid hrb9
              have HC9 := Lib.hid (HD.out.ca.below hb9)
              have HF9 : Hid (Frm (fun b => b = cb ∨ b = ck) w w9) := frm_below (HD.out.bel.trans (hb9.mono HD.out.bel.size))
              have r0 : w9.cell? ⟨rb, 0, none⟩ = some (.int .i64 0) := blk_cell hrb9 0
              have z0 : w9.frozen? ⟨rb, 0, none⟩ = false := blk_frozen hrb9 0
              have r1 : w9.cell? ⟨rb, 1, none⟩ = some (.slice none 0 0) := blk_cell hrb9 1
              have z1 : w9.frozen? ⟨rb, 1, none⟩ = false := blk_frozen hrb9 1
              have r2 : w9.cell? ⟨rb, 2, none⟩ = some (.int .u32 0) := blk_cell hrb9 2
              have z2 : w9.frozen? ⟨rb, 2, none⟩ = false := blk_frozen hrb9 2
              have r3 : w9.cell? ⟨rb, 3, none⟩ = some (.int .u64 0) := blk_cell hrb9 3
              have z3 : w9.frozen? ⟨rb, 3, none⟩ = false := blk_frozen hrb9 3
              have r4 : w9.cell? ⟨rb, 4, none⟩ = some (.int .u64 0) := blk_cell hrb9 4
              have z4 : w9.frozen? ⟨rb, 4, none⟩ = false := blk_frozen hrb9 4
              have r5 : w9.cell? ⟨rb, 5, none⟩ = some (.slice none 0 0) := blk_cell hrb9 5
              have z5 : w9.frozen? ⟨rb, 5, none⟩ = false := blk_frozen hrb9 5
              have r6 : w9.cell? ⟨rb, 6, none⟩ = some (.bool false) := blk_cell hrb9 6
              have z6 : w9.frozen? ⟨rb, 6, none⟩ = false := blk_frozen hrb9 6
              have hrl := blk_lt hrb9
              clear hb9 hrb9
              try unfold ansV
              go_wp2_with fail
              obtain ⟨hrf, hcf, hff⟩ := fin38 HF9.out HRW.out HC9.out HRB9.out (.int .i64 3) (.slice none 0 0) (.int .u32 0) (.int .u64 0) (.int .u64 0) (.slice none 0 0) (.bool false)
              unfold putA at hrf hcf hff
              have y0 := blk_cell hrf 0
              have y1 := blk_cell hrf 1
              have y2 := blk_cell hrf 2
              have y3 := blk_cell hrf 3
              have y4 := blk_cell hrf 4
              have y5 := blk_cell hrf 5
              have y6 := blk_cell hrf 6
              have hr : res = (c, failA 3) := by rw [HRES.out]; exact by rw [do_is HIT.out HNT.out (by rw [← HOP.out]; decide), if_neg (by rw [← HOP.out]; decide), if_neg (by rw [← HOP.out]; decide), if_pos (.inl HOP.out.symm), if_pos (by have := HJL.out; rw [HXN.out, HT.out] at this; exact this)]
              exact bodyPost_ret (v := .agg #[.int .i64 3, .slice none 0 0, .int .u32 0, .int .u64 0, .int .u64 0, .slice none 0 0, .bool false]) (by simp [results, Try.f12, go_sem, y0, y1, y2, y3, y4, y5, y6]) rfl ⟨_, _, by rw [hr]; rfl, by rw [hr]; exact BytesIn.nil _ _, by rw [hr]; exact hcf, hff⟩
            · have HJL := Lib.hid hjl
              clear hjl
              have HJN := Lib.hid (join_ok WD (.slice xa xn xc) (.slice r.va q.val.length r.vc) t.val q.val (by rw [HXN.out]; exact HD.out.xb.1) HVD.out.1 (by have := HJL.out; rw [HXN.out] at this; omega))
              go_wp2_with fail
              refine HJN.out.mono ?_
              rintro e w5 ⟨jv, rfl, hown, hb5⟩
              obtain ⟨ja, jc, rfl, _⟩ := own_form hown
              rw [List.length_map]
              have hown' := hown
              rw [List.length_map] at hown'
              obtain ⟨jl, hjl⟩ : ∃ l, l = t.val ++ q.val := ⟨_, rfl⟩
              rw [← hjl] at hown' ⊢
              have HJ := Lib.hid hjl
              have hv5 := (hb5.block vb (blk_lt HD.out.hv)).trans HD.out.hv
              have t05 : w5.cell? ⟨vb, 0, none⟩ = some (.slice xa xn xc) := by rw [HXN.out]; exact blk_cell hv5 0
              have t05f : w5.frozen? ⟨vb, 0, none⟩ = false := blk_frozen hv5 0
              have hvl5 := blk_lt hv5
              have HB5 := Lib.hid hb5
              have HV5 := Lib.hid hv5
              have HOW := Lib.hid hown'
              clear hown hown' hb5 hv5 hjl
              go_upto_region 30 with fail
              obtain ⟨W6, hW6⟩ : ∃ W6, W6 = w5.setCell ⟨vb, 0, none⟩ (.slice ja jl.length jc) := ⟨_, rfl⟩
              rw [← hW6]
              have hf6 : Frm (fun b => b = vb) w5 W6 := by rw [hW6]; exact setCell_frm1 w5 vb 0 _
              have hv6 : W6.heap[vb]? = some (.cells #[.slice ja jl.length jc, .int .u32 t.fl, .int .u32 t.ex, .int .u64 t.cas] 49 (0, 0)) := by rw [hW6]; exact blk_setAt HV5.out _
              have hqh := HD.out.hq
              have hrh := HD.out.hr
              have hq6 := (hf6.block qb (Nat.lt_of_lt_of_le (blk_lt HD.out.hq) HB5.out.size) (fun e => by rw [show qb = vb from e, HD.out.hv] at hqh; cases hqh)).trans ((HB5.out.block qb (blk_lt HD.out.hq)).trans HD.out.hq)
              have hr6 := (hf6.block rb (Nat.lt_of_lt_of_le (blk_lt HD.out.hr) HB5.out.size) (fun e => by rw [show rb = vb from e, HD.out.hv] at hrh; cases hrh)).trans ((HB5.out.block rb (blk_lt HD.out.hr)).trans HD.out.hr)
              have hc6 := (HD.out.ca.below HB5.out).keepB hf6 HV5.out (by decide) (boxC_u8 _ _ _ t)
              have hk6 := (HKD.out.frm (S := fun _ => False) (frm_below HB5.out) (fun _ _ h => h)).keepB hf6 HV5.out (boxC_u8 _ _ _ t)
              have hj5 : BytesIn w5 E (.slice ja jl.length jc) jl := ⟨own_isSl HOW.out, fun _ b hb => HE.out b (by have := (HOW.out.lt b hb).1; have := HD.out.bel.size; omega)⟩
              have hj6 := hj5.keepB hf6 HV5.out (boxC_u8 _ _ _ t)
              have hF6 : Frm (fun b => b = cb ∨ b = ck) w W6 := ((frm_below (T := fun b => b = vb) (HD.out.bel.trans (HB5.out.mono HD.out.bel.size))).trans hf6).mono fun b hb e => by have e : b = vb := e; have := HWV.out; omega
              have hjlen : jl.length ≤ 1000 := by have := HJL.out; rw [HJ.out, List.length_append]; have h2 := HXN.out; omega
              have hwr := write26 W6 E cb ck c hc6 (fun b hb => HE.out b (Nat.le_trans hF6.size hb)) r.ka r.kc q.key hk6 ⟨jl, t.fl, t.ex, t.cas⟩ (.slice ja jl.length jc) hj6 ⟨hjlen, HI.out.tok.2⟩ HLL.out
              unfold boxC ansV at hwr
              have HWR := Lib.hid hwr
              have s5 : W6.cell? ⟨qb, 5, none⟩ = some (.slice r.ka q.key.length r.kc) := blk_cell hq6 5
              have s0 : W6.cell? ⟨vb, 0, none⟩ = some (.slice ja jl.length jc) := blk_cell hv6 0
              have s1 : W6.cell? ⟨vb, 1, none⟩ = some (.int .u32 t.fl) := blk_cell hv6 1
              have s2 : W6.cell? ⟨vb, 2, none⟩ = some (.int .u32 t.ex) := blk_cell hv6 2
              have s3 : W6.cell? ⟨vb, 3, none⟩ = some (.int .u64 t.cas) := blk_cell hv6 3
              have HF6 := Lib.hid hF6
              have HR6 := Lib.hid hr6
              have HC6 := Lib.hid hc6
              clear hf6 hv6 hq6 hr6 hc6 hk6 hj5 hj6 hF6 hwr hW6 t05 t05f hvl5 hqh hrh hjlen
              go_wp2_with fail
              refine HWR.out.mono ?_
              rintro e w9 ⟨rfl, hc9, hf9⟩
              have hrn := HC6.out.blkne HR6.out (by decide)
              have hrb9 := (hf9.block rb (blk_lt HR6.out) (by rintro (e | e); exact hrn.1 e; exact hrn.2 e)).trans HR6.out
              have HRB9 := Lib.hid hrb9
              have HC9 := Lib.hid hc9
              have HF9 : Hid (Frm (fun b => b = cb ∨ b = ck) w w9) := (HF6.out : Frm (fun b => b = cb ∨ b = ck) w W6).trans hf9
              have r0 : w9.cell? ⟨rb, 0, none⟩ = some (.int .i64 0) := blk_cell hrb9 0
              have z0 : w9.frozen? ⟨rb, 0, none⟩ = false := blk_frozen hrb9 0
              have r1 : w9.cell? ⟨rb, 1, none⟩ = some (.slice none 0 0) := blk_cell hrb9 1
              have z1 : w9.frozen? ⟨rb, 1, none⟩ = false := blk_frozen hrb9 1
              have r2 : w9.cell? ⟨rb, 2, none⟩ = some (.int .u32 0) := blk_cell hrb9 2
              have z2 : w9.frozen? ⟨rb, 2, none⟩ = false := blk_frozen hrb9 2
              have r3 : w9.cell? ⟨rb, 3, none⟩ = some (.int .u64 0) := blk_cell hrb9 3
              have z3 : w9.frozen? ⟨rb, 3, none⟩ = false := blk_frozen hrb9 3
              have r4 : w9.cell? ⟨rb, 4, none⟩ = some (.int .u64 0) := blk_cell hrb9 4
              have z4 : w9.frozen? ⟨rb, 4, none⟩ = false := blk_frozen hrb9 4
              have r5 : w9.cell? ⟨rb, 5, none⟩ = some (.slice none 0 0) := blk_cell hrb9 5
              have z5 : w9.frozen? ⟨rb, 5, none⟩ = false := blk_frozen hrb9 5
              have r6 : w9.cell? ⟨rb, 6, none⟩ = some (.bool false) := blk_cell hrb9 6
              have z6 : w9.frozen? ⟨rb, 6, none⟩ = false := blk_frozen hrb9 6
              have hrl := blk_lt hrb9
              clear hc9 hf9 hrb9 hrn
              try unfold ansV
              go_wp2_with fail
              obtain ⟨hrf, hcf, hff⟩ := fin38 HF9.out HRW.out HC9.out HRB9.out (.int .i64 0) (.slice none 0 0) (.int .u32 0) (.int .u64 (c.last + 1)) (.int .u64 0) (.slice none 0 0) (.bool false)
              unfold putA at hrf hcf hff
              have y0 := blk_cell hrf 0
              have y1 := blk_cell hrf 1
              have y2 := blk_cell hrf 2
              have y3 := blk_cell hrf 3
              have y4 := blk_cell hrf 4
              have y5 := blk_cell hrf 5
              have y6 := blk_cell hrf 6
              have hr : res = (c.put q.key (⟨jl, t.fl, t.ex, t.cas⟩), okA (c.last + 1) 0) := by rw [HRES.out]; exact by rw [do_is HIT.out HNT.out (by rw [← HOP.out]; decide), if_neg (by rw [← HOP.out]; decide), if_neg (by rw [← HOP.out]; decide), if_pos (.inl HOP.out.symm), if_neg (by have := HJL.out; rw [HXN.out, HT.out] at this; exact this), ← HT.out, show joinT q t = ⟨jl, t.fl, t.ex, t.cas⟩ by unfold joinT; rw [HJ.out, ← HOP.out]; rfl]
              exact bodyPost_ret (v := .agg #[.int .i64 0, .slice none 0 0, .int .u32 0, .int .u64 (c.last + 1), .int .u64 0, .slice none 0 0, .bool false]) (by simp [results, Try.f12, go_sem, y0, y1, y2, y3, y4, y5, y6]) rfl ⟨_, _, by rw [hr]; rfl, by rw [hr]; exact BytesIn.nil _ _, by rw [hr]; exact hcf, hff⟩
          by_cases h15 : x = 15
          · subst h15
            obtain ⟨WD, hwd⟩ : ∃ WD, WD = wc.drew := ⟨_, rfl⟩
            have hbd : Below wc.heap.size wc WD := by rw [hwd]; exact hbelow_drew wc
            have HD : Hid (DoI w E cb ck c q r now t (.slice xa t.val.length xc) qb rb vb ob WD) := ⟨HI.out.bel.trans (hbd.mono HI.out.bel.size), HI.out.ca.below hbd, (hbd.block _ (blk_lt HI.out.hq)).trans HI.out.hq, (hbd.block _ (blk_lt HI.out.hr)).trans HI.out.hr, (hbd.block _ (blk_lt HI.out.hv)).trans HI.out.hv, (hbd.block _ (blk_lt HI.out.ho)).trans HI.out.ho, HI.out.xb.frm (S := fun _ => False) (frm_below hbd) (fun _ _ h => h), HI.out.tok⟩
            have HKD : Hid (BytesIn WD E (.slice r.ka q.key.length r.kc) q.key) := HKEYW.out.frm (S := fun _ => False) (frm_below hbd) (fun _ _ h => h)
            have HVD : Hid (BytesIn WD E (.slice r.va q.val.length r.vc) q.val) := HVALW.out.frm (S := fun _ => False) (frm_below hbd) (fun _ _ h => h)
            have d0 : WD.cell? ⟨qb, 0, none⟩ = some (.int .i64 15) := cellB hbd q0
            have hqn : q.val.length ≤ 1000000 := HQOK.out.2.2.2.2.2.2.2.2.2.2.2
            have hxl : xn ≤ 1000 := by rw [HXN.out]; exact HI.out.tok.1
            go_wp2_with fail
            go_region_held3 (fun w' => w'.cell? ⟨vb, 0, none⟩ = some (.slice xa xn xc) ∧ w'.cell? ⟨qb, 6, none⟩ = some (.slice r.va q.val.length r.vc)) (first | exact ⟨t0, q6⟩) (first | fail)
            rw [← hwd]
            clear hbd hwd
            by_cases hjl : 512 < xn + q.val.length
            · have HJL := Lib.hid hjl
              clear hjl
              go_wp2_with fail
              refine (join_long WD r.va xa q.val.length xn r.vc xc (by have := HJL.out; omega) (by omega) (by omega)).mono ?_
              rintro e wx ⟨rfl, rfl⟩
              go_wp2_with fail
              refine (fail9 _ 3).mono ?_
              rintro e w9 ⟨rfl, hb9⟩
              have hb9 : Below WD.heap.size WD w9 := hb9
              have hrb9 := (hb9.block rb (blk_lt HD.out.hr)).trans HD.out.hr
              have HRB9 := Lib.hid hrb9
              have HC9 := Lib.hid (HD.out.ca.below hb9)
              have HF9 : Hid (Frm (fun b => b = cb ∨ b = ck) w w9) := frm_below (HD.out.bel.trans (hb9.mono HD.out.bel.size))
              have r0 : w9.cell? ⟨rb, 0, none⟩ = some (.int .i64 0) := blk_cell hrb9 0
              have z0 : w9.frozen? ⟨rb, 0, none⟩ = false := blk_frozen hrb9 0
              have r1 : w9.cell? ⟨rb, 1, none⟩ = some (.slice none 0 0) := blk_cell hrb9 1
              have z1 : w9.frozen? ⟨rb, 1, none⟩ = false := blk_frozen hrb9 1
              have r2 : w9.cell? ⟨rb, 2, none⟩ = some (.int .u32 0) := blk_cell hrb9 2
              have z2 : w9.frozen? ⟨rb, 2, none⟩ = false := blk_frozen hrb9 2
              have r3 : w9.cell? ⟨rb, 3, none⟩ = some (.int .u64 0) := blk_cell hrb9 3
              have z3 : w9.frozen? ⟨rb, 3, none⟩ = false := blk_frozen hrb9 3
              have r4 : w9.cell? ⟨rb, 4, none⟩ = some (.int .u64 0) := blk_cell hrb9 4
              have z4 : w9.frozen? ⟨rb, 4, none⟩ = false := blk_frozen hrb9 4
              have r5 : w9.cell? ⟨rb, 5, none⟩ = some (.slice none 0 0) := blk_cell hrb9 5
              have z5 : w9.frozen? ⟨rb, 5, none⟩ = false := blk_frozen hrb9 5
              have r6 : w9.cell? ⟨rb, 6, none⟩ = some (.bool false) := blk_cell hrb9 6
              have z6 : w9.frozen? ⟨rb, 6, none⟩ = false := blk_frozen hrb9 6
              have hrl := blk_lt hrb9
              clear hb9 hrb9
              try unfold ansV
              go_wp2_with fail
              obtain ⟨hrf, hcf, hff⟩ := fin38 HF9.out HRW.out HC9.out HRB9.out (.int .i64 3) (.slice none 0 0) (.int .u32 0) (.int .u64 0) (.int .u64 0) (.slice none 0 0) (.bool false)
              unfold putA at hrf hcf hff
              have y0 := blk_cell hrf 0
              have y1 := blk_cell hrf 1
              have y2 := blk_cell hrf 2
              have y3 := blk_cell hrf 3
              have y4 := blk_cell hrf 4
              have y5 := blk_cell hrf 5
              have y6 := blk_cell hrf 6
              have hr : res = (c, failA 3) := by rw [HRES.out]; exact by rw [do_is HIT.out HNT.out (by rw [← HOP.out]; decide), if_neg (by rw [← HOP.out]; decide), if_neg (by rw [← HOP.out]; decide), if_pos (.inr HOP.out.symm), if_pos (by have := HJL.out; rw [HXN.out, HT.out] at this; exact this)]
              exact bodyPost_ret (v := .agg #[.int .i64 3, .slice none 0 0, .int .u32 0, .int .u64 0, .int .u64 0, .slice none 0 0, .bool false]) (by simp [results, Try.f12, go_sem, y0, y1, y2, y3, y4, y5, y6]) rfl ⟨_, _, by rw [hr]; rfl, by rw [hr]; exact BytesIn.nil _ _, by rw [hr]; exact hcf, hff⟩
            · have HJL := Lib.hid hjl
              clear hjl
              have HJN := Lib.hid (join_ok WD (.slice r.va q.val.length r.vc) (.slice xa xn xc) q.val t.val HVD.out.1 (by rw [HXN.out]; exact HD.out.xb.1) (by have := HJL.out; rw [HXN.out] at this; omega))
              go_wp2_with fail
              refine HJN.out.mono ?_
              rintro e w5 ⟨jv, rfl, hown, hb5⟩
              obtain ⟨ja, jc, rfl, _⟩ := own_form hown
              rw [List.length_map]
              have hown' := hown
              rw [List.length_map] at hown'
              obtain ⟨jl, hjl⟩ : ∃ l, l = q.val ++ t.val := ⟨_, rfl⟩
              rw [← hjl] at hown' ⊢
              have HJ := Lib.hid hjl
              have hv5 := (hb5.block vb (blk_lt HD.out.hv)).trans HD.out.hv
              have t05 : w5.cell? ⟨vb, 0, none⟩ = some (.slice xa xn xc) := by rw [HXN.out]; exact blk_cell hv5 0
              have t05f : w5.frozen? ⟨vb, 0, none⟩ = false := blk_frozen hv5 0
              have hvl5 := blk_lt hv5
              have HB5 := Lib.hid hb5
              have HV5 := Lib.hid hv5
              have HOW := Lib.hid hown'
              clear hown hown' hb5 hv5 hjl
              go_upto_region 30 with fail
              obtain ⟨W6, hW6⟩ : ∃ W6, W6 = w5.setCell ⟨vb, 0, none⟩ (.slice ja jl.length jc) := ⟨_, rfl⟩
              rw [← hW6]
              have hf6 : Frm (fun b => b = vb) w5 W6 := by rw [hW6]; exact setCell_frm1 w5 vb 0 _
              have hv6 : W6.heap[vb]? = some (.cells #[.slice ja jl.length jc, .int .u32 t.fl, .int .u32 t.ex, .int .u64 t.cas] 49 (0, 0)) := by rw [hW6]; exact blk_setAt HV5.out _
              have hqh := HD.out.hq
              have hrh := HD.out.hr
              have hq6 := (hf6.block qb (Nat.lt_of_lt_of_le (blk_lt HD.out.hq) HB5.out.size) (fun e => by rw [show qb = vb from e, HD.out.hv] at hqh; cases hqh)).trans ((HB5.out.block qb (blk_lt HD.out.hq)).trans HD.out.hq)
              have hr6 := (hf6.block rb (Nat.lt_of_lt_of_le (blk_lt HD.out.hr) HB5.out.size) (fun e => by rw [show rb = vb from e, HD.out.hv] at hrh; cases hrh)).trans ((HB5.out.block rb (blk_lt HD.out.hr)).trans HD.out.hr)
              have hc6 := (HD.out.ca.below HB5.out).keepB hf6 HV5.out (by decide) (boxC_u8 _ _ _ t)
              have hk6 := (HKD.out.frm (S := fun _ => False) (frm_below HB5.out) (fun _ _ h => h)).keepB hf6 HV5.out (boxC_u8 _ _ _ t)
              have hj5 : BytesIn w5 E (.slice ja jl.length jc) jl := ⟨own_isSl HOW.out, fun _ b hb => HE.out b (by have := (HOW.out.lt b hb).1; have := HD.out.bel.size; omega)⟩
              have hj6 := hj5.keepB hf6 HV5.out (boxC_u8 _ _ _ t)
              have hF6 : Frm (fun b => b = cb ∨ b = ck) w W6 := ((frm_below (T := fun b => b = vb) (HD.out.bel.trans (HB5.out.mono HD.out.bel.size))).trans hf6).mono fun b hb e => by have e : b = vb := e; have := HWV.out; omega
              have hjlen : jl.length ≤ 1000 := by have := HJL.out; rw [HJ.out, List.length_append]; have h2 := HXN.out; omega
              have hwr := write26 W6 E cb ck c hc6 (fun b hb => HE.out b (Nat.le_trans hF6.size hb)) r.ka r.kc q.key hk6 ⟨jl, t.fl, t.ex, t.cas⟩ (.slice ja jl.length jc) hj6 ⟨hjlen, HI.out.tok.2⟩ HLL.out
              unfold boxC ansV at hwr
              have HWR := Lib.hid hwr
              have s5 : W6.cell? ⟨qb, 5, none⟩ = some (.slice r.ka q.key.length r.kc) := blk_cell hq6 5
              have s0 : W6.cell? ⟨vb, 0, none⟩ = some (.slice ja jl.length jc) := blk_cell hv6 0
              have s1 : W6.cell? ⟨vb, 1, none⟩ = some (.int .u32 t.fl) := blk_cell hv6 1
              have s2 : W6.cell? ⟨vb, 2, none⟩ = some (.int .u32 t.ex) := blk_cell hv6 2
              have s3 : W6.cell? ⟨vb, 3, none⟩ = some (.int .u64 t.cas) := blk_cell hv6 3
              have HF6 := Lib.hid hF6
              have HR6 := Lib.hid hr6
              have HC6 := Lib.hid hc6
              clear hf6 hv6 hq6 hr6 hc6 hk6 hj5 hj6 hF6 hwr hW6 t05 t05f hvl5 hqh hrh hjlen
              go_wp2_with fail
              refine HWR.out.mono ?_
              rintro e w9 ⟨rfl, hc9, hf9⟩
              have hrn := HC6.out.blkne HR6.out (by decide)
              have hrb9 := (hf9.block rb (blk_lt HR6.out) (by rintro (e | e); exact hrn.1 e; exact hrn.2 e)).trans HR6.out
              have HRB9 := Lib.hid hrb9
              have HC9 := Lib.hid hc9
              have HF9 : Hid (Frm (fun b => b = cb ∨ b = ck) w w9) := (HF6.out : Frm (fun b => b = cb ∨ b = ck) w W6).trans hf9
              have r0 : w9.cell? ⟨rb, 0, none⟩ = some (.int .i64 0) := blk_cell hrb9 0
              have z0 : w9.frozen? ⟨rb, 0, none⟩ = false := blk_frozen hrb9 0
              have r1 : w9.cell? ⟨rb, 1, none⟩ = some (.slice none 0 0) := blk_cell hrb9 1
              have z1 : w9.frozen? ⟨rb, 1, none⟩ = false := blk_frozen hrb9 1
              have r2 : w9.cell? ⟨rb, 2, none⟩ = some (.int .u32 0) := blk_cell hrb9 2
              have z2 : w9.frozen? ⟨rb, 2, none⟩ = false := blk_frozen hrb9 2
              have r3 : w9.cell? ⟨rb, 3, none⟩ = some (.int .u64 0) := blk_cell hrb9 3
              have z3 : w9.frozen? ⟨rb, 3, none⟩ = false := blk_frozen hrb9 3
              have r4 : w9.cell? ⟨rb, 4, none⟩ = some (.int .u64 0) := blk_cell hrb9 4
              have z4 : w9.frozen? ⟨rb, 4, none⟩ = false := blk_frozen hrb9 4
              have r5 : w9.cell? ⟨rb, 5, none⟩ = some (.slice none 0 0) := blk_cell hrb9 5
              have z5 : w9.frozen? ⟨rb, 5, none⟩ = false := blk_frozen hrb9 5
              have r6 : w9.cell? ⟨rb, 6, none⟩ = some (.bool false) := blk_cell hrb9 6
              have z6 : w9.frozen? ⟨rb, 6, none⟩ = false := blk_frozen hrb9 6
              have hrl := blk_lt hrb9
              clear hc9 hf9 hrb9 hrn
              try unfold ansV
              go_wp2_with fail
              obtain ⟨hrf, hcf, hff⟩ := fin38 HF9.out HRW.out HC9.out HRB9.out (.int .i64 0) (.slice none 0 0) (.int .u32 0) (.int .u64 (c.last + 1)) (.int .u64 0) (.slice none 0 0) (.bool false)
              unfold putA at hrf hcf hff
              have y0 := blk_cell hrf 0
              have y1 := blk_cell hrf 1
              have y2 := blk_cell hrf 2
              have y3 := blk_cell hrf 3
              have y4 := blk_cell hrf 4
              have y5 := blk_cell hrf 5
              have y6 := blk_cell hrf 6
              have hr : res = (c.put q.key (⟨jl, t.fl, t.ex, t.cas⟩), okA (c.last + 1) 0) := by rw [HRES.out]; exact by rw [do_is HIT.out HNT.out (by rw [← HOP.out]; decide), if_neg (by rw [← HOP.out]; decide), if_neg (by rw [← HOP.out]; decide), if_pos (.inr HOP.out.symm), if_neg (by have := HJL.out; rw [HXN.out, HT.out] at this; exact this), ← HT.out, show joinT q t = ⟨jl, t.fl, t.ex, t.cas⟩ by unfold joinT; rw [HJ.out, ← HOP.out]; rfl]
              exact bodyPost_ret (v := .agg #[.int .i64 0, .slice none 0 0, .int .u32 0, .int .u64 (c.last + 1), .int .u64 0, .slice none 0 0, .bool false]) (by simp [results, Try.f12, go_sem, y0, y1, y2, y3, y4, y5, y6]) rfl ⟨_, _, by rw [hr]; rfl, by rw [hr]; exact BytesIn.nil _ _, by rw [hr]; exact hcf, hff⟩
          have HNX : Hid (¬ x = 0 ∧ ¬ x = 28 ∧ ¬ x = 29 ∧ ¬ x = 14 ∧ ¬ x = 15 ∧ ¬ x = 4 ∧ ¬ x = 5 ∧ ¬ x = 6) := ⟨h0, h28, h29, h14, h15, h4, h5, h6⟩
          have e0 : (x == 0) = false := by simp [h0]
          have e28 : (x == 28) = false := by simp [h28]
          have e29 : (x == 29) = false := by simp [h29]
          have e14 : (x == 14) = false := by simp [h14]
          have e15 : (x == 15) = false := by simp [h15]
          have e4 : (x == 4) = false := by simp [h4]
          have e5 : (x == 5) = false := by simp [h5]
          have e6 : (x == 6) = false := by simp [h6]
          clear h0 h28 h29 h14 h15 h4 h5 h6
          have HWR := Lib.hid (write26 wc E cb ck c HI.out.ca (fun b hb => HE.out b (Nat.le_trans HI.out.bel.size hb)) r.ka r.kc q.key HKEYW.out (ownT q now) (.slice r.va q.val.length r.vc) HVALW.out HOWN.out HLL.out)
          have o0 : wc.cell? ⟨ob, 0, none⟩ = some (.slice r.va q.val.length r.vc) := blk_cell HI.out.ho 0
          have o1 : wc.cell? ⟨ob, 1, none⟩ = some (.int .u32 q.fl) := blk_cell HI.out.ho 1
          have o2 : wc.cell? ⟨ob, 2, none⟩ = some (.int .u32 (expiryF now q.ex)) := blk_cell HI.out.ho 2
          have o3 : wc.cell? ⟨ob, 3, none⟩ = some (.int .u64 0) := blk_cell HI.out.ho 3
          go_wp2_with fail
          refine HWR.out.mono ?_
          rintro e w9 ⟨rfl, hc9, hf9⟩
          have hrn := HI.out.ca.blkne HI.out.hr (by decide)
          have hrb9 := (hf9.block rb (blk_lt HI.out.hr) (by rintro (e | e); exact hrn.1 e; exact hrn.2 e)).trans HI.out.hr
          have HRB9 := Lib.hid hrb9
          have HC9 := Lib.hid hc9
          have HF9 : Hid (Frm (fun b => b = cb ∨ b = ck) w w9) := ((frm_below HI.out.bel) : Frm (fun b => b = cb ∨ b = ck) w wc).trans hf9
          have r0 : w9.cell? ⟨rb, 0, none⟩ = some (.int .i64 0) := blk_cell hrb9 0
          have z0 : w9.frozen? ⟨rb, 0, none⟩ = false := blk_frozen hrb9 0
          have r1 : w9.cell? ⟨rb, 1, none⟩ = some (.slice none 0 0) := blk_cell hrb9 1
          have z1 : w9.frozen? ⟨rb, 1, none⟩ = false := blk_frozen hrb9 1
          have r2 : w9.cell? ⟨rb, 2, none⟩ = some (.int .u32 0) := blk_cell hrb9 2
          have z2 : w9.frozen? ⟨rb, 2, none⟩ = false := blk_frozen hrb9 2
          have r3 : w9.cell? ⟨rb, 3, none⟩ = some (.int .u64 0) := blk_cell hrb9 3
          have z3 : w9.frozen? ⟨rb, 3, none⟩ = false := blk_frozen hrb9 3
          have r4 : w9.cell? ⟨rb, 4, none⟩ = some (.int .u64 0) := blk_cell hrb9 4
          have z4 : w9.frozen? ⟨rb, 4, none⟩ = false := blk_frozen hrb9 4
          have r5 : w9.cell? ⟨rb, 5, none⟩ = some (.slice none 0 0) := blk_cell hrb9 5
          have z5 : w9.frozen? ⟨rb, 5, none⟩ = false := blk_frozen hrb9 5
          have r6 : w9.cell? ⟨rb, 6, none⟩ = some (.bool false) := blk_cell hrb9 6
          have z6 : w9.frozen? ⟨rb, 6, none⟩ = false := blk_frozen hrb9 6
          have hrl := blk_lt hrb9
          clear hc9 hf9 hrb9 hrn
          try unfold ansV
          go_wp2_with fail
          obtain ⟨hrf, hcf, hff⟩ := fin38 HF9.out HRW.out HC9.out HRB9.out (.int .i64 0) (.slice none 0 0) (.int .u32 0) (.int .u64 (c.last + 1)) (.int .u64 0) (.slice none 0 0) (.bool false)
          unfold putA at hrf hcf hff
          have y0 := blk_cell hrf 0
          have y1 := blk_cell hrf 1
          have y2 := blk_cell hrf 2
          have y3 := blk_cell hrf 3
          have y4 := blk_cell hrf 4
          have y5 := blk_cell hrf 5
          have y6 := blk_cell hrf 6
          have hr : res = (c.put q.key (ownT q now), okA (c.last + 1) 0) := by rw [HRES.out]; exact by have hnx := HNX.out; rw [HOP.out] at hnx; rw [do_is HIT.out HNT.out H2.out, if_neg (by omega), if_neg (by omega), if_neg (by omega), if_neg (by omega), if_neg (by omega)]
          exact bodyPost_ret (v := .agg #[.int .i64 0, .slice none 0 0, .int .u32 0, .int .u64 (c.last + 1), .int .u64 0, .slice none 0 0, .bool false]) (by simp [results, Try.f12, go_sem, y0, y1, y2, y3, y4, y5, y6]) rfl ⟨_, _, by rw [hr]; rfl, by rw [hr]; exact BytesIn.nil _ _, by rw [hr]; exact hcf, hff⟩
end Go.Proofs.Ytngpffmgkponfaa
