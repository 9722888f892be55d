/- The law's cache: turn. Conditions: the cache, the request lie in memory. -/
import Derived.Test.YtngpffmgkponfaaCwr
import Derived.Test.YtngpffmgkponfaaReg
import Derived.Deep.CutRange
import Derived.Deep.CutBlock
set_option linter.unusedVariables false
set_option linter.unusedSimpArgs false
namespace Go.Proofs.Ytngpffmgkponfaa
open Go.RowKit Go.Ice Go.Idl
def ansZ (a : An) : Value := ansV a.st (.slice none 0 0) a.fl a.cas a.num (.slice none 0 0) a.cl
def ansC0 (st cas num : Int) : Array Value := #[.int .i64 st, .slice none 0 0, .int .u32 0, .int .u64 cas, .int .u64 num, .slice none 0 0, .bool false]
structure TurI (W : World) (E : Nat → Prop) (cb ck : Nat) (c c' : Ca) (L : Int) (tx : List UInt8) (done : Nat → Bool) (ab : Nat) (v1 : Value) (WW : World) : Prop where
  frm : Frm (fun b => b = cb ∨ b = ck) W WW
  ca : CaAt WW E cb ck (if done 11 then c' else c)
  al : done 12 = true → W.heap.size ≤ ab ∧ WW.heap[ab]? = some (.cells (ansC0 0 (if done 13 then L else 0) 0) 38 (0, 0))
  tx : done 5 = true → BytesIn WW E v1 tx
section
variable {W WW w1 : World} {E : Nat → Prop} {cb ck : Nat} {c c' : Ca} {L : Int} {tx : List UInt8} {done : Nat → Bool} {ab : Nat} {v1 v : Value}
theorem CaAt.blkne (h : CaAt w1 E cb ck c) {b : Nat} {cs : Array Value} {e : TypeId} (hb : w1.heap[b]? = some (.cells cs e (0, 0))) (he : e ≠ 31) : b ≠ cb ∧ b ≠ ck := by
  obtain ⟨G, hm, _⟩ := h.map
  refine ⟨fun e' => ?_, fun e' => mapAt_block hm ((congrArg (fun b => w1.heap[b]?) e'.symm).trans hb)⟩
  rw [e', h.blk] at hb
  cases hb
  exact he rfl
theorem TurI.pass (h : TurI W E cb ck c c' L tx done ab v1 WW) {j : Nat} (hj : j ≠ 5 ∧ j ≠ 11 ∧ j ≠ 12 ∧ j ≠ 13) : TurI W E cb ck c c' L tx (fun k => decide (k = j) || done k) ab v1 WW := by
  obtain ⟨h1, h2, h3, h4⟩ := hj
  exact ⟨h.frm, by simpa [Ne.symm h2] using h.ca, by simpa [Ne.symm h3, Ne.symm h4] using h.al, by simpa [Ne.symm h1] using h.tx⟩
theorem TurI.below (h : TurI W E cb ck c c' L tx done ab v1 WW) (hb : Below WW.heap.size WW w1) : TurI W E cb ck c c' L tx done ab v1 w1 :=
  ⟨h.frm.trans (frm_below hb), h.ca.below hb, fun e => ⟨(h.al e).1, (hb.block ab (blk_lt (h.al e).2)).trans (h.al e).2⟩, fun e => (h.tx e).frm (S := fun _ => False) (frm_below hb) (fun _ _ h => h)⟩
theorem TurI.text (h : TurI W E cb ck c c' L tx done ab v1 WW) (hb : Below WW.heap.size WW w1) (hv : BytesIn w1 E v tx) : TurI W E cb ck c c' L tx (fun k => decide (k = 5) || done k) ab v w1 := by
  have k := h.below hb
  exact ⟨k.frm, by simpa using k.ca, by simpa using k.al, fun _ => hv⟩
theorem TurI.write (h : TurI W E cb ck c c' L tx done ab v1 WW) (hf : Frm (fun b => b = cb ∨ b = ck) WW w1) (hc : CaAt w1 E cb ck c') (h13 : done 13 = false) : TurI W E cb ck c c' L tx (fun k => decide (k = 11) || done k) ab v1 w1 := by
  refine ⟨h.frm.trans hf, by simpa using hc, fun e => ?_, fun e => ?_⟩
  · have e' : done 12 = true := by simpa using e
    have ha := h.al e'
    have hn := h.ca.blkne ha.2 (by decide)
    refine ⟨ha.1, ?_⟩
    have := (hf.block ab (blk_lt ha.2) (by rintro (e | e); exact hn.1 e; exact hn.2 e)).trans ha.2
    simpa using this
  · have e' : done 5 = true := by simpa using e
    refine (h.tx e').frm hf fun b hb e => ?_
    rcases e with e | e
    · exact h.ca.eb (e ▸ hb)
    · exact h.ca.ek (e ▸ hb)
theorem TurI.alloc (h : TurI W E cb ck c c' L tx done ab v1 WW) (h13 : done 13 = false) : TurI W E cb ck c c' L tx (fun k => decide (k = 12) || done k) WW.heap.size v1 (WW.alloc (.cells (ansC0 0 0 0) 38)) := by
  have k := h.below ((Below.refl _ WW).alloc (Nat.le_refl _) (.cells (ansC0 0 0 0) 38))
  exact ⟨k.frm, by simpa using k.ca, fun _ => ⟨h.frm.size, by simpa [h13] using heap_alloc_new WW (.cells (ansC0 0 0 0) 38)⟩, by simpa using k.tx⟩
end
theorem BytesIn.keepB {w w' : World} {E : Nat → Prop} {v : Value} {l : List UInt8} {b : Nat} {cs : Array Value} {e : TypeId} {fz : Nat × Nat} (h : BytesIn w E v l) (hf : Frm (fun k => k = b) w w') (hb : w.heap[b]? = some (.cells cs e fz)) (hcs : ∀ (j : Nat) (c : UInt8), cs[j]? ≠ some (u8v c)) : BytesIn w' E v l := by
  refine ⟨IsSl.frm h.1 hf fun hl b' hb' e' => ?_, h.2⟩
  have e' : b' = b := e'
  subst e'
  rcases h.1 with ⟨h1, _⟩ | ⟨h0, b2, off, cap, hv, h1, h2, h3, h4⟩
  · exact hl h1
  · rw [hv] at hb'
    cases hb'
    have h5 := h4 0 h0
    cases l with
    | nil => simp at hl
    | cons x l =>
      simp [World.cell?, hb] at h5
      exact hcs _ x (by simpa using h5)
theorem CaAt.keepB {w w' : World} {E : Nat → Prop} {cb ck : Nat} {c : Ca} {b : Nat} {cs : Array Value} {e : TypeId} (h : CaAt w E cb ck c) (hf : Frm (fun k => k = b) w w') (hb : w.heap[b]? = some (.cells cs e (0, 0))) (he : e ≠ 31) (hcs : ∀ (j : Nat) (c : UInt8), cs[j]? ≠ some (u8v c)) : CaAt w' E cb ck c := by
  have hn := h.blkne hb he
  obtain ⟨G, hm, ha⟩ := h.map
  refine ⟨(hf.block cb (blk_lt h.blk) (fun e => hn.1 e.symm)).trans h.blk, ⟨G, hm.frm hf (fun e => hn.2 e.symm), fun k => ?_⟩, h.bnd, h.eb, h.ek⟩
  rcases ha k with h3 | ⟨t, x, h3, h4, h5, h6⟩
  · exact .inl h3
  · exact .inr ⟨t, x, h3, h4, h5.keepB hf hb hcs, h6⟩
theorem boxC_u8 (xa : Option Addr) (xn xc : Nat) (t : Tv) : ∀ (j : Nat) (c : UInt8), (boxC (.slice xa xn xc) t)[j]? ≠ some (u8v c) := by
  intro j c
  unfold boxC u8v
  rcases (show j = 0 ∨ j = 1 ∨ j = 2 ∨ j = 3 ∨ 4 ≤ j by omega) with rfl | rfl | rfl | rfl | h
  all_goals first | simp; done | skip
  rw [Array.getElem?_eq_none (by simpa using h)]
  simp
theorem ansC0_u8 (st cas num : Int) : ∀ (j : Nat) (c : UInt8), (ansC0 st cas num)[j]? ≠ some (u8v c) := by
  intro j c
  unfold ansC0 u8v
  rcases (show j = 0 ∨ j = 1 ∨ j = 2 ∨ j = 3 ∨ j = 4 ∨ j = 5 ∨ j = 6 ∨ 7 ≤ j by omega) with rfl | rfl | rfl | rfl | rfl | rfl | rfl | h
  all_goals first | simp; done | skip
  rw [Array.getElem?_eq_none (by simpa using h)]
  simp
section
variable {W WW w1 : World} {E : Nat → Prop} {cb ck : Nat} {c c' : Ca} {L : Int} {tx : List UInt8} {done : Nat → Bool} {ab : Nat} {v1 v : Value}
/-- The world behind a store of an answer. -/
def putA (w : World) (b : Nat) (x0 x1 x2 x3 x4 x5 x6 : Value) : World := ((((((w.setCell ⟨b, 0, none⟩ x0).setCell ⟨b, 1, none⟩ x1).setCell ⟨b, 2, none⟩ x2).setCell ⟨b, 3, none⟩ x3).setCell ⟨b, 4, none⟩ x4).setCell ⟨b, 5, none⟩ x5).setCell ⟨b, 6, none⟩ x6
theorem TurI.store (h : TurI W E cb ck c c' L tx done ab v1 WW) (h12 : done 12 = true) : TurI W E cb ck c c' L tx (fun k => decide (k = 13) || done k) ab v1 (putA WW ab (.int .i64 0) (.slice none 0 0) (.int .u32 0) (.int .u64 L) (.int .u64 0) (.slice none 0 0) (.bool false)) := by
  have ha := h.al h12
  obtain ⟨h1, h2⟩ := set7 ha.2 (.int .i64 0) (.slice none 0 0) (.int .u32 0) (.int .u64 L) (.int .u64 0) (.slice none 0 0) (.bool false)
  have hc := h.ca.keepB h2 ha.2 (by decide) (ansC0_u8 _ _ _)
  refine ⟨?_, by simpa [putA] using hc, fun _ => ⟨ha.1, by simpa [putA, ansC0] using h1⟩, fun e => ?_⟩
  · exact (h.frm.mono (T := fun b => (b = cb ∨ b = ck) ∨ b = ab) fun _ _ e => .inl e).trans (h2.mono fun _ _ e => .inr e) |>.mono fun b hb e => by
      rcases e with e | e
      · exact e
      · have := ha.1; omega
  · have e' : done 5 = true := by simpa using e
    exact (h.tx e').keepB h2 ha.2 (ansC0_u8 _ _ _)
end
theorem fin38 {w w6 : World} {E : Nat → Prop} {cb ck rb : Nat} {c' : Ca} (hfr : Frm (fun b => b = cb ∨ b = ck) w w6) (hrw : w.heap.size ≤ rb) (hca : CaAt w6 E cb ck c') (hrb : w6.heap[rb]? = some (.cells (ansC0 0 0 0) 38 (0, 0))) (x0 x1 x2 x3 x4 x5 x6 : Value) :
    (putA w6 rb x0 x1 x2 x3 x4 x5 x6).heap[rb]? = some (.cells #[x0, x1, x2, x3, x4, x5, x6] 38 (0, 0)) ∧ CaAt (putA w6 rb x0 x1 x2 x3 x4 x5 x6) E cb ck c' ∧ Frm (fun b => b = cb ∨ b = ck) w (putA w6 rb x0 x1 x2 x3 x4 x5 x6) := by
  obtain ⟨h1, h2⟩ := set7 hrb x0 x1 x2 x3 x4 x5 x6
  refine ⟨h1, hca.keepB h2 hrb (by decide) (ansC0_u8 _ _ _), ?_⟩
  exact ((hfr.mono (T := fun b => (b = cb ∨ b = ck) ∨ b = rb) fun _ _ e => .inl e).trans (h2.mono fun _ _ e => .inr e)).mono fun b hb e => by
    rcases e with e | e
    · exact e
    · omega

set_option maxHeartbeats 8000000 in
set_option maxRecDepth 20000 in
theorem turn28 (w : World) (E : Nat → Prop) (cb ck : Nat) (c : Ca) (h : CaAt w E cb ck c) (hE : ∀ b, w.heap.size ≤ b → E b) (q : Rq) (r : Raw) (hkey : BytesIn w E (.slice r.ka q.key.length r.kc) q.key) (hqok : Rq.ok q) (t : Tv) (x : Value) (hx : BytesIn w E x t.val) (hok : Tv.ok t) (hl : c.last < 1000000) (is : Bool) (now : Int) (hnow : 0 ≤ now ∧ now ≤ 4294967295) :
    Calls Try.prog 28 #[.pointer (some ⟨cb, 0, none⟩), rqV q r.ka r.va r.kc r.vc, .agg (boxC x t), .bool is, .int .u32 now] w fun e w' => e = .returned (ansZ (c.turn q t is now).2) ∧ CaAt w' E cb ck (c.turn q t is now).1 ∧ Frm (fun b => b = cb ∨ b = ck) w w' := by
  obtain ⟨res, hres⟩ : ∃ res, res = c.turn q t is now := ⟨_, rfl⟩
  rw [← hres]
  have HRES := Lib.hid hres
  clear hres
  obtain ⟨xa, xc, rfl, _⟩ := hx.1.form
  obtain ⟨xn, hxn⟩ : ∃ n, n = t.val.length := ⟨_, rfl⟩
  rw [← hxn]
  unfold boxC rqV
  obtain ⟨qb, tb, rb, W, HQ, HT, HR, HW, HK, HZ⟩ := boxed3 w #[.int .i64 q.op, .bool q.quiet, .bool q.full, .int .i64 q.bad, .int .u32 q.opq, .slice r.ka q.key.length r.kc, .slice r.va q.val.length r.vc, .int .u32 q.fl, .int .u32 q.ex, .int .u64 q.cas, .int .u64 q.delta, .int .u64 q.ini] 35
    #[.slice xa xn xc, .int .u32 t.fl, .int .u32 t.ex, .int .u64 t.cas] 49 #[.int .i64 0, .slice none 0 0, .int .u32 0, .int .u64 0, .int .u64 0, .slice none 0 0, .bool false] 38
  have HC := Lib.hid (h.below HK.out.below)
  have HX := Lib.hid hx
  have HXN := Lib.hid hxn
  have HKEY := Lib.hid hkey
  have HQOK := Lib.hid hqok
  have HOK := Lib.hid hok
  have HNOW := Lib.hid hnow
  have HLL := Lib.hid hl
  have HE := Lib.hid hE
  have HRW : Hid (w.heap.size ≤ rb) := by have := HR.out; show _ ≤ _; omega
  have HRB : Hid (W.heap[rb]? = some (.cells (ansC0 0 0 0) 38 (0, 0))) := HK.out.b2
  have v0 : W.cell? ⟨tb, 0, none⟩ = some (.slice xa xn xc) := blk_cell HK.out.b1 0
  have q0 : W.cell? ⟨qb, 0, none⟩ = some (.int .i64 q.op) := blk_cell HK.out.b0 0
  have q5 : W.cell? ⟨qb, 5, none⟩ = some (.slice r.ka q.key.length r.kc) := blk_cell HK.out.b0 5
  have q8 : W.cell? ⟨qb, 8, none⟩ = some (.int .u32 q.ex) := blk_cell HK.out.b0 8
  have q10 : W.cell? ⟨qb, 10, none⟩ = some (.int .u64 q.delta) := blk_cell HK.out.b0 10
  have q11 : W.cell? ⟨qb, 11, none⟩ = some (.int .u64 q.ini) := blk_cell HK.out.b0 11
  clear h hx hxn hkey hqok hok hnow hl hE
  go_enter Try.func28, Try.ntmps28
  go_upto_region 1 with fail
  rw [HR.out, HT.out, HQ.out, HW.out]
  cases is with
  | false =>
    by_cases hex : q.ex = 4294967295
    · have hxx : (q.ex == 4294967295) = true := by simp [hex]
      have HEX := Lib.hid hex
      clear hex
      go_wp2_with fail
      refine (fail9 _ 1).mono ?_
      rintro e w1 ⟨rfl, hb1⟩
      have hb1 : Below W.heap.size W w1 := hb1
      have hrb1 := (hb1.block rb (blk_lt HRB.out)).trans HRB.out
      have HRB1 := Lib.hid hrb1
      have HC1 := Lib.hid (HC.out.below hb1)
      have HF1 : Hid (Frm (fun b => b = cb ∨ b = ck) w w1) := frm_below (HK.out.below.trans (hb1.mono HK.out.below.size))
      have r0 : w1.cell? ⟨rb, 0, none⟩ = some (.int .i64 0) := blk_cell hrb1 0
      have r1 : w1.cell? ⟨rb, 1, none⟩ = some (.slice none 0 0) := blk_cell hrb1 1
      have r2 : w1.cell? ⟨rb, 2, none⟩ = some (.int .u32 0) := blk_cell hrb1 2
      have r3 : w1.cell? ⟨rb, 3, none⟩ = some (.int .u64 0) := blk_cell hrb1 3
      have r4 : w1.cell? ⟨rb, 4, none⟩ = some (.int .u64 0) := blk_cell hrb1 4
      have r5 : w1.cell? ⟨rb, 5, none⟩ = some (.slice none 0 0) := blk_cell hrb1 5
      have r6 : w1.cell? ⟨rb, 6, none⟩ = some (.bool false) := blk_cell hrb1 6
      have z0 : w1.frozen? ⟨rb, 0, none⟩ = false := blk_frozen hrb1 0
      have z1 : w1.frozen? ⟨rb, 1, none⟩ = false := blk_frozen hrb1 1
      have z2 : w1.frozen? ⟨rb, 2, none⟩ = false := blk_frozen hrb1 2
      have z3 : w1.frozen? ⟨rb, 3, none⟩ = false := blk_frozen hrb1 3
      have z4 : w1.frozen? ⟨rb, 4, none⟩ = false := blk_frozen hrb1 4
      have z5 : w1.frozen? ⟨rb, 5, none⟩ = false := blk_frozen hrb1 5
      have z6 : w1.frozen? ⟨rb, 6, none⟩ = false := blk_frozen hrb1 6
      have hrl := blk_lt hrb1
      clear hb1 hrb1
      unfold ansV
      go_wp2_with fail
      obtain ⟨hrf, hcf, hff⟩ := fin38 HF1.out HRW.out HC1.out HRB1.out (.int .i64 1) (.slice none 0 0) (.int .u32 0) (.int .u64 0) (.int .u64 0) (.slice none 0 0) (.bool false)
      unfold putA at hrf hcf hff
      have y0 := blk_cell hrf 0
      have y1 := blk_cell hrf 1
      have y2 := blk_cell hrf 2
      have y3 := blk_cell hrf 3
      have y4 := blk_cell hrf 4
      have y5 := blk_cell hrf 5
      have y6 := blk_cell hrf 6
      have hr : res = (c, failA 1) := by rw [HRES.out]; unfold Ca.turn; rw [if_pos rfl, if_pos HEX.out]
      exact bodyPost_ret (v := .agg #[.int .i64 1, .slice none 0 0, .int .u32 0, .int .u64 0, .int .u64 0, .slice none 0 0, .bool false]) (by simp [results, Try.f28, go_sem, y0, y1, y2, y3, y4, y5, y6]) rfl ⟨by rw [hr]; rfl, by rw [hr]; exact hcf, hff⟩
    · have hxx : (q.ex == 4294967295) = false := by simp [hex]
      have HEX := Lib.hid hex
      clear hex
      go_wp2_with fail
      obtain ⟨d, hd0⟩ := Int.eq_ofNat_of_zero_le HQOK.out.2.2.2.2.2.2.2.2.1
      have HD : Hid (d ≤ 18446744073709551615) := by have := HQOK.out.2.2.2.2.2.2.2.2.2.1; show d ≤ _; omega
      rw [hd0] at q11
      have HD0 := Lib.hid hd0
      clear hd0
      have HQL : Hid (qb < W.heap.size ∧ ¬ (qb = cb ∨ qb = ck)) := ⟨blk_lt HK.out.b0, by have := HC.out.blkne HK.out.b0 (by decide); rintro (e | e); exact this.1 e; exact this.2 e⟩
      have HKEYW : Hid (BytesIn W E (.slice r.ka q.key.length r.kc) q.key) := HKEY.out.frm (S := fun _ => False) (frm_below HK.out.below) (fun _ _ h => h)
      have HOKT : Hid (Tv.ok ⟨textF d, 0, expiryF now q.ex, 0⟩) := by
        have h1 := textF_len d HD.out
        have h2 := expiryF_bound HNOW.out.1 HNOW.out.2 HQOK.out.2.2.1 HQOK.out.2.2.2.1
        exact ⟨by show (textF d).length ≤ 1000; omega, Int.le_refl _, by show (0 : Int) ≤ _; omega, h2.1, h2.2, Int.le_refl _, by show (0 : Int) ≤ _; omega⟩
      go_cut [11] from 22 to 34 (fun s11 W6 => ∃ ab : Nat, s11 = .pointer (some ⟨ab, 0, none⟩) ∧ Hid (CaAt W6 E cb ck (c.put q.key ⟨textF d, 0, expiryF now q.ex, 0⟩) ∧ W.heap.size ≤ ab ∧ W6.heap[ab]? = some (.cells (ansC0 0 (c.last + 1) 0) 38 (0, 0)) ∧ Frm (fun b => b = cb ∨ b = ck) W W6))
      case first =>
        refine wp_region_inv2 (by kernel_rfl) (hord_of2 (by kernel_rfl)) (fun done zac WW => ∃ (ab vc : Nat) (va : Option Addr), zac = { tmps := #[.pointer (some ⟨cb, 0, none⟩), .agg #[.int .i64 q.op, .bool q.quiet, .bool q.full, .int .i64 q.bad, .int .u32 q.opq, .slice r.ka q.key.length r.kc, .slice r.va q.val.length r.vc, .int .u32 q.fl, .int .u32 q.ex, .int .u64 q.cas, .int .u64 q.delta, .int .u64 q.ini], .agg #[.slice xa xn xc, .int .u32 t.fl, .int .u32 t.ex, .int .u64 t.cas], .bool false, .int .u32 now, undef, .pointer (some ⟨qb, 0, none⟩), .pointer (some ⟨tb, 0, none⟩), undef, undef, .pointer (some ⟨rb, 0, none⟩), if done 12 then (.pointer (some ⟨ab, 0, none⟩)) else undef, undef, undef, undef, undef, .bool false, .bool true, .pointer (some ⟨qb, 8, none⟩), .int .u32 q.ex, .bool false, undef, if done 0 then (.pointer (some ⟨cb, 0, none⟩)) else undef, if done 1 then (.pointer (some ⟨qb, 5, none⟩)) else undef, if done 2 then (.slice r.ka q.key.length r.kc) else undef, if done 3 then (.pointer (some ⟨qb, 11, none⟩)) else undef, if done 4 then (.int .u64 (d : Nat)) else undef, if done 5 then (.slice va (textF d).length vc) else undef, if done 6 then (.int .u32 now) else undef, if done 7 then (.pointer (some ⟨qb, 8, none⟩)) else undef, if done 8 then (.int .u32 q.ex) else undef, if done 9 then (.int .u32 (expiryF now q.ex)) else undef, if done 10 then (.agg #[.slice va (textF d).length vc, .int .u32 0, .int .u32 (expiryF now q.ex), .int .u64 0]) else undef, if done 11 then (.agg #[.int .i64 0, .slice none 0 0, .int .u32 0, .int .u64 (c.last + 1), .int .u64 0, .slice none 0 0, .bool false]) else undef, undef, undef, undef, undef, undef, undef, undef, undef, undef, undef, undef, undef, undef, undef, undef, undef, undef, undef, undef, undef, undef, undef, undef, undef, undef, undef, undef, undef, undef], defers := [] } ∧ Hid (TurI W E cb ck c (c.put q.key ⟨textF d, 0, expiryF now q.ex, 0⟩) (c.last + 1) (textF d) done ab (.slice va (textF d).length vc) WW)) ?_ ?_ ?_
        · exact ⟨0, 0, none, by simp, Frm.drew (Frm.refl _ _), by simpa using HC.out.below (hbelow_drew W), by simp, by simp⟩
        · rintro done zac WW j oq ho hd hdep hcl ⟨ab, vc, va, hlit, HI⟩
          have hj : j < 14 := (Array.getElem?_eq_some_iff.1 ho).1
          subst hlit
          obtain rfl | rfl | rfl | rfl | rfl | rfl | rfl | rfl | rfl | rfl | rfl | rfl | rfl | rfl : j = 0 ∨ j = 1 ∨ j = 2 ∨ j = 3 ∨ j = 4 ∨ j = 5 ∨ j = 6 ∨ j = 7 ∨ j = 8 ∨ j = 9 ∨ j = 10 ∨ j = 11 ∨ j = 12 ∨ j = 13 := by omega
          · refine wpOp_val ho (by cases ho; rfl) (w' := WW) (v := (.pointer (some ⟨cb, 0, none⟩))) (by cases ho; simp [execOp, go_sem]) ?_
            cases ho
            exact ⟨ab, vc, va, by simp [Act.put], HI.out.pass (by decide)⟩
          · refine wpOp_val ho (by cases ho; rfl) (w' := WW) (v := (.pointer (some ⟨qb, 5, none⟩))) (by cases ho; simp [execOp, go_sem]) ?_
            cases ho
            exact ⟨ab, vc, va, by simp [Act.put], HI.out.pass (by decide)⟩
          · have p1 : done 1 = true := by cases ho; exact hdep ⟨1, .data⟩ (by simp) rfl
            have hqk : WW.cell? ⟨qb, 5, none⟩ = some (.slice r.ka q.key.length r.kc) := (HI.out.frm.cell (p := ⟨qb, 5, none⟩) HQL.out.1 HQL.out.2).trans q5
            refine wpOp_val ho (by cases ho; rfl) (w' := WW) (v := (.slice r.ka q.key.length r.kc)) (by cases ho; simp [execOp, go_sem, p1, hqk]) ?_
            cases ho
            exact ⟨ab, vc, va, by simp [Act.put], HI.out.pass (by decide)⟩
          · refine wpOp_val ho (by cases ho; rfl) (w' := WW) (v := (.pointer (some ⟨qb, 11, none⟩))) (by cases ho; simp [execOp, go_sem]) ?_
            cases ho
            exact ⟨ab, vc, va, by simp [Act.put], HI.out.pass (by decide)⟩
          · have p3 : done 3 = true := by cases ho; exact hdep ⟨3, .data⟩ (by simp) rfl
            have hqi : WW.cell? ⟨qb, 11, none⟩ = some (.int .u64 (d : Nat)) := (HI.out.frm.cell (p := ⟨qb, 11, none⟩) HQL.out.1 HQL.out.2).trans q11
            refine wpOp_val ho (by cases ho; rfl) (w' := WW) (v := (.int .u64 (d : Nat))) (by cases ho; simp [execOp, go_sem, p3, hqi]) ?_
            cases ho
            exact ⟨ab, vc, va, by simp [Act.put], HI.out.pass (by decide)⟩
          · have p4 : done 4 = true := by cases ho; exact hdep ⟨4, .data⟩ (by simp) rfl
            have h10 : done 10 = false := by cases hx : done 10 with | false => rfl | true => have := hcl 10 _ rfl hx ⟨5, .data⟩ (by simp) rfl; rw [hd] at this; cases this
            refine wpOp_call ho (by cases ho; rfl) (f := 34) (args := #[.int .u64 (d : Nat)]) (by cases ho; simp [execOp, go_sem, p4]) (text d HD.out WW) ?_
            rintro e w1 ⟨v, rfl, hov, hb1⟩
            cases ho
            obtain ⟨va, vc, rfl, _⟩ := own_form hov
            rw [List.length_map]
            exact ⟨_, rfl, ab, vc, va, by simp [Act.put, hd, h10], HI.out.text hb1 (by have hs := own_isSl hov; rw [List.length_map] at hs hov; exact ⟨hs, fun _ b hb => HE.out b (by have := (hov.lt b hb).1; have := HI.out.frm.size; have := HK.out.below.size; omega)⟩)⟩
          · refine wpOp_val ho (by cases ho; rfl) (w' := WW) (v := (.int .u32 now)) (by cases ho; simp [execOp, go_sem]) ?_
            cases ho
            exact ⟨ab, vc, va, by simp [Act.put], HI.out.pass (by decide)⟩
          · refine wpOp_val ho (by cases ho; rfl) (w' := WW) (v := (.pointer (some ⟨qb, 8, none⟩))) (by cases ho; simp [execOp, go_sem]) ?_
            cases ho
            exact ⟨ab, vc, va, by simp [Act.put], HI.out.pass (by decide)⟩
          · have p7 : done 7 = true := by cases ho; exact hdep ⟨7, .data⟩ (by simp) rfl
            have hqx : WW.cell? ⟨qb, 8, none⟩ = some (.int .u32 q.ex) := (HI.out.frm.cell (p := ⟨qb, 8, none⟩) HQL.out.1 HQL.out.2).trans q8
            refine wpOp_val ho (by cases ho; rfl) (w' := WW) (v := (.int .u32 q.ex)) (by cases ho; simp [execOp, go_sem, p7, hqx]) ?_
            cases ho
            exact ⟨ab, vc, va, by simp [Act.put], HI.out.pass (by decide)⟩
          · have p6 : done 6 = true := by cases ho; exact hdep ⟨6, .data⟩ (by simp) rfl
            have p8 : done 8 = true := by cases ho; exact hdep ⟨8, .data⟩ (by simp) rfl
            refine wpOp_call ho (by cases ho; rfl) (f := 25) (args := #[.int .u32 now, .int .u32 q.ex]) (by cases ho; simp [execOp, go_sem, p6, p8]) (expiry25 now q.ex WW HNOW.out.1 HNOW.out.2 HQOK.out.2.2.1 HQOK.out.2.2.2.1) ?_
            rintro e w1 ⟨rfl, rfl⟩
            cases ho
            exact ⟨_, rfl, ab, vc, va, by simp [Act.put], HI.out.pass (by decide)⟩
          · have p5 : done 5 = true := by cases ho; exact hdep ⟨5, .data⟩ (by simp) rfl
            have p9 : done 9 = true := by cases ho; exact hdep ⟨9, .data⟩ (by simp) rfl
            refine wpOp_val ho (by cases ho; rfl) (w' := WW) (v := (.agg #[.slice va (textF d).length vc, .int .u32 0, .int .u32 (expiryF now q.ex), .int .u64 0])) (by cases ho; simp [execOp, go_sem, p5, p9]) ?_
            cases ho
            exact ⟨ab, vc, va, by simp [Act.put], HI.out.pass (by decide)⟩
          · have p0 : done 0 = true := by cases ho; exact hdep ⟨0, .data⟩ (by simp) rfl
            have p2 : done 2 = true := by cases ho; exact hdep ⟨2, .data⟩ (by simp) rfl
            have p10 : done 10 = true := by cases ho; exact hdep ⟨10, .data⟩ (by simp) rfl
            have h13 : done 13 = false := by cases hx : done 13 with | false => rfl | true => have := hcl 13 _ rfl hx ⟨11, .data⟩ (by simp) rfl; rw [hd] at this; cases this
            have hca : CaAt WW E cb ck c := by have := HI.out.ca; rw [hd] at this; exact this
            have p5 : done 5 = true := hcl 10 _ rfl p10 ⟨5, .data⟩ (by simp) rfl
            refine wpOp_call ho (by cases ho; rfl) (f := 26) (args := #[.pointer (some ⟨cb, 0, none⟩), .slice r.ka q.key.length r.kc, .agg (boxC (.slice va (textF d).length vc) ⟨textF d, 0, expiryF now q.ex, 0⟩)]) (by cases ho; simp [execOp, go_sem, p0, p2, p10, boxC]) (write26 WW E cb ck c hca (fun b hb => HE.out b (by have := HI.out.frm.size; have := HK.out.below.size; omega)) r.ka r.kc q.key (HKEYW.out.frm HI.out.frm (fun b hb e => e.elim (fun e => HC.out.eb (e ▸ hb)) (fun e => HC.out.ek (e ▸ hb)))) ⟨textF d, 0, expiryF now q.ex, 0⟩ (.slice va (textF d).length vc) (HI.out.tx p5) HOKT.out HLL.out) ?_
            rintro e w1 ⟨rfl, hc1, hf1⟩
            cases ho
            exact ⟨_, rfl, ab, vc, va, by simp [Act.put, ansV], HI.out.write hf1 hc1 h13⟩
          · have h13 : done 13 = false := by cases hx : done 13 with | false => rfl | true => have := hcl 13 _ rfl hx ⟨12, .data⟩ (by simp) rfl; rw [hd] at this; cases this
            refine wpOp_val ho (by cases ho; rfl) (w' := WW.alloc (.cells (ansC0 0 0 0) 38)) (v := .pointer (some ⟨WW.heap.size, 0, none⟩)) (by cases ho; simp [execOp, go_sem, ansC0]) ?_
            cases ho
            exact ⟨WW.heap.size, vc, va, by simp [Act.put, hd], HI.out.alloc h13⟩
          · have p12 : done 12 = true := by cases ho; exact hdep ⟨12, .data⟩ (by simp) rfl
            have p11 : done 11 = true := by cases ho; exact hdep ⟨11, .data⟩ (by simp) rfl
            have hab := (HI.out.al p12).2
            rw [hd] at hab
            simp only [Bool.false_eq_true, if_false] at hab
            have r0 := blk_cell hab 0
            have z0 := blk_frozen hab 0
            have r1 := blk_cell hab 1
            have z1 := blk_frozen hab 1
            have r2 := blk_cell hab 2
            have z2 := blk_frozen hab 2
            have r3 := blk_cell hab 3
            have z3 := blk_frozen hab 3
            have r4 := blk_cell hab 4
            have z4 := blk_frozen hab 4
            have r5 := blk_cell hab 5
            have z5 := blk_frozen hab 5
            have r6 := blk_cell hab 6
            have z6 := blk_frozen hab 6
            have hll := blk_lt hab
            simp only [ansC0] at r0 r1 r2 r3 r4 r5 r6
            refine wpOp_skip ho (by cases ho; rfl) (w' := putA WW ab (.int .i64 0) (.slice none 0 0) (.int .u32 0) (.int .u64 (c.last + 1)) (.int .u64 0) (.slice none 0 0) (.bool false)) (by cases ho; simp [execOp, go_sem, p12, p11, putA, r0, r1, r2, r3, r4, r5, r6, z0, z1, z2, z3, z4, z5, z6, hll]) ?_
            cases ho
            exact ⟨ab, vc, va, by simp [Act.put], HI.out.store p12⟩
        · rintro done zac WW hall ⟨ab, vc, va, rfl, HI⟩
          have e0 := hall 0 (by decide)
          have e1 := hall 1 (by decide)
          have e2 := hall 2 (by decide)
          have e3 := hall 3 (by decide)
          have e4 := hall 4 (by decide)
          have e5 := hall 5 (by decide)
          have e6 := hall 6 (by decide)
          have e7 := hall 7 (by decide)
          have e8 := hall 8 (by decide)
          have e9 := hall 9 (by decide)
          have e10 := hall 10 (by decide)
          have e11 := hall 11 (by decide)
          have e12 := hall 12 (by decide)
          have e13 := hall 13 (by decide)
          simp only [e0, e1, e2, e3, e4, e5, e6, e7, e8, e9, e10, e11, e12, e13, if_true]
          have hca := HI.out.ca
          have hal := HI.out.al e12
          rw [e11] at hca
          rw [e13] at hal
          simp only [if_true] at hca hal
          have HE4 := Lib.hid (show _ ∧ _ ∧ _ ∧ _ from ⟨hca, hal.1, hal.2, HI.out.frm⟩)
          clear hall HI hca hal e0 e1 e2 e3 e4 e5 e6 e7 e8 e9 e10 e11 e12 e13
          go_wp2_with fail
          go_meet
          case rel => exact ⟨ab, rfl, HE4.out⟩
      case rest =>
        obtain ⟨ab, hs11, HC6⟩ := hcut
        subst hs11
        have HB6 : Hid (wc.heap[ab]? = some (.cells (ansC0 0 (c.last + 1) 0) 38 (0, 0))) := HC6.out.2.2.1
        have hnq := HC.out.blkne HK.out.b0 (by decide)
        have q11' : wc.cell? ⟨qb, 11, none⟩ = some (.int .u64 (d : Nat)) := (HC6.out.2.2.2.cell (p := ⟨qb, 11, none⟩) HQL.out.1 HQL.out.2).trans q11
        have a4 : wc.cell? ⟨ab, 4, none⟩ = some (.int .u64 0) := blk_cell HB6.out 4
        have a4f : wc.frozen? ⟨ab, 4, none⟩ = false := blk_frozen HB6.out 4
        have hal := blk_lt HB6.out
        have hra : rb < ab := by have := HR.out; have := HC6.out.2.1; have := HZ.out; have := HQ.out; omega
        go_upto_region 6 with fail
        obtain ⟨W7, hW7⟩ : ∃ W7, W7 = wc.setCell ⟨ab, 4, none⟩ (.int .u64 (d : Nat)) := ⟨_, rfl⟩
        rw [← hW7]
        have hf7 : Frm (fun b => b = ab) wc W7 := by rw [hW7]; exact setCell_frm1 wc ab 4 _
        have hb7 : W7.heap[ab]? = some (.cells (ansC0 0 (c.last + 1) d) 38 (0, 0)) := by rw [hW7]; exact blk_setAt HB6.out _
        have hc7 : CaAt W7 E cb ck (c.put q.key ⟨textF d, 0, expiryF now q.ex, 0⟩) := HC6.out.1.keepB hf7 HB6.out (by decide) (ansC0_u8 _ _ _)
        have hrn := HC.out.blkne HRB.out (by decide)
        have hrb7 : W7.heap[rb]? = some (.cells (ansC0 0 0 0) 38 (0, 0)) := (hf7.block rb (Nat.lt_of_lt_of_le (blk_lt HRB.out) HC6.out.2.2.2.size) (fun e => by have e : rb = ab := e; omega)).trans ((HC6.out.2.2.2.block rb (blk_lt HRB.out) (by rintro (e | e); exact hrn.1 e; exact hrn.2 e)).trans HRB.out)
        have hF7 : Frm (fun b => b = cb ∨ b = ck) w W7 := ((((frm_below (T := fun b => (b = cb ∨ b = ck) ∨ b = ab) HK.out.below).trans (HC6.out.2.2.2.mono fun _ _ e => .inl e)).trans (hf7.mono fun _ _ e => .inr e))).mono fun b hb e => by
          rcases e with e | e
          · exact e
          · have := HC6.out.2.1; have := HK.out.below.size; omega
        have b0 : W7.cell? ⟨ab, 0, none⟩ = some (.int .i64 0) := blk_cell hb7 0
        have b1 : W7.cell? ⟨ab, 1, none⟩ = some (.slice none 0 0) := blk_cell hb7 1
        have b2 : W7.cell? ⟨ab, 2, none⟩ = some (.int .u32 0) := blk_cell hb7 2
        have b3 : W7.cell? ⟨ab, 3, none⟩ = some (.int .u64 (c.last + 1)) := blk_cell hb7 3
        have b4 : W7.cell? ⟨ab, 4, none⟩ = some (.int .u64 (d : Nat)) := blk_cell hb7 4
        have b5 : W7.cell? ⟨ab, 5, none⟩ = some (.slice none 0 0) := blk_cell hb7 5
        have b6 : W7.cell? ⟨ab, 6, none⟩ = some (.bool false) := blk_cell hb7 6
        have r0 : W7.cell? ⟨rb, 0, none⟩ = some (.int .i64 0) := blk_cell hrb7 0
        have z0 : W7.frozen? ⟨rb, 0, none⟩ = false := blk_frozen hrb7 0
        have r1 : W7.cell? ⟨rb, 1, none⟩ = some (.slice none 0 0) := blk_cell hrb7 1
        have z1 : W7.frozen? ⟨rb, 1, none⟩ = false := blk_frozen hrb7 1
        have r2 : W7.cell? ⟨rb, 2, none⟩ = some (.int .u32 0) := blk_cell hrb7 2
        have z2 : W7.frozen? ⟨rb, 2, none⟩ = false := blk_frozen hrb7 2
        have r3 : W7.cell? ⟨rb, 3, none⟩ = some (.int .u64 0) := blk_cell hrb7 3
        have z3 : W7.frozen? ⟨rb, 3, none⟩ = false := blk_frozen hrb7 3
        have r4 : W7.cell? ⟨rb, 4, none⟩ = some (.int .u64 0) := blk_cell hrb7 4
        have z4 : W7.frozen? ⟨rb, 4, none⟩ = false := blk_frozen hrb7 4
        have r5 : W7.cell? ⟨rb, 5, none⟩ = some (.slice none 0 0) := blk_cell hrb7 5
        have z5 : W7.frozen? ⟨rb, 5, none⟩ = false := blk_frozen hrb7 5
        have r6 : W7.cell? ⟨rb, 6, none⟩ = some (.bool false) := blk_cell hrb7 6
        have z6 : W7.frozen? ⟨rb, 6, none⟩ = false := blk_frozen hrb7 6
        have hrl := blk_lt hrb7
        have HRB7 := Lib.hid hrb7
        have HC7 := Lib.hid hc7
        have HF7 := Lib.hid hF7
        clear hf7 hb7 hc7 hrb7 hF7 hW7
        go_wp2_with fail
        obtain ⟨hrf, hcf, hff⟩ := fin38 HF7.out HRW.out HC7.out HRB7.out (.int .i64 0) (.slice none 0 0) (.int .u32 0) (.int .u64 (c.last + 1)) (.int .u64 (d : Nat)) (.slice none 0 0) (.bool false)
        unfold putA at hrf hcf hff
        have y0 := blk_cell hrf 0
        have y1 := blk_cell hrf 1
        have y2 := blk_cell hrf 2
        have y3 := blk_cell hrf 3
        have y4 := blk_cell hrf 4
        have y5 := blk_cell hrf 5
        have y6 := blk_cell hrf 6
        have hr : res = (c.put q.key ⟨textF d, 0, expiryF now q.ex, 0⟩, okA (c.last + 1) d) := by rw [HRES.out]; unfold Ca.turn; rw [if_pos rfl, if_neg HEX.out, HD0.out]; rfl
        exact bodyPost_ret (v := .agg #[.int .i64 0, .slice none 0 0, .int .u32 0, .int .u64 (c.last + 1), .int .u64 (d : Nat), .slice none 0 0, .bool false]) (by simp [results, Try.f28, go_sem, y0, y1, y2, y3, y4, y5, y6]) rfl ⟨by rw [hr]; rfl, by rw [hr]; exact hcf, hff⟩
  | true =>
    obtain ⟨dl, hdl⟩ := Int.eq_ofNat_of_zero_le HQOK.out.2.2.2.2.2.2.1
    have HDL : Hid (dl ≤ 18446744073709551615) := by have := HQOK.out.2.2.2.2.2.2.2.1; show dl ≤ _; omega
    rw [hdl] at q10
    have HDD := Lib.hid hdl
    clear hdl
    obtain ⟨dn, hdn⟩ : ∃ b, b = (q.op == 6) := ⟨_, rfl⟩
    have hop := hdn.symm
    have HDN := Lib.hid hdn
    clear hdn
    have HBX : Hid (BytesAt W (.slice xa xn xc) t.val) := by rw [HXN.out]; exact HX.out.1.below HK.out.below (Nat.le_refl _)
    cases hn : numF t.val with
    | none =>
      have HN := Lib.hid hn
      clear hn
      go_wp2_with fail
      refine (turn_none W _ t.val dl dn HBX.out HN.out).mono ?_
      rintro e w1 ⟨rfl, hb1⟩
      have HB1 := Lib.hid hb1
      clear hb1
      go_wp2_with fail
      refine (fail9 _ 6).mono ?_
      rintro e w2 ⟨rfl, hb2⟩
      have hb2 : Below W.heap.size W w2 := HB1.out.trans (Below.mono hb2 HB1.out.size)
      have hrb1 := (hb2.block rb (blk_lt HRB.out)).trans HRB.out
      have HRB1 := Lib.hid hrb1
      have HC1 := Lib.hid (HC.out.below hb2)
      have HF1 : Hid (Frm (fun b => b = cb ∨ b = ck) w w2) := frm_below (HK.out.below.trans (hb2.mono HK.out.below.size))
      have r0 : w2.cell? ⟨rb, 0, none⟩ = some (.int .i64 0) := blk_cell hrb1 0
      have z0 : w2.frozen? ⟨rb, 0, none⟩ = false := blk_frozen hrb1 0
      have r1 : w2.cell? ⟨rb, 1, none⟩ = some (.slice none 0 0) := blk_cell hrb1 1
      have z1 : w2.frozen? ⟨rb, 1, none⟩ = false := blk_frozen hrb1 1
      have r2 : w2.cell? ⟨rb, 2, none⟩ = some (.int .u32 0) := blk_cell hrb1 2
      have z2 : w2.frozen? ⟨rb, 2, none⟩ = false := blk_frozen hrb1 2
      have r3 : w2.cell? ⟨rb, 3, none⟩ = some (.int .u64 0) := blk_cell hrb1 3
      have z3 : w2.frozen? ⟨rb, 3, none⟩ = false := blk_frozen hrb1 3
      have r4 : w2.cell? ⟨rb, 4, none⟩ = some (.int .u64 0) := blk_cell hrb1 4
      have z4 : w2.frozen? ⟨rb, 4, none⟩ = false := blk_frozen hrb1 4
      have r5 : w2.cell? ⟨rb, 5, none⟩ = some (.slice none 0 0) := blk_cell hrb1 5
      have z5 : w2.frozen? ⟨rb, 5, none⟩ = false := blk_frozen hrb1 5
      have r6 : w2.cell? ⟨rb, 6, none⟩ = some (.bool false) := blk_cell hrb1 6
      have z6 : w2.frozen? ⟨rb, 6, none⟩ = false := blk_frozen hrb1 6
      have hrl := blk_lt hrb1
      clear hb2 hrb1
      unfold ansV
      go_wp2_with fail
      obtain ⟨hrf, hcf, hff⟩ := fin38 HF1.out HRW.out HC1.out HRB1.out (.int .i64 6) (.slice none 0 0) (.int .u32 0) (.int .u64 0) (.int .u64 0) (.slice none 0 0) (.bool false)
      unfold putA at hrf hcf hff
      have y0 := blk_cell hrf 0
      have y1 := blk_cell hrf 1
      have y2 := blk_cell hrf 2
      have y3 := blk_cell hrf 3
      have y4 := blk_cell hrf 4
      have y5 := blk_cell hrf 5
      have y6 := blk_cell hrf 6
      have hr : res = (c, failA 6) := by rw [HRES.out]; unfold Ca.turn turnT; rw [if_neg (by simp), HN.out]; rfl
      exact bodyPost_ret (v := .agg #[.int .i64 6, .slice none 0 0, .int .u32 0, .int .u64 0, .int .u64 0, .slice none 0 0, .bool false]) (by simp [results, Try.f28, go_sem, y0, y1, y2, y3, y4, y5, y6]) rfl ⟨by rw [hr]; rfl, by rw [hr]; exact hcf, hff⟩
    | some k =>
      have HN := Lib.hid hn
      clear hn
      go_wp2_with fail
      refine (turn_some W _ t.val k dl dn HBX.out HN.out HDL.out).mono ?_
      obtain ⟨m, hm⟩ : ∃ m, m = turnF k dl dn := ⟨_, rfl⟩
      rw [← hm]
      have HMM : Hid (m ≤ 18446744073709551615) := by show m ≤ _; rw [hm]; exact turnF_le _ _ _ (by have := numF_le t.val; rw [HN.out] at this; exact this)
      have HM := Lib.hid hm
      clear hm
      rintro e w1 ⟨v1, rfl, hov, hb1⟩
      obtain ⟨va, vc, rfl, _⟩ := own_form hov
      rw [List.length_map]
      have hov' := hov
      rw [List.length_map] at hov'
      have htb1 := (hb1.block tb (blk_lt HK.out.b1)).trans HK.out.b1
      have t0 : w1.cell? ⟨tb, 0, none⟩ = some (.slice xa xn xc) := blk_cell htb1 0
      have t0f : w1.frozen? ⟨tb, 0, none⟩ = false := blk_frozen htb1 0
      have htl := blk_lt htb1
      have HT1 := Lib.hid htb1
      have HB1 := Lib.hid hb1
      have HOV := Lib.hid hov'
      clear hov hov' hb1 htb1
      go_upto_region 11 with fail
      obtain ⟨W2, hW2⟩ : ∃ W2, W2 = w1.setCell ⟨tb, 0, none⟩ (.slice va (textF m).length vc) := ⟨_, rfl⟩
      rw [← hW2]
      have hf2 : Frm (fun b => b = tb) w1 W2 := by rw [hW2]; exact setCell_frm1 w1 tb 0 _
      have htb2 : W2.heap[tb]? = some (.cells #[.slice va (textF m).length vc, .int .u32 t.fl, .int .u32 t.ex, .int .u64 t.cas] 49 (0, 0)) := by rw [hW2]; exact blk_setAt HT1.out _
      have hqb2 := (hf2.block qb (Nat.lt_of_lt_of_le (blk_lt HK.out.b0) HB1.out.size) (fun e => by have e : qb = tb := e; have := HQ.out; have := HT.out; omega)).trans ((HB1.out.block qb (blk_lt HK.out.b0)).trans HK.out.b0)
      have hrb2 := (hf2.block rb (Nat.lt_of_lt_of_le (blk_lt HRB.out) HB1.out.size) (fun e => by have e : rb = tb := e; have := HR.out; have := HT.out; omega)).trans ((HB1.out.block rb (blk_lt HRB.out)).trans HRB.out)
      have hc2 : CaAt W2 E cb ck c := (HC.out.below HB1.out).keepB hf2 HT1.out (by decide) (boxC_u8 _ _ _ t)
      have hk2 : BytesIn W2 E (.slice r.ka q.key.length r.kc) q.key := (HKEY.out.frm (S := fun _ => False) (frm_below (HK.out.below.trans (HB1.out.mono HK.out.below.size))) (fun _ _ h => h)).keepB hf2 HT1.out (boxC_u8 _ _ _ t)
      have hv1 : BytesIn w1 E (.slice va (textF m).length vc) (textF m) := ⟨own_isSl HOV.out, fun _ b hb => HE.out b (by have := (HOV.out.lt b hb).1; have := HK.out.below.size; omega)⟩
      have hv2 := hv1.keepB hf2 HT1.out (boxC_u8 _ _ _ t)
      have htx := textF_len m HMM.out
      have hwr := write26 W2 E cb ck c hc2 (fun b hb => HE.out b (by have := hf2.size; have := HB1.out.size; have := HK.out.below.size; omega)) r.ka r.kc q.key hk2 ⟨textF m, t.fl, t.ex, t.cas⟩ _ hv2 ⟨by show (textF m).length ≤ 1000; omega, HOK.out.2⟩ HLL.out
      unfold boxC ansV at hwr
      have HWR := Lib.hid hwr
      have q5 : W2.cell? ⟨qb, 5, none⟩ = some (.slice r.ka q.key.length r.kc) := blk_cell hqb2 5
      have s0 : W2.cell? ⟨tb, 0, none⟩ = some (.slice va (textF m).length vc) := blk_cell htb2 0
      have s1 : W2.cell? ⟨tb, 1, none⟩ = some (.int .u32 t.fl) := blk_cell htb2 1
      have s2 : W2.cell? ⟨tb, 2, none⟩ = some (.int .u32 t.ex) := blk_cell htb2 2
      have s3 : W2.cell? ⟨tb, 3, none⟩ = some (.int .u64 t.cas) := blk_cell htb2 3
      have HF2 : Hid (Frm (fun b => b = cb ∨ b = ck) w W2) := ((frm_below (T := fun b => b = tb) (HK.out.below.trans (HB1.out.mono HK.out.below.size))).trans hf2).mono fun b hb e => by have e : b = tb := e; have := HT.out; omega
      have HRB2 := Lib.hid hrb2
      have HC2 := Lib.hid hc2
      clear hf2 htb2 hqb2 hrb2 hc2 hk2 hv1 hv2 htx hwr hW2 t0 t0f htl
      go_wp2_with fail
      refine HWR.out.mono ?_
      rintro e w3 ⟨rfl, hc3, hf3⟩
      obtain ⟨ab, W4, HA4, HW4, HK4, HZ4⟩ := boxed1 w3 #[.int .i64 0, .slice none 0 0, .int .u32 0, .int .u64 (c.last + 1), .int .u64 0, .slice none 0 0, .bool false] 38
      have hrn := HC2.out.blkne HRB2.out (by decide)
      have hrb3 := (hf3.block rb (blk_lt HRB2.out) (by rintro (e | e); exact hrn.1 e; exact hrn.2 e)).trans HRB2.out
      have hrb4 := (HK4.out.below.block rb (blk_lt hrb3)).trans hrb3
      have HC4 := Lib.hid (CaAt.below hc3 HK4.out.below)
      have HF4 : Hid (Frm (fun b => b = cb ∨ b = ck) w W4) := (HF2.out.trans hf3).trans (frm_below HK4.out.below)
      have a4 : W4.cell? ⟨ab, 4, none⟩ = some (.int .u64 0) := blk_cell HK4.out.b0 4
      have a4f : W4.frozen? ⟨ab, 4, none⟩ = false := blk_frozen HK4.out.b0 4
      have hal := blk_lt HK4.out.b0
      have hne : rb ≠ ab := by have := blk_lt hrb3; have := HA4.out; omega
      have hwa : w.heap.size ≤ ab := by have := HF2.out.size; have := hf3.size; have := HA4.out; omega
      have HRB4 := Lib.hid hrb4
      clear hc3 hf3 hrn hrb3 hrb4 HWR
      go_upto_region 12 with fail
      rw [HA4.out, HW4.out]
      go_upto_region 13 with fail
      obtain ⟨W5, hW5⟩ : ∃ W5, W5 = W4.setCell ⟨ab, 4, none⟩ (.int .u64 (m : Nat)) := ⟨_, rfl⟩
      rw [← hW5]
      have hf5 : Frm (fun b => b = ab) W4 W5 := by rw [hW5]; exact setCell_frm1 W4 ab 4 _
      have hb5 : W5.heap[ab]? = some (.cells (ansC0 0 (c.last + 1) m) 38 (0, 0)) := by rw [hW5]; exact blk_setAt HK4.out.b0 _
      have hc5 := HC4.out.keepB hf5 HK4.out.b0 (by decide) (ansC0_u8 0 (c.last + 1) 0)
      have hrb5 : W5.heap[rb]? = some (.cells (ansC0 0 0 0) 38 (0, 0)) := (hf5.block rb (blk_lt HRB4.out) hne).trans HRB4.out
      have hF5 : Frm (fun b => b = cb ∨ b = ck) w W5 := ((HF4.out.mono (T := fun b => (b = cb ∨ b = ck) ∨ b = ab) fun _ _ e => .inl e).trans (hf5.mono fun _ _ e => .inr e)).mono fun b hb e => by
        rcases e with e | e
        · exact e
        · omega
      have b0 : W5.cell? ⟨ab, 0, none⟩ = some (.int .i64 0) := blk_cell hb5 0
      have b1 : W5.cell? ⟨ab, 1, none⟩ = some (.slice none 0 0) := blk_cell hb5 1
      have b2 : W5.cell? ⟨ab, 2, none⟩ = some (.int .u32 0) := blk_cell hb5 2
      have b3 : W5.cell? ⟨ab, 3, none⟩ = some (.int .u64 (c.last + 1)) := blk_cell hb5 3
      have b4 : W5.cell? ⟨ab, 4, none⟩ = some (.int .u64 (m : Nat)) := blk_cell hb5 4
      have b5 : W5.cell? ⟨ab, 5, none⟩ = some (.slice none 0 0) := blk_cell hb5 5
      have b6 : W5.cell? ⟨ab, 6, none⟩ = some (.bool false) := blk_cell hb5 6
      have r0 : W5.cell? ⟨rb, 0, none⟩ = some (.int .i64 0) := blk_cell hrb5 0
      have z0 : W5.frozen? ⟨rb, 0, none⟩ = false := blk_frozen hrb5 0
      have r1 : W5.cell? ⟨rb, 1, none⟩ = some (.slice none 0 0) := blk_cell hrb5 1
      have z1 : W5.frozen? ⟨rb, 1, none⟩ = false := blk_frozen hrb5 1
      have r2 : W5.cell? ⟨rb, 2, none⟩ = some (.int .u32 0) := blk_cell hrb5 2
      have z2 : W5.frozen? ⟨rb, 2, none⟩ = false := blk_frozen hrb5 2
      have r3 : W5.cell? ⟨rb, 3, none⟩ = some (.int .u64 0) := blk_cell hrb5 3
      have z3 : W5.frozen? ⟨rb, 3, none⟩ = false := blk_frozen hrb5 3
      have r4 : W5.cell? ⟨rb, 4, none⟩ = some (.int .u64 0) := blk_cell hrb5 4
      have z4 : W5.frozen? ⟨rb, 4, none⟩ = false := blk_frozen hrb5 4
      have r5 : W5.cell? ⟨rb, 5, none⟩ = some (.slice none 0 0) := blk_cell hrb5 5
      have z5 : W5.frozen? ⟨rb, 5, none⟩ = false := blk_frozen hrb5 5
      have r6 : W5.cell? ⟨rb, 6, none⟩ = some (.bool false) := blk_cell hrb5 6
      have z6 : W5.frozen? ⟨rb, 6, none⟩ = false := blk_frozen hrb5 6
      have hrl := blk_lt hrb5
      have HRB5 := Lib.hid hrb5
      have HC5 := Lib.hid hc5
      have HF5 := Lib.hid hF5
      clear hf5 hb5 hc5 hrb5 hF5 hW5 a4 a4f
      go_wp2_with fail
      obtain ⟨hrf, hcf, hff⟩ := fin38 HF5.out HRW.out HC5.out HRB5.out (.int .i64 0) (.slice none 0 0) (.int .u32 0) (.int .u64 (c.last + 1)) (.int .u64 (m : Nat)) (.slice none 0 0) (.bool false)
      unfold putA at hrf hcf hff
      have y0 := blk_cell hrf 0
      have y1 := blk_cell hrf 1
      have y2 := blk_cell hrf 2
      have y3 := blk_cell hrf 3
      have y4 := blk_cell hrf 4
      have y5 := blk_cell hrf 5
      have y6 := blk_cell hrf 6
      have hr : res = (c.put q.key ⟨textF m, t.fl, t.ex, t.cas⟩, okA (c.last + 1) m) := by rw [HRES.out]; unfold Ca.turn turnT; rw [if_neg (by simp), HN.out, HM.out, HDN.out, HDD.out]; rfl
      exact bodyPost_ret (v := .agg #[.int .i64 0, .slice none 0 0, .int .u32 0, .int .u64 (c.last + 1), .int .u64 (m : Nat), .slice none 0 0, .bool false]) (by simp [results, Try.f28, go_sem, y0, y1, y2, y3, y4, y5, y6]) rfl ⟨by rw [hr]; rfl, by rw [hr]; exact hcf, hff⟩
end Go.Proofs.Ytngpffmgkponfaa
