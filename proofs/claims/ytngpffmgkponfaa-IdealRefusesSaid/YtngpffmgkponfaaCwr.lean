/- The law's cache: write, keyed. Conditions: the cache lies in memory. -/
import Derived.Test.YtngpffmgkponfaaLpl
set_option linter.unusedVariables false
set_option linter.unusedSimpArgs false
namespace Go.Proofs.Ytngpffmgkponfaa
open Go.RowKit Go.Ice Go.Idl

theorem copy_bytes (w : World) (x : Value) (l : List UInt8) (hl : BytesAt w x l) (hm : l.length ≤ 1000000) : ∃ a c w', (Builtin.append_ #[23, 23] 23 #[.slice (some ⟨w.heap.size, 0, none⟩) 0 0, x]).run Try.prog (w.alloc (.cells #[] 5)) = .ok (.slice a l.length c) w' ∧
    w'.ownsRow w.heap.size 5 1 (.slice a l.length c) l.length (l.map u8v) ∧ Below w.heap.size w w' := by
  have h1 := own_new w 5 w.heap.size (Nat.le_refl _)
  obtain ⟨v', w', hr, ho, hg, _⟩ := append_sl (P := Try.prog) (t := 23) (ty := 23) elemByte h1 (IsSl.alloc hl (.cells #[] 5)) (by intro u hu; obtain ⟨c, _, rfl⟩ := List.mem_map.1 hu; rfl) (by simp; omega) (by unfold maxLen; simp; omega) (by simp)
  rw [List.nil_append, Nat.zero_add, List.length_map] at ho
  obtain ⟨a, c, rfl, _⟩ := own_form ho
  refine ⟨a, c, w', hr, ho, (((Below.refl _ w).alloc (Nat.le_refl _) _).grown hg (by simp) (fun b hb => ?_))⟩
  have : w.heap.size = b := by simpa [Value.ownBlock] using hb
  omega

theorem set7 {w : World} {b : Nat} {y0 y1 y2 y3 y4 y5 y6 : Value} {e : TypeId} (h : w.heap[b]? = some (.cells #[y0, y1, y2, y3, y4, y5, y6] e (0, 0))) (x0 x1 x2 x3 x4 x5 x6 : Value) :
    (((((((w.setCell ⟨b, 0, none⟩ x0).setCell ⟨b, 1, none⟩ x1).setCell ⟨b, 2, none⟩ x2).setCell ⟨b, 3, none⟩ x3).setCell ⟨b, 4, none⟩ x4).setCell ⟨b, 5, none⟩ x5).setCell ⟨b, 6, none⟩ x6).heap[b]? = some (.cells #[x0, x1, x2, x3, x4, x5, x6] e (0, 0)) ∧
    Frm (fun k => k = b) w (((((((w.setCell ⟨b, 0, none⟩ x0).setCell ⟨b, 1, none⟩ x1).setCell ⟨b, 2, none⟩ x2).setCell ⟨b, 3, none⟩ x3).setCell ⟨b, 4, none⟩ x4).setCell ⟨b, 5, none⟩ x5).setCell ⟨b, 6, none⟩ x6) := by
  have h0 := blk_setAt (k := 0) h x0
  have h1 := blk_setAt (k := 1) h0 x1
  have h2 := blk_setAt (k := 2) h1 x2
  have h3 := blk_setAt (k := 3) h2 x3
  have h4 := blk_setAt (k := 4) h3 x4
  have h5 := blk_setAt (k := 5) h4 x5
  have h6 := blk_setAt (k := 6) h5 x6
  have hf := ((((((setCell_frm1 w b 0 x0).trans (setCell_frm1 _ b 1 x1)).trans (setCell_frm1 _ b 2 x2)).trans (setCell_frm1 _ b 3 x3)).trans (setCell_frm1 _ b 4 x4)).trans (setCell_frm1 _ b 5 x5)).trans (setCell_frm1 _ b 6 x6)
  exact ⟨h6.trans (congrArg (fun c => some (Obj.cells c e (0, 0))) (by simp)), hf⟩

theorem CaAt.upd {w w1 : World} {E : Nat → Prop} {cb ck : Nat} {c : Ca} {G : List UInt8 → Option Value} (hm : MapAt strV w ck G) (hb : w1.heap[ck]? = w.heap[ck]?) (key : List UInt8) (v : Value) :
    ∃ w2, (Instr.mapUpdate 28 (.map (some ck)) (.string ⟨key.toArray⟩) v).run Try.prog w1 = .ok () w2 ∧ Hid (MapAt strV w2 ck (fun k' => if k' = key then some v else G k')) ∧ Hid (Frm (fun x => x = ck) w1 w2) := by
  obtain ⟨w2, h1, h2, h3⟩ := (hm.keep hb).update strKey Try.underlying28 Try.underlying9 key v
  exact ⟨w2, h1, h2, h3⟩

set_option maxHeartbeats 8000000 in
set_option maxRecDepth 20000 in
theorem write26 (w : World) (E : Nat → Prop) (cb ck : Nat) (c : Ca) (h : CaAt w E cb ck c) (hE : ∀ b, w.heap.size ≤ b → E b) (ka : Option Addr) (kc : Nat) (key : List UInt8) (hkey : BytesIn w E (.slice ka key.length kc) key) (t : Tv) (x : Value) (hx : BytesIn w E x t.val) (hok : Tv.ok t) (hl : c.last < 1000000) :
    Calls Try.prog 26 #[.pointer (some ⟨cb, 0, none⟩), .slice ka key.length kc, .agg (boxC x t)] w fun e w' => e = .returned (ansV 0 (.slice none 0 0) 0 (c.last + 1) 0 (.slice none 0 0) false) ∧ CaAt w' E cb ck (c.put key t) ∧ Frm (fun b => b = cb ∨ b = ck) w w' := by
  obtain ⟨xa, xc, rfl, _⟩ := hx.1.form
  obtain ⟨G, hm, ha⟩ := h.map
  unfold boxC ansV
  obtain ⟨vb, rb, W, HB, HR, HW, HK, HZ⟩ := boxed2 w #[.slice xa t.val.length xc, .int .u32 t.fl, .int .u32 t.ex, .int .u64 t.cas] 49 #[.int .i64 0, .slice none 0 0, .int .u32 0, .int .u64 0, .int .u64 0, .slice none 0 0, .bool false] 38
  have hcbl := blk_lt h.blk
  have hckl := hm.lt
  have hcv := (HK.out.below.block cb hcbl).trans h.blk
  have q1 : W.cell? ⟨cb, 1, none⟩ = some (.int .u64 c.last) := blk_cell hcv 1
  have f1 : W.frozen? ⟨cb, 1, none⟩ = false := blk_frozen hcv 1
  have v3 : W.cell? ⟨vb, 3, none⟩ = some (.int .u64 t.cas) := blk_cell HK.out.b0 3
  have g3 : W.frozen? ⟨vb, 3, none⟩ = false := blk_frozen HK.out.b0 3
  have hvl : vb < W.heap.size := blk_lt HK.out.b0
  have hcl : cb < W.heap.size := blk_lt hcv
  have hne : cb ≠ vb := by have := HB.out; omega
  obtain ⟨L, hL⟩ : ∃ L, L = c.last + 1 := ⟨_, rfl⟩
  have hwr : IntKind.u64.wrap (c.last + 1) = L := by have := h.bnd; rw [hL, IntKind.wrap_u64]; omega
  rw [← hL]
  have HL := Lib.hid hL
  have H := Lib.hid h
  have HM := Lib.hid hm
  have HA := Lib.hid ha
  have HX := Lib.hid hx
  have HKEY := Lib.hid hkey
  have HOK := Lib.hid hok
  have HEE := Lib.hid hE
  have HLL := Lib.hid hl
  obtain ⟨xn, hxn⟩ : ∃ n, n = t.val.length := ⟨_, rfl⟩
  obtain ⟨kn, hkn⟩ : ∃ n, n = key.length := ⟨_, rfl⟩
  have HXN := Lib.hid hxn
  have HKN := Lib.hid hkn
  rw [← hxn] at HW HK ⊢
  rw [← hkn]
  -- the worlds that come
  obtain ⟨W2, hW2⟩ : ∃ W2, W2 = (W.setCell ⟨cb, 1, none⟩ (.int .u64 L)).setCell ⟨vb, 3, none⟩ (.int .u64 L) := ⟨_, rfl⟩
  have hf2 : Frm (fun b => b = cb ∨ b = vb) W W2 := by
    rw [hW2]
    exact ((setCell_frm1 W cb 1 _).mono fun _ _ e => .inl e).trans ((setCell_frm1 _ vb 3 _).mono fun _ _ e => .inr e)
  have hz2 : W2.heap.size = W.heap.size := by rw [hW2]; simp [World.setCell]
  have hcb2 : W2.heap[cb]? = some (.cells #[.map (some ck), .int .u64 L] 31 (0, 0)) := by
    rw [hW2]
    exact blk_set (blk_setAt hcv _) hne _
  have hvb2 : W2.heap[vb]? = some (.cells #[.slice xa xn xc, .int .u32 t.fl, .int .u32 t.ex, .int .u64 L] 49 (0, 0)) := by
    rw [hW2]
    exact blk_setAt (blk_set HK.out.b0 (Ne.symm hne) _) _
  have hrb2 : W2.heap[rb]? = some (.cells #[.int .i64 0, .slice none 0 0, .int .u32 0, .int .u64 0, .int .u64 0, .slice none 0 0, .bool false] 38 (0, 0)) := (hf2.block rb (blk_lt HK.out.b1) (by have := HB.out; have := HR.out; omega)).trans HK.out.b1
  have hbx : BytesAt W2 (.slice xa xn xc) t.val := by
    rw [hxn]
    exact IsSl.frm (hx.1.below HK.out.below (Nat.le_refl _)) hf2 fun hl b hb e => by
      have h1 := (hx.lt (by intro e; simp [e] at hl) hb).1
      have h2 := hx.2 (by intro e; simp [e] at hl) b hb
      rcases e with e | e
      · exact h.eb (e ▸ h2)
      · have := HB.out; omega
  obtain ⟨na, nc, W4, hr4, ho4, hb4⟩ := copy_bytes W2 (.slice xa xn xc) t.val hbx (Nat.le_trans hok.1 (by decide))
  rw [← hxn] at hr4 ho4
  have hvb4 := (hb4.block vb (blk_lt hvb2)).trans hvb2
  have v0 : W2.cell? ⟨vb, 0, none⟩ = some (.slice xa xn xc) := blk_cell hvb2 0
  have v0' : (W2.alloc (.cells #[] 5)).cell? ⟨vb, 0, none⟩ = some (.slice xa xn xc) := cellB ((Below.refl _ W2).alloc (Nat.le_refl _) _) v0
  have v04 : W4.cell? ⟨vb, 0, none⟩ = some (.slice xa xn xc) := blk_cell hvb4 0
  have g04 : W4.frozen? ⟨vb, 0, none⟩ = false := blk_frozen hvb4 0
  have hvl4 := blk_lt hvb4
  obtain ⟨W5, hW5⟩ : ∃ W5, W5 = W4.setCell ⟨vb, 0, none⟩ (.slice na xn nc) := ⟨_, rfl⟩
  have hf5 : Frm (fun b => b = vb) W4 W5 := by rw [hW5]; exact setCell_frm1 W4 vb 0 _
  have hvb5 : W5.heap[vb]? = some (.cells #[.slice na xn nc, .int .u32 t.fl, .int .u32 t.ex, .int .u64 L] 49 (0, 0)) := by rw [hW5]; exact blk_setAt hvb4 _
  have hcb5 : W5.heap[cb]? = some (.cells #[.map (some ck), .int .u64 L] 31 (0, 0)) := (hf5.block cb (Nat.lt_of_lt_of_le (blk_lt hcb2) hb4.size) hne).trans ((hb4.block cb (blk_lt hcb2)).trans hcb2)
  have hrb5 := (hf5.block rb (Nat.lt_of_lt_of_le (blk_lt hrb2) hb4.size) (by have := HB.out; have := HR.out; omega)).trans ((hb4.block rb (blk_lt hrb2)).trans hrb2)
  have hfw5 : Frm (fun b => b = cb) w W5 := ((((frm_below (T := fun b => b = cb ∨ b = vb) HK.out.below).trans hf2).trans (frm_below hb4)).trans (hf5.mono fun b _ e => .inr e)).mono fun b hb e => by
    rcases e with e | e
    · exact e
    · have := HB.out; omega
  have hck5 : W5.drew.heap[ck]? = w.heap[ck]? := hfw5.block ck hckl (Ne.symm h.ne)
  obtain ⟨W6, hup, HM6, HF6⟩ := CaAt.upd (E := E) (cb := cb) (c := c) hm hck5 key (.agg #[.slice na xn nc, .int .u32 t.fl, .int .u32 t.ex, .int .u64 L])
  have hkey5 : BytesAt W5.drew (.slice ka kn kc) key := by
    rw [hkn]
    exact IsSl.frm hkey.1 (hfw5.drew) fun hl b hb e => h.eb ((show b = cb from e) ▸ hkey.2 (by intro e; simp [e] at hl) b hb)
  have hcvt := convert_sl (P := Try.prog) 23 5 Try.underlying23 Try.underlying5 hkey5 9 Try.underlying9
  have c05 : W5.cell? ⟨cb, 0, none⟩ = some (.map (some ck)) := blk_cell hcb5 0
  have w0 : W5.cell? ⟨vb, 0, none⟩ = some (.slice na xn nc) := blk_cell hvb5 0
  have w1 : W5.cell? ⟨vb, 1, none⟩ = some (.int .u32 t.fl) := blk_cell hvb5 1
  have w2 : W5.cell? ⟨vb, 2, none⟩ = some (.int .u32 t.ex) := blk_cell hvb5 2
  have w3 : W5.cell? ⟨vb, 3, none⟩ = some (.int .u64 L) := blk_cell hvb5 3
  have hmc : ∀ (b : Nat) (cs : Array Value) (e : TypeId), W5.heap[b]? = some (.cells cs e (0, 0)) → W6.heap[b]? = some (.cells cs e (0, 0)) := fun b cs e hb => (HF6.out.block b (blk_lt hb) fun e' => mapAt_block (hm.keep hck5) ((congrArg (fun b => W5.drew.heap[b]?) (show ck = b from e'.symm)).trans hb)).trans hb
  have hkey6 : BytesAt W6 (.slice ka kn kc) key := by
    refine IsSl.frm hkey5 HF6.out fun hl b hb e => h.ek ((show b = ck from e) ▸ hkey.2 (by intro e; simp [e] at hl) b (by rw [← hkn]; exact hb))
  have hvb6 := hmc _ _ _ hvb5
  have hcb6 := hmc _ _ _ hcb5
  have S6 : Hid (W6.cell? ⟨cb, 0, none⟩ = some (.map (some ck)) ∧ W6.cell? ⟨vb, 0, none⟩ = some (.slice na xn nc) ∧ W6.cell? ⟨vb, 1, none⟩ = some (.int .u32 t.fl) ∧ W6.cell? ⟨vb, 2, none⟩ = some (.int .u32 t.ex) ∧ W6.cell? ⟨vb, 3, none⟩ = some (.int .u64 L) ∧ (convert 23 9 (.slice ka kn kc)).run Try.prog W6 = .ok (.string ⟨key.toArray⟩) W6) :=
    ⟨blk_cell hcb6 0, blk_cell hvb6 0, blk_cell hvb6 1, blk_cell hvb6 2, blk_cell hvb6 3, convert_sl (P := Try.prog) 23 5 Try.underlying23 Try.underlying5 hkey6 9 Try.underlying9⟩
  have hrb6 := hmc _ _ _ hrb5
  have c16 : W6.cell? ⟨cb, 1, none⟩ = some (.int .u64 L) := blk_cell hcb6 1
  have r0 : W6.cell? ⟨rb, 0, none⟩ = some (.int .i64 0) := blk_cell hrb6 0
  have r1 : W6.cell? ⟨rb, 1, none⟩ = some (.slice none 0 0) := blk_cell hrb6 1
  have r2 : W6.cell? ⟨rb, 2, none⟩ = some (.int .u32 0) := blk_cell hrb6 2
  have r3 : W6.cell? ⟨rb, 3, none⟩ = some (.int .u64 0) := blk_cell hrb6 3
  have r4 : W6.cell? ⟨rb, 4, none⟩ = some (.int .u64 0) := blk_cell hrb6 4
  have r5 : W6.cell? ⟨rb, 5, none⟩ = some (.slice none 0 0) := blk_cell hrb6 5
  have r6 : W6.cell? ⟨rb, 6, none⟩ = some (.bool false) := blk_cell hrb6 6
  have z0 : W6.frozen? ⟨rb, 0, none⟩ = false := blk_frozen hrb6 0
  have z1 : W6.frozen? ⟨rb, 1, none⟩ = false := blk_frozen hrb6 1
  have z2 : W6.frozen? ⟨rb, 2, none⟩ = false := blk_frozen hrb6 2
  have z3 : W6.frozen? ⟨rb, 3, none⟩ = false := blk_frozen hrb6 3
  have z4 : W6.frozen? ⟨rb, 4, none⟩ = false := blk_frozen hrb6 4
  have z5 : W6.frozen? ⟨rb, 5, none⟩ = false := blk_frozen hrb6 5
  have z6 : W6.frozen? ⟨rb, 6, none⟩ = false := blk_frozen hrb6 6
  have hrl6 := blk_lt hrb6
  have HFW5 := Lib.hid hfw5
  have HR4 := Lib.hid hr4
  have HO4 := Lib.hid ho4
  have HF5 := Lib.hid hf5
  have HB4 := Lib.hid hb4
  have HCB6 := Lib.hid hcb6
  have HRB6 := Lib.hid hrb6
  have HW2 := Lib.hid hW2.symm
  have HW5 := Lib.hid hW5.symm
  have HHV : Hid (vb < W4.heap.size ∧ w.heap.size ≤ vb) := ⟨hvl4, by have := HB.out; omega⟩
  have HZ2 := Lib.hid hz2
  have HVB2 := Lib.hid hvb2
  clear h hm ha hx hkey hok hE hl hxn hkn hf2 hz2 hcb2 hvb2 hrb2 hbx hvb4 hf5 hvb5 hcb5 hrb5 hfw5 hck5 hkey5 hkey6 hvb6 hmc hcb6 hrb6 hr4 ho4 hb4 hW2 hW5 hL hcv hcbl hckl
  go_enter Try.func26, Try.ntmps26
  go_upto_region 1 with fail
  rw [HR.out, HB.out, HW.out]
  go_upto_region 3 with fail
  rw [HW2.out]
  go_upto_region 4 with (at_builtin; refine wpList_append_eq rfl _ _ _ rfl rfl rfl HR4.out ?_)
  rw [HW5.out]
  go_region_held3 (fun w' => (w'.cell? ⟨cb, 0, none⟩ = some (.map (some ck)) ∧ w'.cell? ⟨vb, 0, none⟩ = some (.slice na xn nc) ∧ w'.cell? ⟨vb, 1, none⟩ = some (.int .u32 t.fl) ∧ w'.cell? ⟨vb, 2, none⟩ = some (.int .u32 t.ex) ∧ w'.cell? ⟨vb, 3, none⟩ = some (.int .u64 L) ∧ (convert 23 9 (.slice ka kn kc)).run Try.prog w' = .ok (.string ⟨key.toArray⟩) w')) (first | exact ⟨c05, w0, w1, w2, w3, hcvt⟩ | exact S6.out) (first | fail)
  go_wp2_with fail
  obtain ⟨hrf, hff⟩ := set7 HRB6.out (.int .i64 0) (.slice none 0 0) (.int .u32 0) (.int .u64 L) (.int .u64 0) (.slice none 0 0) (.bool false)
  have y0 := blk_cell hrf 0
  have y1 := blk_cell hrf 1
  have y2 := blk_cell hrf 2
  have y3 := blk_cell hrf 3
  have y4 := blk_cell hrf 4
  have y5 := blk_cell hrf 5
  have y6 := blk_cell hrf 6
  refine bodyPost_ret (v := .agg #[.int .i64 0, .slice none 0 0, .int .u32 0, .int .u64 L, .int .u64 0, .slice none 0 0, .bool false]) (by simp [results, Try.f26, go_sem, y0, y1, y2, y3, y4, y5, y6]) rfl ⟨rfl, ?_, ?_⟩
  · have hrbw : w.heap.size ≤ rb := by have := HR.out; omega
    have h6 : Frm (fun b => b = cb ∨ b = ck) w W6 := (HFW5.out.mono (T := fun b => b = cb ∨ b = ck) fun _ _ e => .inl e).drew.trans (HF6.out.mono fun _ _ e => .inr e)
    have hfr := (h6.mono (T := fun b => (b = cb ∨ b = ck) ∨ b = rb) fun _ _ e => .inl e).trans (hff.mono fun _ _ e => .inr e)
    have hfr' := hfr.mono (T := fun b => b = cb ∨ b = ck) fun b hb e => by
      rcases e with e | e
      · exact e
      · omega
    have hckl := HM.out.lt
    have hcbl := blk_lt H.out.blk
    refine ⟨?_, ⟨_, HM6.out.frm hff (fun e => by have e : ck = rb := e; omega), fun k => ?_⟩, ?_, H.out.eb, H.out.ek⟩
    · have := (hff.block cb (blk_lt HCB6.out) (fun e => by have e : cb = rb := e; omega)).trans HCB6.out
      exact this.trans (congrArg (fun l => some (Obj.cells #[Value.map (some ck), .int .u64 l] 31 (0, 0))) (show L = (c.put key t).last from HL.out))
    · show ((if k = key then some (t.withCas (c.last + 1)) else c.keys k) = none ∧ (if k = key then _ else G k) = none) ∨ ∃ t' x, (if k = key then some (t.withCas (c.last + 1)) else c.keys k) = some t' ∧ (if k = key then _ else G k) = some (.agg (boxC x t')) ∧ _ ∧ _
      by_cases e : k = key
      · rw [if_pos e, if_pos e]
        refine .inr ⟨_, .slice na xn nc, rfl, by unfold boxC Tv.withCas; rw [HL.out], ?_, ⟨HOK.out.1, HOK.out.2.1, HOK.out.2.2.1, HOK.out.2.2.2.1, HOK.out.2.2.2.2.1, by show 0 ≤ c.last + 1; have := H.out.bnd; omega, by show c.last + 1 ≤ _; have := H.out.bnd; omega⟩⟩
        have hb : ∀ b, (Value.slice na xn nc).ownBlock = some b → W2.heap.size ≤ b ∧ b < W4.heap.size := fun b hb => HO4.out.lt b hb
        have hz := HZ2.out
        have hzz := HZ.out
        have ho6 := own_keep HO4.out (w' := ((((((W6.setCell ⟨rb, 0, none⟩ (.int .i64 0)).setCell ⟨rb, 1, none⟩ (.slice none 0 0)).setCell ⟨rb, 2, none⟩ (.int .u32 0)).setCell ⟨rb, 3, none⟩ (.int .u64 L)).setCell ⟨rb, 4, none⟩ (.int .u64 0)).setCell ⟨rb, 5, none⟩ (.slice none 0 0)).setCell ⟨rb, 6, none⟩ (.bool false)) fun b hb' => by
          obtain ⟨h1, h2⟩ := hb b hb'
          have hr1 := HR.out
          have hv1 := HB.out
          have e5 := HF5.out.block b h2 (fun e => by have e : b = vb := e; omega)
          have e6 := HF6.out.block b (Nat.lt_of_lt_of_le h2 HF5.out.size) (fun e => by have e : b = ck := e; omega)
          have e7 := hff.block b (Nat.lt_of_lt_of_le (Nat.lt_of_lt_of_le h2 HF5.out.size) HF6.out.size) (fun e => by have e : b = rb := e; omega)
          exact e7.trans (e6.trans e5)
        exact ⟨own_isSl ho6, fun _ b hb' => HEE.out b (by have := (hb b hb').1; have := HB.out; omega)⟩
      · rw [if_neg e, if_neg e]
        rcases HA.out k with h3 | ⟨t', x, h3, h4, h5, h6⟩
        · exact .inl h3
        · refine .inr ⟨t', x, h3, h4, h5.frm hfr' (fun b hb e => ?_), h6⟩
          rcases e with e | e
          · exact H.out.eb (e ▸ hb)
          · exact H.out.ek (e ▸ hb)
    · show 0 ≤ c.last + 1 ∧ c.last + 1 ≤ 1000000
      have := H.out.bnd; have := HLL.out; omega
  · have hrbw : w.heap.size ≤ rb := by have := HR.out; omega
    have h6 : Frm (fun b => b = cb ∨ b = ck) w W6 := (HFW5.out.mono (T := fun b => b = cb ∨ b = ck) fun _ _ e => .inl e).drew.trans (HF6.out.mono fun _ _ e => .inr e)
    have hfr := (h6.mono (T := fun b => (b = cb ∨ b = ck) ∨ b = rb) fun _ _ e => .inl e).trans (hff.mono fun _ _ e => .inr e)
    exact hfr.mono (T := fun b => b = cb ∨ b = ck) fun b hb e => by
      rcases e with e | e
      · exact e
      · omega
end Go.Proofs.Ytngpffmgkponfaa
