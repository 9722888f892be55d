/- The walk of the law IdealRefuses. Condition: its arguments lie in memory. -/
import Derived.Test.YtngpffmgkponfaaLwd
set_option linter.unusedVariables false
set_option linter.unusedSimpArgs false
namespace Go.Proofs.Ytngpffmgkponfaa
open Go.RowKit Go.Ice Go.Idl
set_option maxHeartbeats 4000000 in
theorem equal18 (w : World) (va vb : Value) (la lb : List UInt8) (ha : BytesAt w va la) (hb : BytesAt w vb lb) : Calls Try.prog 18 #[va, vb] w fun e w' => e = .returned (.bool (la == lb)) ∧ w' = w := by
  obtain ⟨a, ca, rfl, hma⟩ := ha.form
  obtain ⟨b, cb, rfl, hmb⟩ := hb.form
  have hc1 := convert_sl (P := Try.prog) (w := w) 23 5 Try.underlying23 Try.underlying5 ha 9 Try.underlying9
  have hc2 := convert_sl (P := Try.prog) (w := w) 23 5 Try.underlying23 Try.underlying5 hb 9 Try.underlying9
  clear ha hb
  go_enter Try.func18, Try.ntmps18
  go_wp2_with fail
  go_ret
  exact ⟨rfl, rfl⟩
/-- At the head of a round. -/
def RefI (w : World) (m : Nat) (out : Value) (cs : List Value) (mb cb db : Nat) (now : Int) (k : Nat) (W : World) : Prop := (∃ ck D Y c, LawD w m out cs mb cb ck db D Y c W ∧ LInv Y c now k ∧ RInv Y c ∧ DInv c D) ∧ 0 ≤ now ∧ now ≤ 4294967295
def W3of (w2 : World) : World := ((w2.alloc (.map #[] 0)).alloc (.cells #[.map (some w2.heap.size), .int .u64 0] 31)).alloc (.map #[] 0)
theorem w3_size (w2 : World) : (W3of w2).heap.size = w2.heap.size + 3 := by unfold W3of; simp
theorem w3_below (w2 : World) : Below w2.heap.size w2 (W3of w2) := (((Below.refl _ w2).alloc (Nat.le_refl _) _).alloc (by simp) _).alloc (by simp; omega) _
theorem lawD_start {w w2 w4 : World} {mb m : Nat} {S : Nat → Sd} {R R' : Nat → Raw} {out : Value} (hb2 : Below w.heap.size w w2) (hmo : MapO w2 w.heap.size (fun b => False ∨ b = mb) mb ⟨fun _ => [], fun _ => [], 0⟩)
    (hsh : ShI (W3of w2) S R m out w4 R') :
    LawD w m out ((List.range m).flatMap fun i => sdC (shortS (S i)) (R' i)) mb (w2.heap.size + 1) w2.heap.size (w2.heap.size + 2) (fun _ => false) ⟨fun _ => [], fun _ => [], 0⟩ ⟨fun _ => none, 0⟩ w4 := by
  have hz := hb2.size
  have hs := hsh.bel.size
  have hml := hmo.hO mb (.inr rfl)
  rw [w3_size] at hs
  have h3 := w3_below w2
  have h24 : Below w2.heap.size w2 w4 := h3.trans (hsh.bel.mono (by rw [w3_size]; omega))
  have hc3 : (W3of w2).heap[w2.heap.size + 1]? = some (.cells #[.map (some w2.heap.size), .int .u64 0] 31 (0, 0)) := by
    unfold W3of
    rw [Below.heap_alloc _ _ _ (by simp)]
    have := heap_alloc_new (w2.alloc (.map #[] 0)) (.cells #[.map (some w2.heap.size), .int .u64 0] 31)
    rw [World.size_alloc] at this
    exact this
  have hm3 : MapAt strV (W3of w2) w2.heap.size (fun _ => none) := ((mapAt_new strV w2).below ((Below.refl _ _).alloc (Nat.le_refl _) _) (Nat.le_refl _)).below ((Below.refl _ _).alloc (Nat.le_refl _) _) (Nat.le_refl _)
  have hd3 : MapAt u64V (W3of w2) (w2.heap.size + 2) (deadF fun _ => false) := by
    have := mapAt_new u64V ((w2.alloc (.map #[] 0)).alloc (.cells #[.map (some w2.heap.size), .int .u64 0] 31))
    simp only [World.size_alloc] at this
    exact this
  refine ⟨hb2.trans (h24.mono hz), hmo.grow h24 (fun b e => ?_) (fun b e => ?_) (.inl rfl), ⟨(hsh.bel.block _ (by rw [w3_size]; omega)).trans hc3, ⟨_, hm3.below hsh.bel (Nat.le_refl _), fun k => .inl ⟨rfl, rfl⟩⟩, ⟨Int.le_refl _, by show (0 : Int) ≤ _; omega⟩, fun e => e (.inr (.inl rfl)), fun e => e (.inr (.inr (.inl rfl)))⟩, own_base hsh.own (by rw [w3_size]; omega), hd3.below hsh.bel (Nat.le_refl _), by omega, by omega, by omega, by omega⟩
  · rcases e with e | e | e | e
    · exact .inl (.inr e)
    · exact .inr (by omega)
    · exact .inr (by omega)
    · exact .inr (by omega)
  · rcases e with e | e | e | e <;> omega
theorem rinv_start : RInv ⟨fun _ => [], fun _ => [], 0⟩ ⟨fun _ => none, 0⟩ := ⟨fun _ _ => ⟨rfl, rfl⟩, fun k t h => by cases h⟩
theorem dinv_start : DInv ⟨fun _ => none, 0⟩ (fun _ => false) := ⟨fun k t h => (by cases h), fun k k' t t' h => (by cases h), fun x h => (by cases h), fun k t h => (by cases h)⟩
/-- A look-up into a variable of its own: what stands behind some of the operations. -/
structure LkJ (W : World) (b : Nat) (vs : List Value) (d11 d12 : Bool) (WW : World) : Prop where
  bel : Below W.heap.size W WW
  sz : d11 = false → WW.heap.size = b
  hb : W.heap.size = b
  h11 : d11 = true → d12 = false → WW.heap[b]? = some (.cells [.slice none 0 0, .int .u32 0, .int .u32 0, .int .u64 0].toArray 49 (0, 0))
  h12 : d12 = true → WW.heap[b]? = some (.cells vs.toArray 49 (0, 0))
theorem LkJ.start (W : World) (vs : List Value) : LkJ W W.heap.size vs false false W.drew := ⟨hbelow_drew W, fun _ => rfl, rfl, fun h => (by cases h), fun h => (by cases h)⟩
theorem LkJ.alloc {W WW : World} {b : Nat} {vs : List Value} (h : LkJ W b vs false false WW) : LkJ W b vs true false (WW.alloc (.cells #[.slice none 0 0, .int .u32 0, .int .u32 0, .int .u64 0] 49)) :=
  ⟨h.bel.trans (((Below.refl _ WW).alloc (Nat.le_refl _) _).mono h.bel.size), fun h => (by cases h), h.hb, fun _ _ => by rw [← h.sz rfl]; exact heap_alloc_new WW _, fun h => (by cases h)⟩
theorem LkJ.there {W WW : World} {b : Nat} {vs : List Value} (h : LkJ W b vs true false WW) : WW.there b 0 4 := there_of_blk (h.h11 rfl rfl) (Nat.le_refl _)
theorem LkJ.store {W WW : World} {b : Nat} {vs : List Value} (h : LkJ W b vs true false WW) (hl : vs.length = 4) : LkJ W b vs true true (WW.setCells b 0 vs) := by
  have hf := frm_setCells WW b vs 0
  refine ⟨(((frm_below h.bel) : Frm (fun k => k = b) W WW).trans hf).below (fun k hk e => by have := h.hb; omega) (Nat.le_refl _), fun h => (by cases h), h.hb, fun _ h => (by cases h), fun _ => ?_⟩
  have := blk_setCells (w := WW) (b := b) (e := 49) vs 0 _ WW (h.h11 rfl rfl) (by rw [hl]; decide)
  rw [this, hl]
  simp
def ansT (t : Tv) : An := ⟨0, t.val, t.fl, t.cas, 0, [], false⟩
theorem ansT_ok {t : Tv} (h : Tv.ok t) : An.ok (ansT t) := by
  obtain ⟨h1, h2, h3, h4, h5, h6, h7⟩ := h
  unfold An.ok ansT
  simp only
  omega
theorem getQ_ok {key : List UInt8} (h : key.length ≤ 300) : Rq.ok (getQ key) := by unfold Rq.ok getQ; simp; omega
theorem getQ_here (key : List UInt8) : (getQ key).here := by unfold Rq.here getQ; simp
theorem dead_look {W : World} {db : Nat} {D : Int → Bool} (h : MapAt u64V W db (deadF D)) (x : Int) : (Instr.lookup 47 (.map (some db)) (.int .u64 x) false).run Try.prog W = .ok (.bool (D x)) W := by
  have := h.look (P := Try.prog) (w' := W) u64Key Try.underlying47 Try.underlying29 (z := .bool false) (fun w => by kernel_rfl) x false rfl
  unfold u64V at this
  rw [this]
  unfold deadF
  cases D x <;> rfl
/-- append(append([]byte{}, x...), sp). -/
theorem wrong_run (W : World) (x : Value) (l : List UInt8) (sp : UInt8) (hl : BytesAt W x l) (hm : l.length ≤ 1000000) : ∃ na nc Wa nb mc Wb, (Builtin.append_ #[23, 23] 23 #[.slice (some ⟨W.heap.size, 0, none⟩) 0 0, x]).run Try.prog (W.alloc (.cells #[] 5)) = .ok (.slice na l.length nc) Wa ∧
    (Builtin.append_ #[23, 23] 23 #[.slice na l.length nc, .slice (some ⟨Wa.heap.size, 0, none⟩) 1 1]).run Try.prog (Wa.alloc (.cells #[.int .u8 sp.toNat] 5)) = .ok (.slice nb (l.length + 1) mc) Wb ∧ Below W.heap.size W Wb ∧ BytesIn Wb (fun b => W.heap.size ≤ b) (.slice nb (l.length + 1) mc) (l ++ [sp]) := by
  obtain ⟨na, nc, Wa, h1, h2, h3⟩ := copy_bytes W x l hl hm
  have hz := h3.size
  have hb4 : Below Wa.heap.size Wa (Wa.alloc (.cells #[.int .u8 sp.toNat] 5)) := (Below.refl _ _).alloc (Nat.le_refl _) _
  have hx := isSl_new Wa [u8v sp] 5 1 (Nat.le_refl _) (by decide) (0, 0)
  obtain ⟨v2, Wb, h4, h5, h6, _⟩ := append_sl (P := Try.prog) (t := 23) (ty := 23) elemByte (own_below h2 hb4) hx (by intro u hu; simp at hu; subst hu; rfl) (by simp; omega) (by unfold maxLen; simp; omega) (by simp; omega)
  have h5' : Wb.ownsRow W.heap.size 5 1 v2 (l ++ [sp]).length ((l ++ [sp]).map u8v) := by simpa using h5
  obtain ⟨nb, mc, rfl, _⟩ := own_form h5
  refine ⟨na, nc, Wa, nb, mc, Wb, h1, h4, ?_, ?_⟩
  · exact (h3.trans (hb4.mono hz)).grown h6 (by simp; omega) (fun k hk => (h2.lt k hk).1)
  · have := own_bytes (C := fun b => W.heap.size ≤ b) h5' (fun b hb => hb)
    simpa using this
/-- What Safe tells is what the law's cache holds. -/
theorem safe_all {Y : St} {c : Ca} {key : List UInt8} (hR : RInv Y c) {rl : List (Value × Tv)} (h : rl.map Prod.snd = sortT (Y.safe key)) {j : Nat} {p : Value × Tv} (hp : rl[j]? = some p) : (c.keys key).isSome = true ∧ p.2.val = (c.raw key).val ∧ p.2.cas = (c.raw key).cas := by
  have hm : p.2 ∈ Y.safe key := by
    have : p.2 ∈ rl.map Prod.snd := List.mem_map.2 ⟨p, List.mem_of_getElem? hp, rfl⟩
    rw [h] at this
    exact sortT_mem.1 this
  cases hk : c.keys key with
  | none => rw [(hR.non key hk).2] at hm; cases hm
  | some t =>
    have := (hR.som key t hk).2.1 _ hm
    unfold Ca.raw
    rw [hk]
    exact ⟨rfl, this⟩
set_option maxHeartbeats 32000000 in
set_option maxRecDepth 100000 in
theorem refuses4 (w : World) (n : Nat) (S : Nat → Sd) (R : Nat → Raw) (v : Value) (hrow : RowAt w 22 v n (fun i j => (sdC (S i) (R i)).getD j undef)) (hS : ∀ i, i < n → SdAt w (S i) (R i)) (fa : Option Addr) (fc : Nat) (fl : List UInt8) (hf : BytesAt w (.slice fa fl.length fc) fl) (sp : UInt8) :
    Calls Try.prog 4 #[v, .slice fa fl.length fc, .int .u8 sp.toNat] w fun e w' => e = .returned (.bool true) ∧ Below w.heap.size w w' := by
  obtain ⟨a, cap, rfl, hn⟩ := hrow.form
  unfold maxLen at hn
  have hfc := bytes_cap hf
  obtain ⟨fm, hfm⟩ : ∃ x, x = min fl.length 300 := ⟨_, rfl⟩
  have m1 : min (fl.length : Int) 300 = (fm : Nat) := by omega
  have s1 : ∀ WW : World, (Instr.sliceAt 23 (.slice fa fl.length fc) none (some (.int .i64 fm)) none).run Try.prog WW = .ok (.slice fa fm fc) WW := fun WW => run_slice_to (P := Try.prog) (e := 5) Try.underlying23 ⟨1, by kernel_rfl⟩ fa fl.length fc fm (by omega)
  obtain ⟨key, hkeyd⟩ : ∃ x, x = fl.take 300 := ⟨_, rfl⟩
  have hkl : key.length = fm := by rw [hkeyd, List.length_take]; omega
  have HKY : Hid (BytesAt w (.slice fa key.length fc) key) := by rw [hkeyd]; exact bytes_take hf 300
  have HKL := Lib.hid hkl
  have HKM : Hid (key.length ≤ 300) := by show _ ≤ _; omega
  have HROW := Lib.hid hrow
  have HS := Lib.hid hS
  clear hrow hS hf hfm hkeyd hkl hfc
  have hmm := @run_makeMap Try.prog
  go_enter Try.func4, Try.ntmps4
  go_wp2_with fail
  refine (wakes6 w).mono ?_
  rintro e w1 ⟨rfl, hb1⟩
  have HB1 := Lib.hid hb1
  clear hb1
  go_wp2_with fail
  refine (new_o w1 w.heap.size (fun _ => False) HB1.out.size (fun _ h => h.elim)).mono ?_
  rintro e w2 ⟨mb, rfl, hm2, hmo2, hb2⟩
  have HB2 : Hid (Below w.heap.size w w2) := HB1.out.trans (Below.mono hb2 HB1.out.size)
  have HMO := Lib.hid hmo2
  clear hm2 hmo2 hb2
  have hbs : Below w.heap.size w (W3of w2) := HB2.out.trans ((w3_below w2).mono HB2.out.size)
  have hsh := short8 (W3of w2) n S R (.slice a n cap) (HROW.out.below hbs (Nat.le_refl _)) (fun i hi => (HS.out i hi).below hbs)
  have HSH := Lib.hid hsh
  have HW3 : Hid (((w2.alloc (.map #[] 0)).alloc (.cells #[.map (some w2.heap.size), .int .u64 0] 31)).alloc (.map #[] 0) = W3of w2) := rfl
  clear hbs hsh
  go_upto_region 8 with fail
  rw [HW3.out]
  go_wp2_with fail
  refine HSH.out.mono ?_
  rintro e w4 ⟨v', R', rfl, hI⟩
  have hW := lawD_start HB2.out HMO.out hI
  have HRAW := Lib.hid hI.raw
  obtain ⟨cb, hcb⟩ : ∃ b, b = w2.heap.size + 1 := ⟨_, rfl⟩
  obtain ⟨db, hdb⟩ : ∃ b, b = w2.heap.size + 1 + 1 := ⟨_, rfl⟩
  obtain ⟨ck0, hck⟩ : ∃ b, b = w2.heap.size := ⟨_, rfl⟩
  rw [← hcb, show w2.heap.size + 2 = db from hdb.symm, ← hck] at hW
  rw [← hdb, ← hcb, ← hck]
  obtain ⟨m, hm⟩ : ∃ m, m = min n 60 := ⟨_, rfl⟩
  rw [← hm] at hW HRAW
  have hm60 : m ≤ 60 := by omega
  have HMN : Hid (m ≤ n) := by show _ ≤ _; omega
  obtain ⟨oa, oc, rfl⟩ := own_slice hW.row
  have HT0 : Hid (RefI w m (.slice oa m oc) ((List.range m).flatMap fun i => sdC (shortS (S i)) (R' i)) mb cb db 0 0 w4) := ⟨⟨_, _, _, _, hW, linv_start 0, rinv_start, dinv_start⟩, by decide⟩
  clear hI hW hcb hdb hck hm HSH HMO HROW HB1 HB2 HW3 m1 s1
  go_wp2_with fail
  go_loopg [9, 43] m (fun gg b9 b43 wr => ∃ (k : Nat) (now : Int), k ≤ m ∧ gg = m - k ∧ b9 = .int .u32 now ∧ b43 = .int .i64 k ∧ Hid (RefI w m (.slice oa m oc) ((List.range m).flatMap fun i => sdC (shortS (S i)) (R' i)) mb cb db now k wr))
  case atStart => exact ⟨0, 0, Nat.zero_le _, rfl, rfl, rfl, HT0.out⟩
  case round =>
  clear HT0
  obtain ⟨k, now, hk, hgg, rfl, rfl, HTK⟩ := hrel
  subst hgg
  by_cases hlt : k < m
  · clear HKY HKL HKM
    obtain ⟨⟨ck, D, Y, c, hW, hL, hR, hD⟩, hnow⟩ := HTK.out
    obtain ⟨g, oc', he, hoc1, hoc2⟩ := own_at hW.row (by omega)
    injection he with he1 he2 he3
    subst he1 he3
    clear he2
    obtain ⟨s, hs⟩ : ∃ s, s = shortS (S k) := ⟨_, rfl⟩
    obtain ⟨r, hr⟩ : ∃ r, r = R' k := ⟨_, rfl⟩
    have HRG : Hid (wr.rangeAt g (k * 22) (sdC s r)) := by rw [hs, hr]; exact own_range hW.row (fun _ => rfl) hlt
    have hSA := HS.out k (by have := HMN.out; omega)
    have hraw := HRAW.out k hlt
    have HKEY : Hid (BytesAt w (.slice r.ka s.q.key.length r.kc) s.q.key) := by rw [hs, hr, hraw]; exact bytes_take hSA.key 300
    have HVAL : Hid (BytesAt w (.slice r.va s.q.val.length r.vc) s.q.val) := by rw [hs, hr, hraw]; exact bytes_take hSA.val 600
    have HQV : Hid (s.q.val.length ≤ 600) := by rw [hs]; show ((S k).q.val.take 600).length ≤ 600; rw [List.length_take]; omega
    have HQK : Hid (s.q.key.length ≤ 300) := by rw [hs]; show ((S k).q.key.take 300).length ≤ 300; rw [List.length_take]; omega
    have HQOK : Hid (Rq.ok s.q) := by
      have h1 := HQV.out; have h2 := HQK.out
      have q1 := hSA.q1; have q2 := hSA.q2; have q3 := hSA.q3; have q4 := hSA.q4; have q5 := hSA.q5
      have e1 : s.q.fl = (S k).q.fl := by rw [hs]; rfl
      have e2 : s.q.ex = (S k).q.ex := by rw [hs]; rfl
      have e3 : s.q.cas = (S k).q.cas := by rw [hs]; rfl
      have e4 : s.q.delta = (S k).q.delta := by rw [hs]; rfl
      have e5 : s.q.ini = (S k).q.ini := by rw [hs]; rfl
      show Rq.ok s.q
      unfold Rq.ok
      omega
    obtain ⟨now', hnow'⟩ : ∃ x, x = nowF now s.later := ⟨_, rfl⟩
    have hmax : max now ((now + s.later) % 4294967296) = now' := by rw [hnow', ← IntKind.wrap_u32]; rfl
    have HNN : Hid (now ≤ now' ∧ 0 ≤ now' ∧ now' ≤ 4294967295) := by rw [hnow']; exact nowF_le hnow
    obtain ⟨sb, hsb⟩ : ∃ b, wr.heap.size = b := ⟨_, rfl⟩
    obtain ⟨W1, hW1⟩ : ∃ W1, (wr.alloc (.cells #[.int .i64 0, .bool false, .bool false, .int .i64 0, .int .u32 0, .slice none 0 0, .slice none 0 0, .int .u32 0, .int .u32 0, .int .u64 0, .int .u64 0, .int .u64 0, .int .i64 0, .slice none 0 0, .int .u32 0, .int .u64 0, .int .u64 0, .slice none 0 0, .bool false, .int .u32 0, .bool false, .int .i64 0] 40)).setCells wr.heap.size 0 (sdC s r).toArray.toList = W1 := ⟨_, rfl⟩
    have HT1 : Hid ((wr.alloc (.cells #[.int .i64 0, .bool false, .bool false, .int .i64 0, .int .u32 0, .slice none 0 0, .slice none 0 0, .int .u32 0, .int .u32 0, .int .u64 0, .int .u64 0, .int .u64 0, .int .i64 0, .slice none 0 0, .int .u32 0, .int .u64 0, .int .u64 0, .slice none 0 0, .bool false, .int .u32 0, .bool false, .int .i64 0] 40)).there wr.heap.size 0 (sdC s r).toArray.size) := there_whole wr _ 40 _ (by show 22 ≤ 22; omega)
    have hJ0 : RefJ w m (.slice (some ⟨g, 0, none⟩) m oc) ((List.range m).flatMap fun i => sdC (shortS (S i)) (R' i)) mb cb ck db [] [] D Y c wr := ⟨hW, fun _ h => (by cases h), fun _ h => (by cases h)⟩
    have hJ1 := hJ0.whole (zs := #[.int .i64 0, .bool false, .bool false, .int .i64 0, .int .u32 0, .slice none 0 0, .slice none 0 0, .int .u32 0, .int .u32 0, .int .u64 0, .int .u64 0, .int .u64 0, .int .i64 0, .slice none 0 0, .int .u32 0, .int .u64 0, .int .u64 0, .slice none 0 0, .bool false, .int .u32 0, .bool false, .int .i64 0]) (e := 40) (vs := sdC s r) rfl (by decide) (by decide) hsb
    rw [show (wr.alloc (.cells #[.int .i64 0, .bool false, .bool false, .int .i64 0, .int .u32 0, .slice none 0 0, .slice none 0 0, .int .u32 0, .int .u32 0, .int .u64 0, .int .u64 0, .int .u64 0, .int .i64 0, .slice none 0 0, .int .u32 0, .int .u64 0, .int .u64 0, .slice none 0 0, .bool false, .int .u32 0, .bool false, .int .i64 0] 40)).setCells wr.heap.size 0 (sdC s r) = W1 from hW1] at hJ1
    have c19 : W1.cell? ⟨sb, 19, none⟩ = some (.int .u32 s.later) := hJ1.cell (.head _) 19
    have HR1 : Hid (W1.rangeAt sb 0 (qL s.q r.ka r.va r.kc r.vc)) := (rangeAt_append.1 (show W1.rangeAt sb 0 (qL s.q r.ka r.va r.kc r.vc ++ (aL s.a r.aa r.ac r.sa r.sc ++ eL s)) from hJ1.range (.head _))).1
    obtain ⟨qb, hqb⟩ : ∃ b, W1.heap.size = b := ⟨_, rfl⟩
    obtain ⟨W2, hW2⟩ : ∃ W2, (W1.alloc (.cells #[.int .i64 0, .bool false, .bool false, .int .i64 0, .int .u32 0, .slice none 0 0, .slice none 0 0, .int .u32 0, .int .u32 0, .int .u64 0, .int .u64 0, .int .u64 0] 35)).setCells W1.heap.size 0 (qL s.q r.ka r.va r.kc r.vc).toArray.toList = W2 := ⟨_, rfl⟩
    have HT2 : Hid ((W1.alloc (.cells #[.int .i64 0, .bool false, .bool false, .int .i64 0, .int .u32 0, .slice none 0 0, .slice none 0 0, .int .u32 0, .int .u32 0, .int .u64 0, .int .u64 0, .int .u64 0] 35)).there W1.heap.size 0 (qL s.q r.ka r.va r.kc r.vc).toArray.size) := there_whole W1 _ 35 _ (by show 12 ≤ 12; omega)
    have hJ2 := hJ1.whole (zs := #[.int .i64 0, .bool false, .bool false, .int .i64 0, .int .u32 0, .slice none 0 0, .slice none 0 0, .int .u32 0, .int .u32 0, .int .u64 0, .int .u64 0, .int .u64 0]) (e := 35) (vs := qL s.q r.ka r.va r.kc r.vc) rfl (by decide) (by decide) hqb
    rw [show (W1.alloc (.cells #[.int .i64 0, .bool false, .bool false, .int .i64 0, .int .u32 0, .slice none 0 0, .slice none 0 0, .int .u32 0, .int .u32 0, .int .u64 0, .int .u64 0, .int .u64 0] 35)).setCells W1.heap.size 0 (qL s.q r.ka r.va r.kc r.vc) = W2 from hW2] at hJ2
    have HJ2 := Lib.hid hJ2
    have HL := Lib.hid (hL.later (now' := now') HNN.out.1)
    have HR := Lib.hid hR
    have HD := Lib.hid hD
    have HSB := Lib.hid hsb
    have HQS := Lib.hid hqb
    have HW1 := Lib.hid hW1
    have HW2 := Lib.hid hW2
    have HRQ := Lib.hid (hJ2.range (.head _))
    obtain ⟨kb, hkb⟩ : ∃ b, b = s.q.keyedOk := ⟨_, rfl⟩
    have HK11 : Hid (Calls Try.prog 11 #[.agg (qL s.q r.ka r.va r.kc r.vc).toArray] W2 fun e w' => e = .returned (.bool kb) ∧ Below W2.heap.size W2 w') := by rw [hkb]; exact keyed11 W2 s.q r.ka r.va r.kc r.vc
    have HKB := Lib.hid hkb
    clear hW1 hW2 hJ0 hJ1 hJ2 hsb hqb hW hL hR hD hnow hs hr hSA hraw hnow' HTK hkb
    go_upto_region 11 with (first | (refine wpList_load_mid rfl 40 (.tmp 45) rfl g (k * 22) (by rfl) (sdC s r) _ HRG.out Try.underlying40 rfl (by kernel_rfl) ?_) | (refine wpList_store_mid rfl 40 (.tmp 12) (.tmp 46) rfl wr.heap.size 0 (sdC s r).toArray (by rfl) (by rfl) HT1.out (by kernel_rfl) (all_oneCell_toArray (sdC_one s r)) ?_))
    rw [HW1.out, HSB.out]
    go_upto_region 13 with (first | (refine wpList_load_mid rfl 35 (.tmp 53) rfl sb 0 (by rfl) (qL s.q r.ka r.va r.kc r.vc) _ HR1.out Try.underlying35 rfl (by kernel_rfl) ?_) | (refine wpList_store_mid rfl 35 (.tmp 13) (.tmp 54) rfl W1.heap.size 0 (qL s.q r.ka r.va r.kc r.vc).toArray (by rfl) (by rfl) HT2.out (by kernel_rfl) (all_oneCell_toArray (qL_one _ _ _ _ _)) ?_))
    rw [HW2.out, HQS.out]
    clear hmax c19 HRG HR1 HT1 HT2 HW1 HW2 HSB HQS
    go_wp2_with (refine wpList_load_mid rfl 35 (.tmp 13) rfl qb 0 (by rfl) (qL s.q r.ka r.va r.kc r.vc) _ HRQ.out Try.underlying35 rfl (by kernel_rfl) ?_)
    refine HK11.out.mono ?_
    rintro e w7 ⟨rfl, hb7⟩
    have HJ7 := Lib.hid (HJ2.out.below hb7)
    clear hb7 HJ2 HK11 HRQ
    cases kb with
    | false =>
      have HFIN : Hid (RefI w m (.slice (some ⟨g, 0, none⟩) m oc) ((List.range m).flatMap fun i => sdC (shortS (S i)) (R' i)) mb cb db now' (k + 1) w7) := ⟨⟨_, _, _, _, HJ7.out.lw, HL.out.more (by omega), HR.out, HD.out⟩, HNN.out.2⟩
      go_wp2_with fail
      go_roundg (m - (k + 1))
      case measure => omega
      case rel => exact ⟨k + 1, now', by omega, rfl, rfl, by go_num, HFIN.out⟩
    | true =>
      obtain ⟨xv, hlk0, hxb, hxok⟩ := HJ7.out.lw.ca.look s.q.key
      obtain ⟨xa, xc, rfl, _⟩ := hxb.1.form
      unfold boxC at hlk0
      obtain ⟨t0, ht0⟩ : ∃ t, t = c.raw s.q.key := ⟨_, rfl⟩
      obtain ⟨hb0, hhb0⟩ : ∃ b, b = (c.keys s.q.key).isSome := ⟨_, rfl⟩
      rw [← ht0] at hlk0 hxb hxok
      rw [← hhb0] at hlk0
      have HLK := Lib.hid hlk0
      have HXB := Lib.hid hxb
      have HXO := Lib.hid hxok
      have HT0 := Lib.hid ht0
      have HB0 := Lib.hid hhb0
      have HCKL : Hid (ck < w7.heap.size) := by obtain ⟨G, hm, _⟩ := HJ7.out.lw.ca.map; exact hm.lt
      obtain ⟨bb, hbb⟩ : ∃ b, w7.heap.size = b := ⟨_, rfl⟩
      have bb_sz := Lib.hid hbb
      clear hlk0 hxb hxok ht0 hhb0 hbb
      go_upto_region 14 with fail
      try dsimp only [Act.put]
      refine wp_region_gh (Θ := Unit) (fun θ => [(0, 59, (.pointer (some ⟨cb, 0, none⟩))), (1, 60, (.pointer (some ⟨cb, 0, none⟩))), (2, 61, (.pointer (some ⟨cb, 0, none⟩))), (3, 62, (.map (some ck))), (4, 63, (.pointer (some ⟨qb, 5, none⟩))), (5, 64, (.slice r.ka s.q.key.length r.kc)), (6, 65, (.string ⟨s.q.key.toArray⟩)), (7, 66, (.tuple #[.agg #[.slice xa t0.val.length xc, .int .u32 t0.fl, .int .u32 t0.ex, .int .u64 t0.cas], .bool hb0])), (8, 58, (.tuple #[.agg #[.slice xa t0.val.length xc, .int .u32 t0.fl, .int .u32 t0.ex, .int .u64 t0.cas], .bool hb0])), (9, 67, (.agg #[.slice xa t0.val.length xc, .int .u32 t0.fl, .int .u32 t0.ex, .int .u64 t0.cas])), (10, 68, (.bool hb0)), (11, 14, (.pointer (some ⟨bb, 0, none⟩))), (13, 15, (.bool hb0))]) (fun _ done WW => Hid (LkJ w7 bb [.slice xa t0.val.length xc, .int .u32 t0.fl, .int .u32 t0.ex, .int .u64 t0.cas] (done 11) (done 12) WW)) (by kernel_rfl) (hord_of2 (by kernel_rfl)) (fun _ => by kernel_rfl) (fun _ => by kernel_rfl) (fun _ => by kernel_rfl) (⟨(), by rw [← bb_sz.out]; exact LkJ.start w7 _⟩) ?_ ?_
      · intro θ done zb WW j oq ho hd hdep hcl HA HJ
        have hj : j < 14 := (Array.getElem?_eq_some_iff.1 ho).1
        obtain rfl | rfl | rfl | rfl | rfl | rfl | rfl | rfl | rfl | rfl | rfl | rfl | rfl | rfl : j = 0 ∨ j = 1 ∨ j = 2 ∨ j = 3 ∨ j = 4 ∨ j = 5 ∨ j = 6 ∨ j = 7 ∨ j = 8 ∨ j = 9 ∨ j = 10 ∨ j = 11 ∨ j = 12 ∨ j = 13 := by omega
        · exact valG (θ := θ) (.pointer (some ⟨cb, 0, none⟩)) ho (by cases ho; rfl) (by cases ho; simp [execOp, go_sem, HA.tm, lookT]) (by cases ho; exact fun d hd => by cases hd; simp) (HJ)
        · have p0 : done 0 = true := by cases ho; exact hdep ⟨0, .data⟩ (by simp) rfl
          exact valG (θ := θ) (.pointer (some ⟨cb, 0, none⟩)) ho (by cases ho; rfl) (by cases ho; simp [execOp, go_sem, HA.tm, lookT, p0]) (by cases ho; exact fun d hd => by cases hd; simp) (HJ)
        · have p1 : done 1 = true := by cases ho; exact hdep ⟨1, .data⟩ (by simp) rfl
          exact valG (θ := θ) (.pointer (some ⟨cb, 0, none⟩)) ho (by cases ho; rfl) (by cases ho; simp [execOp, go_sem, HA.tm, lookT, p1]) (by cases ho; exact fun d hd => by cases hd; simp) (HJ)
        · have p2 : done 2 = true := by cases ho; exact hdep ⟨2, .data⟩ (by simp) rfl
          exact valG (θ := θ) (.map (some ck)) ho (by cases ho; rfl) (by cases ho; simp [execOp, go_sem, HA.tm, lookT, p2, (blk_cell (HJ7.out.below HJ.out.bel).lw.ca.blk 0)]) (by cases ho; exact fun d hd => by cases hd; simp) (HJ)
        · exact valG (θ := θ) (.pointer (some ⟨qb, 5, none⟩)) ho (by cases ho; rfl) (by cases ho; simp [execOp, go_sem, HA.tm, lookT]) (by cases ho; exact fun d hd => by cases hd; simp) (HJ)
        · have p4 : done 4 = true := by cases ho; exact hdep ⟨4, .data⟩ (by simp) rfl
          exact valG (θ := θ) (.slice r.ka s.q.key.length r.kc) ho (by cases ho; rfl) (by cases ho; simp [execOp, go_sem, HA.tm, lookT, p4, (show WW.cell? ⟨qb, 5, none⟩ = some (.slice r.ka s.q.key.length r.kc) from (HJ7.out.below HJ.out.bel).cell (l := qL s.q r.ka r.va r.kc r.vc) (e := 35) (b := qb) (.head _) 5)]) (by cases ho; exact fun d hd => by cases hd; simp) (HJ)
        · have p5 : done 5 = true := by cases ho; exact hdep ⟨5, .data⟩ (by simp) rfl
          exact valG (θ := θ) (.string ⟨s.q.key.toArray⟩) ho (by cases ho; rfl) (by cases ho; simp [execOp, go_sem, HA.tm, lookT, p5, (convert_sl (P := Try.prog) (w := WW) 23 5 Try.underlying23 Try.underlying5 ((HJ7.out.below HJ.out.bel).lw.inOld HKEY.out).1 9 Try.underlying9)]) (by cases ho; exact fun d hd => by cases hd; simp) (HJ)
        · have p3 : done 3 = true := by cases ho; exact hdep ⟨3, .data⟩ (by simp) rfl
          have p6 : done 6 = true := by cases ho; exact hdep ⟨6, .data⟩ (by simp) rfl
          exact valG (θ := θ) (.tuple #[.agg #[.slice xa t0.val.length xc, .int .u32 t0.fl, .int .u32 t0.ex, .int .u64 t0.cas], .bool hb0]) ho (by cases ho; rfl) (by cases ho; simp [execOp, go_sem, HA.tm, lookT, p3, p6, (HLK.out WW (HJ.out.bel.block ck (HCKL.out)))]) (by cases ho; exact fun d hd => by cases hd; simp) (HJ)
        · have p7 : done 7 = true := by cases ho; exact hdep ⟨7, .data⟩ (by simp) rfl
          exact valG (θ := θ) (.tuple #[.agg #[.slice xa t0.val.length xc, .int .u32 t0.fl, .int .u32 t0.ex, .int .u64 t0.cas], .bool hb0]) ho (by cases ho; rfl) (by cases ho; simp [execOp, go_sem, HA.tm, lookT, p7]) (by cases ho; exact fun d hd => by cases hd; simp) (HJ)
        · have p8 : done 8 = true := by cases ho; exact hdep ⟨8, .data⟩ (by simp) rfl
          exact valG (θ := θ) (.agg #[.slice xa t0.val.length xc, .int .u32 t0.fl, .int .u32 t0.ex, .int .u64 t0.cas]) ho (by cases ho; rfl) (by cases ho; simp [execOp, go_sem, HA.tm, lookT, p8]) (by cases ho; exact fun d hd => by cases hd; simp) (HJ)
        · have p8 : done 8 = true := by cases ho; exact hdep ⟨8, .data⟩ (by simp) rfl
          exact valG (θ := θ) (.bool hb0) ho (by cases ho; rfl) (by cases ho; simp [execOp, go_sem, HA.tm, lookT, p8]) (by cases ho; exact fun d hd => by cases hd; simp) (HJ)
        · have n12 : done 12 = false := by cases hx : done 12 with | false => rfl | true => have := hcl 12 _ rfl hx ⟨11, .data⟩ (by simp) rfl; rw [hd] at this; cases this
          have hsz : WW.heap.size = bb := HJ.out.sz hd
          exact valG (θ := θ) (W' := WW.alloc (.cells #[.slice none 0 0, .int .u32 0, .int .u32 0, .int .u64 0] 49)) (.pointer (some ⟨bb, 0, none⟩)) ho (by cases ho; rfl) (by cases ho; simp [execOp, go_sem, HA.tm, lookT, hsz]) (by cases ho; exact fun d hd => by cases hd; simp) (by show Hid (LkJ w7 bb [.slice xa t0.val.length xc, .int .u32 t0.fl, .int .u32 t0.ex, .int .u64 t0.cas] true (done 12) _); have h := HJ.out; rw [hd, n12] at h; rw [n12]; exact h.alloc)
        · have p11 : done 11 = true := by cases ho; exact hdep ⟨11, .data⟩ (by simp) rfl
          have p9 : done 9 = true := by cases ho; exact hdep ⟨9, .data⟩ (by simp) rfl
          exact storeG (θ := θ) 49 (.tmp 14) (.tmp 67) ho (by cases ho; rfl) (by cases ho; rfl) (by cases ho; rfl) (by first | (simp [HA.ev, HA.tm, lookT, Act.eval, p9, p11]; done) | (simp [HA.ev, HA.tm, lookT, Act.eval, p9, p11]; rfl)) (by first | (simp [HA.ev, HA.tm, lookT, Act.eval, p9, p11]; done) | (simp [HA.ev, HA.tm, lookT, Act.eval, p9, p11]; rfl)) (run_storeAt_mid WW bb 0 49 [.slice xa t0.val.length xc, .int .u32 t0.fl, .int .u32 t0.ex, .int .u64 t0.cas].toArray (by have h := HJ.out; rw [p11, hd] at h; exact h.there) (by kernel_rfl) (by kernel_rfl)) (by show Hid (LkJ w7 bb [.slice xa t0.val.length xc, .int .u32 t0.fl, .int .u32 t0.ex, .int .u64 t0.cas] (done 11) true _); have h := HJ.out; rw [p11, hd] at h; rw [p11]; exact h.store rfl)
        · have p10 : done 10 = true := by cases ho; exact hdep ⟨10, .data⟩ (by simp) rfl
          exact valG (θ := θ) (.bool hb0) ho (by cases ho; rfl) (by cases ho; simp [execOp, go_sem, HA.tm, lookT, p10]) (by cases ho; exact fun d hd => by cases hd; simp) (HJ)
      · intro θ done W9 hall HJ0
        have z0 := hall 0 (by decide)
        have z1 := hall 1 (by decide)
        have z2 := hall 2 (by decide)
        have z3 := hall 3 (by decide)
        have z4 := hall 4 (by decide)
        have z5 := hall 5 (by decide)
        have z6 := hall 6 (by decide)
        have z7 := hall 7 (by decide)
        have z8 := hall 8 (by decide)
        have z9 := hall 9 (by decide)
        have z10 := hall 10 (by decide)
        have z11 := hall 11 (by decide)
        have z12 := hall 12 (by decide)
        have z13 := hall 13 (by decide)
        try simp only [z0, z1, z2, z3, z4, z5, z6, z7, z8, z9, z10, z11, z12, z13] at HJ0
        clear hall z0 z1 z2 z3 z4 z5 z6 z7 z8 z9 z10 z11 z12 z13
        simp only [putAll, Act.put, List.setIfInBounds_toArray, List.set_cons_succ, List.set_cons_zero]
        have HJ8 : Hid (RefJ w m (.slice (some ⟨g, 0, none⟩) m oc) ((List.range m).flatMap fun i => sdC (shortS (S i)) (R' i)) mb cb ck db [(bb, [.slice xa t0.val.length xc, .int .u32 t0.fl, .int .u32 t0.ex, .int .u64 t0.cas], 49), (qb, qL s.q r.ka r.va r.kc r.vc, 35), (sb, sdC s r, 40)] [(.slice xa t0.val.length xc, t0.val)] D Y c W9) := by
          have h := HJ0.out
          exact ((HJ7.out.addB HXB.out).below h.bel).addL (h.h12 rfl) (by decide) (by decide)
        clear HJ0 HLK HCKL bb_sz HXB HJ7
        have hlast : c.last < 1000000 := by have := HL.out.l1; omega
        have HDO := Lib.hid (HJ8.out.do s.q r.ka r.va r.kc r.vc HKEY.out HVAL.out HQOK.out (by have := HQV.out; omega) hlast now' HNN.out.2)
        have hkk := HKB.out.symm
        have hgo := do_goes HL.out hkk HQOK.out.2.2.2.2.2.2.2.2.1
        have HHERE := Lib.hid (keyedOk_here hkk)
        have HKLN : Hid (1 ≤ s.q.key.length ∧ s.q.key.length ≤ 250) := by
          have h := hkk
          unfold Rq.keyedOk at h
          simp only [Bool.and_eq_true, decide_eq_true_eq] at h
          exact ⟨h.2.2.1, h.2.2.2⟩
        have hst := (do_stats (c := c) (q := s.q) (now := now')).1
        have hds := HD.out.step s.q now'
        obtain ⟨a1, ha1⟩ : ∃ x, x = (c.do s.q now').2 := ⟨_, rfl⟩
        obtain ⟨c1, hc1⟩ : ∃ x, x = (c.do s.q now').1 := ⟨_, rfl⟩
        obtain ⟨Y1, hY1, hL1, hR1⟩ := hgo
        rw [← ha1] at hY1 hst HDO
        rw [← hc1] at hL1 hR1 HDO hds
        have HY := Lib.hid hY1
        have HL1 := Lib.hid hL1
        have HR1 := Lib.hid (hR1 HR.out)
        have HST := Lib.hid hst
        have HD1 := Lib.hid hds
        have HRQ8 := Lib.hid (HJ8.out.range (.tail _ (.head _)))
        clear hY1 hL1 hR1 hst hds ha1 hc1 hkk hlast HR HD
        go_upto_region 15 with fail
        go_upto_region 16 with (first | (refine wpList_load_mid rfl 35 (.tmp 13) rfl qb 0 (by rfl) (qL s.q r.ka r.va r.kc r.vc) _ HRQ8.out Try.underlying35 rfl (by kernel_rfl) ?_) | (go_at_call 12; refine HDO.out.mono ?_; rintro e w9 ⟨aa, ac, rfl, hj, hao⟩; have HJ9 := hj; have HAO := Lib.hid hao; clear hj hao) | (refine wpList_store_mid rfl 38 (.tmp 16) (.tmp 72) rfl w9.heap.size 0 (aL a1 aa ac none 0).toArray (by rfl) (by rfl) (there_whole w9 #[.int .i64 0, .slice none 0 0, .int .u32 0, .int .u64 0, .int .u64 0, .slice none 0 0, .bool false] 38 _ (by show 7 ≤ 7; omega)) (by kernel_rfl) (all_oneCell_toArray (aL_one _ _ _ _ _)) ?_))
        obtain ⟨ab, hab⟩ : ∃ b, w9.heap.size = b := ⟨_, rfl⟩
        obtain ⟨WD, hWD⟩ : ∃ W, (w9.alloc (.cells #[.int .i64 0, .slice none 0 0, .int .u32 0, .int .u64 0, .int .u64 0, .slice none 0 0, .bool false] 38)).setCells w9.heap.size 0 (aL a1 aa ac none 0).toArray.toList = W := ⟨_, rfl⟩
        have hj10 := HJ9.out.whole (zs := #[.int .i64 0, .slice none 0 0, .int .u32 0, .int .u64 0, .int .u64 0, .slice none 0 0, .bool false]) (e := 38) (vs := aL a1 aa ac none 0) rfl (by decide) (by decide) hab
        rw [show (w9.alloc (.cells #[.int .i64 0, .slice none 0 0, .int .u32 0, .int .u64 0, .int .u64 0, .slice none 0 0, .bool false] 38)).setCells w9.heap.size 0 (aL a1 aa ac none 0) = WD from hWD] at hj10
        have HJ10 := Lib.hid hj10
        rw [hWD, hab]
        clear hj10 hab hWD HJ9 HDO HJ8 HRQ8
        obtain ⟨xv, hlk0, hxb, hxok⟩ := HJ10.out.lw.ca.look s.q.key
        obtain ⟨ya, yc, rfl, _⟩ := hxb.1.form
        unfold boxC at hlk0
        obtain ⟨t1, ht1⟩ : ∃ t, t = c1.raw s.q.key := ⟨_, rfl⟩
        obtain ⟨hb1, hhb1⟩ : ∃ b, b = (c1.keys s.q.key).isSome := ⟨_, rfl⟩
        rw [← ht1] at hlk0 hxb hxok
        rw [← hhb1] at hlk0
        have HLK := Lib.hid hlk0
        have HYB := Lib.hid hxb
        have HYO := Lib.hid hxok
        have HT1 := Lib.hid ht1
        have HB1 := Lib.hid hhb1
        have HCKL : Hid (ck < WD.heap.size) := by obtain ⟨G, hm, _⟩ := HJ10.out.lw.ca.map; exact hm.lt
        obtain ⟨nb, hnb⟩ : ∃ b, WD.heap.size = b := ⟨_, rfl⟩
        have nb_sz := Lib.hid hnb
        clear hlk0 hxb hxok ht1 hhb1 hnb
        try dsimp only [Act.put]
        refine wp_region_gh (Θ := Unit) (fun θ => [(0, 74, (.pointer (some ⟨cb, 0, none⟩))), (1, 75, (.pointer (some ⟨cb, 0, none⟩))), (2, 76, (.pointer (some ⟨cb, 0, none⟩))), (3, 77, (.map (some ck))), (4, 78, (.pointer (some ⟨qb, 5, none⟩))), (5, 79, (.slice r.ka s.q.key.length r.kc)), (6, 80, (.string ⟨s.q.key.toArray⟩)), (7, 81, (.tuple #[.agg #[.slice ya t1.val.length yc, .int .u32 t1.fl, .int .u32 t1.ex, .int .u64 t1.cas], .bool hb1])), (8, 73, (.tuple #[.agg #[.slice ya t1.val.length yc, .int .u32 t1.fl, .int .u32 t1.ex, .int .u64 t1.cas], .bool hb1])), (9, 82, (.agg #[.slice ya t1.val.length yc, .int .u32 t1.fl, .int .u32 t1.ex, .int .u64 t1.cas])), (10, 83, (.bool hb1)), (11, 17, (.pointer (some ⟨nb, 0, none⟩))), (13, 18, (.bool hb1))]) (fun _ done WW => Hid (LkJ WD nb [.slice ya t1.val.length yc, .int .u32 t1.fl, .int .u32 t1.ex, .int .u64 t1.cas] (done 11) (done 12) WW)) (by kernel_rfl) (hord_of2 (by kernel_rfl)) (fun _ => by kernel_rfl) (fun _ => by kernel_rfl) (fun _ => by kernel_rfl) (⟨(), by rw [← nb_sz.out]; exact LkJ.start WD _⟩) ?_ ?_
        · intro θ done zb WW j oq ho hd hdep hcl HA HJ
          have hj : j < 14 := (Array.getElem?_eq_some_iff.1 ho).1
          obtain rfl | rfl | rfl | rfl | rfl | rfl | rfl | rfl | rfl | rfl | rfl | rfl | rfl | rfl : j = 0 ∨ j = 1 ∨ j = 2 ∨ j = 3 ∨ j = 4 ∨ j = 5 ∨ j = 6 ∨ j = 7 ∨ j = 8 ∨ j = 9 ∨ j = 10 ∨ j = 11 ∨ j = 12 ∨ j = 13 := by omega
          · exact valG (θ := θ) (.pointer (some ⟨cb, 0, none⟩)) ho (by cases ho; rfl) (by cases ho; simp [execOp, go_sem, HA.tm, lookT]) (by cases ho; exact fun d hd => by cases hd; simp) (HJ)
          · have p0 : done 0 = true := by cases ho; exact hdep ⟨0, .data⟩ (by simp) rfl
            exact valG (θ := θ) (.pointer (some ⟨cb, 0, none⟩)) ho (by cases ho; rfl) (by cases ho; simp [execOp, go_sem, HA.tm, lookT, p0]) (by cases ho; exact fun d hd => by cases hd; simp) (HJ)
          · have p1 : done 1 = true := by cases ho; exact hdep ⟨1, .data⟩ (by simp) rfl
            exact valG (θ := θ) (.pointer (some ⟨cb, 0, none⟩)) ho (by cases ho; rfl) (by cases ho; simp [execOp, go_sem, HA.tm, lookT, p1]) (by cases ho; exact fun d hd => by cases hd; simp) (HJ)
          · have p2 : done 2 = true := by cases ho; exact hdep ⟨2, .data⟩ (by simp) rfl
            exact valG (θ := θ) (.map (some ck)) ho (by cases ho; rfl) (by cases ho; simp [execOp, go_sem, HA.tm, lookT, p2, (blk_cell (HJ10.out.below HJ.out.bel).lw.ca.blk 0)]) (by cases ho; exact fun d hd => by cases hd; simp) (HJ)
          · exact valG (θ := θ) (.pointer (some ⟨qb, 5, none⟩)) ho (by cases ho; rfl) (by cases ho; simp [execOp, go_sem, HA.tm, lookT]) (by cases ho; exact fun d hd => by cases hd; simp) (HJ)
          · have p4 : done 4 = true := by cases ho; exact hdep ⟨4, .data⟩ (by simp) rfl
            exact valG (θ := θ) (.slice r.ka s.q.key.length r.kc) ho (by cases ho; rfl) (by cases ho; simp [execOp, go_sem, HA.tm, lookT, p4, (show WW.cell? ⟨qb, 5, none⟩ = some (.slice r.ka s.q.key.length r.kc) from (HJ10.out.below HJ.out.bel).cell (l := qL s.q r.ka r.va r.kc r.vc) (e := 35) (b := qb) (.tail _ (.tail _ (.head _))) 5)]) (by cases ho; exact fun d hd => by cases hd; simp) (HJ)
          · have p5 : done 5 = true := by cases ho; exact hdep ⟨5, .data⟩ (by simp) rfl
            exact valG (θ := θ) (.string ⟨s.q.key.toArray⟩) ho (by cases ho; rfl) (by cases ho; simp [execOp, go_sem, HA.tm, lookT, p5, (convert_sl (P := Try.prog) (w := WW) 23 5 Try.underlying23 Try.underlying5 ((HJ10.out.below HJ.out.bel).lw.inOld HKEY.out).1 9 Try.underlying9)]) (by cases ho; exact fun d hd => by cases hd; simp) (HJ)
          · have p3 : done 3 = true := by cases ho; exact hdep ⟨3, .data⟩ (by simp) rfl
            have p6 : done 6 = true := by cases ho; exact hdep ⟨6, .data⟩ (by simp) rfl
            exact valG (θ := θ) (.tuple #[.agg #[.slice ya t1.val.length yc, .int .u32 t1.fl, .int .u32 t1.ex, .int .u64 t1.cas], .bool hb1]) ho (by cases ho; rfl) (by cases ho; simp [execOp, go_sem, HA.tm, lookT, p3, p6, (HLK.out WW (HJ.out.bel.block ck (HCKL.out)))]) (by cases ho; exact fun d hd => by cases hd; simp) (HJ)
          · have p7 : done 7 = true := by cases ho; exact hdep ⟨7, .data⟩ (by simp) rfl
            exact valG (θ := θ) (.tuple #[.agg #[.slice ya t1.val.length yc, .int .u32 t1.fl, .int .u32 t1.ex, .int .u64 t1.cas], .bool hb1]) ho (by cases ho; rfl) (by cases ho; simp [execOp, go_sem, HA.tm, lookT, p7]) (by cases ho; exact fun d hd => by cases hd; simp) (HJ)
          · have p8 : done 8 = true := by cases ho; exact hdep ⟨8, .data⟩ (by simp) rfl
            exact valG (θ := θ) (.agg #[.slice ya t1.val.length yc, .int .u32 t1.fl, .int .u32 t1.ex, .int .u64 t1.cas]) ho (by cases ho; rfl) (by cases ho; simp [execOp, go_sem, HA.tm, lookT, p8]) (by cases ho; exact fun d hd => by cases hd; simp) (HJ)
          · have p8 : done 8 = true := by cases ho; exact hdep ⟨8, .data⟩ (by simp) rfl
            exact valG (θ := θ) (.bool hb1) ho (by cases ho; rfl) (by cases ho; simp [execOp, go_sem, HA.tm, lookT, p8]) (by cases ho; exact fun d hd => by cases hd; simp) (HJ)
          · have n12 : done 12 = false := by cases hx : done 12 with | false => rfl | true => have := hcl 12 _ rfl hx ⟨11, .data⟩ (by simp) rfl; rw [hd] at this; cases this
            have hsz : WW.heap.size = nb := HJ.out.sz hd
            exact valG (θ := θ) (W' := WW.alloc (.cells #[.slice none 0 0, .int .u32 0, .int .u32 0, .int .u64 0] 49)) (.pointer (some ⟨nb, 0, none⟩)) ho (by cases ho; rfl) (by cases ho; simp [execOp, go_sem, HA.tm, lookT, hsz]) (by cases ho; exact fun d hd => by cases hd; simp) (by show Hid (LkJ WD nb [.slice ya t1.val.length yc, .int .u32 t1.fl, .int .u32 t1.ex, .int .u64 t1.cas] true (done 12) _); have h := HJ.out; rw [hd, n12] at h; rw [n12]; exact h.alloc)
          · have p11 : done 11 = true := by cases ho; exact hdep ⟨11, .data⟩ (by simp) rfl
            have p9 : done 9 = true := by cases ho; exact hdep ⟨9, .data⟩ (by simp) rfl
            exact storeG (θ := θ) 49 (.tmp 17) (.tmp 82) ho (by cases ho; rfl) (by cases ho; rfl) (by cases ho; rfl) (by first | (simp [HA.ev, HA.tm, lookT, Act.eval, p9, p11]; done) | (simp [HA.ev, HA.tm, lookT, Act.eval, p9, p11]; rfl)) (by first | (simp [HA.ev, HA.tm, lookT, Act.eval, p9, p11]; done) | (simp [HA.ev, HA.tm, lookT, Act.eval, p9, p11]; rfl)) (run_storeAt_mid WW nb 0 49 [.slice ya t1.val.length yc, .int .u32 t1.fl, .int .u32 t1.ex, .int .u64 t1.cas].toArray (by have h := HJ.out; rw [p11, hd] at h; exact h.there) (by kernel_rfl) (by kernel_rfl)) (by show Hid (LkJ WD nb [.slice ya t1.val.length yc, .int .u32 t1.fl, .int .u32 t1.ex, .int .u64 t1.cas] (done 11) true _); have h := HJ.out; rw [p11, hd] at h; rw [p11]; exact h.store rfl)
          · have p10 : done 10 = true := by cases ho; exact hdep ⟨10, .data⟩ (by simp) rfl
            exact valG (θ := θ) (.bool hb1) ho (by cases ho; rfl) (by cases ho; simp [execOp, go_sem, HA.tm, lookT, p10]) (by cases ho; exact fun d hd => by cases hd; simp) (HJ)
        · intro θ done W9 hall HJ0
          have z0 := hall 0 (by decide)
          have z1 := hall 1 (by decide)
          have z2 := hall 2 (by decide)
          have z3 := hall 3 (by decide)
          have z4 := hall 4 (by decide)
          have z5 := hall 5 (by decide)
          have z6 := hall 6 (by decide)
          have z7 := hall 7 (by decide)
          have z8 := hall 8 (by decide)
          have z9 := hall 9 (by decide)
          have z10 := hall 10 (by decide)
          have z11 := hall 11 (by decide)
          have z12 := hall 12 (by decide)
          have z13 := hall 13 (by decide)
          try simp only [z0, z1, z2, z3, z4, z5, z6, z7, z8, z9, z10, z11, z12, z13] at HJ0
          clear hall z0 z1 z2 z3 z4 z5 z6 z7 z8 z9 z10 z11 z12 z13
          simp only [putAll, Act.put, List.setIfInBounds_toArray, List.set_cons_succ, List.set_cons_zero]
          have HJ11 : Hid (RefJ w m (.slice (some ⟨g, 0, none⟩) m oc) ((List.range m).flatMap fun i => sdC (shortS (S i)) (R' i)) mb cb ck db [(nb, [.slice ya t1.val.length yc, .int .u32 t1.fl, .int .u32 t1.ex, .int .u64 t1.cas], 49), (ab, aL a1 aa ac none 0, 38), (bb, [.slice xa t0.val.length xc, .int .u32 t0.fl, .int .u32 t0.ex, .int .u64 t0.cas], 49), (qb, qL s.q r.ka r.va r.kc r.vc, 35), (sb, sdC s r, 40)] [(.slice ya t1.val.length yc, t1.val), (.slice aa a1.val.length ac, a1.val), (.slice xa t0.val.length xc, t0.val)] D Y c1 W9) := by
            have h := HJ0.out
            exact ((HJ10.out.addB HYB.out).below h.bel).addL (h.h12 rfl) (by decide) (by decide)
          clear HJ0 HLK HCKL nb_sz HYB HJ10
          have hlen : (Y.now s.q.key).length ≤ 10000 := by have := (HL.out.len s.q.key).1; omega
          have HSTP := Lib.hid (HJ11.out.step s.q r.ka r.va r.kc r.vc a1 aa ac (HJ11.out.lw.inOld HKEY.out) (HJ11.out.lw.inOld HVAL.out) (HJ11.out.byt _ (.tail _ (.head _))) HST.out HQOK.out HAO.out now' HNN.out.2 hlen (by have := HQV.out; omega) HHERE.out HY.out)
          have HRQ := Lib.hid (HJ11.out.range (.tail _ (.tail _ (.tail _ (.head _)))))
          have HRA := Lib.hid (HJ11.out.range (.tail _ (.head _)))
          clear hlen
          go_upto_region 17 with fail
          go_wp2_with (first | (refine wpList_load_mid rfl 35 (.tmp 13) rfl qb 0 (by rfl) (qL s.q r.ka r.va r.kc r.vc) _ HRQ.out Try.underlying35 rfl (by kernel_rfl) ?_) | (refine wpList_load_mid rfl 38 (.tmp 16) rfl ab 0 (by rfl) (aL a1 aa ac none 0) _ HRA.out Try.underlying38 rfl (by kernel_rfl) ?_))
          refine HSTP.out.mono ?_
          rintro e WE ⟨rfl, HJ12⟩
          clear HSTP HRQ HRA HJ11
          have x3 : WE.cell? ⟨bb, 3, none⟩ = some (.int .u64 t0.cas) := HJ12.out.cell (.tail _ (.tail _ (.head _))) 3
          have y3 : WE.cell? ⟨nb, 3, none⟩ = some (.int .u64 t1.cas) := HJ12.out.cell (.head _) 3
          go_upto_region 19 with fail
          go_cut [101] from 90 to 100 (fun s101 W6 => ∃ ob : Bool, s101 = .bool ob ∧ Hid (ob = (hb0 && (!hb1 || (t1.cas != t0.cas)))) ∧ W6 = WE)
          case first =>
            have hex : ∃ z : Bool, z = (t1.cas != t0.cas) := ⟨_, rfl⟩
            cases hb0 with
            | false =>
              go_wp2_with fail
              go_meet
              case rel => exact ⟨_, rfl, rfl, rfl⟩
            | true =>
              cases hb1 with
              | false =>
                go_wp2_with fail
                go_meet
                case rel => exact ⟨_, rfl, rfl, rfl⟩
              | true =>
                go_wp2_with fail
                go_meet
                case rel => exact ⟨_, rfl, rfl, rfl⟩
          case rest =>
          obtain ⟨ob, hs1, HOB, hw1⟩ := hcut
          subst hs1 hw1
          obtain ⟨WF, hwf⟩ : ∃ WF, WF = wc := ⟨_, rfl⟩
          subst hwf
          have hoo : outB c c1 s.q.key = ob := by rw [HOB.out, HB0.out, HB1.out, HT0.out, HT1.out]; rfl
          obtain ⟨D1, hdd⟩ : ∃ f : Int → Bool, f = (fun x => if outB c c1 s.q.key = true ∧ x = (c.raw s.q.key).cas then true else D x) := ⟨_, rfl⟩
          have hd1 := HD1.out
          rw [← hdd] at hd1
          have HD2 := Lib.hid hd1
          rw [hoo, ← HT0.out] at hdd
          have HDD := Lib.hid hdd
          clear hoo hdd hd1 HD1
          go_upto_if 101 with fail
          go_cut [] from 102 to 104 (fun W6 => Hid (RefJ w m (.slice (some ⟨g, 0, none⟩) m oc) ((List.range m).flatMap fun i => sdC (shortS (S i)) (R' i)) mb cb ck db [(nb, [.slice ya t1.val.length yc, .int .u32 t1.fl, .int .u32 t1.ex, .int .u64 t1.cas], 49), (ab, aL a1 aa ac none 0, 38), (bb, [.slice xa t0.val.length xc, .int .u32 t0.fl, .int .u32 t0.ex, .int .u64 t0.cas], 49), (qb, qL s.q r.ka r.va r.kc r.vc, 35), (sb, sdC s r, 40)] [(.slice ya t1.val.length yc, t1.val), (.slice aa a1.val.length ac, a1.val), (.slice xa t0.val.length xc, t0.val)] D1 Y1 c1 W6))
          case first =>
            cases ob with
            | false =>
              have HFIN : Hid (RefJ w m (.slice (some ⟨g, 0, none⟩) m oc) ((List.range m).flatMap fun i => sdC (shortS (S i)) (R' i)) mb cb ck db [(nb, [.slice ya t1.val.length yc, .int .u32 t1.fl, .int .u32 t1.ex, .int .u64 t1.cas], 49), (ab, aL a1 aa ac none 0, 38), (bb, [.slice xa t0.val.length xc, .int .u32 t0.fl, .int .u32 t0.ex, .int .u64 t0.cas], 49), (qb, qL s.q r.ka r.va r.kc r.vc, 35), (sb, sdC s r, 40)] [(.slice ya t1.val.length yc, t1.val), (.slice aa a1.val.length ac, a1.val), (.slice xa t0.val.length xc, t0.val)] D1 Y1 c1 WF) := by
                have : D1 = D := by rw [HDD.out]; funext x; simp
                rw [this]; exact HJ12.out
              go_wp2_with fail
              go_meet
              case rel => exact HFIN.out
            | true =>
              obtain ⟨W5, hup, hm5, hf5⟩ := HJ12.out.lw.dm.update (P := Try.prog) u64Key Try.underlying47 Try.underlying29 t0.cas (.bool true)
              unfold u64V at hup
              have hdm : MapAt u64V W5 db (deadF D1) := by
                have : deadF D1 = fun k' => if k' = t0.cas then some (.bool true) else deadF D k' := by
                  funext x
                  unfold deadF
                  rw [HDD.out]
                  by_cases e : x = t0.cas
                  · simp [e]
                  · simp [e]
                rw [this]; exact hm5
              have HFIN := Lib.hid (HJ12.out.dstep hdm hf5)
              clear hm5 hf5 hdm
              go_wp2_with fail
              go_meet
              case rel => exact HFIN.out
          case rest =>
          have HJ13 := hcut
          obtain ⟨WG, hwg⟩ : ∃ WG, WG = wc := ⟨_, rfl⟩
          subst hwg
          clear hcut x3 y3 HJ12
          obtain ⟨cr, hcr⟩ : ∃ b, b = s.crash := ⟨_, rfl⟩
          have c20 : WG.cell? ⟨sb, 20, none⟩ = some (.bool cr) := by rw [hcr]; exact HJ13.out.cell (l := sdC s r) (e := 40) (b := sb) (.tail _ (.tail _ (.tail _ (.tail _ (.head _))))) 20
          clear hcr
          go_upto_if 106 with fail
          go_cut [] from 107 to 108 (fun W6 => ∃ Y2 : St, Hid (RefJ w m (.slice (some ⟨g, 0, none⟩) m oc) ((List.range m).flatMap fun i => sdC (shortS (S i)) (R' i)) mb cb ck db [(nb, [.slice ya t1.val.length yc, .int .u32 t1.fl, .int .u32 t1.ex, .int .u64 t1.cas], 49), (ab, aL a1 aa ac none 0, 38), (bb, [.slice xa t0.val.length xc, .int .u32 t0.fl, .int .u32 t0.ex, .int .u64 t0.cas], 49), (qb, qL s.q r.ka r.va r.kc r.vc, 35), (sb, sdC s r, 40)] [(.slice ya t1.val.length yc, t1.val), (.slice aa a1.val.length ac, a1.val), (.slice xa t0.val.length xc, t0.val)] D1 Y2 c1 W6 ∧ LInv Y2 c1 now' (k + 1) ∧ RInv Y2 c1))
          case first =>
            cases cr with
            | false =>
              go_wp2_with fail
              go_meet
              case rel => exact ⟨Y1, HJ13.out, HL1.out, HR1.out⟩
            | true =>
              go_wp2_with fail
              refine HJ13.out.crash.mono ?_
              rintro e W8 ⟨rfl, HJ14⟩
              have HFIN : Hid (RefJ w m (.slice (some ⟨g, 0, none⟩) m oc) ((List.range m).flatMap fun i => sdC (shortS (S i)) (R' i)) mb cb ck db [(nb, [.slice ya t1.val.length yc, .int .u32 t1.fl, .int .u32 t1.ex, .int .u64 t1.cas], 49), (ab, aL a1 aa ac none 0, 38), (bb, [.slice xa t0.val.length xc, .int .u32 t0.fl, .int .u32 t0.ex, .int .u64 t0.cas], 49), (qb, qL s.q r.ka r.va r.kc r.vc, 35), (sb, sdC s r, 40)] [(.slice ya t1.val.length yc, t1.val), (.slice aa a1.val.length ac, a1.val), (.slice xa t0.val.length xc, t0.val)] D1 Y1.crash c1 W8 ∧ LInv Y1.crash c1 now' (k + 1) ∧ RInv Y1.crash c1) := ⟨HJ14.out, HL1.out.crash HR1.out, HR1.out.crash⟩
              clear HJ14
              go_wp2_with fail
              go_meet
              case rel => exact ⟨_, HFIN.out⟩
          case rest =>
          obtain ⟨Y2, HC2⟩ := hcut
          have HJ14 := Lib.hid HC2.out.1
          have HL2 := Lib.hid HC2.out.2.1
          have HR2 := Lib.hid HC2.out.2.2
          obtain ⟨WH, hwh⟩ : ∃ WH, WH = wc := ⟨_, rfl⟩
          subst hwh
          clear HC2 c20 HJ13 HL1 HR1 HL
          obtain ⟨gb, hgb⟩ : ∃ b, WH.heap.size = b := ⟨_, rfl⟩
          obtain ⟨WI, hWI⟩ : ∃ W, WH.alloc (.cells #[.int .i64 0, .bool false, .bool false, .int .i64 0, .int .u32 0, .slice r.ka s.q.key.length r.kc, .slice none 0 0, .int .u32 0, .int .u32 0, .int .u64 0, .int .u64 0, .int .u64 0] 35) = W := ⟨_, rfl⟩
          have hj15 : RefJ w m (.slice (some ⟨g, 0, none⟩) m oc) ((List.range m).flatMap fun i => sdC (shortS (S i)) (R' i)) mb cb ck db [(gb, qL (getQ s.q.key) r.ka none r.kc 0, 35), (nb, [.slice ya t1.val.length yc, .int .u32 t1.fl, .int .u32 t1.ex, .int .u64 t1.cas], 49), (ab, aL a1 aa ac none 0, 38), (bb, [.slice xa t0.val.length xc, .int .u32 t0.fl, .int .u32 t0.ex, .int .u64 t0.cas], 49), (qb, qL s.q r.ka r.va r.kc r.vc, 35), (sb, sdC s r, 40)] [(.slice ya t1.val.length yc, t1.val), (.slice aa a1.val.length ac, a1.val), (.slice xa t0.val.length xc, t0.val)] D1 Y2 c1 WI := by
            rw [← hWI]
            exact HJ14.out.alloc (vs := qL (getQ s.q.key) r.ka none r.kc 0) (by decide) (by decide) hgb
          have HJ15 := Lib.hid hj15
          have q5 : WH.cell? ⟨qb, 5, none⟩ = some (.slice r.ka s.q.key.length r.kc) := HJ14.out.cell (l := qL s.q r.ka r.va r.kc r.vc) (e := 35) (b := qb) (.tail _ (.tail _ (.tail _ (.head _)))) 5
          have HGB := Lib.hid hgb
          have HWI := Lib.hid hWI
          clear hj15 HJ14 hgb hWI
          go_upto_region 24 with fail
          rw [HGB.out, HWI.out]
          clear q5
          go_cut [131] from 112 to 130 (fun s131 W6 => s131 = .bool false ∧ Hid (RefJ w m (.slice (some ⟨g, 0, none⟩) m oc) ((List.range m).flatMap fun i => sdC (shortS (S i)) (R' i)) mb cb ck db [(gb, qL (getQ s.q.key) r.ka none r.kc 0, 35), (nb, [.slice ya t1.val.length yc, .int .u32 t1.fl, .int .u32 t1.ex, .int .u64 t1.cas], 49), (ab, aL a1 aa ac none 0, 38), (bb, [.slice xa t0.val.length xc, .int .u32 t0.fl, .int .u32 t0.ex, .int .u64 t0.cas], 49), (qb, qL s.q r.ka r.va r.kc r.vc, 35), (sb, sdC s r, 40)] [(.slice ya t1.val.length yc, t1.val), (.slice aa a1.val.length ac, a1.val), (.slice xa t0.val.length xc, t0.val)] D1 Y2 c1 W6))
          case first =>
            cases hb0 with
            | false =>
              go_wp2_with fail
              go_meet
              case rel => exact ⟨rfl, HJ15.out⟩
            | true =>
              have x0 : WI.cell? ⟨bb, 0, none⟩ = some (.slice xa t0.val.length xc) := HJ15.out.cell (.tail _ (.tail _ (.tail _ (.head _)))) 0
              have x1 : WI.cell? ⟨bb, 1, none⟩ = some (.int .u32 t0.fl) := HJ15.out.cell (.tail _ (.tail _ (.tail _ (.head _)))) 1
              have x3 : WI.cell? ⟨bb, 3, none⟩ = some (.int .u64 t0.cas) := HJ15.out.cell (.tail _ (.tail _ (.tail _ (.head _)))) 3
              have hlk := dead_look HJ15.out.lw.dm t0.cas
              cases hdd : D1 t0.cas with
              | false =>
                rw [hdd] at hlk
                go_wp2_with fail
                go_meet
                case rel => exact ⟨rfl, HJ15.out⟩
              | true =>
                have HAK : Hid (Calls Try.prog 13 #[.pointer (some ⟨mb, 0, none⟩), .agg #[.int .i64 0, .bool false, .bool false, .int .i64 0, .int .u32 0, .slice r.ka s.q.key.length r.kc, .slice none 0 0, .int .u32 0, .int .u32 0, .int .u64 0, .int .u64 0, .int .u64 0], .agg #[.int .i64 0, .slice xa t0.val.length xc, .int .u32 t0.fl, .int .u64 t0.cas, .int .u64 0, .slice none 0 0, .bool false], .int .u32 now'] WI fun e w' => e = .returned (.bool false) ∧ Hid (RefJ w m (.slice (some ⟨g, 0, none⟩) m oc) ((List.range m).flatMap fun i => sdC (shortS (S i)) (R' i)) mb cb ck db [(gb, qL (getQ s.q.key) r.ka none r.kc 0, 35), (nb, [.slice ya t1.val.length yc, .int .u32 t1.fl, .int .u32 t1.ex, .int .u64 t1.cas], 49), (ab, aL a1 aa ac none 0, 38), (bb, [.slice xa t0.val.length xc, .int .u32 t0.fl, .int .u32 t0.ex, .int .u64 t0.cas], 49), (qb, qL s.q r.ka r.va r.kc r.vc, 35), (sb, sdC s r, 40)] [(.slice ya t1.val.length yc, t1.val), (.slice aa a1.val.length ac, a1.val), (.slice xa t0.val.length xc, t0.val)] D1 Y2 c1 w')) :=
                  HJ15.out.ask (getQ s.q.key) r.ka none r.kc 0 (ansT t0) xa xc (HJ15.out.lw.inOld HKEY.out) (BytesIn.nil _ _) (HJ15.out.byt _ (.tail _ (.tail _ (.head _)))) rfl (getQ_ok HQK.out) (ansT_ok HXO.out) now' HNN.out.2 (by have := (HL2.out.len s.q.key).1; show (Y2.now s.q.key).length ≤ _; omega) (by show (0 : Nat) ≤ 1000; omega) (getQ_here _) false (dead_no HKLN.out HR2.out HD2.out hdd)
                have gc0 : WI.cell? ⟨gb, 0, none⟩ = some (.int .i64 0) := HJ15.out.cell (l := qL (getQ s.q.key) r.ka none r.kc 0) (e := 35) (b := gb) (.head _) 0
                have gc1 : WI.cell? ⟨gb, 1, none⟩ = some (.bool false) := HJ15.out.cell (l := qL (getQ s.q.key) r.ka none r.kc 0) (e := 35) (b := gb) (.head _) 1
                have gc2 : WI.cell? ⟨gb, 2, none⟩ = some (.bool false) := HJ15.out.cell (l := qL (getQ s.q.key) r.ka none r.kc 0) (e := 35) (b := gb) (.head _) 2
                have gc3 : WI.cell? ⟨gb, 3, none⟩ = some (.int .i64 0) := HJ15.out.cell (l := qL (getQ s.q.key) r.ka none r.kc 0) (e := 35) (b := gb) (.head _) 3
                have gc4 : WI.cell? ⟨gb, 4, none⟩ = some (.int .u32 0) := HJ15.out.cell (l := qL (getQ s.q.key) r.ka none r.kc 0) (e := 35) (b := gb) (.head _) 4
                have gc5 : WI.cell? ⟨gb, 5, none⟩ = some (.slice r.ka s.q.key.length r.kc) := HJ15.out.cell (l := qL (getQ s.q.key) r.ka none r.kc 0) (e := 35) (b := gb) (.head _) 5
                have gc6 : WI.cell? ⟨gb, 6, none⟩ = some (.slice none 0 0) := HJ15.out.cell (l := qL (getQ s.q.key) r.ka none r.kc 0) (e := 35) (b := gb) (.head _) 6
                have gc7 : WI.cell? ⟨gb, 7, none⟩ = some (.int .u32 0) := HJ15.out.cell (l := qL (getQ s.q.key) r.ka none r.kc 0) (e := 35) (b := gb) (.head _) 7
                have gc8 : WI.cell? ⟨gb, 8, none⟩ = some (.int .u32 0) := HJ15.out.cell (l := qL (getQ s.q.key) r.ka none r.kc 0) (e := 35) (b := gb) (.head _) 8
                have gc9 : WI.cell? ⟨gb, 9, none⟩ = some (.int .u64 0) := HJ15.out.cell (l := qL (getQ s.q.key) r.ka none r.kc 0) (e := 35) (b := gb) (.head _) 9
                have gc10 : WI.cell? ⟨gb, 10, none⟩ = some (.int .u64 0) := HJ15.out.cell (l := qL (getQ s.q.key) r.ka none r.kc 0) (e := 35) (b := gb) (.head _) 10
                have gc11 : WI.cell? ⟨gb, 11, none⟩ = some (.int .u64 0) := HJ15.out.cell (l := qL (getQ s.q.key) r.ka none r.kc 0) (e := 35) (b := gb) (.head _) 11
                rw [hdd] at hlk
                clear hdd
                go_wp2_with fail
                refine HAK.out.mono ?_
                rintro e W8 ⟨rfl, HJ16⟩
                clear x0 x1 x3 hlk gc0 gc1 gc2 gc3 gc4 gc5 gc6 gc7 gc8 gc9 gc10 gc11
                go_wp2_with fail
                go_meet
                case rel => exact ⟨rfl, HJ16.out⟩
          case rest =>
          obtain ⟨hs1, HJ16⟩ := hcut
          subst hs1
          obtain ⟨WJ, hwj⟩ : ∃ WJ, WJ = wc := ⟨_, rfl⟩
          subst hwj
          clear HJ15
          have y2 : WJ.cell? ⟨nb, 2, none⟩ = some (.int .u32 t1.ex) := HJ16.out.cell (.tail _ (.head _)) 2
          obtain ⟨xp, hxp⟩ : ∃ b, b = expiredB now' t1.ex := ⟨_, rfl⟩
          have HXP : Hid (Calls Try.prog 16 #[.int .u32 now', .int .u32 t1.ex] WJ fun e w' => e = .returned (.bool xp) ∧ w' = WJ) := by rw [hxp]; exact expired16 now' t1.ex WJ HNN.out.2.1 HNN.out.2.2 HYO.out.2.2.2.1 HYO.out.2.2.2.2.1
          have HXPD := Lib.hid hxp
          clear hxp
          go_upto_region 26 with fail
          go_cut [139] from 132 to 138 (fun s139 W6 => ∃ eb : Bool, s139 = .bool eb ∧ Hid (eb = (hb1 && !xp)) ∧ W6 = WJ)
          case first =>
            cases hb1 with
            | false =>
              go_wp2_with fail
              go_meet
              case rel => exact ⟨_, rfl, rfl, rfl⟩
            | true =>
              go_wp2_with fail
              refine HXP.out.mono ?_
              rintro e W8 ⟨rfl, hw8⟩
              subst hw8
              go_wp2_with fail
              go_meet
              case rel => exact ⟨_, rfl, rfl, rfl⟩
          case rest =>
          obtain ⟨eb, hs1, HEB, hw1⟩ := hcut
          subst hs1 hw1
          obtain ⟨WK, hwk⟩ : ∃ WK, WK = wc := ⟨_, rfl⟩
          subst hwk
          clear y2 HXP
          go_upto_if 139 with fail
          cases eb with
          | false =>
            have HFIN : Hid (RefI w m (.slice (some ⟨g, 0, none⟩) m oc) ((List.range m).flatMap fun i => sdC (shortS (S i)) (R' i)) mb cb db now' (k + 1) WK) := ⟨⟨_, _, _, _, HJ16.out.lw, HL2.out, HR2.out, HD2.out⟩, HNN.out.2⟩
            clear HJ16
            go_wp2_with fail
            go_roundg (m - (k + 1))
            case measure => omega
            case rel => exact ⟨k + 1, now', by omega, rfl, rfl, by go_num, HFIN.out⟩
          | true =>
            have heb : hb1 = true ∧ xp = false := by
              have h := HEB.out
              cases hb1 <;> cases xp <;> first | exact ⟨rfl, rfl⟩ | cases h
            have hkk1 : c1.keys s.q.key = some t1 := by
              have h := HB1.out
              rw [heb.1] at h
              obtain ⟨t, ht⟩ := Option.isSome_iff_exists.1 h.symm
              rw [HT1.out]
              unfold Ca.raw
              rw [ht]; rfl
            have hxx : expiredB now' t1.ex = false := by rw [← HXPD.out]; exact heb.2
            have HKK1 := Lib.hid hkk1
            have HXX := Lib.hid hxx
            have hcas : t1.cas ≤ 1000000 := Int.le_trans (HD2.out.le _ _ hkk1) HJ16.out.lw.ca.bnd.2
            have hcas0 : 0 ≤ t1.cas := HYO.out.2.2.2.2.2.1
            clear heb hkk1 hxx
            have y0 : WK.cell? ⟨nb, 0, none⟩ = some (.slice ya t1.val.length yc) := HJ16.out.cell (.tail _ (.head _)) 0
            have y1 : WK.cell? ⟨nb, 1, none⟩ = some (.int .u32 t1.fl) := HJ16.out.cell (.tail _ (.head _)) 1
            have y3 : WK.cell? ⟨nb, 3, none⟩ = some (.int .u64 t1.cas) := HJ16.out.cell (.tail _ (.head _)) 3
            obtain ⟨b1, hb1e⟩ : ∃ b, WK.heap.size = b := ⟨_, rfl⟩
            obtain ⟨W27, hW27⟩ : ∃ W, WK.alloc (.cells #[.int .i64 0, .slice ya t1.val.length yc, .int .u32 t1.fl, .int .u64 t1.cas, .int .u64 0, .slice none 0 0, .bool false] 38) = W := ⟨_, rfl⟩
            have hj27 := HJ16.out.alloc (e := 38) (vs := aL (ansT t1) ya yc none 0) (by decide) (by decide) hb1e
            rw [show WK.alloc (.cells (aL (ansT t1) ya yc none 0).toArray 38) = W27 from hW27] at hj27
            have HJ27 := Lib.hid hj27
            have HRB := Lib.hid (hj27.range (.head _))
            obtain ⟨b2, hb2e⟩ : ∃ b, W27.heap.size = b := ⟨_, rfl⟩
            obtain ⟨W28, hW28⟩ : ∃ W, (W27.alloc (.cells #[.int .i64 0, .slice none 0 0, .int .u32 0, .int .u64 0, .int .u64 0, .slice none 0 0, .bool false] 38)).setCells W27.heap.size 0 (aL (ansT t1) ya yc none 0).toArray.toList = W := ⟨_, rfl⟩
            have hk28 := blk_whole (w := W27) (zs := #[.int .i64 0, .slice none 0 0, .int .u32 0, .int .u64 0, .int .u64 0, .slice none 0 0, .bool false]) (e := 38) (vs := aL (ansT t1) ya yc none 0) rfl
            rw [show (W27.alloc (.cells #[.int .i64 0, .slice none 0 0, .int .u32 0, .int .u64 0, .int .u64 0, .slice none 0 0, .bool false] 38)).setCells W27.heap.size 0 (aL (ansT t1) ya yc none 0) = W28 from hW28, hb2e] at hk28
            have hj28 := HJ27.out.below (hb2e ▸ hk28.2)
            have r1 : (W28.alloc (.cells #[] 5)).cell? ⟨b1, 1, none⟩ = some (.slice ya t1.val.length yc) := cellB ((Below.refl W28.heap.size W28).alloc (Nat.le_refl _) _) (hj28.cell (.head _) 1)
            obtain ⟨na, nc, Wa, n2, mc, Wb, hr1, hr2, hbb, hbw⟩ := wrong_run W28 (.slice ya t1.val.length yc) t1.val sp (hj28.byt _ (.head _)).1 (by have := HYO.out.1; omega)
            have hb28 : W28.heap.size > b2 := blk_lt hk28.1
            have hblk : Wb.heap[b2]? = some (.cells (aL (ansT t1) ya yc none 0).toArray 38 (0, 0)) := (hbb.block b2 hb28).trans hk28.1
            have w21 : Wb.cell? ⟨b2, 1, none⟩ = some (.slice ya t1.val.length yc) := by rw [blk_cell hblk]; rfl
            have f21 : Wb.frozen? ⟨b2, 1, none⟩ = false := blk_frozen hblk 1
            have hl21 : b2 < Wb.heap.size := blk_lt hblk
            obtain ⟨W30, hW30⟩ : ∃ W, Wb.setCell ⟨b2, 1, none⟩ (.slice n2 (t1.val.length + 1) mc) = W := ⟨_, rfl⟩
            have hf30 : Frm (fun b => b = b2) Wb W30 := by rw [← hW30]; exact setCell_frm1 Wb b2 1 _
            have hblk30 : W30.heap[b2]? = some (.cells (aL ⟨0, t1.val ++ [sp], t1.fl, t1.cas, 0, [], false⟩ n2 mc none 0).toArray 38 (0, 0)) := by
              rw [← hW30, blk_setAt hblk]
              unfold aL ansT
              simp
            have hbel30 : Below b2 W27 W30 := (((frm_of_below (hk28.2.trans (hbb.mono (by omega)))) : Frm (fun b => b2 ≤ b) W27 Wb).trans (hf30.mono fun b _ e => by show b2 ≤ b; omega)).below (fun b hb e => by omega) (by omega)
            have hj30 := (HJ27.out.below (hb2e ▸ hbel30)).addL hblk30 (by decide) (by decide)
            have hbw30 : BytesIn W30 (fun b => W28.heap.size ≤ b) (.slice n2 (t1.val.length + 1) mc) (t1.val ++ [sp]) := hbw.frm hf30 (fun b hb e => by omega)
            have hj30' := hj30.addB (v := .slice n2 (t1.val.length + 1) mc) (l := t1.val ++ [sp]) ⟨hbw30.1, fun hne b hb e => by
              have h1 := hbw30.2 hne b hb
              have h2 := HJ27.out.lw.mo.hO b e
              omega⟩
            have HJ30 := Lib.hid hj30'
            have HRB30 := Lib.hid (hj30'.range (.tail _ (.head _)))
            obtain ⟨b3, hb3e⟩ : ∃ b, W30.heap.size = b := ⟨_, rfl⟩
            obtain ⟨W31, hW31⟩ : ∃ W, (W30.alloc (.cells #[.int .i64 0, .slice none 0 0, .int .u32 0, .int .u64 0, .int .u64 0, .slice none 0 0, .bool false] 38)).setCells W30.heap.size 0 (aL (ansT t1) ya yc none 0).toArray.toList = W := ⟨_, rfl⟩
            have hk31 := blk_whole (w := W30) (zs := #[.int .i64 0, .slice none 0 0, .int .u32 0, .int .u64 0, .int .u64 0, .slice none 0 0, .bool false]) (e := 38) (vs := aL (ansT t1) ya yc none 0) rfl
            rw [show (W30.alloc (.cells #[.int .i64 0, .slice none 0 0, .int .u32 0, .int .u64 0, .int .u64 0, .slice none 0 0, .bool false] 38)).setCells W30.heap.size 0 (aL (ansT t1) ya yc none 0) = W31 from hW31, hb3e] at hk31
            have c33 : W31.cell? ⟨b3, 3, none⟩ = some (.int .u64 t1.cas) := by rw [blk_cell hk31.1]; rfl
            have f33 : W31.frozen? ⟨b3, 3, none⟩ = false := blk_frozen hk31.1 3
            have hl33 : b3 < W31.heap.size := blk_lt hk31.1
            obtain ⟨cas2, hcas2⟩ : ∃ x, x = t1.cas + 1 := ⟨_, rfl⟩
            have hwr : IntKind.u64.wrap (t1.cas + 1) = cas2 := by rw [hcas2, IntKind.wrap_u64]; omega
            have hwr2 : (t1.cas + 1) % 18446744073709551616 = cas2 := by rw [hcas2]; omega
            obtain ⟨W32, hW32⟩ : ∃ W, W31.setCell ⟨b3, 3, none⟩ (.int .u64 cas2) = W := ⟨_, rfl⟩
            have hf32 : Frm (fun b => b = b3) W31 W32 := by rw [← hW32]; exact setCell_frm1 W31 b3 3 _
            have hblk32 : W32.heap[b3]? = some (.cells (aL ⟨0, t1.val, t1.fl, cas2, 0, [], false⟩ ya yc none 0).toArray 38 (0, 0)) := by
              rw [← hW32, blk_setAt hk31.1]
              unfold aL ansT
              simp
            have hbel32 : Below b3 W30 W32 := (((frm_of_below hk31.2) : Frm (fun b => b3 ≤ b) W30 W31).trans (hf32.mono fun b _ e => by show b3 ≤ b; omega)).below (fun b hb e => by omega) (by omega)
            have hj32 := (HJ30.out.below (hb3e ▸ hbel32)).addL hblk32 (by decide) (by decide)
            have HJ32 := Lib.hid hj32
            have HTH28 : Hid ((W27.alloc (.cells #[.int .i64 0, .slice none 0 0, .int .u32 0, .int .u64 0, .int .u64 0, .slice none 0 0, .bool false] 38)).there W27.heap.size 0 (aL (ansT t1) ya yc none 0).toArray.size) := there_whole W27 _ 38 _ (by show 7 ≤ 7; omega)
            have HTH31 : Hid ((W30.alloc (.cells #[.int .i64 0, .slice none 0 0, .int .u32 0, .int .u64 0, .int .u64 0, .slice none 0 0, .bool false] 38)).there W30.heap.size 0 (aL (ansT t1) ya yc none 0).toArray.size) := there_whole W30 _ 38 _ (by show 7 ≤ 7; omega)
            have HB1E := Lib.hid hb1e
            have HB2E := Lib.hid hb2e
            have HB3E := Lib.hid hb3e
            have HW27 := Lib.hid hW27
            have HW28 := Lib.hid hW28
            have HW30 := Lib.hid hW30
            have HW31 := Lib.hid hW31
            have HW32 := Lib.hid hW32
            have HRA1 := Lib.hid hr1
            have HRA2 := Lib.hid hr2
            have HCAS2 := Lib.hid hcas2
            clear hj27 hj28 hj30 hj30' hj32 hk28 hk31 hblk hblk30 hblk32 hbel30 hbel32 hf30 hf32 hbw hbw30 hbb hr1 hr2 hb28 hb1e hb2e hb3e hW27 hW28 hW30 hW31 hW32 hcas2 HJ16 HJ27 HJ30
            go_upto_region 28 with fail
            rw [HB1E.out, HW27.out]
            go_upto_region 29 with (first | (refine wpList_load_mid rfl 38 (.tmp 20) rfl b1 0 (by rfl) (aL (ansT t1) ya yc none 0) _ HRB.out Try.underlying38 rfl (by kernel_rfl) ?_) | (refine wpList_store_mid rfl 38 (.tmp 21) (.tmp 147) rfl W27.heap.size 0 (aL (ansT t1) ya yc none 0).toArray (by rfl) (by rfl) HTH28.out (by kernel_rfl) (all_oneCell_toArray (aL_one _ _ _ _ _)) ?_))
            rw [HW28.out, HB2E.out]
            go_upto_region 30 with (first | (at_builtin; refine wpList_append_eq rfl (.tmp 148) (.tmp 150) _ rfl rfl rfl HRA1.out ?_) | (at_builtin; refine wpList_append_eq rfl (.tmp 151) (.tmp 153) _ rfl rfl rfl HRA2.out ?_))
            rw [HW30.out]
            go_upto_region 31 with (first | (refine wpList_load_mid rfl 38 (.tmp 20) rfl b1 0 (by rfl) (aL (ansT t1) ya yc none 0) _ HRB30.out Try.underlying38 rfl (by kernel_rfl) ?_) | (refine wpList_store_mid rfl 38 (.tmp 22) (.tmp 156) rfl W30.heap.size 0 (aL (ansT t1) ya yc none 0).toArray (by rfl) (by rfl) HTH31.out (by kernel_rfl) (all_oneCell_toArray (aL_one _ _ _ _ _)) ?_))
            rw [HW31.out, HB3E.out]
            go_upto_region 32 with fail
            rw [HW32.out]
            clear y0 y1 y3 r1 w21 f21 hl21 c33 f33 hl33 hwr hwr2 hcas hcas0
            have hln : (Y2.now s.q.key).length ≤ 10000 := by have := (HL2.out.len s.q.key).1; omega
            have hyo := HYO.out
            unfold Tv.ok at hyo
            have hcc := HCAS2.out
            have hcl : t1.cas ≤ 1000000 := Int.le_trans (HD2.out.le _ _ HKK1.out) HJ32.out.lw.ca.bnd.2
            have e2 : Value.agg (aL ⟨0, t1.val ++ [sp], t1.fl, t1.cas, 0, [], false⟩ n2 mc none 0).toArray = .agg #[.int .i64 0, .slice n2 (t1.val.length + 1) mc, .int .u32 t1.fl, .int .u64 t1.cas, .int .u64 0, .slice none 0 0, .bool false] := by unfold aL; simp
            have HAK1 : Hid (∀ W, Hid (RefJ w m (.slice (some ⟨g, 0, none⟩) m oc) ((List.range m).flatMap fun i => sdC (shortS (S i)) (R' i)) mb cb ck db [(b3, aL ⟨0, t1.val, t1.fl, cas2, 0, [], false⟩ ya yc none 0, 38), (b2, aL ⟨0, t1.val ++ [sp], t1.fl, t1.cas, 0, [], false⟩ n2 mc none 0, 38), (b1, aL (ansT t1) ya yc none 0, 38), (gb, qL (getQ s.q.key) r.ka none r.kc 0, 35), (nb, [.slice ya t1.val.length yc, .int .u32 t1.fl, .int .u32 t1.ex, .int .u64 t1.cas], 49), (ab, aL a1 aa ac none 0, 38), (bb, [.slice xa t0.val.length xc, .int .u32 t0.fl, .int .u32 t0.ex, .int .u64 t0.cas], 49), (qb, qL s.q r.ka r.va r.kc r.vc, 35), (sb, sdC s r, 40)] [(.slice n2 (t1.val.length + 1) mc, t1.val ++ [sp]), (.slice ya t1.val.length yc, t1.val), (.slice aa a1.val.length ac, a1.val), (.slice xa t0.val.length xc, t0.val)] D1 Y2 c1 W) → Calls Try.prog 13 #[.pointer (some ⟨mb, 0, none⟩), .agg #[.int .i64 0, .bool false, .bool false, .int .i64 0, .int .u32 0, .slice r.ka s.q.key.length r.kc, .slice none 0 0, .int .u32 0, .int .u32 0, .int .u64 0, .int .u64 0, .int .u64 0], .agg #[.int .i64 0, .slice ya t1.val.length yc, .int .u32 t1.fl, .int .u64 t1.cas, .int .u64 0, .slice none 0 0, .bool false], .int .u32 now'] W fun e w' => e = .returned (.bool true) ∧ Hid (RefJ w m (.slice (some ⟨g, 0, none⟩) m oc) ((List.range m).flatMap fun i => sdC (shortS (S i)) (R' i)) mb cb ck db [(b3, aL ⟨0, t1.val, t1.fl, cas2, 0, [], false⟩ ya yc none 0, 38), (b2, aL ⟨0, t1.val ++ [sp], t1.fl, t1.cas, 0, [], false⟩ n2 mc none 0, 38), (b1, aL (ansT t1) ya yc none 0, 38), (gb, qL (getQ s.q.key) r.ka none r.kc 0, 35), (nb, [.slice ya t1.val.length yc, .int .u32 t1.fl, .int .u32 t1.ex, .int .u64 t1.cas], 49), (ab, aL a1 aa ac none 0, 38), (bb, [.slice xa t0.val.length xc, .int .u32 t0.fl, .int .u32 t0.ex, .int .u64 t0.cas], 49), (qb, qL s.q r.ka r.va r.kc r.vc, 35), (sb, sdC s r, 40)] [(.slice n2 (t1.val.length + 1) mc, t1.val ++ [sp]), (.slice ya t1.val.length yc, t1.val), (.slice aa a1.val.length ac, a1.val), (.slice xa t0.val.length xc, t0.val)] D1 Y2 c1 w')) := fun W hJ =>
              hJ.out.ask (getQ s.q.key) r.ka none r.kc 0 (ansT t1) ya yc (hJ.out.lw.inOld HKEY.out) (BytesIn.nil _ _) (hJ.out.byt _ (.tail _ (.head _))) rfl (getQ_ok HQK.out) (ansT_ok HYO.out) now' HNN.out.2 hln (by show (0 : Nat) ≤ 1000; omega) (getQ_here _) true (right_ok HKLN.out HL2.out HKK1.out HXX.out)
            have HAK2 : Hid (∀ W, Hid (RefJ w m (.slice (some ⟨g, 0, none⟩) m oc) ((List.range m).flatMap fun i => sdC (shortS (S i)) (R' i)) mb cb ck db [(b3, aL ⟨0, t1.val, t1.fl, cas2, 0, [], false⟩ ya yc none 0, 38), (b2, aL ⟨0, t1.val ++ [sp], t1.fl, t1.cas, 0, [], false⟩ n2 mc none 0, 38), (b1, aL (ansT t1) ya yc none 0, 38), (gb, qL (getQ s.q.key) r.ka none r.kc 0, 35), (nb, [.slice ya t1.val.length yc, .int .u32 t1.fl, .int .u32 t1.ex, .int .u64 t1.cas], 49), (ab, aL a1 aa ac none 0, 38), (bb, [.slice xa t0.val.length xc, .int .u32 t0.fl, .int .u32 t0.ex, .int .u64 t0.cas], 49), (qb, qL s.q r.ka r.va r.kc r.vc, 35), (sb, sdC s r, 40)] [(.slice n2 (t1.val.length + 1) mc, t1.val ++ [sp]), (.slice ya t1.val.length yc, t1.val), (.slice aa a1.val.length ac, a1.val), (.slice xa t0.val.length xc, t0.val)] D1 Y2 c1 W) → Calls Try.prog 13 #[.pointer (some ⟨mb, 0, none⟩), .agg #[.int .i64 0, .bool false, .bool false, .int .i64 0, .int .u32 0, .slice r.ka s.q.key.length r.kc, .slice none 0 0, .int .u32 0, .int .u32 0, .int .u64 0, .int .u64 0, .int .u64 0], .agg #[.int .i64 0, .slice n2 (t1.val.length + 1) mc, .int .u32 t1.fl, .int .u64 t1.cas, .int .u64 0, .slice none 0 0, .bool false], .int .u32 now'] W fun e w' => e = .returned (.bool false) ∧ Hid (RefJ w m (.slice (some ⟨g, 0, none⟩) m oc) ((List.range m).flatMap fun i => sdC (shortS (S i)) (R' i)) mb cb ck db [(b3, aL ⟨0, t1.val, t1.fl, cas2, 0, [], false⟩ ya yc none 0, 38), (b2, aL ⟨0, t1.val ++ [sp], t1.fl, t1.cas, 0, [], false⟩ n2 mc none 0, 38), (b1, aL (ansT t1) ya yc none 0, 38), (gb, qL (getQ s.q.key) r.ka none r.kc 0, 35), (nb, [.slice ya t1.val.length yc, .int .u32 t1.fl, .int .u32 t1.ex, .int .u64 t1.cas], 49), (ab, aL a1 aa ac none 0, 38), (bb, [.slice xa t0.val.length xc, .int .u32 t0.fl, .int .u32 t0.ex, .int .u64 t0.cas], 49), (qb, qL s.q r.ka r.va r.kc r.vc, 35), (sb, sdC s r, 40)] [(.slice n2 (t1.val.length + 1) mc, t1.val ++ [sp]), (.slice ya t1.val.length yc, t1.val), (.slice aa a1.val.length ac, a1.val), (.slice xa t0.val.length xc, t0.val)] D1 Y2 c1 w')) := fun W hJ => by
              rw [← e2]
              exact hJ.out.ask (getQ s.q.key) r.ka none r.kc 0 ⟨0, t1.val ++ [sp], t1.fl, t1.cas, 0, [], false⟩ n2 mc (hJ.out.lw.inOld HKEY.out) (BytesIn.nil _ _) (by have := hJ.out.byt _ (.head _); simpa using this) rfl (getQ_ok HQK.out) (by unfold An.ok; simp only [List.length_append, List.length_singleton]; omega) now' HNN.out.2 hln (by show (0 : Nat) ≤ 1000; omega) (getQ_here _) false (wrong_no HKLN.out HR2.out HKK1.out (.inl (by intro e; have := congrArg List.length e; simp at this)))
            have HAK3 : Hid (∀ W, Hid (RefJ w m (.slice (some ⟨g, 0, none⟩) m oc) ((List.range m).flatMap fun i => sdC (shortS (S i)) (R' i)) mb cb ck db [(b3, aL ⟨0, t1.val, t1.fl, cas2, 0, [], false⟩ ya yc none 0, 38), (b2, aL ⟨0, t1.val ++ [sp], t1.fl, t1.cas, 0, [], false⟩ n2 mc none 0, 38), (b1, aL (ansT t1) ya yc none 0, 38), (gb, qL (getQ s.q.key) r.ka none r.kc 0, 35), (nb, [.slice ya t1.val.length yc, .int .u32 t1.fl, .int .u32 t1.ex, .int .u64 t1.cas], 49), (ab, aL a1 aa ac none 0, 38), (bb, [.slice xa t0.val.length xc, .int .u32 t0.fl, .int .u32 t0.ex, .int .u64 t0.cas], 49), (qb, qL s.q r.ka r.va r.kc r.vc, 35), (sb, sdC s r, 40)] [(.slice n2 (t1.val.length + 1) mc, t1.val ++ [sp]), (.slice ya t1.val.length yc, t1.val), (.slice aa a1.val.length ac, a1.val), (.slice xa t0.val.length xc, t0.val)] D1 Y2 c1 W) → Calls Try.prog 13 #[.pointer (some ⟨mb, 0, none⟩), .agg #[.int .i64 0, .bool false, .bool false, .int .i64 0, .int .u32 0, .slice r.ka s.q.key.length r.kc, .slice none 0 0, .int .u32 0, .int .u32 0, .int .u64 0, .int .u64 0, .int .u64 0], .agg #[.int .i64 0, .slice ya t1.val.length yc, .int .u32 t1.fl, .int .u64 cas2, .int .u64 0, .slice none 0 0, .bool false], .int .u32 now'] W fun e w' => e = .returned (.bool false) ∧ Hid (RefJ w m (.slice (some ⟨g, 0, none⟩) m oc) ((List.range m).flatMap fun i => sdC (shortS (S i)) (R' i)) mb cb ck db [(b3, aL ⟨0, t1.val, t1.fl, cas2, 0, [], false⟩ ya yc none 0, 38), (b2, aL ⟨0, t1.val ++ [sp], t1.fl, t1.cas, 0, [], false⟩ n2 mc none 0, 38), (b1, aL (ansT t1) ya yc none 0, 38), (gb, qL (getQ s.q.key) r.ka none r.kc 0, 35), (nb, [.slice ya t1.val.length yc, .int .u32 t1.fl, .int .u32 t1.ex, .int .u64 t1.cas], 49), (ab, aL a1 aa ac none 0, 38), (bb, [.slice xa t0.val.length xc, .int .u32 t0.fl, .int .u32 t0.ex, .int .u64 t0.cas], 49), (qb, qL s.q r.ka r.va r.kc r.vc, 35), (sb, sdC s r, 40)] [(.slice n2 (t1.val.length + 1) mc, t1.val ++ [sp]), (.slice ya t1.val.length yc, t1.val), (.slice aa a1.val.length ac, a1.val), (.slice xa t0.val.length xc, t0.val)] D1 Y2 c1 w')) := fun W hJ =>
              hJ.out.ask (getQ s.q.key) r.ka none r.kc 0 ⟨0, t1.val, t1.fl, cas2, 0, [], false⟩ ya yc (hJ.out.lw.inOld HKEY.out) (BytesIn.nil _ _) (hJ.out.byt _ (.tail _ (.head _))) rfl (getQ_ok HQK.out) (by unfold An.ok; simp only; omega) now' HNN.out.2 hln (by show (0 : Nat) ≤ 1000; omega) (getQ_here _) false (wrong_no HKLN.out HR2.out HKK1.out (.inr (by omega)))
            clear hln hyo hcc hcl e2
            have gc0 : W32.cell? ⟨gb, 0, none⟩ = some (.int .i64 0) := HJ32.out.cell (l := qL (getQ s.q.key) r.ka none r.kc 0) (e := 35) (b := gb) (.tail _ (.tail _ (.tail _ (.head _)))) 0
            have gc1 : W32.cell? ⟨gb, 1, none⟩ = some (.bool false) := HJ32.out.cell (l := qL (getQ s.q.key) r.ka none r.kc 0) (e := 35) (b := gb) (.tail _ (.tail _ (.tail _ (.head _)))) 1
            have gc2 : W32.cell? ⟨gb, 2, none⟩ = some (.bool false) := HJ32.out.cell (l := qL (getQ s.q.key) r.ka none r.kc 0) (e := 35) (b := gb) (.tail _ (.tail _ (.tail _ (.head _)))) 2
            have gc3 : W32.cell? ⟨gb, 3, none⟩ = some (.int .i64 0) := HJ32.out.cell (l := qL (getQ s.q.key) r.ka none r.kc 0) (e := 35) (b := gb) (.tail _ (.tail _ (.tail _ (.head _)))) 3
            have gc4 : W32.cell? ⟨gb, 4, none⟩ = some (.int .u32 0) := HJ32.out.cell (l := qL (getQ s.q.key) r.ka none r.kc 0) (e := 35) (b := gb) (.tail _ (.tail _ (.tail _ (.head _)))) 4
            have gc5 : W32.cell? ⟨gb, 5, none⟩ = some (.slice r.ka s.q.key.length r.kc) := HJ32.out.cell (l := qL (getQ s.q.key) r.ka none r.kc 0) (e := 35) (b := gb) (.tail _ (.tail _ (.tail _ (.head _)))) 5
            have gc6 : W32.cell? ⟨gb, 6, none⟩ = some (.slice none 0 0) := HJ32.out.cell (l := qL (getQ s.q.key) r.ka none r.kc 0) (e := 35) (b := gb) (.tail _ (.tail _ (.tail _ (.head _)))) 6
            have gc7 : W32.cell? ⟨gb, 7, none⟩ = some (.int .u32 0) := HJ32.out.cell (l := qL (getQ s.q.key) r.ka none r.kc 0) (e := 35) (b := gb) (.tail _ (.tail _ (.tail _ (.head _)))) 7
            have gc8 : W32.cell? ⟨gb, 8, none⟩ = some (.int .u32 0) := HJ32.out.cell (l := qL (getQ s.q.key) r.ka none r.kc 0) (e := 35) (b := gb) (.tail _ (.tail _ (.tail _ (.head _)))) 8
            have gc9 : W32.cell? ⟨gb, 9, none⟩ = some (.int .u64 0) := HJ32.out.cell (l := qL (getQ s.q.key) r.ka none r.kc 0) (e := 35) (b := gb) (.tail _ (.tail _ (.tail _ (.head _)))) 9
            have gc10 : W32.cell? ⟨gb, 10, none⟩ = some (.int .u64 0) := HJ32.out.cell (l := qL (getQ s.q.key) r.ka none r.kc 0) (e := 35) (b := gb) (.tail _ (.tail _ (.tail _ (.head _)))) 10
            have gc11 : W32.cell? ⟨gb, 11, none⟩ = some (.int .u64 0) := HJ32.out.cell (l := qL (getQ s.q.key) r.ka none r.kc 0) (e := 35) (b := gb) (.tail _ (.tail _ (.tail _ (.head _)))) 11
            have ac0 : W32.cell? ⟨b1, 0, none⟩ = some (.int .i64 0) := by have h := HJ32.out.cell (.tail _ (.tail _ (.head _))) 0; rw [h]; simp [aL, ansT]
            have ac1 : W32.cell? ⟨b1, 1, none⟩ = some (.slice ya t1.val.length yc) := by have h := HJ32.out.cell (.tail _ (.tail _ (.head _))) 1; rw [h]; simp [aL, ansT]
            have ac2 : W32.cell? ⟨b1, 2, none⟩ = some (.int .u32 t1.fl) := by have h := HJ32.out.cell (.tail _ (.tail _ (.head _))) 2; rw [h]; simp [aL, ansT]
            have ac3 : W32.cell? ⟨b1, 3, none⟩ = some (.int .u64 t1.cas) := by have h := HJ32.out.cell (.tail _ (.tail _ (.head _))) 3; rw [h]; simp [aL, ansT]
            have ac4 : W32.cell? ⟨b1, 4, none⟩ = some (.int .u64 0) := by have h := HJ32.out.cell (.tail _ (.tail _ (.head _))) 4; rw [h]; simp [aL, ansT]
            have ac5 : W32.cell? ⟨b1, 5, none⟩ = some (.slice none 0 0) := by have h := HJ32.out.cell (.tail _ (.tail _ (.head _))) 5; rw [h]; simp [aL, ansT]
            have ac6 : W32.cell? ⟨b1, 6, none⟩ = some (.bool false) := by have h := HJ32.out.cell (.tail _ (.tail _ (.head _))) 6; rw [h]; simp [aL, ansT]
            go_wp2_with fail
            refine (HAK1.out _ HJ32).mono ?_
            rintro e Wc ⟨rfl, HJ33⟩
            clear gc0 gc1 gc2 gc3 gc4 gc5 gc6 gc7 gc8 gc9 gc10 gc11 ac0 ac1 ac2 ac3 ac4 ac5 ac6 HJ32
            have gc0 : Wc.cell? ⟨gb, 0, none⟩ = some (.int .i64 0) := HJ33.out.cell (l := qL (getQ s.q.key) r.ka none r.kc 0) (e := 35) (b := gb) (.tail _ (.tail _ (.tail _ (.head _)))) 0
            have gc1 : Wc.cell? ⟨gb, 1, none⟩ = some (.bool false) := HJ33.out.cell (l := qL (getQ s.q.key) r.ka none r.kc 0) (e := 35) (b := gb) (.tail _ (.tail _ (.tail _ (.head _)))) 1
            have gc2 : Wc.cell? ⟨gb, 2, none⟩ = some (.bool false) := HJ33.out.cell (l := qL (getQ s.q.key) r.ka none r.kc 0) (e := 35) (b := gb) (.tail _ (.tail _ (.tail _ (.head _)))) 2
            have gc3 : Wc.cell? ⟨gb, 3, none⟩ = some (.int .i64 0) := HJ33.out.cell (l := qL (getQ s.q.key) r.ka none r.kc 0) (e := 35) (b := gb) (.tail _ (.tail _ (.tail _ (.head _)))) 3
            have gc4 : Wc.cell? ⟨gb, 4, none⟩ = some (.int .u32 0) := HJ33.out.cell (l := qL (getQ s.q.key) r.ka none r.kc 0) (e := 35) (b := gb) (.tail _ (.tail _ (.tail _ (.head _)))) 4
            have gc5 : Wc.cell? ⟨gb, 5, none⟩ = some (.slice r.ka s.q.key.length r.kc) := HJ33.out.cell (l := qL (getQ s.q.key) r.ka none r.kc 0) (e := 35) (b := gb) (.tail _ (.tail _ (.tail _ (.head _)))) 5
            have gc6 : Wc.cell? ⟨gb, 6, none⟩ = some (.slice none 0 0) := HJ33.out.cell (l := qL (getQ s.q.key) r.ka none r.kc 0) (e := 35) (b := gb) (.tail _ (.tail _ (.tail _ (.head _)))) 6
            have gc7 : Wc.cell? ⟨gb, 7, none⟩ = some (.int .u32 0) := HJ33.out.cell (l := qL (getQ s.q.key) r.ka none r.kc 0) (e := 35) (b := gb) (.tail _ (.tail _ (.tail _ (.head _)))) 7
            have gc8 : Wc.cell? ⟨gb, 8, none⟩ = some (.int .u32 0) := HJ33.out.cell (l := qL (getQ s.q.key) r.ka none r.kc 0) (e := 35) (b := gb) (.tail _ (.tail _ (.tail _ (.head _)))) 8
            have gc9 : Wc.cell? ⟨gb, 9, none⟩ = some (.int .u64 0) := HJ33.out.cell (l := qL (getQ s.q.key) r.ka none r.kc 0) (e := 35) (b := gb) (.tail _ (.tail _ (.tail _ (.head _)))) 9
            have gc10 : Wc.cell? ⟨gb, 10, none⟩ = some (.int .u64 0) := HJ33.out.cell (l := qL (getQ s.q.key) r.ka none r.kc 0) (e := 35) (b := gb) (.tail _ (.tail _ (.tail _ (.head _)))) 10
            have gc11 : Wc.cell? ⟨gb, 11, none⟩ = some (.int .u64 0) := HJ33.out.cell (l := qL (getQ s.q.key) r.ka none r.kc 0) (e := 35) (b := gb) (.tail _ (.tail _ (.tail _ (.head _)))) 11
            have ac0 : Wc.cell? ⟨b2, 0, none⟩ = some (.int .i64 0) := by have h := HJ33.out.cell (.tail _ (.head _)) 0; rw [h]; simp [aL, ansT]
            have ac1 : Wc.cell? ⟨b2, 1, none⟩ = some (.slice n2 (t1.val.length + 1) mc) := by have h := HJ33.out.cell (.tail _ (.head _)) 1; rw [h]; simp [aL, ansT]
            have ac2 : Wc.cell? ⟨b2, 2, none⟩ = some (.int .u32 t1.fl) := by have h := HJ33.out.cell (.tail _ (.head _)) 2; rw [h]; simp [aL, ansT]
            have ac3 : Wc.cell? ⟨b2, 3, none⟩ = some (.int .u64 t1.cas) := by have h := HJ33.out.cell (.tail _ (.head _)) 3; rw [h]; simp [aL, ansT]
            have ac4 : Wc.cell? ⟨b2, 4, none⟩ = some (.int .u64 0) := by have h := HJ33.out.cell (.tail _ (.head _)) 4; rw [h]; simp [aL, ansT]
            have ac5 : Wc.cell? ⟨b2, 5, none⟩ = some (.slice none 0 0) := by have h := HJ33.out.cell (.tail _ (.head _)) 5; rw [h]; simp [aL, ansT]
            have ac6 : Wc.cell? ⟨b2, 6, none⟩ = some (.bool false) := by have h := HJ33.out.cell (.tail _ (.head _)) 6; rw [h]; simp [aL, ansT]
            go_wp2_with fail
            refine (HAK2.out _ HJ33).mono ?_
            rintro e Wd ⟨rfl, HJ34⟩
            clear gc0 gc1 gc2 gc3 gc4 gc5 gc6 gc7 gc8 gc9 gc10 gc11 ac0 ac1 ac2 ac3 ac4 ac5 ac6 HJ33
            have gc0 : Wd.cell? ⟨gb, 0, none⟩ = some (.int .i64 0) := HJ34.out.cell (l := qL (getQ s.q.key) r.ka none r.kc 0) (e := 35) (b := gb) (.tail _ (.tail _ (.tail _ (.head _)))) 0
            have gc1 : Wd.cell? ⟨gb, 1, none⟩ = some (.bool false) := HJ34.out.cell (l := qL (getQ s.q.key) r.ka none r.kc 0) (e := 35) (b := gb) (.tail _ (.tail _ (.tail _ (.head _)))) 1
            have gc2 : Wd.cell? ⟨gb, 2, none⟩ = some (.bool false) := HJ34.out.cell (l := qL (getQ s.q.key) r.ka none r.kc 0) (e := 35) (b := gb) (.tail _ (.tail _ (.tail _ (.head _)))) 2
            have gc3 : Wd.cell? ⟨gb, 3, none⟩ = some (.int .i64 0) := HJ34.out.cell (l := qL (getQ s.q.key) r.ka none r.kc 0) (e := 35) (b := gb) (.tail _ (.tail _ (.tail _ (.head _)))) 3
            have gc4 : Wd.cell? ⟨gb, 4, none⟩ = some (.int .u32 0) := HJ34.out.cell (l := qL (getQ s.q.key) r.ka none r.kc 0) (e := 35) (b := gb) (.tail _ (.tail _ (.tail _ (.head _)))) 4
            have gc5 : Wd.cell? ⟨gb, 5, none⟩ = some (.slice r.ka s.q.key.length r.kc) := HJ34.out.cell (l := qL (getQ s.q.key) r.ka none r.kc 0) (e := 35) (b := gb) (.tail _ (.tail _ (.tail _ (.head _)))) 5
            have gc6 : Wd.cell? ⟨gb, 6, none⟩ = some (.slice none 0 0) := HJ34.out.cell (l := qL (getQ s.q.key) r.ka none r.kc 0) (e := 35) (b := gb) (.tail _ (.tail _ (.tail _ (.head _)))) 6
            have gc7 : Wd.cell? ⟨gb, 7, none⟩ = some (.int .u32 0) := HJ34.out.cell (l := qL (getQ s.q.key) r.ka none r.kc 0) (e := 35) (b := gb) (.tail _ (.tail _ (.tail _ (.head _)))) 7
            have gc8 : Wd.cell? ⟨gb, 8, none⟩ = some (.int .u32 0) := HJ34.out.cell (l := qL (getQ s.q.key) r.ka none r.kc 0) (e := 35) (b := gb) (.tail _ (.tail _ (.tail _ (.head _)))) 8
            have gc9 : Wd.cell? ⟨gb, 9, none⟩ = some (.int .u64 0) := HJ34.out.cell (l := qL (getQ s.q.key) r.ka none r.kc 0) (e := 35) (b := gb) (.tail _ (.tail _ (.tail _ (.head _)))) 9
            have gc10 : Wd.cell? ⟨gb, 10, none⟩ = some (.int .u64 0) := HJ34.out.cell (l := qL (getQ s.q.key) r.ka none r.kc 0) (e := 35) (b := gb) (.tail _ (.tail _ (.tail _ (.head _)))) 10
            have gc11 : Wd.cell? ⟨gb, 11, none⟩ = some (.int .u64 0) := HJ34.out.cell (l := qL (getQ s.q.key) r.ka none r.kc 0) (e := 35) (b := gb) (.tail _ (.tail _ (.tail _ (.head _)))) 11
            have ac0 : Wd.cell? ⟨b3, 0, none⟩ = some (.int .i64 0) := by have h := HJ34.out.cell (.head _) 0; rw [h]; simp [aL, ansT]
            have ac1 : Wd.cell? ⟨b3, 1, none⟩ = some (.slice ya t1.val.length yc) := by have h := HJ34.out.cell (.head _) 1; rw [h]; simp [aL, ansT]
            have ac2 : Wd.cell? ⟨b3, 2, none⟩ = some (.int .u32 t1.fl) := by have h := HJ34.out.cell (.head _) 2; rw [h]; simp [aL, ansT]
            have ac3 : Wd.cell? ⟨b3, 3, none⟩ = some (.int .u64 cas2) := by have h := HJ34.out.cell (.head _) 3; rw [h]; simp [aL, ansT]
            have ac4 : Wd.cell? ⟨b3, 4, none⟩ = some (.int .u64 0) := by have h := HJ34.out.cell (.head _) 4; rw [h]; simp [aL, ansT]
            have ac5 : Wd.cell? ⟨b3, 5, none⟩ = some (.slice none 0 0) := by have h := HJ34.out.cell (.head _) 5; rw [h]; simp [aL, ansT]
            have ac6 : Wd.cell? ⟨b3, 6, none⟩ = some (.bool false) := by have h := HJ34.out.cell (.head _) 6; rw [h]; simp [aL, ansT]
            go_wp2_with fail
            refine (HAK3.out _ HJ34).mono ?_
            rintro e We ⟨rfl, HJ35⟩
            have HFIN : Hid (RefI w m (.slice (some ⟨g, 0, none⟩) m oc) ((List.range m).flatMap fun i => sdC (shortS (S i)) (R' i)) mb cb db now' (k + 1) We) := ⟨⟨_, _, _, _, HJ35.out.lw, HL2.out, HR2.out, HD2.out⟩, HNN.out.2⟩
            clear gc0 gc1 gc2 gc3 gc4 gc5 gc6 gc7 gc8 gc9 gc10 gc11 ac0 ac1 ac2 ac3 ac4 ac5 ac6 HJ34 HJ35
            go_wp2_with fail
            go_roundg (m - (k + 1))
            case measure => omega
            case rel => exact ⟨k + 1, now', by omega, rfl, rfl, by go_num, HFIN.out⟩
  · obtain rfl : m = k := by omega
    obtain ⟨⟨ck, D, Y, c, hW, hL, hR, hD⟩, hnow⟩ := HTK.out
    have hkl := HKL.out
    subst hkl
    have HL := Lib.hid hL
    have HR := Lib.hid hR
    have HNW := Lib.hid hnow
    have HKEY := HKY
    have hj0 : RefJ w m (.slice oa m oc) ((List.range m).flatMap fun i => sdC (shortS (S i)) (R' i)) mb cb ck db [] [] D Y c wr := ⟨hW, fun _ h => (by cases h), fun _ h => (by cases h)⟩
    obtain ⟨gb, hgb⟩ : ∃ b, wr.heap.size = b := ⟨_, rfl⟩
    obtain ⟨WI, hWI⟩ : ∃ W, wr.alloc (.cells #[.int .i64 0, .bool false, .bool false, .int .i64 0, .int .u32 0, .slice fa key.length fc, .slice none 0 0, .int .u32 0, .int .u32 0, .int .u64 0, .int .u64 0, .int .u64 0] 35) = W := ⟨_, rfl⟩
    have hj1 : RefJ w m (.slice oa m oc) ((List.range m).flatMap fun i => sdC (shortS (S i)) (R' i)) mb cb ck db [(gb, qL (getQ key) fa none fc 0, 35)] [] D Y c WI := by
      rw [← hWI]
      exact hj0.alloc (vs := qL (getQ key) fa none fc 0) (by decide) (by decide) hgb
    have HJ1 := Lib.hid hj1
    obtain ⟨xv, hlk0, hxb, hxok⟩ := hj1.lw.ca.look key
    obtain ⟨xa, xc, rfl, _⟩ := hxb.1.form
    unfold boxC at hlk0
    obtain ⟨t0, ht0⟩ : ∃ t, t = c.raw key := ⟨_, rfl⟩
    obtain ⟨hb0, hhb0⟩ : ∃ b, b = (c.keys key).isSome := ⟨_, rfl⟩
    rw [← ht0] at hlk0 hxb hxok
    rw [← hhb0] at hlk0
    have HLK := Lib.hid hlk0
    have HXB := Lib.hid hxb
    have HT0 := Lib.hid ht0
    have HB0 := Lib.hid hhb0
    have HCKL : Hid (ck < WI.heap.size) := by obtain ⟨G, hm, _⟩ := hj1.lw.ca.map; exact hm.lt
    obtain ⟨vb, hvb⟩ : ∃ b, WI.heap.size = b := ⟨_, rfl⟩
    have vb_sz := Lib.hid hvb
    have HGB := Lib.hid hgb
    have HWI := Lib.hid hWI
    clear hlk0 hxb hxok ht0 hhb0 hvb hW hL hR hD hnow hj0 hj1 hgb hWI HTK
    go_upto_region 36 with fail
    rw [HGB.out, HWI.out]
    try dsimp only [Act.put]
    refine wp_region_gh (Θ := Unit) (fun θ => [(0, 185, (.pointer (some ⟨cb, 0, none⟩))), (1, 186, (.pointer (some ⟨cb, 0, none⟩))), (2, 187, (.pointer (some ⟨cb, 0, none⟩))), (3, 188, (.map (some ck))), (4, 189, (.slice fa key.length fc)), (5, 190, (.string ⟨key.toArray⟩)), (6, 191, (.tuple #[.agg #[.slice xa t0.val.length xc, .int .u32 t0.fl, .int .u32 t0.ex, .int .u64 t0.cas], .bool hb0])), (7, 184, (.tuple #[.agg #[.slice xa t0.val.length xc, .int .u32 t0.fl, .int .u32 t0.ex, .int .u64 t0.cas], .bool hb0])), (8, 192, (.agg #[.slice xa t0.val.length xc, .int .u32 t0.fl, .int .u32 t0.ex, .int .u64 t0.cas])), (9, 193, (.bool hb0)), (10, 24, (.pointer (some ⟨vb, 0, none⟩))), (12, 25, (.bool hb0))]) (fun _ done WW => Hid (LkJ WI vb [.slice xa t0.val.length xc, .int .u32 t0.fl, .int .u32 t0.ex, .int .u64 t0.cas] (done 10) (done 11) WW)) (by kernel_rfl) (hord_of2 (by kernel_rfl)) (fun _ => by kernel_rfl) (fun _ => by kernel_rfl) (fun _ => by kernel_rfl) (⟨(), by rw [← vb_sz.out]; exact LkJ.start WI _⟩) ?_ ?_
    · intro θ done zb WW j oq ho hd hdep hcl HA HJ
      have hj : j < 13 := (Array.getElem?_eq_some_iff.1 ho).1
      obtain rfl | rfl | rfl | rfl | rfl | rfl | rfl | rfl | rfl | rfl | rfl | rfl | rfl : j = 0 ∨ j = 1 ∨ j = 2 ∨ j = 3 ∨ j = 4 ∨ j = 5 ∨ j = 6 ∨ j = 7 ∨ j = 8 ∨ j = 9 ∨ j = 10 ∨ j = 11 ∨ j = 12 := by omega
      · exact valG (θ := θ) (.pointer (some ⟨cb, 0, none⟩)) ho (by cases ho; rfl) (by cases ho; simp [execOp, go_sem, HA.tm, lookT]) (by cases ho; exact fun d hd => by cases hd; simp) (HJ)
      · have p0 : done 0 = true := by cases ho; exact hdep ⟨0, .data⟩ (by simp) rfl
        exact valG (θ := θ) (.pointer (some ⟨cb, 0, none⟩)) ho (by cases ho; rfl) (by cases ho; simp [execOp, go_sem, HA.tm, lookT, p0]) (by cases ho; exact fun d hd => by cases hd; simp) (HJ)
      · have p1 : done 1 = true := by cases ho; exact hdep ⟨1, .data⟩ (by simp) rfl
        exact valG (θ := θ) (.pointer (some ⟨cb, 0, none⟩)) ho (by cases ho; rfl) (by cases ho; simp [execOp, go_sem, HA.tm, lookT, p1]) (by cases ho; exact fun d hd => by cases hd; simp) (HJ)
      · have p2 : done 2 = true := by cases ho; exact hdep ⟨2, .data⟩ (by simp) rfl
        exact valG (θ := θ) (.map (some ck)) ho (by cases ho; rfl) (by cases ho; simp [execOp, go_sem, HA.tm, lookT, p2, (blk_cell (HJ1.out.below HJ.out.bel).lw.ca.blk 0)]) (by cases ho; exact fun d hd => by cases hd; simp) (HJ)
      · exact valG (θ := θ) (.slice fa key.length fc) ho (by cases ho; rfl) (by cases ho; simp [execOp, go_sem, HA.tm, lookT]) (by cases ho; exact fun d hd => by cases hd; simp) (HJ)
      · have p4 : done 4 = true := by cases ho; exact hdep ⟨4, .data⟩ (by simp) rfl
        exact valG (θ := θ) (.string ⟨key.toArray⟩) ho (by cases ho; rfl) (by cases ho; simp [execOp, go_sem, HA.tm, lookT, p4, (convert_sl (P := Try.prog) (w := WW) 23 5 Try.underlying23 Try.underlying5 ((HJ1.out.below HJ.out.bel).lw.inOld HKEY.out).1 9 Try.underlying9)]) (by cases ho; exact fun d hd => by cases hd; simp) (HJ)
      · have p3 : done 3 = true := by cases ho; exact hdep ⟨3, .data⟩ (by simp) rfl
        have p5 : done 5 = true := by cases ho; exact hdep ⟨5, .data⟩ (by simp) rfl
        exact valG (θ := θ) (.tuple #[.agg #[.slice xa t0.val.length xc, .int .u32 t0.fl, .int .u32 t0.ex, .int .u64 t0.cas], .bool hb0]) ho (by cases ho; rfl) (by cases ho; simp [execOp, go_sem, HA.tm, lookT, p3, p5, (HLK.out WW (HJ.out.bel.block ck (HCKL.out)))]) (by cases ho; exact fun d hd => by cases hd; simp) (HJ)
      · have p6 : done 6 = true := by cases ho; exact hdep ⟨6, .data⟩ (by simp) rfl
        exact valG (θ := θ) (.tuple #[.agg #[.slice xa t0.val.length xc, .int .u32 t0.fl, .int .u32 t0.ex, .int .u64 t0.cas], .bool hb0]) ho (by cases ho; rfl) (by cases ho; simp [execOp, go_sem, HA.tm, lookT, p6]) (by cases ho; exact fun d hd => by cases hd; simp) (HJ)
      · have p7 : done 7 = true := by cases ho; exact hdep ⟨7, .data⟩ (by simp) rfl
        exact valG (θ := θ) (.agg #[.slice xa t0.val.length xc, .int .u32 t0.fl, .int .u32 t0.ex, .int .u64 t0.cas]) ho (by cases ho; rfl) (by cases ho; simp [execOp, go_sem, HA.tm, lookT, p7]) (by cases ho; exact fun d hd => by cases hd; simp) (HJ)
      · have p7 : done 7 = true := by cases ho; exact hdep ⟨7, .data⟩ (by simp) rfl
        exact valG (θ := θ) (.bool hb0) ho (by cases ho; rfl) (by cases ho; simp [execOp, go_sem, HA.tm, lookT, p7]) (by cases ho; exact fun d hd => by cases hd; simp) (HJ)
      · have n11 : done 11 = false := by cases hx : done 11 with | false => rfl | true => have := hcl 11 _ rfl hx ⟨10, .data⟩ (by simp) rfl; rw [hd] at this; cases this
        have hsz : WW.heap.size = vb := HJ.out.sz hd
        exact valG (θ := θ) (W' := WW.alloc (.cells #[.slice none 0 0, .int .u32 0, .int .u32 0, .int .u64 0] 49)) (.pointer (some ⟨vb, 0, none⟩)) ho (by cases ho; rfl) (by cases ho; simp [execOp, go_sem, HA.tm, lookT, hsz]) (by cases ho; exact fun d hd => by cases hd; simp) (by show Hid (LkJ WI vb [.slice xa t0.val.length xc, .int .u32 t0.fl, .int .u32 t0.ex, .int .u64 t0.cas] true (done 11) _); have h := HJ.out; rw [hd, n11] at h; rw [n11]; exact h.alloc)
      · have p10 : done 10 = true := by cases ho; exact hdep ⟨10, .data⟩ (by simp) rfl
        have p8 : done 8 = true := by cases ho; exact hdep ⟨8, .data⟩ (by simp) rfl
        exact storeG (θ := θ) 49 (.tmp 24) (.tmp 192) ho (by cases ho; rfl) (by cases ho; rfl) (by cases ho; rfl) (by first | (simp [HA.ev, HA.tm, lookT, Act.eval, p8, p10]; done) | (simp [HA.ev, HA.tm, lookT, Act.eval, p8, p10]; rfl)) (by first | (simp [HA.ev, HA.tm, lookT, Act.eval, p8, p10]; done) | (simp [HA.ev, HA.tm, lookT, Act.eval, p8, p10]; rfl)) (run_storeAt_mid WW vb 0 49 [.slice xa t0.val.length xc, .int .u32 t0.fl, .int .u32 t0.ex, .int .u64 t0.cas].toArray (by have h := HJ.out; rw [p10, hd] at h; exact h.there) (by kernel_rfl) (by kernel_rfl)) (by show Hid (LkJ WI vb [.slice xa t0.val.length xc, .int .u32 t0.fl, .int .u32 t0.ex, .int .u64 t0.cas] (done 10) true _); have h := HJ.out; rw [p10, hd] at h; rw [p10]; exact h.store rfl)
      · have p9 : done 9 = true := by cases ho; exact hdep ⟨9, .data⟩ (by simp) rfl
        exact valG (θ := θ) (.bool hb0) ho (by cases ho; rfl) (by cases ho; simp [execOp, go_sem, HA.tm, lookT, p9]) (by cases ho; exact fun d hd => by cases hd; simp) (HJ)
    · intro θ done W9 hall HJ0
      have z0 := hall 0 (by decide)
      have z1 := hall 1 (by decide)
      have z2 := hall 2 (by decide)
      have z3 := hall 3 (by decide)
      have z4 := hall 4 (by decide)
      have z5 := hall 5 (by decide)
      have z6 := hall 6 (by decide)
      have z7 := hall 7 (by decide)
      have z8 := hall 8 (by decide)
      have z9 := hall 9 (by decide)
      have z10 := hall 10 (by decide)
      have z11 := hall 11 (by decide)
      have z12 := hall 12 (by decide)
      try simp only [z0, z1, z2, z3, z4, z5, z6, z7, z8, z9, z10, z11, z12] at HJ0
      clear hall z0 z1 z2 z3 z4 z5 z6 z7 z8 z9 z10 z11 z12
      simp only [putAll, Act.put, List.setIfInBounds_toArray, List.set_cons_succ, List.set_cons_zero]
      have HJ2 : Hid (RefJ w m (.slice oa m oc) ((List.range m).flatMap fun i => sdC (shortS (S i)) (R' i)) mb cb ck db [(vb, [.slice xa t0.val.length xc, .int .u32 t0.fl, .int .u32 t0.ex, .int .u64 t0.cas], 49), (gb, qL (getQ key) fa none fc 0, 35)] [(.slice xa t0.val.length xc, t0.val)] D Y c W9) := by
        have h := HJ0.out
        exact ((HJ1.out.addB HXB.out).below h.bel).addL (h.h12 rfl) (by decide) (by decide)
      clear HJ0 HLK HCKL vb_sz HXB HJ1 HGB HWI
      obtain ⟨WL, hwl⟩ : ∃ WL, WL = W9 := ⟨_, rfl⟩
      subst hwl
      have HSF := Lib.hid (safe_o WL w.heap.size (OD mb cb ck db) mb Y HJ2.out.lw.mo fa fc key (HJ2.out.lw.inOld HKY.out).1 (by have := (HL.out.len key).2; omega))
      go_wp2_with fail
      refine HSF.out.mono ?_
      rintro e WM ⟨sv, rfl, hva, hbm⟩
      obtain ⟨rl, hrl, hvr⟩ := hva
      have HRL := Lib.hid hrl
      have HVR := Lib.hid hvr
      have HJ3 := Lib.hid (HJ2.out.below hbm)
      have hsf : ∃ a n c, sv = .slice a n c ∧ n = rl.length ∧ n ≤ 9223372036854775807 := by
        rcases hvr.sl with ⟨h1, h2 | ⟨a, cap, h2⟩⟩ | ⟨h0, b, off, cap, h2, h3, h4, _⟩
        · exact ⟨_, _, _, h2, by rw [h1]; rfl, by decide⟩
        · exact ⟨_, _, _, h2, by rw [h1]; rfl, by decide⟩
        · exact ⟨_, _, _, h2, rfl, by unfold maxLen at h4; omega⟩
      obtain ⟨va, vn, vc, rfl, hvn, hvm⟩ := hsf
      have HVN := Lib.hid hvn
      clear hrl hvr hbm hvn HSF HJ2
      go_wp2_with fail
      go_loopg [198] vn (fun gg b198 wr => ∃ j : Nat, j ≤ vn ∧ gg = vn - j ∧ b198 = .int .i64 j ∧ Hid (Below WM.heap.size WM wr))
      case atStart => exact ⟨0, Nat.zero_le _, rfl, rfl, Below.refl _ _⟩
      case round =>
      obtain ⟨j, hj, hgg, rfl, HBB⟩ := hrel
      subst hgg
      by_cases hjl : j < vn
      · have hp := List.getElem?_eq_getElem (show j < rl.length by have := HVN.out; omega)
        obtain ⟨p, hpd⟩ : ∃ p, p = rl[j]'(by have := HVN.out; omega) := ⟨_, rfl⟩
        rw [← hpd] at hp
        have hsa := safe_all HR.out HRL.out hp
        have hpin : p ∈ rl := List.mem_of_getElem? hp
        obtain ⟨vb2, off, cap2, he, h3, h4, h5, h6, h7⟩ := (show ∃ b off cap, Value.slice va vn vc = .slice (some ⟨b, off, none⟩) rl.length cap ∧ rl.length ≤ cap ∧ cap ≤ maxLen ∧ b < WM.heap.size ∧ WL.heap.size ≤ b ∧ RowR WM b off rl from by
          rcases HVR.out.sl with ⟨h1, _⟩ | ⟨h0, b, off, cap, h2, h3, h4, h5, h6, h7⟩
          · have := HVN.out; rw [h1] at this; simp at this; omega
          · exact ⟨b, off, cap, h2, h3, h4, h5, h6, h7⟩)
        injection he with he1 he2 he3
        subst he1 he3
        clear he2
        have hbe := HVR.out.el p hpin
        obtain ⟨pa, pc, hpv, _⟩ := hbe.1.form
        have hc := h7 j p hp
        rw [hpv] at hbe hc
        have hg : ∀ q x, q < 1 → wr.cell? ⟨vb2, x, none⟩ = WM.cell? ⟨vb2, x, none⟩ := fun _ x _ => HBB.out.cell (p := ⟨vb2, x, none⟩) h5
        have d0 : wr.cell? ⟨vb2, off + j * 4, none⟩ = some (.slice pa p.2.val.length pc) := (hg 0 _ (by omega)).trans hc.1
        have d1 : wr.cell? ⟨vb2, off + j * 4 + 1, none⟩ = some (.int .u32 p.2.fl) := (hg 0 _ (by omega)).trans hc.2.1
        have d2 : wr.cell? ⟨vb2, off + j * 4 + 2, none⟩ = some (.int .u32 p.2.ex) := (hg 0 _ (by omega)).trans hc.2.2.1
        have d3 : wr.cell? ⟨vb2, off + j * 4 + 3, none⟩ = some (.int .u64 p.2.cas) := (hg 0 _ (by omega)).trans hc.2.2.2
        obtain ⟨zb, hzb⟩ : ∃ b, wr.heap.size = b := ⟨_, rfl⟩
        obtain ⟨WZ, hWZ⟩ : ∃ W, wr.alloc (.cells #[.slice pa p.2.val.length pc, .int .u32 p.2.fl, .int .u32 p.2.ex, .int .u64 p.2.cas] 49) = W := ⟨_, rfl⟩
        have hbz : Below wr.heap.size wr WZ := by rw [← hWZ]; exact (Below.refl _ _).alloc (Nat.le_refl _) _
        have hbw : Below WM.heap.size WM WZ := HBB.out.trans (hbz.mono HBB.out.size)
        have hzc : WZ.heap[zb]? = some (.cells #[.slice pa p.2.val.length pc, .int .u32 p.2.fl, .int .u32 p.2.ex, .int .u64 p.2.cas] 49 (0, 0)) := by rw [← hWZ, ← hzb]; exact heap_alloc_new wr _
        have z0 : WZ.cell? ⟨zb, 0, none⟩ = some (.slice pa p.2.val.length pc) := blk_cell hzc 0
        have z3 : WZ.cell? ⟨zb, 3, none⟩ = some (.int .u64 p.2.cas) := blk_cell hzc 3
        have hjz := HJ3.out.below hbw
        have x0 : WZ.cell? ⟨vb, 0, none⟩ = some (.slice xa t0.val.length xc) := hjz.cell (.head _) 0
        have x3 : WZ.cell? ⟨vb, 3, none⟩ = some (.int .u64 t0.cas) := hjz.cell (.head _) 3
        have heq := equal18 WZ (.slice pa p.2.val.length pc) (.slice xa t0.val.length xc) p.2.val t0.val (hbe.1.below hbw (Nat.le_refl _)) (hjz.byt _ (.head _)).1
        rw [show (p.2.val == t0.val) = true from by rw [hsa.2.1, HT0.out]; simp] at heq
        have HEQ := Lib.hid heq
        obtain rfl : hb0 = true := by rw [HB0.out]; exact hsa.1
        obtain ⟨pcas, hpcas⟩ : ∃ x, x = p.2.cas := ⟨_, rfl⟩
        have hpt : pcas = t0.cas := by rw [hpcas, hsa.2.2, HT0.out]
        rw [← hpcas] at z3 d3 hWZ
        have hcc : (pcas != t0.cas) = false := by rw [hpt]; simp
        have HZB := Lib.hid hzb
        have HWZ := Lib.hid hWZ
        have HBW := Lib.hid hbw
        clear hp hpd hsa hpin h3 h4 h5 h6 h7 hbe hpv hc hg hzb hWZ hbz hbw hzc hjz heq hpcas hpt
        go_upto_region 40 with fail
        rw [HZB.out, HWZ.out]
        go_wp2_with fail
        refine HEQ.out.mono ?_
        rintro e w8 ⟨rfl, hw8⟩
        subst hw8
        go_wp2_with fail
        go_roundg (vn - (j + 1))
        case measure => omega
        case rel => exact ⟨j + 1, by omega, rfl, by go_num, HBW.out⟩
      · obtain rfl : vn = j := by omega
        have HJ4 := Lib.hid (HJ3.out.below HBB.out)
        go_upto_region 43 with fail
        have HRES : Hid (Below w.heap.size w wr) := HJ4.out.lw.bel
        try dsimp only [Act.put]
        by_cases h0 : key.length = 0
        · have h0' : (key.length : Int) = 0 := by omega
          refine wp_region_gh (Θ := Unit) (fun θ => [(0, 220, (.slice fa key.length fc)), (1, 221, (.int .i64 key.length)), (2, 222, (.bool true)), (3, 223, (.bool true)), (4, 224, undef), (5, 225, undef), (6, 226, undef), (7, 227, (.bool true)), (8, 228, (.bool true)), (9, 229, undef), (10, 230, undef), (11, 231, undef), (12, 232, undef), (13, 233, undef), (14, 234, (.bool true)), (15, 6, (.bool true))]) (fun _ done WW => Hid (RefJ w m (.slice oa m oc) ((List.range m).flatMap fun i => sdC (shortS (S i)) (R' i)) mb cb ck db [(vb, [.slice xa t0.val.length xc, .int .u32 t0.fl, .int .u32 t0.ex, .int .u64 t0.cas], 49), (gb, qL (getQ key) fa none fc 0, 35)] [(.slice xa t0.val.length xc, t0.val)] D Y c WW)) (by kernel_rfl) (hord_of2 (by kernel_rfl)) (fun _ => by kernel_rfl) (fun _ => by kernel_rfl) (fun _ => by kernel_rfl) (⟨(), HJ4.out.below (hbelow_drew _)⟩) ?_ ?_
          · intro θ done zb WW j oq ho hd hdep hcl HA HJ
            have hj : j < 16 := (Array.getElem?_eq_some_iff.1 ho).1
            obtain rfl | rfl | rfl | rfl | rfl | rfl | rfl | rfl | rfl | rfl | rfl | rfl | rfl | rfl | rfl | rfl : j = 0 ∨ j = 1 ∨ j = 2 ∨ j = 3 ∨ j = 4 ∨ j = 5 ∨ j = 6 ∨ j = 7 ∨ j = 8 ∨ j = 9 ∨ j = 10 ∨ j = 11 ∨ j = 12 ∨ j = 13 ∨ j = 14 ∨ j = 15 := by omega
            · exact valG (θ := θ) (.slice fa key.length fc) ho (by cases ho; rfl) (by cases ho; simp [execOp, go_sem, HA.tm, lookT]) (by cases ho; exact fun d hd => by cases hd; simp) (HJ)
            · have p0 : done 0 = true := by cases ho; exact hdep ⟨0, .data⟩ (by simp) rfl
              exact valG (θ := θ) (.int .i64 key.length) ho (by cases ho; rfl) (by cases ho; simp [execOp, go_sem, HA.tm, lookT, p0]) (by cases ho; exact fun d hd => by cases hd; simp) (HJ)
            · have p1 : done 1 = true := by cases ho; exact hdep ⟨1, .data⟩ (by simp) rfl
              exact valG (θ := θ) (.bool true) ho (by cases ho; rfl) (by cases ho; simp [execOp, go_sem, HA.tm, lookT, p1, h0, h0'] <;> omega) (by cases ho; exact fun d hd => by cases hd; simp) (HJ)
            · have p2 : done 2 = true := by cases ho; exact hdep ⟨2, .data⟩ (by simp) rfl
              exact valG (θ := θ) (.bool true) ho (by cases ho; rfl) (by cases ho; simp [execOp, go_sem, HA.tm, lookT, p2]) (by cases ho; exact fun d hd => by cases hd; simp) (HJ)
            · have p3 : done 3 = true := by cases ho; exact hdep ⟨3, .guard⟩ (by simp) rfl
              exact passG (θ := θ) ho (by cases ho; simp [Region.wanted, yielded, HA.tm, lookT, go_sem, p3]) (by cases ho; exact fun d hd => by cases hd; simp) (HJ)
            · have p4 : done 4 = true := by cases ho; exact hdep ⟨4, .data⟩ (by simp) rfl
              have p3 : done 3 = true := by cases ho; exact hdep ⟨3, .guard⟩ (by simp) rfl
              exact passG (θ := θ) ho (by cases ho; simp [Region.wanted, yielded, HA.tm, lookT, go_sem, p3, p4]) (by cases ho; exact fun d hd => by cases hd; simp) (HJ)
            · have p5 : done 5 = true := by cases ho; exact hdep ⟨5, .data⟩ (by simp) rfl
              have p3 : done 3 = true := by cases ho; exact hdep ⟨3, .guard⟩ (by simp) rfl
              exact passG (θ := θ) ho (by cases ho; simp [Region.wanted, yielded, HA.tm, lookT, go_sem, p3, p5]) (by cases ho; exact fun d hd => by cases hd; simp) (HJ)
            · have p3 : done 3 = true := by cases ho; exact hdep ⟨3, .data⟩ (by simp) rfl
              have p6 : done 6 = true := by cases ho; exact hdep ⟨6, .data⟩ (by simp) rfl
              exact valG (θ := θ) (.bool true) ho (by cases ho; rfl) (by cases ho; simp [execOp, go_sem, HA.tm, lookT, p3, p6]) (by cases ho; exact fun d hd => by cases hd; simp) (HJ)
            · have p7 : done 7 = true := by cases ho; exact hdep ⟨7, .data⟩ (by simp) rfl
              exact valG (θ := θ) (.bool true) ho (by cases ho; rfl) (by cases ho; simp [execOp, go_sem, HA.tm, lookT, p7]) (by cases ho; exact fun d hd => by cases hd; simp) (HJ)
            · have p8 : done 8 = true := by cases ho; exact hdep ⟨8, .guard⟩ (by simp) rfl
              exact passG (θ := θ) ho (by cases ho; simp [Region.wanted, yielded, HA.tm, lookT, go_sem, p8]) (by cases ho; exact fun d hd => by cases hd; simp) (HJ)
            · have p8 : done 8 = true := by cases ho; exact hdep ⟨8, .guard⟩ (by simp) rfl
              exact passG (θ := θ) ho (by cases ho; simp [Region.wanted, yielded, HA.tm, lookT, go_sem, p8]) (by cases ho; exact fun d hd => by cases hd; simp) (HJ)
            · have p8 : done 8 = true := by cases ho; exact hdep ⟨8, .guard⟩ (by simp) rfl
              exact passG (θ := θ) ho (by cases ho; simp [Region.wanted, yielded, HA.tm, lookT, go_sem, p8]) (by cases ho; exact fun d hd => by cases hd; simp) (HJ)
            · have p8 : done 8 = true := by cases ho; exact hdep ⟨8, .guard⟩ (by simp) rfl
              exact passG (θ := θ) ho (by cases ho; simp [Region.wanted, yielded, HA.tm, lookT, go_sem, p8]) (by cases ho; exact fun d hd => by cases hd; simp) (HJ)
            · have p9 : done 9 = true := by cases ho; exact hdep ⟨9, .data⟩ (by simp) rfl
              have p10 : done 10 = true := by cases ho; exact hdep ⟨10, .data⟩ (by simp) rfl
              have p11 : done 11 = true := by cases ho; exact hdep ⟨11, .data⟩ (by simp) rfl
              have p12 : done 12 = true := by cases ho; exact hdep ⟨12, .data⟩ (by simp) rfl
              have p8 : done 8 = true := by cases ho; exact hdep ⟨8, .guard⟩ (by simp) rfl
              exact passG (θ := θ) ho (by cases ho; simp [Region.wanted, yielded, HA.tm, lookT, go_sem, p8, p9, p10, p11, p12]) (by cases ho; exact fun d hd => by cases hd; simp) (HJ)
            · have p8 : done 8 = true := by cases ho; exact hdep ⟨8, .data⟩ (by simp) rfl
              have p13 : done 13 = true := by cases ho; exact hdep ⟨13, .data⟩ (by simp) rfl
              exact valG (θ := θ) (.bool true) ho (by cases ho; rfl) (by cases ho; simp [execOp, go_sem, HA.tm, lookT, p8, p13]) (by cases ho; exact fun d hd => by cases hd; simp) (HJ)
            · have p14 : done 14 = true := by cases ho; exact hdep ⟨14, .data⟩ (by simp) rfl
              exact valG (θ := θ) (.bool true) ho (by cases ho; rfl) (by cases ho; simp [execOp, go_sem, HA.tm, lookT, p14]) (by cases ho; exact fun d hd => by cases hd; simp) (HJ)
          · intro θ done W9 hall HJ0
            have z0 := hall 0 (by decide)
            have z1 := hall 1 (by decide)
            have z2 := hall 2 (by decide)
            have z3 := hall 3 (by decide)
            have z4 := hall 4 (by decide)
            have z5 := hall 5 (by decide)
            have z6 := hall 6 (by decide)
            have z7 := hall 7 (by decide)
            have z8 := hall 8 (by decide)
            have z9 := hall 9 (by decide)
            have z10 := hall 10 (by decide)
            have z11 := hall 11 (by decide)
            have z12 := hall 12 (by decide)
            have z13 := hall 13 (by decide)
            have z14 := hall 14 (by decide)
            have z15 := hall 15 (by decide)
            try simp only [z0, z1, z2, z3, z4, z5, z6, z7, z8, z9, z10, z11, z12, z13, z14, z15] at HJ0
            clear hall z0 z1 z2 z3 z4 z5 z6 z7 z8 z9 z10 z11 z12 z13 z14 z15
            simp only [putAll, Act.put, List.setIfInBounds_toArray, List.set_cons_succ, List.set_cons_zero]
            have HF := Lib.hid HJ0.out.lw.bel
            clear HJ0
            go_wp2_with fail
            go_ret
            exact ⟨rfl, HF.out⟩
        · by_cases h250 : 250 < key.length
          · have h1' : ¬ (key.length : Int) < 1 := by omega
            have h250' : (250 : Int) < (key.length : Int) := by omega
            refine wp_region_gh (Θ := Unit) (fun θ => [(0, 220, (.slice fa key.length fc)), (1, 221, (.int .i64 key.length)), (2, 222, (.bool false)), (3, 223, (.bool false)), (4, 224, (.slice fa key.length fc)), (5, 225, (.int .i64 key.length)), (6, 226, (.bool true)), (7, 227, (.bool true)), (8, 228, (.bool true)), (9, 229, undef), (10, 230, undef), (11, 231, undef), (12, 232, undef), (13, 233, undef), (14, 234, (.bool true)), (15, 6, (.bool true))]) (fun _ done WW => Hid (RefJ w m (.slice oa m oc) ((List.range m).flatMap fun i => sdC (shortS (S i)) (R' i)) mb cb ck db [(vb, [.slice xa t0.val.length xc, .int .u32 t0.fl, .int .u32 t0.ex, .int .u64 t0.cas], 49), (gb, qL (getQ key) fa none fc 0, 35)] [(.slice xa t0.val.length xc, t0.val)] D Y c WW)) (by kernel_rfl) (hord_of2 (by kernel_rfl)) (fun _ => by kernel_rfl) (fun _ => by kernel_rfl) (fun _ => by kernel_rfl) (⟨(), HJ4.out.below (hbelow_drew _)⟩) ?_ ?_
            · intro θ done zb WW j oq ho hd hdep hcl HA HJ
              have hj : j < 16 := (Array.getElem?_eq_some_iff.1 ho).1
              obtain rfl | rfl | rfl | rfl | rfl | rfl | rfl | rfl | rfl | rfl | rfl | rfl | rfl | rfl | rfl | rfl : j = 0 ∨ j = 1 ∨ j = 2 ∨ j = 3 ∨ j = 4 ∨ j = 5 ∨ j = 6 ∨ j = 7 ∨ j = 8 ∨ j = 9 ∨ j = 10 ∨ j = 11 ∨ j = 12 ∨ j = 13 ∨ j = 14 ∨ j = 15 := by omega
              · exact valG (θ := θ) (.slice fa key.length fc) ho (by cases ho; rfl) (by cases ho; simp [execOp, go_sem, HA.tm, lookT]) (by cases ho; exact fun d hd => by cases hd; simp) (HJ)
              · have p0 : done 0 = true := by cases ho; exact hdep ⟨0, .data⟩ (by simp) rfl
                exact valG (θ := θ) (.int .i64 key.length) ho (by cases ho; rfl) (by cases ho; simp [execOp, go_sem, HA.tm, lookT, p0]) (by cases ho; exact fun d hd => by cases hd; simp) (HJ)
              · have p1 : done 1 = true := by cases ho; exact hdep ⟨1, .data⟩ (by simp) rfl
                exact valG (θ := θ) (.bool false) ho (by cases ho; rfl) (by cases ho; simp [execOp, go_sem, HA.tm, lookT, p1, h0, h1'] <;> omega) (by cases ho; exact fun d hd => by cases hd; simp) (HJ)
              · have p2 : done 2 = true := by cases ho; exact hdep ⟨2, .data⟩ (by simp) rfl
                exact valG (θ := θ) (.bool false) ho (by cases ho; rfl) (by cases ho; simp [execOp, go_sem, HA.tm, lookT, p2]) (by cases ho; exact fun d hd => by cases hd; simp) (HJ)
              · have p3 : done 3 = true := by cases ho; exact hdep ⟨3, .guard⟩ (by simp) rfl
                exact valG (θ := θ) (.slice fa key.length fc) ho (by cases ho; simp [Region.wanted, yielded, HA.tm, lookT, go_sem, p3]) (by cases ho; simp [execOp, go_sem, HA.tm, lookT, p3]) (by cases ho; exact fun d hd => by cases hd; simp) (HJ)
              · have p4 : done 4 = true := by cases ho; exact hdep ⟨4, .data⟩ (by simp) rfl
                have p3 : done 3 = true := by cases ho; exact hdep ⟨3, .guard⟩ (by simp) rfl
                exact valG (θ := θ) (.int .i64 key.length) ho (by cases ho; simp [Region.wanted, yielded, HA.tm, lookT, go_sem, p3, p4]) (by cases ho; simp [execOp, go_sem, HA.tm, lookT, p3, p4]) (by cases ho; exact fun d hd => by cases hd; simp) (HJ)
              · have p5 : done 5 = true := by cases ho; exact hdep ⟨5, .data⟩ (by simp) rfl
                have p3 : done 3 = true := by cases ho; exact hdep ⟨3, .guard⟩ (by simp) rfl
                exact valG (θ := θ) (.bool true) ho (by cases ho; simp [Region.wanted, yielded, HA.tm, lookT, go_sem, p3, p5]) (by cases ho; simp [execOp, go_sem, HA.tm, lookT, p3, p5, h250, h250'] <;> omega) (by cases ho; exact fun d hd => by cases hd; simp) (HJ)
              · have p3 : done 3 = true := by cases ho; exact hdep ⟨3, .data⟩ (by simp) rfl
                have p6 : done 6 = true := by cases ho; exact hdep ⟨6, .data⟩ (by simp) rfl
                exact valG (θ := θ) (.bool true) ho (by cases ho; rfl) (by cases ho; simp [execOp, go_sem, HA.tm, lookT, p3, p6]) (by cases ho; exact fun d hd => by cases hd; simp) (HJ)
              · have p7 : done 7 = true := by cases ho; exact hdep ⟨7, .data⟩ (by simp) rfl
                exact valG (θ := θ) (.bool true) ho (by cases ho; rfl) (by cases ho; simp [execOp, go_sem, HA.tm, lookT, p7]) (by cases ho; exact fun d hd => by cases hd; simp) (HJ)
              · have p8 : done 8 = true := by cases ho; exact hdep ⟨8, .guard⟩ (by simp) rfl
                exact passG (θ := θ) ho (by cases ho; simp [Region.wanted, yielded, HA.tm, lookT, go_sem, p8]) (by cases ho; exact fun d hd => by cases hd; simp) (HJ)
              · have p8 : done 8 = true := by cases ho; exact hdep ⟨8, .guard⟩ (by simp) rfl
                exact passG (θ := θ) ho (by cases ho; simp [Region.wanted, yielded, HA.tm, lookT, go_sem, p8]) (by cases ho; exact fun d hd => by cases hd; simp) (HJ)
              · have p8 : done 8 = true := by cases ho; exact hdep ⟨8, .guard⟩ (by simp) rfl
                exact passG (θ := θ) ho (by cases ho; simp [Region.wanted, yielded, HA.tm, lookT, go_sem, p8]) (by cases ho; exact fun d hd => by cases hd; simp) (HJ)
              · have p8 : done 8 = true := by cases ho; exact hdep ⟨8, .guard⟩ (by simp) rfl
                exact passG (θ := θ) ho (by cases ho; simp [Region.wanted, yielded, HA.tm, lookT, go_sem, p8]) (by cases ho; exact fun d hd => by cases hd; simp) (HJ)
              · have p9 : done 9 = true := by cases ho; exact hdep ⟨9, .data⟩ (by simp) rfl
                have p10 : done 10 = true := by cases ho; exact hdep ⟨10, .data⟩ (by simp) rfl
                have p11 : done 11 = true := by cases ho; exact hdep ⟨11, .data⟩ (by simp) rfl
                have p12 : done 12 = true := by cases ho; exact hdep ⟨12, .data⟩ (by simp) rfl
                have p8 : done 8 = true := by cases ho; exact hdep ⟨8, .guard⟩ (by simp) rfl
                exact passG (θ := θ) ho (by cases ho; simp [Region.wanted, yielded, HA.tm, lookT, go_sem, p8, p9, p10, p11, p12]) (by cases ho; exact fun d hd => by cases hd; simp) (HJ)
              · have p8 : done 8 = true := by cases ho; exact hdep ⟨8, .data⟩ (by simp) rfl
                have p13 : done 13 = true := by cases ho; exact hdep ⟨13, .data⟩ (by simp) rfl
                exact valG (θ := θ) (.bool true) ho (by cases ho; rfl) (by cases ho; simp [execOp, go_sem, HA.tm, lookT, p8, p13]) (by cases ho; exact fun d hd => by cases hd; simp) (HJ)
              · have p14 : done 14 = true := by cases ho; exact hdep ⟨14, .data⟩ (by simp) rfl
                exact valG (θ := θ) (.bool true) ho (by cases ho; rfl) (by cases ho; simp [execOp, go_sem, HA.tm, lookT, p14]) (by cases ho; exact fun d hd => by cases hd; simp) (HJ)
            · intro θ done W9 hall HJ0
              have z0 := hall 0 (by decide)
              have z1 := hall 1 (by decide)
              have z2 := hall 2 (by decide)
              have z3 := hall 3 (by decide)
              have z4 := hall 4 (by decide)
              have z5 := hall 5 (by decide)
              have z6 := hall 6 (by decide)
              have z7 := hall 7 (by decide)
              have z8 := hall 8 (by decide)
              have z9 := hall 9 (by decide)
              have z10 := hall 10 (by decide)
              have z11 := hall 11 (by decide)
              have z12 := hall 12 (by decide)
              have z13 := hall 13 (by decide)
              have z14 := hall 14 (by decide)
              have z15 := hall 15 (by decide)
              try simp only [z0, z1, z2, z3, z4, z5, z6, z7, z8, z9, z10, z11, z12, z13, z14, z15] at HJ0
              clear hall z0 z1 z2 z3 z4 z5 z6 z7 z8 z9 z10 z11 z12 z13 z14 z15
              simp only [putAll, Act.put, List.setIfInBounds_toArray, List.set_cons_succ, List.set_cons_zero]
              have HF := Lib.hid HJ0.out.lw.bel
              clear HJ0
              go_wp2_with fail
              go_ret
              exact ⟨rfl, HF.out⟩
          · have h1' : ¬ (key.length : Int) < 1 := by omega
            have h250' : ¬ (250 : Int) < (key.length : Int) := by omega
            have HAK : Hid (∀ W, Hid (RefJ w m (.slice oa m oc) ((List.range m).flatMap fun i => sdC (shortS (S i)) (R' i)) mb cb ck db [(vb, [.slice xa t0.val.length xc, .int .u32 t0.fl, .int .u32 t0.ex, .int .u64 t0.cas], 49), (gb, qL (getQ key) fa none fc 0, 35)] [(.slice xa t0.val.length xc, t0.val)] D Y c W) → Calls Try.prog 13 #[.pointer (some ⟨mb, 0, none⟩), .agg (qL (getQ key) fa none fc 0).toArray, ansV 1 (.slice none 0 0) 0 0 0 (.slice none 0 0) false, .int .u32 now] W fun e w' => e = .returned (.bool true) ∧ Hid (RefJ w m (.slice oa m oc) ((List.range m).flatMap fun i => sdC (shortS (S i)) (R' i)) mb cb ck db [(vb, [.slice xa t0.val.length xc, .int .u32 t0.fl, .int .u32 t0.ex, .int .u64 t0.cas], 49), (gb, qL (getQ key) fa none fc 0, 35)] [(.slice xa t0.val.length xc, t0.val)] D Y c w')) := fun W hJ =>
              hJ.out.ask (getQ key) fa none fc 0 (failA 1) none 0 (hJ.out.lw.inOld HKY.out) (BytesIn.nil _ _) (BytesIn.nil _ _) rfl (getQ_ok HKM.out) (by unfold An.ok failA; simp) now HNW.out (by have := (HL.out.len key).1; show (Y.now key).length ≤ _; omega) (by show (0 : Nat) ≤ 1000; omega) (getQ_here _) true (none_ok ⟨by omega, by omega⟩)
            refine wp_region_gh (Θ := Unit) (fun θ => [(0, 220, (.slice fa key.length fc)), (1, 221, (.int .i64 key.length)), (2, 222, (.bool false)), (3, 223, (.bool false)), (4, 224, (.slice fa key.length fc)), (5, 225, (.int .i64 key.length)), (6, 226, (.bool false)), (7, 227, (.bool false)), (8, 228, (.bool false)), (9, 229, (.pointer (some ⟨mb, 0, none⟩))), (10, 230, (.agg (qL (getQ key) fa none fc 0).toArray)), (11, 231, (ansV 1 (.slice none 0 0) 0 0 0 (.slice none 0 0) false)), (12, 232, (.int .u32 now)), (13, 233, (.bool true)), (14, 234, (.bool true)), (15, 6, (.bool true))]) (fun _ done WW => Hid (RefJ w m (.slice oa m oc) ((List.range m).flatMap fun i => sdC (shortS (S i)) (R' i)) mb cb ck db [(vb, [.slice xa t0.val.length xc, .int .u32 t0.fl, .int .u32 t0.ex, .int .u64 t0.cas], 49), (gb, qL (getQ key) fa none fc 0, 35)] [(.slice xa t0.val.length xc, t0.val)] D Y c WW)) (by kernel_rfl) (hord_of2 (by kernel_rfl)) (fun _ => by kernel_rfl) (fun _ => by kernel_rfl) (fun _ => by kernel_rfl) (⟨(), HJ4.out.below (hbelow_drew _)⟩) ?_ ?_
            · intro θ done zb WW j oq ho hd hdep hcl HA HJ
              have hj : j < 16 := (Array.getElem?_eq_some_iff.1 ho).1
              obtain rfl | rfl | rfl | rfl | rfl | rfl | rfl | rfl | rfl | rfl | rfl | rfl | rfl | rfl | rfl | rfl : j = 0 ∨ j = 1 ∨ j = 2 ∨ j = 3 ∨ j = 4 ∨ j = 5 ∨ j = 6 ∨ j = 7 ∨ j = 8 ∨ j = 9 ∨ j = 10 ∨ j = 11 ∨ j = 12 ∨ j = 13 ∨ j = 14 ∨ j = 15 := by omega
              · exact valG (θ := θ) (.slice fa key.length fc) ho (by cases ho; rfl) (by cases ho; simp [execOp, go_sem, HA.tm, lookT]) (by cases ho; exact fun d hd => by cases hd; simp) (HJ)
              · have p0 : done 0 = true := by cases ho; exact hdep ⟨0, .data⟩ (by simp) rfl
                exact valG (θ := θ) (.int .i64 key.length) ho (by cases ho; rfl) (by cases ho; simp [execOp, go_sem, HA.tm, lookT, p0]) (by cases ho; exact fun d hd => by cases hd; simp) (HJ)
              · have p1 : done 1 = true := by cases ho; exact hdep ⟨1, .data⟩ (by simp) rfl
                exact valG (θ := θ) (.bool false) ho (by cases ho; rfl) (by cases ho; simp [execOp, go_sem, HA.tm, lookT, p1, h0, h1'] <;> omega) (by cases ho; exact fun d hd => by cases hd; simp) (HJ)
              · have p2 : done 2 = true := by cases ho; exact hdep ⟨2, .data⟩ (by simp) rfl
                exact valG (θ := θ) (.bool false) ho (by cases ho; rfl) (by cases ho; simp [execOp, go_sem, HA.tm, lookT, p2]) (by cases ho; exact fun d hd => by cases hd; simp) (HJ)
              · have p3 : done 3 = true := by cases ho; exact hdep ⟨3, .guard⟩ (by simp) rfl
                exact valG (θ := θ) (.slice fa key.length fc) ho (by cases ho; simp [Region.wanted, yielded, HA.tm, lookT, go_sem, p3]) (by cases ho; simp [execOp, go_sem, HA.tm, lookT, p3]) (by cases ho; exact fun d hd => by cases hd; simp) (HJ)
              · have p4 : done 4 = true := by cases ho; exact hdep ⟨4, .data⟩ (by simp) rfl
                have p3 : done 3 = true := by cases ho; exact hdep ⟨3, .guard⟩ (by simp) rfl
                exact valG (θ := θ) (.int .i64 key.length) ho (by cases ho; simp [Region.wanted, yielded, HA.tm, lookT, go_sem, p3, p4]) (by cases ho; simp [execOp, go_sem, HA.tm, lookT, p3, p4]) (by cases ho; exact fun d hd => by cases hd; simp) (HJ)
              · have p5 : done 5 = true := by cases ho; exact hdep ⟨5, .data⟩ (by simp) rfl
                have p3 : done 3 = true := by cases ho; exact hdep ⟨3, .guard⟩ (by simp) rfl
                exact valG (θ := θ) (.bool false) ho (by cases ho; simp [Region.wanted, yielded, HA.tm, lookT, go_sem, p3, p5]) (by cases ho; simp [execOp, go_sem, HA.tm, lookT, p3, p5, h250, h250'] <;> omega) (by cases ho; exact fun d hd => by cases hd; simp) (HJ)
              · have p3 : done 3 = true := by cases ho; exact hdep ⟨3, .data⟩ (by simp) rfl
                have p6 : done 6 = true := by cases ho; exact hdep ⟨6, .data⟩ (by simp) rfl
                exact valG (θ := θ) (.bool false) ho (by cases ho; rfl) (by cases ho; simp [execOp, go_sem, HA.tm, lookT, p3, p6]) (by cases ho; exact fun d hd => by cases hd; simp) (HJ)
              · have p7 : done 7 = true := by cases ho; exact hdep ⟨7, .data⟩ (by simp) rfl
                exact valG (θ := θ) (.bool false) ho (by cases ho; rfl) (by cases ho; simp [execOp, go_sem, HA.tm, lookT, p7]) (by cases ho; exact fun d hd => by cases hd; simp) (HJ)
              · have p8 : done 8 = true := by cases ho; exact hdep ⟨8, .guard⟩ (by simp) rfl
                exact valG (θ := θ) (.pointer (some ⟨mb, 0, none⟩)) ho (by cases ho; simp [Region.wanted, yielded, HA.tm, lookT, go_sem, p8]) (by cases ho; simp [execOp, go_sem, HA.tm, lookT, p8]) (by cases ho; exact fun d hd => by cases hd; simp) (HJ)
              · have p8 : done 8 = true := by cases ho; exact hdep ⟨8, .guard⟩ (by simp) rfl
                exact loadG (θ := θ) (v := (.agg (qL (getQ key) fa none fc 0).toArray)) 35 (.tmp 23) ho (by cases ho; simp [Region.wanted, yielded, HA.tm, lookT, go_sem, p8]) (by cases ho; rfl) (by simp [HA.ev, HA.tm, lookT, Act.eval, p8]) (run_loadAt_mid WW gb 0 35 (qL (getQ key) fa none fc 0) _ (HJ.out.range (.tail _ (.head _))) Try.underlying35 rfl (by kernel_rfl)) (by cases ho; exact fun d hd => by cases hd; simp) (HJ)
              · have p8 : done 8 = true := by cases ho; exact hdep ⟨8, .guard⟩ (by simp) rfl
                exact callG (θ := θ) (f := 9) (args := #[.int .i64 1]) ho (by cases ho; simp [Region.wanted, yielded, HA.tm, lookT, go_sem, p8]) (by cases ho; simp [execOp, go_sem, HA.tm, lookT, p8]) (fail9 WW 1) (by
                  rintro e w' ⟨rfl, h⟩
                  exact ⟨_, (), rfl, by cases ho; exact fun d hd => by cases hd; simp, .inl rfl, HJ.out.below h⟩)
              · have p8 : done 8 = true := by cases ho; exact hdep ⟨8, .guard⟩ (by simp) rfl
                exact valG (θ := θ) (.int .u32 now) ho (by cases ho; simp [Region.wanted, yielded, HA.tm, lookT, go_sem, p8]) (by cases ho; simp [execOp, go_sem, HA.tm, lookT, p8]) (by cases ho; exact fun d hd => by cases hd; simp) (HJ)
              · have p9 : done 9 = true := by cases ho; exact hdep ⟨9, .data⟩ (by simp) rfl
                have p10 : done 10 = true := by cases ho; exact hdep ⟨10, .data⟩ (by simp) rfl
                have p11 : done 11 = true := by cases ho; exact hdep ⟨11, .data⟩ (by simp) rfl
                have p12 : done 12 = true := by cases ho; exact hdep ⟨12, .data⟩ (by simp) rfl
                have p8 : done 8 = true := by cases ho; exact hdep ⟨8, .guard⟩ (by simp) rfl
                exact callG (θ := θ) (f := 13) (args := #[.pointer (some ⟨mb, 0, none⟩), .agg (qL (getQ key) fa none fc 0).toArray, ansV 1 (.slice none 0 0) 0 0 0 (.slice none 0 0) false, .int .u32 now]) ho (by cases ho; simp [Region.wanted, yielded, HA.tm, lookT, go_sem, p8, p9, p10, p11, p12]) (by cases ho; simp [execOp, go_sem, HA.tm, lookT, p8, p9, p10, p11, p12]) (HAK.out WW HJ) (by
                  rintro e w' ⟨rfl, h⟩
                  exact ⟨_, (), rfl, by cases ho; exact fun d hd => by cases hd; simp, .inl rfl, h⟩)
              · have p8 : done 8 = true := by cases ho; exact hdep ⟨8, .data⟩ (by simp) rfl
                have p13 : done 13 = true := by cases ho; exact hdep ⟨13, .data⟩ (by simp) rfl
                exact valG (θ := θ) (.bool true) ho (by cases ho; rfl) (by cases ho; simp [execOp, go_sem, HA.tm, lookT, p8, p13]) (by cases ho; exact fun d hd => by cases hd; simp) (HJ)
              · have p14 : done 14 = true := by cases ho; exact hdep ⟨14, .data⟩ (by simp) rfl
                exact valG (θ := θ) (.bool true) ho (by cases ho; rfl) (by cases ho; simp [execOp, go_sem, HA.tm, lookT, p14]) (by cases ho; exact fun d hd => by cases hd; simp) (HJ)
            · intro θ done W9 hall HJ0
              have z0 := hall 0 (by decide)
              have z1 := hall 1 (by decide)
              have z2 := hall 2 (by decide)
              have z3 := hall 3 (by decide)
              have z4 := hall 4 (by decide)
              have z5 := hall 5 (by decide)
              have z6 := hall 6 (by decide)
              have z7 := hall 7 (by decide)
              have z8 := hall 8 (by decide)
              have z9 := hall 9 (by decide)
              have z10 := hall 10 (by decide)
              have z11 := hall 11 (by decide)
              have z12 := hall 12 (by decide)
              have z13 := hall 13 (by decide)
              have z14 := hall 14 (by decide)
              have z15 := hall 15 (by decide)
              try simp only [z0, z1, z2, z3, z4, z5, z6, z7, z8, z9, z10, z11, z12, z13, z14, z15] at HJ0
              clear hall z0 z1 z2 z3 z4 z5 z6 z7 z8 z9 z10 z11 z12 z13 z14 z15
              simp only [putAll, Act.put, List.setIfInBounds_toArray, List.set_cons_succ, List.set_cons_zero]
              have HF := Lib.hid HJ0.out.lw.bel
              clear HJ0
              go_wp2_with fail
              go_ret
              exact ⟨rfl, HF.out⟩
end Go.Proofs.Ytngpffmgkponfaa
