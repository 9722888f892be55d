/- ideal.Map's Crash. Conditions: the map lies in memory. ideal.Map's Safe. Conditions: the map, the key lie in memory. The worlds of the law IdealRefuses: the map of versions, the law's cache, the tokens of what was outdone, and what the law holds besides. No condition. -/
import Derived.Test.YtngpffmgkponfaaMpo
import Derived.Test.YtngpffmgkponfaaTks

section
set_option linter.unusedVariables false
set_option linter.unusedSimpArgs false
namespace Go.Proofs.Ytngpffmgkponfaa
open Go.RowKit Go.Ice Go.Idl
/-- An entry behind a crash. -/
def crashV (v : Value) : Value := match v with
  | .agg cs => .agg #[cs.getD 1 undef, cs.getD 1 undef]
  | x => x
structure CrsI (w : World) (kb rg : Nat) (F : List UInt8 → Option Value) (n : Nat) (W : World) : Prop where
  frm : Frm (fun b => b = kb) w W
  it : ∃ done F', MapRg strV W kb rg F' done n ∧ ∀ k, F' k = if done k then (F k).map crashV else F k
  hrg : w.heap.size ≤ rg
set_option maxHeartbeats 4000000 in
set_option maxRecDepth 20000 in
theorem crash15 (w : World) (C : Nat → Prop) (mb kb : Nat) (Y : St) (F : List UInt8 → Option Value) (h : MapRep w C mb kb Y F) : Calls Try.prog 15 #[.pointer (some ⟨mb, 0, none⟩)] w fun e w' => e = .returned (.int .i64 0) ∧ Frm (fun b => b = kb) w w' ∧ MapAt strV w' kb (fun k => (F k).map crashV) := by
  have H := Lib.hid h
  obtain ⟨n, w1, hrange, hrg, hb1⟩ := h.map.range (P := Try.prog) Try.underlying59
  have m0 : w.cell? ⟨mb, 0, none⟩ = some (.map (some kb)) := blk_cell h.blk 0
  have HI0 : Hid (CrsI w kb w.heap.size F n w1) := ⟨frm_below hb1, ⟨_, _, hrg, fun k => by simp⟩, Nat.le_refl _⟩
  obtain ⟨rg, hrgn⟩ : ∃ r, r = w.heap.size := ⟨_, rfl⟩
  rw [← hrgn] at hrange HI0
  clear h hrg hb1 hrgn
  go_enter Try.func15, Try.ntmps15
  go_wp2_with fail
  go_loopg [3, 4] n (fun gg b3 b4 wr => Hid (CrsI w kb rg F gg wr))
  case atStart => exact HI0.out
  case round =>
    have HI := Lib.hid (show CrsI w kb rg F gk wr from hrel.out)
    obtain ⟨done, F', hrg, hF⟩ := HI.out.it
    rcases hrg.next (P := Try.prog) strKey.inj 0 with ⟨hall, hnx⟩ | ⟨k, v, w2, n', hFk, hdk, hnx, hrg2, hlt, hf2, hen⟩
    · have hfin : MapAt strV wr kb (fun k => (F k).map crashV) := by
        have : F' = fun k => (F k).map crashV := by
          funext k
          rw [hF k]
          cases hd : done k with
          | true => rfl
          | false =>
            have hFk := hF k
            rw [hd] at hFk
            simp only [Bool.false_eq_true, if_false] at hFk ⊢
            cases hv : F k with
            | none => rfl
            | some v => rw [hv] at hFk; have := hall k v hFk; rw [hd] at this; cases this
        rw [← this]; exact hrg.at
      have HFI := Lib.hid hfin
      clear hfin hall hrg hF
      go_wp2_with fail
      go_ret
      exact ⟨rfl, HI.out.frm, HFI.out⟩
    · have hFk0 : F k = some v := by have := hF k; rw [hdk] at this; simp only [Bool.false_eq_true, if_false] at this; rw [← this]; exact hFk
      obtain ⟨a1, n1, c1, a2, n2, c2, eF, _, _⟩ := H.out.at_ k
      rw [hFk0] at eF
      have eF : v = .agg #[.slice a1 n1 c1, .slice a2 n2 c2] := eF
      subst eF
      obtain ⟨vb, W3, HB, HW, HK, HZ⟩ := boxed1 w2 #[.slice a1 n1 c1, .slice a2 n2 c2] 72
      have hl := hrg2.lt
      have hrg3 : MapRg strV W3.drew kb rg F' (fun k' => decide (k' = k) || done k') n' := hrg2.keep (HK.out.below.block kb hl.1) (HK.out.below.block rg hl.2.1)
      obtain ⟨w5, hup, hrg5, hf5⟩ := hrg3.update (P := Try.prog) strKey Try.underlying59 Try.underlying9 k (.agg #[.slice a2 n2 c2, .slice a2 n2 c2]) (by rw [hFk]; simp)
      have hml : mb < w.heap.size := blk_lt H.out.blk
      have hfw2 : Frm (fun b => b = kb) w w2 := ((HI.out.frm.mono (T := fun b => b = kb ∨ b = rg) fun _ _ e => .inl e).trans (hf2.mono fun _ _ e => .inr e)).mono fun b hb e => by
        rcases e with e | e
        · exact e
        · have := HI.out.hrg; omega
      have hfw5 : Frm (fun b => b = kb) w w5 := ((hfw2.trans (frm_below HK.out.below)).drew).trans hf5
      have mW : W3.cell? ⟨mb, 0, none⟩ = some (.map (some kb)) := ((hfw2.trans (frm_below HK.out.below)).cell (p := ⟨mb, 0, none⟩) hml H.out.ne).trans m0
      have m5 : w5.cell? ⟨mb, 0, none⟩ = some (.map (some kb)) := (hfw5.cell (p := ⟨mb, 0, none⟩) hml H.out.ne).trans m0
      have b1 : W3.cell? ⟨vb, 1, none⟩ = some (.slice a2 n2 c2) := blk_cell HK.out.b0 1
      have hvk : vb ≠ kb := by have := HB.out; have := hl.1; omega
      have b15 : w5.cell? ⟨vb, 1, none⟩ = some (.slice a2 n2 c2) := (hf5.cell (p := ⟨vb, 1, none⟩) (blk_lt HK.out.b0) hvk).trans b1
      have HN : Hid (CrsI w kb rg F n' w5) := ⟨hfw5, ⟨_, _, hrg5, fun k' => by
        by_cases e : k' = k
        · subst e
          simp [hFk0, crashV]
        · simp only [e, if_false, decide_false, Bool.false_or]
          exact hF k'⟩, HI.out.hrg⟩
      clear hrg hF hFk hdk hrg2 hf2 hrg3 hrg5 hf5 hfw2 hfw5 hFk0 hl
      go_upto_region 6 with fail
      rw [HB.out, HW.out]
      go_region_held3 (fun w' => w'.cell? ⟨mb, 0, none⟩ = some (.map (some kb)) ∧ w'.cell? ⟨vb, 1, none⟩ = some (.slice a2 n2 c2)) (first | exact ⟨mW, b1⟩ | exact ⟨m5, b15⟩) (first | fail)
      all_goals
        go_wp2_with fail
        go_roundg n'
        case measure => exact hlt
        case rel => exact HN.out
theorem crash_o (w : World) (B : Nat) (O : Nat → Prop) (mb : Nat) (Y : St) (h : MapO w B O mb Y) : Calls Try.prog 15 #[.pointer (some ⟨mb, 0, none⟩)] w fun e w' => e = .returned (.int .i64 0) ∧ MapO w' B O mb ⟨Y.safe, Y.safe, Y.tok⟩ ∧ MFrm B O mb w w' := by
  obtain ⟨h1, h2, h3, kb, F, h4, h5, hr⟩ := h
  refine (crash15 w _ mb kb Y F hr).mono ?_
  rintro e w' ⟨he, hf, hm⟩
  have hs := hf.size
  refine ⟨he, ⟨h1, h2, fun b hb => Nat.lt_of_lt_of_le (h3 b hb) hs, kb, _, h4, h5, ⟨(hf.block mb (blk_lt hr.blk) hr.ne).trans hr.blk, hm, fun k => ?_, hr.tok, fun e => e.2.1 h1, fun e => e.2.2 rfl, hr.ne⟩⟩, MFrm.of (hf.mono fun _ _ e => .inr e) h4 h5 hr.map⟩
  obtain ⟨a1, n1, c1, a2, n2, c2, eF, g1, g2⟩ := hr.at_ k
  have hv : VersAt w' (fun b => b < w'.heap.size ∧ ¬ O b ∧ b ≠ kb) (.slice a2 n2 c2) (Y.safe k) := (g2.frm hf (fun b hb e => hb.2.2 e)).mono fun b h1 h2 => ⟨h1, h2.2⟩
  cases hv' : F k with
  | none =>
    rw [hv'] at eF
    have eF : versZ = .agg #[.slice a1 n1 c1, .slice a2 n2 c2] := eF
    unfold versZ at eF
    injection eF with eF
    simp at eF
    obtain ⟨⟨rfl, rfl, rfl⟩, rfl, rfl, rfl⟩ := eF
    exact ⟨none, 0, 0, none, 0, 0, rfl, hv, hv⟩
  | some v =>
    rw [hv'] at eF
    have eF : v = .agg #[.slice a1 n1 c1, .slice a2 n2 c2] := eF
    subst eF
    exact ⟨a2, n2, c2, a2, n2, c2, rfl, hv, hv⟩
end Go.Proofs.Ytngpffmgkponfaa
end

section
set_option linter.unusedVariables false
set_option linter.unusedSimpArgs false
namespace Go.Proofs.Ytngpffmgkponfaa
open Go.RowKit Go.Ice Go.Idl
set_option maxHeartbeats 4000000 in
set_option maxRecDepth 20000 in
theorem safe_o (w : World) (B : Nat) (O : Nat → Prop) (mb : Nat) (Y : St) (h : MapO w B O mb Y) (ka : Option Addr) (kc : Nat) (key : List UInt8) (hkey : BytesAt w (.slice ka key.length kc) key) (hlen : (Y.safe key).length ≤ 10000) :
    Calls Try.prog 17 #[.pointer (some ⟨mb, 0, none⟩), .slice ka key.length kc] w fun e w' => ∃ v, e = .returned v ∧ VersAt w' (fun b => w.heap.size ≤ b) v (sortT (Y.safe key)) ∧ Below w.heap.size w w' := by
  obtain ⟨_, _, _, kb, F, _, _, hr⟩ := h
  obtain ⟨a1, n1, c1, a2, n2, c2, eF, hv1, hv2⟩ := hr.at_ key
  have hlk : (Instr.lookup 59 (.map (some kb)) (.string ⟨key.toArray⟩) false).run Try.prog w.drew = .ok (.agg #[.slice a1 n1 c1, .slice a2 n2 c2]) w.drew := by
    rw [hr.look (w' := w.drew) key rfl, eF]
  have hf1 : ∀ W, (Instr.field 72 (.agg #[.slice a1 n1 c1, .slice a2 n2 c2]) 1).run Try.prog W = .ok (.slice a2 n2 c2) W := fun _ => by kernel_rfl
  have hcv := convert_sl (P := Try.prog) (w := w.drew) 23 5 Try.underlying23 Try.underlying5 (hkey.below (hbelow_drew w) (Nat.le_refl _)) 9 Try.underlying9
  have m0 : w.cell? ⟨mb, 0, none⟩ = some (.map (some kb)) := blk_cell hr.blk 0
  have HS := Lib.hid (sorted29 w.drew _ _ (Y.safe key) (hv2.below (hbelow_drew w)) (by omega : (Y.safe key).length ≤ 100000))
  have HMP := Lib.hid hr
  have HS1 : Hid (∀ W : World, Below w.heap.size w W → W.cell? ⟨mb, 0, none⟩ = some (.map (some kb)) ∧ (convert 23 9 (.slice ka key.length kc)).run Try.prog W = .ok (.string ⟨key.toArray⟩) W ∧ (Instr.lookup 59 (.map (some kb)) (.string ⟨key.toArray⟩) false).run Try.prog W = .ok (.agg #[.slice a1 n1 c1, .slice a2 n2 c2]) W) := fun W hb =>
    ⟨cellB hb m0, convert_sl (P := Try.prog) (w := W) 23 5 Try.underlying23 Try.underlying5 (hkey.below hb (Nat.le_refl _)) 9 Try.underlying9, by rw [hr.look (w' := W) key (hb.block kb hr.map.lt), eF]⟩
  clear hr eF hv1 hv2 hkey
  go_enter Try.func17, Try.ntmps17
  go_wp2_with fail
  go_region_held3 (fun w' => w'.cell? ⟨mb, 0, none⟩ = some (.map (some kb)) ∧ (convert 23 9 (.slice ka key.length kc)).run Try.prog w' = .ok (.string ⟨key.toArray⟩) w' ∧ (Instr.lookup 59 (.map (some kb)) (.string ⟨key.toArray⟩) false).run Try.prog w' = .ok (.agg #[.slice a1 n1 c1, .slice a2 n2 c2]) w') (first | exact ⟨m0, hcv, hlk⟩ | exact s1) (first | (go_at_call 29; refine HS.out.mono ?_; rintro e w1 ⟨v', rfl, hv', hb1⟩; obtain ⟨ra, rc, rfl, _⟩ := hv'.form; have hb1 : Below w.heap.size w w1 := (hbelow_drew w).trans hb1; have s1 := HS1.out w1 hb1; have HB1 := Lib.hid hb1; have HV1 := Lib.hid hv'; clear hb1 hv'))
  all_goals
    go_wp2_with fail
    go_ret
    exact ⟨_, rfl, HV1.out, HB1.out⟩
end Go.Proofs.Ytngpffmgkponfaa
end

section
set_option linter.unusedVariables false
set_option linter.unusedSimpArgs false
namespace Go.Proofs.Ytngpffmgkponfaa
open Go.RowKit Go.Ice Go.Idl
def u64V (x : Int) : Value := .int .u64 x
theorem u64Key : KeyFn (.int .u64) u64V where
  is k := rfl
  inj a b h := by unfold u64V at h; injection h
  bits k := by unfold Instr.sameBits u64V; simp
def deadF (D : Int → Bool) (x : Int) : Option Value := if D x then some (.bool true) else none
def OD (mb cb ck db : Nat) (b : Nat) : Prop := b = mb ∨ b = cb ∨ b = ck ∨ b = db
structure LawD (w : World) (m : Nat) (out : Value) (cs : List Value) (mb cb ck db : Nat) (D : Int → Bool) (Y : St) (c : Ca) (W : World) : Prop where
  bel : Below w.heap.size w W
  mo : MapO W w.heap.size (OD mb cb ck db) mb Y
  ca : CaAt W (fun b => ¬ OD mb cb ck db b) cb ck c
  row : W.ownsRow w.heap.size 40 22 out m cs
  dm : MapAt u64V W db (deadF D)
  cbw : w.heap.size ≤ cb
  ckw : w.heap.size ≤ ck
  dbw : w.heap.size ≤ db
  dk : db ≠ ck
section
variable {w W W' : World} {m : Nat} {out : Value} {cs : List Value} {mb cb ck db : Nat} {D D' : Int → Bool} {Y Y' : St} {c c' : Ca}
theorem LawD.cm (h : LawD w m out cs mb cb ck db D Y c W) : cb ≠ mb ∧ ck ≠ mb ∧ cb ≠ ck ∧ db ≠ mb ∧ db ≠ cb := by
  obtain ⟨x, hx⟩ := h.mo.blk
  obtain ⟨G, hm, _⟩ := h.ca.map
  refine ⟨?_, ?_, h.ca.ne, ?_, ?_⟩
  · rintro rfl
    have := h.ca.blk
    rw [hx] at this; injection this with this; injection this with _ e; cases e
  · rintro rfl; exact mapAt_block hm hx
  · rintro rfl
    obtain ⟨es, cl, hI⟩ := h.dm
    rw [hI.heap] at hx; cases hx
  · rintro rfl
    obtain ⟨es, cl, hI⟩ := h.dm
    have := h.ca.blk
    rw [hI.heap] at this; cases this
/-- A block of cells of another type is none of the law's. -/
theorem LawD.none_of (h : LawD w m out cs mb cb ck db D Y c W) {g : Nat} {x : Array Value} {e : TypeId} {fz : Nat × Nat} (hg : W.heap[g]? = some (.cells x e fz)) (h1 : e ≠ 61) (h2 : e ≠ 31) : ¬ OD mb cb ck db g := by
  rintro (rfl | rfl | rfl | rfl)
  · obtain ⟨x, hx⟩ := h.mo.blk
    rw [hx] at hg; injection hg with hg; injection hg with _ e; exact h1 e.symm
  · have := h.ca.blk
    rw [hg] at this; injection this with this; injection this with _ e; exact h2 e
  · obtain ⟨G, hm, _⟩ := h.ca.map
    obtain ⟨es, cl, hI⟩ := hm
    rw [hI.heap] at hg; cases hg
  · obtain ⟨es, cl, hI⟩ := h.dm
    rw [hI.heap] at hg; cases hg
theorem LawD.rown (h : LawD w m out cs mb cb ck db D Y c W) {g : Nat} (hg : out.ownBlock = some g) : ¬ OD mb cb ck db g ∧ g < W.heap.size ∧ ∃ x, W.heap[g]? = some (.cells x 40 (0, 0)) := by
  obtain ⟨y, hy⟩ := own_block h.row hg
  exact ⟨h.none_of hy (by decide) (by decide), (h.row.lt g hg).2, y, hy⟩
theorem LawD.below (h : LawD w m out cs mb cb ck db D Y c W) (hb : Below W.heap.size W W') : LawD w m out cs mb cb ck db D Y c W' :=
  ⟨h.bel.trans (hb.mono h.bel.size), h.mo.below hb, h.ca.below hb, own_belowK h.row hb (Nat.le_refl _), h.dm.below hb (Nat.le_refl _), h.cbw, h.ckw, h.dbw, h.dk⟩
theorem CaAt.mfrmO {B : Nat} {O : Nat → Prop} (h : CaAt W (fun b => ¬ O b) cb ck c) (hm : O mb) (h1 : cb ≠ mb) (h2 : ck ≠ mb) (hk : O ck) (hf : MFrm B O mb W W') : CaAt W' (fun b => ¬ O b) cb ck c := by
  obtain ⟨G, hm', ha⟩ := h.map
  refine ⟨hf.blk h.blk h1, ⟨G, hm'.keep (hf.block ck hm'.lt (by
    rintro (e | ⟨_, e, _⟩)
    · exact h2 e
    · exact e hk)), fun k => ?_⟩, h.bnd, h.eb, h.ek⟩
  rcases ha k with h3 | ⟨t, x, h3, h4, h5, h6⟩
  · exact .inl h3
  · exact .inr ⟨t, x, h3, h4, h5.mfrm hm hf, h6⟩
theorem LawD.mstep (h : LawD w m out cs mb cb ck db D Y c W) (hm : MapO W' w.heap.size (OD mb cb ck db) mb Y') (hf : MFrm w.heap.size (OD mb cb ck db) mb W W') : LawD w m out cs mb cb ck db D Y' c W' := by
  have hc := h.cm
  refine ⟨h.bel.trans (Frm.below hf (fun b hb e => ?_) h.bel.size), hm, h.ca.mfrmO (.inl rfl) hc.1 hc.2.1 (.inr (.inr (.inl rfl))) hf, own_keep h.row fun g hg => ?_, h.dm.keep (hf.block db h.dm.lt ?_), h.cbw, h.ckw, h.dbw, h.dk⟩
  · rcases e with e | ⟨e, _⟩
    · have := h.mo.hB; omega
    · omega
  · obtain ⟨h1, h2, x, h3⟩ := h.rown hg
    refine hf.block g h2 ?_
    rintro (e | ⟨_, _, es, cl, e⟩)
    · exact h1 (.inl e)
    · rw [h3] at e; cases e
  · rintro (e | ⟨_, e, _⟩)
    · exact hc.2.2.2.1 e
    · exact e (.inr (.inr (.inr rfl)))
theorem LawD.cstep (h : LawD w m out cs mb cb ck db D Y c W) (hc : CaAt W' (fun b => ¬ OD mb cb ck db b) cb ck c') (hf : Frm (fun b => b = cb ∨ b = ck) W W') : LawD w m out cs mb cb ck db D Y c' W' := by
  have hcm := h.cm
  refine ⟨h.bel.trans (hf.below (fun b hb e => ?_) h.bel.size), h.mo.frm hf (fun b _ e => ⟨?_, ?_⟩) (fun b e => .inl e) (fun b e => Nat.lt_of_lt_of_le (h.mo.hO b e) hf.size) (.inl rfl), hc, own_keep h.row fun g hg => hf.block g (h.rown hg).2.1 fun e => (h.rown hg).1 ?_, h.dm.frm hf ?_, h.cbw, h.ckw, h.dbw, h.dk⟩
  · have := h.cbw; have := h.ckw; rcases e with e | e <;> omega
  · rcases e with e | e
    · exact .inr (.inl e)
    · exact .inr (.inr (.inl e))
  · rcases e with e | e
    · rw [e]; exact hcm.1
    · rw [e]; exact hcm.2.1
  · rcases e with e | e
    · exact .inr (.inl e)
    · exact .inr (.inr (.inl e))
  · rintro (e | e)
    · exact hcm.2.2.2.2 e
    · exact h.dk e
theorem LawD.dstep (h : LawD w m out cs mb cb ck db D Y c W) (hd : MapAt u64V W' db (deadF D')) (hf : Frm (fun b => b = db) W W') : LawD w m out cs mb cb ck db D' Y c W' := by
  have hcm := h.cm
  refine ⟨h.bel.trans (hf.below (fun b hb e => by have := h.dbw; omega) h.bel.size), h.mo.frm hf (fun b _ e => ⟨.inr (.inr (.inr e)), by rw [e]; exact hcm.2.2.2.1⟩) (fun b e => .inl e) (fun b e => Nat.lt_of_lt_of_le (h.mo.hO b e) hf.size) (.inl rfl), h.ca.frm hf (fun e => hcm.2.2.2.2 e.symm) (fun e => h.dk e.symm) (fun b hb e => hb (.inr (.inr (.inr e)))), own_keep h.row fun g hg => hf.block g (h.rown hg).2.1 fun e => (h.rown hg).1 (.inr (.inr (.inr e))), hd, h.cbw, h.ckw, h.dbw, h.dk⟩
/-- What came in ahead lies apart from what the law owns. -/
theorem LawD.inOld (h : LawD w m out cs mb cb ck db D Y c W) {v : Value} {l : List UInt8} (hl : BytesAt w v l) : BytesIn W (fun b => ¬ OD mb cb ck db b) v l := by
  have h0 : BytesIn w (fun b => b < w.heap.size) v l := ⟨hl, fun hne b hb => by
    rcases hl with ⟨e, _⟩ | ⟨_, b', off, cap, hv, _, _, h3, _⟩
    · simp at e; exact absurd e hne
    · rw [hv] at hb; cases hb; exact h3⟩
  have h1 := h0.frm (S := fun _ => False) (C := fun b => b < w.heap.size) ((frm_below (h.bel)) : Frm (fun _ => False) w W) (fun _ _ h => h)
  refine ⟨h1.1, fun hne b hb e => ?_⟩
  have := h1.2 hne b hb
  have h2 := h.mo.hB
  have h3 := h.cbw
  have h4 := h.ckw
  have h5 := h.dbw
  rcases e with e | e | e | e <;> omega
/-- What the law holds besides: blocks of its own, bytes. -/
structure RefJ (w : World) (m : Nat) (out : Value) (cs : List Value) (mb cb ck db : Nat) (L : List (Nat × List Value × TypeId)) (B : List (Value × List UInt8)) (D : Int → Bool) (Y : St) (c : Ca) (W : World) : Prop where
  lw : LawD w m out cs mb cb ck db D Y c W
  loc : ∀ p ∈ L, W.heap[p.1]? = some (.cells p.2.1.toArray p.2.2 (0, 0)) ∧ p.2.2 ≠ 61 ∧ p.2.2 ≠ 31
  byt : ∀ p ∈ B, BytesIn W (fun b => ¬ OD mb cb ck db b) p.1 p.2
variable {L L' : List (Nat × List Value × TypeId)} {B B' : List (Value × List UInt8)}
theorem RefJ.below (h : RefJ w m out cs mb cb ck db L B D Y c W) (hb : Below W.heap.size W W') : RefJ w m out cs mb cb ck db L B D Y c W' :=
  ⟨h.lw.below hb, fun p hp => ⟨(hb.block p.1 (Array.getElem?_eq_some_iff.1 (h.loc p hp).1).1).trans (h.loc p hp).1, (h.loc p hp).2⟩, fun p hp => (h.byt p hp).frm (S := fun _ => False) (frm_below hb) (fun _ _ h => h)⟩
theorem RefJ.mstep (h : RefJ w m out cs mb cb ck db L B D Y c W) (hm : MapO W' w.heap.size (OD mb cb ck db) mb Y') (hf : MFrm w.heap.size (OD mb cb ck db) mb W W') : RefJ w m out cs mb cb ck db L B D Y' c W' :=
  ⟨h.lw.mstep hm hf, fun p hp => ⟨hf.fblk (h.loc p hp).1 (fun e => h.lw.none_of (h.loc p hp).1 (h.loc p hp).2.1 (h.loc p hp).2.2 (.inl e)), (h.loc p hp).2⟩, fun p hp => (h.byt p hp).mfrm (.inl rfl) hf⟩
theorem RefJ.frmO {S : Nat → Prop} (h : RefJ w m out cs mb cb ck db L B D Y c W) (hl : LawD w m out cs mb cb ck db D' Y' c' W') (hf : Frm S W W') (hS : ∀ b, S b → OD mb cb ck db b) : RefJ w m out cs mb cb ck db L B D' Y' c' W' :=
  ⟨hl, fun p hp => ⟨(hf.block p.1 (Array.getElem?_eq_some_iff.1 (h.loc p hp).1).1 (fun e => h.lw.none_of (h.loc p hp).1 (h.loc p hp).2.1 (h.loc p hp).2.2 (hS _ e))).trans (h.loc p hp).1, (h.loc p hp).2⟩, fun p hp => (h.byt p hp).frm hf (fun b hb e => hb (hS b e))⟩
theorem RefJ.cstep (h : RefJ w m out cs mb cb ck db L B D Y c W) (hc : CaAt W' (fun b => ¬ OD mb cb ck db b) cb ck c') (hf : Frm (fun b => b = cb ∨ b = ck) W W') : RefJ w m out cs mb cb ck db L B D Y c' W' :=
  h.frmO (h.lw.cstep hc hf) hf (fun b e => by rcases e with e | e; exact .inr (.inl e); exact .inr (.inr (.inl e)))
theorem RefJ.dstep (h : RefJ w m out cs mb cb ck db L B D Y c W) (hd : MapAt u64V W' db (deadF D')) (hf : Frm (fun b => b = db) W W') : RefJ w m out cs mb cb ck db L B D' Y c W' :=
  h.frmO (h.lw.dstep hd hf) hf (fun b e => .inr (.inr (.inr e)))
theorem RefJ.sub (h : RefJ w m out cs mb cb ck db L B D Y c W) (hL : ∀ p ∈ L', p ∈ L) (hB : ∀ p ∈ B', p ∈ B) : RefJ w m out cs mb cb ck db L' B' D Y c W :=
  ⟨h.lw, fun p hp => h.loc p (hL p hp), fun p hp => h.byt p (hB p hp)⟩
theorem RefJ.addB (h : RefJ w m out cs mb cb ck db L B D Y c W) {v : Value} {l : List UInt8} (hb : BytesIn W (fun b => ¬ OD mb cb ck db b) v l) : RefJ w m out cs mb cb ck db L ((v, l) :: B) D Y c W :=
  ⟨h.lw, h.loc, fun p hp => by
    rcases List.mem_cons.1 hp with rfl | hp
    · exact hb
    · exact h.byt p hp⟩
theorem RefJ.addL (h : RefJ w m out cs mb cb ck db L B D Y c W) {b : Nat} {l : List Value} {e : TypeId} (hb : W.heap[b]? = some (.cells l.toArray e (0, 0))) (h1 : e ≠ 61) (h2 : e ≠ 31) : RefJ w m out cs mb cb ck db ((b, l, e) :: L) B D Y c W :=
  ⟨h.lw, fun p hp => by
    rcases List.mem_cons.1 hp with rfl | hp
    · exact ⟨hb, h1, h2⟩
    · exact h.loc p hp, h.byt⟩
/-- A new variable, written whole. -/
theorem RefJ.whole (h : RefJ w m out cs mb cb ck db L B D Y c W) {zs : Array Value} {e : TypeId} {vs : List Value} (hz : zs.size = vs.length) (h1 : e ≠ 61) (h2 : e ≠ 31) {b : Nat} (hb : W.heap.size = b) : RefJ w m out cs mb cb ck db ((b, vs, e) :: L) B D Y c ((W.alloc (.cells zs e)).setCells W.heap.size 0 vs) := by
  have hk := blk_whole (w := W) (zs := zs) (e := e) (vs := vs) hz
  exact (h.below hk.2).addL (hb ▸ hk.1) h1 h2
theorem RefJ.alloc (h : RefJ w m out cs mb cb ck db L B D Y c W) {e : TypeId} {vs : List Value} (h1 : e ≠ 61) (h2 : e ≠ 31) {b : Nat} (hb : W.heap.size = b) : RefJ w m out cs mb cb ck db ((b, vs, e) :: L) B D Y c (W.alloc (.cells vs.toArray e)) :=
  (h.below ((Below.refl _ W).alloc (Nat.le_refl _) _)).addL (hb ▸ heap_alloc_new W _) h1 h2
theorem RefJ.range (h : RefJ w m out cs mb cb ck db L B D Y c W) {b : Nat} {l : List Value} {e : TypeId} (hp : (b, l, e) ∈ L) : W.rangeAt b 0 l := rangeAt_blk (h.loc _ hp).1
theorem RefJ.cell (h : RefJ w m out cs mb cb ck db L B D Y c W) {b : Nat} {l : List Value} {e : TypeId} (hp : (b, l, e) ∈ L) (j : Nat) : W.cell? ⟨b, j, none⟩ = l[j]? := by
  rw [blk_cell (h.loc _ hp).1]; simp
theorem RefJ.drew (h : RefJ w m out cs mb cb ck db L B D Y c W) : RefJ w m out cs mb cb ck db L B D Y c W.drew := h.below (hbelow_drew W)
/-- The contracts. -/
theorem RefJ.ask (h : RefJ w m out cs mb cb ck db L B D Y c W) (q : Rq) (ka va : Option Addr) (kc vc : Nat) (a : An) (aa : Option Addr) (ac : Nat) (hkey : BytesIn W (fun b => ¬ OD mb cb ck db b) (.slice ka q.key.length kc) q.key) (hval : BytesIn W (fun b => ¬ OD mb cb ck db b) (.slice va q.val.length vc) q.val)
    (hav : BytesIn W (fun b => ¬ OD mb cb ck db b) (.slice aa a.val.length ac) a.val) (hst : a.stats = []) (hq : Rq.ok q) (ha : An.ok a) (now : Int) (hnow : 0 ≤ now ∧ now ≤ 4294967295) (hl : (Y.now q.key).length ≤ 10000) (hqv : q.val.length ≤ 1000) (hh : q.here) (b : Bool) (hb : (lookF Y q a now).isSome = b) :
    Calls Try.prog 13 #[.pointer (some ⟨mb, 0, none⟩), .agg (qL q ka va kc vc).toArray, .agg (aL a aa ac none 0).toArray, .int .u32 now] W fun e w' => e = .returned (.bool b) ∧ Hid (RefJ w m out cs mb cb ck db L B D Y c w') := by
  have := allows_o W w.heap.size (OD mb cb ck db) mb q a now ⟨ka, kc, va, vc, aa, ac, none, 0, none, 0, 0⟩ Y h.lw.mo h.lw.bel.size hkey hval hav (by rw [hst]; exact StatsAt.nil _ _) hq ha hnow hl hqv hh
  rw [hb] at this
  exact this.mono fun e w' h' => ⟨h'.1, h.mstep h'.2.1 h'.2.2⟩
theorem RefJ.step (h : RefJ w m out cs mb cb ck db L B D Y c W) (q : Rq) (ka va : Option Addr) (kc vc : Nat) (a : An) (aa : Option Addr) (ac : Nat) (hkey : BytesIn W (fun b => ¬ OD mb cb ck db b) (.slice ka q.key.length kc) q.key) (hval : BytesIn W (fun b => ¬ OD mb cb ck db b) (.slice va q.val.length vc) q.val)
    (hav : BytesIn W (fun b => ¬ OD mb cb ck db b) (.slice aa a.val.length ac) a.val) (hst : a.stats = []) (hq : Rq.ok q) (ha : An.ok a) (now : Int) (hnow : 0 ≤ now ∧ now ≤ 4294967295) (hl : (Y.now q.key).length ≤ 10000) (hqv : q.val.length ≤ 1000) (hh : q.here) (hb : lookF Y q a now = some Y') :
    Calls Try.prog 10 #[.pointer (some ⟨mb, 0, none⟩), .agg (qL q ka va kc vc).toArray, .agg (aL a aa ac none 0).toArray, .int .u32 now] W fun e w' => e = .returned (.bool true) ∧ Hid (RefJ w m out cs mb cb ck db L B D Y' c w') := by
  have := step_o W w.heap.size (OD mb cb ck db) mb q a now ⟨ka, kc, va, vc, aa, ac, none, 0, none, 0, 0⟩ Y h.lw.mo h.lw.bel.size hkey hval hav (by rw [hst]; exact StatsAt.nil _ _) hq ha hnow hl hqv hh
  rw [hb] at this
  exact this.mono fun e w' h' => ⟨h'.1, h.mstep h'.2.1 h'.2.2⟩
theorem RefJ.crash (h : RefJ w m out cs mb cb ck db L B D Y c W) : Calls Try.prog 15 #[.pointer (some ⟨mb, 0, none⟩)] W fun e w' => e = .returned (.int .i64 0) ∧ Hid (RefJ w m out cs mb cb ck db L B D Y.crash c w') :=
  (crash_o W w.heap.size (OD mb cb ck db) mb Y h.lw.mo).mono fun e w' h' => ⟨h'.1, h.mstep h'.2.1 h'.2.2⟩
theorem RefJ.do (h : RefJ w m out cs mb cb ck db L B D Y c W) (q : Rq) (ka va : Option Addr) (kc vc : Nat) (hkey : BytesAt w (.slice ka q.key.length kc) q.key) (hval : BytesAt w (.slice va q.val.length vc) q.val) (hq : Rq.ok q) (hqv : q.val.length ≤ 1000) (hl : c.last < 1000000) (now : Int) (hnow : 0 ≤ now ∧ now ≤ 4294967295) :
    Calls Try.prog 12 #[.pointer (some ⟨cb, 0, none⟩), .agg (qL q ka va kc vc).toArray, .int .u32 now] W fun e w' => ∃ aa ac, e = .returned (.agg (aL (c.do q now).2 aa ac none 0).toArray) ∧ Hid (RefJ w m out cs mb cb ck db L ((.slice aa (c.do q now).2.val.length ac, (c.do q now).2.val) :: B) D Y (c.do q now).1 w') ∧ An.ok (c.do q now).2 := by
  refine (do12 W (fun b => ¬ OD mb cb ck db b) cb ck c h.lw.ca (fun b hb e => by have := h.lw.mo.hO b e; omega) q ⟨ka, kc, va, vc, none, 0, none, 0, none, 0, 0⟩ (h.lw.inOld hkey) (h.lw.inOld hval) hq hqv hl now hnow).mono ?_
  rintro e w' ⟨aa, ac, he, hb, hc, hf⟩
  refine ⟨aa, ac, ?_, (h.cstep hc hf).addB hb, do_ok h.lw.ca.bnd ?_ hq⟩
  · rw [he]
    unfold ansV aL
    rw [do_stats.1]
    rfl
  · obtain ⟨_, _, _, ht⟩ := h.lw.ca.look q.key
    exact ht
end
end Go.Proofs.Ytngpffmgkponfaa
end
