/- script.Parse, its walk. Conditions: the text; the variables are as laid. -/
import Derived.Test.YtelaijogjgcloaaDoorSpl
import Derived.WalkMore
import Derived.Deep.CutRange
set_option linter.unusedVariables false
set_option linter.unusedSimpArgs false
namespace Go.Proofs.YtelaijogjgcloaaDoor
open Go.RowKit Go.Ice Go.Scr

def zeroC : Array Value := #[.int .i64 0, .int .i64 0, .int .i64 0, .int .i64 0, .int .i64 0, .slice none 0 0]
def zeroS : Value := .agg #[.int .i64 0, .int .i64 0, .int .i64 0, .int .i64 0, .int .i64 0, .slice none 0 0]
/-- What Parse answers. -/
def ParOut (B : Nat) (w' : World) (t : Txt) (sv : Value) (k n : Int) : Prop :=
  if 262144 < t.length then sv = zeroS ∧ k = 0 ∧ n = 3 else match parseP t with
    | .ok s => (∃ v, sv = scrV s.plan v ∧ EvsOwn B w' v s.evs) ∧ k = 0 ∧ n = 0
    | .error j => sv = zeroS ∧ k = (j : Nat) ∧ n = 360
/-- While a text is read: the result's block, the script's, its events. -/
structure PrT (w : World) (A S : Nat) (p : Plan) (v : Value) (evs : List Ev) (W : World) : Prop where
  bel : Below w.heap.size w W
  a : W.heap[A]? = some (.cells #[.int .i64 0, .int .i64 0, .int .i64 0, .int .i64 0, .int .i64 0, .slice none 0 0] 26 (0, 0))
  s : W.heap[S]? = some (scrO p v)
  ev : EvsOwn (S + 1) W v evs
  hA : A = w.heap.size
  hS : S = w.heap.size + 1
theorem PrT.step {w : World} {A S : Nat} {p : Plan} {v : Value} {evs : List Ev} {W W' : World} (h : PrT w A S p v evs W) (hb : Below W.heap.size W W') : PrT w A S p v evs W' :=
  ⟨h.bel.trans (hb.mono h.bel.size), (hb.block A (blk_lt h.a)).trans h.a, (hb.block S (blk_lt h.s)).trans h.s, h.ev.below hb, h.hA, h.hS⟩
theorem PrT.app {w : World} {A S : Nat} {p : Plan} {v v' : Value} {evs evs' : List Ev} {W W' : World} (h : PrT w A S p v evs W) (hown : EvsOwn (S + 1) W' v' evs') (hf : Frm (fun k => v.ownBlock = some k) W W') : PrT w A S p v' evs' (W'.setCell ⟨S, 5, none⟩ v') := by
  have h1 := h.hA
  have h2 := h.hS
  have hlo : ∀ k, v.ownBlock = some k → S + 1 ≤ k := fun k hk => by
    obtain ⟨X, ho, _⟩ := h.ev
    exact (ho.lt k hk).1
  refine ⟨(h.bel.trans (hf.below (fun k hk e => by have := hlo k e; omega) h.bel.size)).setCell (by show w.heap.size ≤ S; omega) _, ?_, ?_, hown.keep (Nat.lt_succ_self S) (frm_set S 5 v'), h.hA, h.hS⟩
  · exact blk_set ((hf.block A (blk_lt h.a) (fun e => by have := hlo A e; omega)).trans h.a) (p := ⟨S, 5, none⟩) (by show A ≠ S; omega) _
  · exact set_at ((hf.block S (blk_lt h.s) (fun e => by have := hlo S e; omega)).trans h.s) v'
theorem set6 {w : World} {b : Nat} {a0 a1 a2 a3 a4 a5 v0 v1 v2 v3 v4 v5 : Value} {e : TypeId} (h : w.heap[b]? = some (.cells #[a0, a1, a2, a3, a4, a5] e (0, 0))) :
    ((((((w.setCell ⟨b, 0, none⟩ v0).setCell ⟨b, 1, none⟩ v1).setCell ⟨b, 2, none⟩ v2).setCell ⟨b, 3, none⟩ v3).setCell ⟨b, 4, none⟩ v4).setCell ⟨b, 5, none⟩ v5).heap[b]? = some (.cells #[v0, v1, v2, v3, v4, v5] e (0, 0)) :=
  set_at (set_at (set_at (set_at (set_at (set_at h v0) v1) v2) v3) v4) v5
theorem frm_set6 {w : World} (b : Nat) (v0 v1 v2 v3 v4 v5 : Value) : Frm (fun k => k = b) w ((((((w.setCell ⟨b, 0, none⟩ v0).setCell ⟨b, 1, none⟩ v1).setCell ⟨b, 2, none⟩ v2).setCell ⟨b, 3, none⟩ v3).setCell ⟨b, 4, none⟩ v4).setCell ⟨b, 5, none⟩ v5) :=
  (frm_set5 b v0 v1 v2 v3 v4).trans (frm_set b 5 v5)
theorem extract_txt (t : Txt) (a : Nat) : (⟨t.toArray⟩ : ByteArray).extract a t.length = ⟨(t.drop a).toArray⟩ := by
  have h := Lib.extract_to_end ⟨t.toArray⟩ a
  have e : (⟨t.toArray⟩ : ByteArray).size = t.length := by show t.toArray.size = _; simp
  rw [e] at h
  have h2 : (⟨t.toArray⟩ : ByteArray).data.toList = t := rfl
  rw [h2] at h
  apply ByteArray.ext
  apply Array.toList_inj.1
  rw [h]
/-- What Cut says of a line. -/
theorem cut_cases (s : Txt) : ∃ line rs ok, Lib.cut s [10] = (line, rs, ok) ∧ ((ok = true ∧ cutL s = some (line, rs)) ∨ (ok = false ∧ cutL s = none)) ∧ line.length ≤ s.length := by
  cases hc : cutL s with
  | none => exact ⟨s, [], false, cut_none hc, .inr ⟨rfl, rfl⟩, Nat.le_refl _⟩
  | some x =>
    obtain ⟨l, r⟩ := x
    exact ⟨l, r, true, cut_some hc, .inl ⟨rfl, rfl⟩, by have := (cutL_drop hc).2; omega⟩
/-- A reader's block, what stands in it. -/
def RdC (w : World) (R : Nat) (l : List Txt) (bad : Bool) : Prop := ∃ a c, w.heap[R]? = some (.cells #[.slice a l.length c, .bool bad] 80 (0, 0))
theorem RdAt.rdc {w : World} {R : Nat} {l : List Txt} {bad : Bool} (h : RdAt w R l bad) : RdC w R l bad := by
  obtain ⟨v, h1, h2, _⟩ := h
  obtain ⟨a, c, rfl, _⟩ := h2.form
  rw [List.length_map] at h1
  exact ⟨a, c, h1⟩
theorem RdC.frm {w w' : World} {R : Nat} {l : List Txt} {bad : Bool} {S : Nat → Prop} (h : RdC w R l bad) (hf : Frm S w w') (hS : ¬ S R) : RdC w' R l bad := by
  obtain ⟨a, c, h⟩ := h
  exact ⟨a, c, (hf.block R (blk_lt h) hS).trans h⟩
theorem RdC.below {w w' : World} {R : Nat} {l : List Txt} {bad : Bool} (h : RdC w R l bad) (hb : Below w.heap.size w w') : RdC w' R l bad := by
  obtain ⟨a, c, h⟩ := h
  exact ⟨a, c, (hb.block R (blk_lt h)).trans h⟩
theorem set56 {w : World} {b : Nat} {a0 a1 a2 a3 a4 a5 v0 v1 v2 v3 v4 : Value} {e : TypeId} (h : w.heap[b]? = some (.cells #[a0, a1, a2, a3, a4, a5] e (0, 0))) :
    (((((w.setCell ⟨b, 0, none⟩ v0).setCell ⟨b, 1, none⟩ v1).setCell ⟨b, 2, none⟩ v2).setCell ⟨b, 3, none⟩ v3).setCell ⟨b, 4, none⟩ v4).heap[b]? = some (.cells #[v0, v1, v2, v3, v4, a5] e (0, 0)) :=
  set_at (set_at (set_at (set_at (set_at h v0) v1) v2) v3) v4
theorem below_frm' {w w' : World} {B b : Nat} (hf : Frm (fun k => k = b) w w') (hb : B ≤ b) (hB : B ≤ w.heap.size) : Below B w w' := hf.below (fun k hk e => by omega) hB
/-- A plan is stored. -/
theorem PrT.plan {w : World} {A S : Nat} {p p' : Plan} {v : Value} {evs : List Ev} {W W' : World} (h : PrT w A S p v evs W) (hf : Frm (fun k => k = S) W W') (hs : W'.heap[S]? = some (scrO p' v)) : PrT w A S p' v evs W' := by
  have h1 := h.hA
  have h2 := h.hS
  exact ⟨h.bel.trans (below_frm' hf (by omega) h.bel.size), (hf.block A (blk_lt h.a) (by omega)).trans h.a, hs, h.ev.keep (by omega) hf, h.hA, h.hS⟩
theorem below_frm {w w' : World} {B b : Nat} (hf : Frm (fun k => k = b) w w') (hb : B ≤ b) (hB : B ≤ w.heap.size) : Below B w w' := hf.below (fun k hk e => by omega) hB

set_option maxHeartbeats 16000000 in
set_option maxRecDepth 100000 in
theorem parse17 (w : World) (t : Txt) (hl : Laid w) (hlen0 : t.length ≤ 281474976710656) :
    Calls Tryd.prog 17 #[.string ⟨t.toArray⟩] w fun e w' => ∃ sv k n, e = .returned (.tuple #[sv, .int .i64 k, .int .i64 n]) ∧ Below w.heap.size w w' ∧ ParOut w.heap.size w' t sv k n := by
  have HL := Lib.hid hl
  obtain ⟨A, W0, HA, HW, HK, HZ⟩ := boxed1 w #[.int .i64 0, .int .i64 0, .int .i64 0, .int .i64 0, .int .i64 0, .slice none 0 0] 26
  have hwA : w.heap.size = A := HA.out
  have HAW := Lib.hid hwA.symm
  have hAW : w.heap.size ≤ A := by omega
  clear hl hwA
  go_enter Tryd.func17, Tryd.ntmps17
  go_wp2_with fail
  go_step3
  go_upto_region 1 with fail
  rw [HA.out, HW.out]
  have HK0 := Lib.hid HK.out.b0
  have a0 : W0.cell? ⟨A, 0, none⟩ = some (.int .i64 0) := blk_cell HK0.out 0
  have a1 : W0.cell? ⟨A, 1, none⟩ = some (.int .i64 0) := blk_cell HK0.out 1
  have a2 : W0.cell? ⟨A, 2, none⟩ = some (.int .i64 0) := blk_cell HK0.out 2
  have a3 : W0.cell? ⟨A, 3, none⟩ = some (.int .i64 0) := blk_cell HK0.out 3
  have a4 : W0.cell? ⟨A, 4, none⟩ = some (.int .i64 0) := blk_cell HK0.out 4
  have a5 : W0.cell? ⟨A, 5, none⟩ = some (.slice none 0 0) := blk_cell HK0.out 5
  have fa := fun r => blk_frozen HK0.out r
  have HPO : Hid (262144 < t.length → ∀ W', ParOut w.heap.size W' t zeroS 0 3) := fun h W' => by unfold ParOut; rw [if_pos h]; exact ⟨rfl, rfl, rfl⟩
  have HPN : Hid (¬ 262144 < t.length → ∀ W' j, parseP t = .error j → ParOut w.heap.size W' t zeroS (j : Nat) 360) := fun h W' j hj => by unfold ParOut; rw [if_neg h, hj]; exact ⟨rfl, rfl, rfl⟩
  have HPY : Hid (¬ 262144 < t.length → ∀ W' s v, parseP t = .ok s → EvsOwn w.heap.size W' v s.evs → ParOut w.heap.size W' t (scrV s.plan v) 0 0) := fun h W' s v hs hv => by unfold ParOut; rw [if_neg h, hs]; exact ⟨⟨v, rfl, hv⟩, rfl, rfl⟩
  by_cases hlen : 262144 < t.length
  · have hlen' : (262144 : Int) < (t.length : Nat) := by omega
    go_wp2_with fail
    rw [Exit.noGoto_ret]
    have hz := set6 (v0 := .int .i64 0) (v1 := .int .i64 0) (v2 := .int .i64 0) (v3 := .int .i64 0) (v4 := .int .i64 0) (v5 := .slice none 0 0) HK0.out
    have r0 := blk_cell hz 0
    have r1 := blk_cell hz 1
    have r2 := blk_cell hz 2
    have r3 := blk_cell hz 3
    have r4 := blk_cell hz 4
    have r5 := blk_cell hz 5
    refine bodyPost_ret (v := .tuple #[zeroS, .int .i64 0, .int .i64 3]) (by simp [results, Tryd.f17, go_sem, r0, r1, r2, r3, r4, r5, zeroS]) rfl ?_
    exact ⟨zeroS, 0, 3, rfl, HK.out.below.trans (below_frm (frm_set6 A _ _ _ _ _ _) hAW HK.out.below.size), HPO.out hlen _⟩
  · have hlen' : ¬ (262144 : Int) < (t.length : Nat) := by omega
    go_upto_region 4 with fail
    obtain ⟨S, W1, hS, hW1, HS, HSO, HSB, HSZ⟩ := boxed W0 #[.int .i64 0, .int .i64 0, .int .i64 0, .int .i64 0, .int .i64 0, .slice none 0 0] 26
    rw [← hS, ← hW1]
    have HP1 : Hid (PrT w A S plan0 (.slice none 0 0) [] W1) := ⟨HK.out.below.trans ((HS.out ▸ HSB.out : Below W0.heap.size W0 W1).mono HK.out.below.size), (((HS.out ▸ HSB.out : Below W0.heap.size W0 W1)).block A (blk_lt HK0.out)).trans HK0.out, HSO.out, EvsOwn.nil _ _, HAW.out, by have := HS.out; have := HZ.out; have := HAW.out; omega⟩
    clear hS hW1 HK HK0 a0 a1 a2 a3 a4 a5 fa HS HSO HSB HSZ HA HZ HW
    by_cases ht : t = []
    · have HPE : Hid (parseP t = .error 0) := by show _ = _; rw [ht]; rfl
      have hte : (t == []) = true := by simp [ht]
      go_wp2_with fail
      go_step3
      go_wp2_with fail
      go_loopg [6, 7] 0 (fun g av wv wr => g = 0 ∧ av = .int .i64 0 ∧ wv = .bool true ∧ wr = W1)
      case atStart => exact ⟨rfl, rfl, rfl, rfl⟩
      case round =>
        obtain ⟨rfl, rfl, rfl, rfl⟩ := hrel
        have a0 : wr.cell? ⟨A, 0, none⟩ = some (.int .i64 0) := blk_cell HP1.out.a 0
        have a1 : wr.cell? ⟨A, 1, none⟩ = some (.int .i64 0) := blk_cell HP1.out.a 1
        have a2 : wr.cell? ⟨A, 2, none⟩ = some (.int .i64 0) := blk_cell HP1.out.a 2
        have a3 : wr.cell? ⟨A, 3, none⟩ = some (.int .i64 0) := blk_cell HP1.out.a 3
        have a4 : wr.cell? ⟨A, 4, none⟩ = some (.int .i64 0) := blk_cell HP1.out.a 4
        have a5 : wr.cell? ⟨A, 5, none⟩ = some (.slice none 0 0) := blk_cell HP1.out.a 5
        have fa := fun r => blk_frozen HP1.out.a r
        go_wp2_with fail
        rw [Exit.noGoto_ret]
        have hz := set6 (v0 := .int .i64 0) (v1 := .int .i64 0) (v2 := .int .i64 0) (v3 := .int .i64 0) (v4 := .int .i64 0) (v5 := .slice none 0 0) HP1.out.a
        have r0 := blk_cell hz 0
        have r1 := blk_cell hz 1
        have r2 := blk_cell hz 2
        have r3 := blk_cell hz 3
        have r4 := blk_cell hz 4
        have r5 := blk_cell hz 5
        refine bodyPost_ret (v := .tuple #[zeroS, .int .i64 0, .int .i64 360]) (by simp [results, Tryd.f17, go_sem, r0, r1, r2, r3, r4, r5, zeroS]) rfl ?_
        exact ⟨zeroS, 0, 360, rfl, HP1.out.bel.trans (below_frm (frm_set6 A _ _ _ _ _ _) hAW HP1.out.bel.size), HPN.out hlen _ 0 HPE.out⟩
    · have hte : (t == []) = false := by simp [ht]
      go_wp2_with fail
      go_step3
      go_wp2_with fail
      have hlt3 : ((t.length : Nat) : Int) ≤ 262144 := by omega
      go_loopg [6, 7] t.length (fun g av wv wr => ∃ (a : Nat) (p : Plan) (v : Value) (evs : List Ev), g = t.length - a ∧ a ≤ t.length ∧ av = .int .i64 a ∧ wv = .bool false ∧ Hid (ParS t a p evs) ∧ Hid (PrT w A S p v evs wr))
      case atStart => exact ⟨0, plan0, .slice none 0 0, [], rfl, by omega, rfl, rfl, .inl ⟨rfl, ht, rfl, rfl⟩, HP1.out⟩
      case round =>
        obtain ⟨a, p, v, evs, rfl, ha, rfl, rfl, HPS, HPT⟩ := hrel
        clear hte ht
        by_cases hlt : a < t.length
        · have HM := Lib.hid HPT.out.bel
          obtain ⟨s, hs⟩ : ∃ s, s = t.drop a := ⟨_, rfl⟩
          have hsl : s.length ≤ 262144 := by rw [hs, List.length_drop]; omega
          have hex : (⟨t.toArray⟩ : ByteArray).extract a t.length = ⟨s.toArray⟩ := by rw [hs]; exact extract_txt t a
          have hsz : (⟨s.toArray⟩ : ByteArray).size = s.length := by show s.toArray.size = _; simp
          obtain ⟨m, hm⟩ := (HL.out.below HM.out).mem
          obtain ⟨line, rs, ok, hcut, hok, hll⟩ := cut_cases s
          have HCU := Lib.hid (Tryd.strings_Cut ⟨s.toArray⟩ ⟨#[10]⟩ m wr (by omega) hm)
          rw [show Lib.cut (⟨s.toArray⟩ : ByteArray).data.toList (⟨#[10]⟩ : ByteArray).data.toList = (line, rs, ok) from hcut] at HCU
          dsimp only at HCU
          have HSX := Lib.hid hs
          have HEX := Lib.hid hex
          have HOK := Lib.hid hok
          clear hs hex hsz hm hcut hok
          go_wp2_with fail
          rw [HEX.out]
          refine HCU.out.mono ?_
          rintro e w2 ⟨rfl, nd, rfl⟩
          have HP2 := Lib.hid (HPT.out.step (drewN_below wr nd))
          generalize wr.drewN nd = w2 at HP2 ⊢
          obtain ⟨L, hL⟩ : ∃ L, L = splitC 32 line := ⟨_, rfl⟩
          have hLne : L ≠ [] := by rw [hL]; exact splitC_ne 32 line
          have HSP : Hid (Calls Tryd.prog 41 #[.string ⟨line.toArray⟩, .string ⟨#[32]⟩] w2 fun e w' => e = .returned (.slice (some ⟨w2.heap.size, 0, none⟩) L.length L.length) ∧ w' = w2.alloc (.cells (L.map strV).toArray 9)) := by
            show Calls _ _ _ _ _
            obtain ⟨m2, hm2⟩ := (HL.out.below HP2.out.bel).mem
            have h := Tryd.strings_Split ⟨line.toArray⟩ ⟨#[32]⟩ m2 w2 (by show line.toArray.size < _; simp; omega) hm2 (by decide)
            rw [split_bytes, ← hL, count_txt, ← splitC_len, ← hL] at h
            exact h
          have HLL := Lib.hid hL
          have HLN := Lib.hid hLne
          have HLS : Hid (∀ x ∈ L, x.length ≤ 1000000) := fun x hx => by
            rw [HLL.out] at hx
            have := split_short 32 line x hx
            omega
          obtain ⟨n, hn⟩ : ∃ n, n = L.length := ⟨_, rfl⟩
          rw [← hn] at HSP
          have HNL := Lib.hid hn
          obtain ⟨B, C, W, HB, HC, HW, HK, HZ⟩ := boxed2 w2 (L.map strV).toArray 9 #[.slice (some ⟨w2.heap.size, 0, none⟩) n n, .bool false] 80
          have HRD : Hid (RdAt W C L false) := by
            refine ⟨_, HK.out.b1, ?_, fun a n c e => ?_⟩
            · have hlen : (L.map strV).length = n := by rw [List.length_map, HNL.out]
              rw [← hlen]
              refine isSl_mk (Nat.le_refl _) (by rw [hlen, HNL.out, HLL.out, splitC_len]; have := List.count_le_length (a := (32 : UInt8)) (l := line); unfold maxLen; omega) ?_ (fun j hj => ?_)
              · rw [HB.out]; exact blk_lt HK.out.b0
              · rw [HB.out, Nat.zero_add, blk_cell HK.out.b0]; simp
            · injection e with e
              injection e with e
              rw [← e]
              have := HC.out
              show w2.heap.size < C
              omega
          have HP3 := Lib.hid (HP2.out.step HK.out.below)
          have HSC := Lib.hid (show S < C by have := blk_lt HP2.out.s; have := HC.out; omega)
          have HBW := Lib.hid (show Below w2.heap.size w2 W from HK.out.below)
          have HCS := Lib.hid (show w2.heap.size ≤ C by have := HC.out; omega)
          have HCW := Lib.hid (show w.heap.size ≤ C by have := HP2.out.bel.size; have := HC.out; omega)
          clear hn hL hLne
          go_wp2_with fail
          refine HSP.out.mono ?_
          rintro e w3 ⟨rfl, rfl⟩
          go_upto_if 40 with fail
          rw [HW.out, HC.out, HB.out]
          clear HW HC HB HK HZ HSP HCU
          go_cut [7] from 19 to 95 (fun s7 wc => ∃ (wg bad : Bool) (p' : Plan) (v' : Value) (evs' : List Ev) (rest : List Txt), s7 = .bool wg ∧ Hid (PrT w A S p' v' evs' wc) ∧ Hid (RdC wc C rest bad) ∧ Hid (ParN t a line p' evs' wg bad rest))
          case first =>
            by_cases ha0 : a = 0
            · have hz : ((a : Int) == 0) = true := by simp [ha0]
              have h00 : p = plan0 ∧ evs = [] := by
                rcases HPS.out with ⟨_, _, h1, h2⟩ | ⟨h, _⟩
                · exact ⟨h1, h2⟩
                · omega
              obtain ⟨hp0, he0⟩ := h00
              have hs0 : s = t := by rw [HSX.out, ha0]; rfl
              have HST := Lib.hid hs0
              have HE0 := Lib.hid he0
              have HA0 := Lib.hid ha0
              clear hp0 he0 hs0 ha0
              go_wp2_with fail
              refine (plan42 w W C L HLN.out HL.out HP3.out.bel HCW.out HRD.out HLS.out).mono ?_
              rintro e w5 ⟨⟨pg, ps, pl, pp, pc⟩, bad, rest, rfl, hrd, hpo, hf⟩
              have HP5 := Lib.hid (HP2.out.step (HBW.out.trans (below_frm hf HCS.out HBW.out.size)))
              have HRD5 := Lib.hid hrd.rdc
              have HPO := Lib.hid hpo
              obtain ⟨va, vc, rfl⟩ := HP5.out.ev.form
              obtain ⟨ne, hne⟩ : ∃ ne, ne = evs.length := ⟨_, rfl⟩
              rw [← hne] at HP5
              have HSS := HP5.out.s
              unfold scrO at HSS
              have s0 : w5.cell? ⟨S, 0, none⟩ = some (.int .i64 p.g) := blk_cell HSS 0
              have s1 : w5.cell? ⟨S, 1, none⟩ = some (.int .i64 p.s) := blk_cell HSS 1
              have s2 : w5.cell? ⟨S, 2, none⟩ = some (.int .i64 p.l) := blk_cell HSS 2
              have s3 : w5.cell? ⟨S, 3, none⟩ = some (.int .i64 p.p) := blk_cell HSS 3
              have s4 : w5.cell? ⟨S, 4, none⟩ = some (.int .i64 p.c) := blk_cell HSS 4
              have s5 : w5.cell? ⟨S, 5, none⟩ = some (.slice va ne vc) := blk_cell HSS 5
              have fs := fun r => blk_frozen HSS r
              have HP6 := Lib.hid (HP5.out.plan (frm_set5 S (.int .i64 pg) (.int .i64 ps) (.int .i64 pl) (.int .i64 pp) (.int .i64 pc)) (p' := ⟨pg, ps, pl, pp, pc⟩) (set56 HSS))
              have HRD6 := Lib.hid (HRD5.out.frm (frm_set5 S (.int .i64 pg) (.int .i64 ps) (.int .i64 pl) (.int .i64 pp) (.int .i64 pc)) (by have := HSC.out; omega))
              unfold planV
              dsimp only
              clear hrd hpo hf hne HSS HP5 HRD5 HPT HP2 HP3 HP1 HRD
              rcases HOK.out with ⟨rfl, hcl⟩ | ⟨rfl, hcl⟩
              · have HCL := Lib.hid hcl
                clear hcl
                go_wp2_with fail
                refine (checkPlan _ ⟨pg, ps, pl, pp, pc⟩).mono ?_
                rintro e w7 ⟨rfl, hb7⟩
                have HP7 := Lib.hid (HP6.out.step hb7)
                have HRD7 := Lib.hid (HRD6.out.below hb7)
                clear hb7 s0 s1 s2 s3 s4 s5 fs HP6 HRD6
                obtain ⟨pb, hpb⟩ : ∃ pb, pb = planB ⟨pg, ps, pl, pp, pc⟩ := ⟨_, rfl⟩
                rw [← hpb]
                have HPB := Lib.hid hpb
                clear hpb
                cases pb with
                | true =>
                  go_wp2_with fail
                  go_meet
                  case rel => exact ⟨false, bad, ⟨pg, ps, pl, pp, pc⟩, _, evs, rest, rfl, HP7.out, HRD7.out, by
                    show ParN _ _ _ _ _ _ _ _
                    rw [HE0.out, HA0.out]
                    exact par_plan (r := rs) (by rw [← HST.out]; exact HCL.out) (by rw [← HLL.out]; exact HPO.out) (by rw [← HPB.out]; rfl)⟩
                | false =>
                  go_wp2_with fail
                  go_meet
                  case rel => exact ⟨true, bad, ⟨pg, ps, pl, pp, pc⟩, _, evs, rest, rfl, HP7.out, HRD7.out, by
                    show ParN _ _ _ _ _ _ _ _
                    rw [HE0.out, HA0.out]
                    exact par_plan (r := rs) (by rw [← HST.out]; exact HCL.out) (by rw [← HLL.out]; exact HPO.out) (by rw [← HPB.out]; rfl)⟩
              · have HCL := Lib.hid hcl
                clear hcl
                go_wp2_with fail
                go_meet
                case rel => exact ⟨true, bad, ⟨pg, ps, pl, pp, pc⟩, _, evs, rest, rfl, HP6.out, HRD6.out, by
                  show ParN _ _ _ _ _ _ _ _
                  rw [HE0.out, HA0.out]
                  exact par_plan_no (by rw [← HST.out]; exact HCL.out) rfl⟩
            · have hz : ((a : Int) == 0) = false := by simp [ha0]
              have HA0 := Lib.hid (Nat.pos_of_ne_zero ha0)
              clear ha0
              obtain ⟨x0, L', hL'⟩ : ∃ x0 L', L = x0 :: L' := List.exists_cons_of_ne_nil HLN.out
              have HRD' : Hid (RdAt W C (x0 :: L') false) := by show RdAt _ _ _ _; rw [← hL']; exact HRD.out
              have HLS' : Hid (∀ y ∈ x0 :: L', y.length ≤ 1000000) := fun y hy => HLS.out y (by rw [hL']; exact hy)
              have HLL' : Hid (x0 :: L' = splitC 32 line) := hL'.symm.trans HLL.out
              have HE2 : Hid (evs.length ≤ 200) := by
                show _ ≤ _
                rcases HPS.out with ⟨h, _⟩ | ⟨_, _, _, h, _⟩
                · have := HA0.out; omega
                · exact h
              clear hL'
              go_wp2_with fail
              refine (event43 w W C x0 L' HL.out HP3.out.bel HCW.out HRD'.out HLS'.out).mono ?_
              rintro e w5 ⟨⟨xk, xc, xn, xb, xp⟩, vb, vk, bad, rest, rfl, hbs, hks, hfb, hfk, hrd, heo, hf⟩
              dsimp only at hbs hks
              obtain ⟨ab, cb, rfl, _⟩ := hbs.form
              obtain ⟨ak, ck, rfl, _⟩ := hks.form
              have HP5 := Lib.hid (HP2.out.step (HBW.out.trans (below_frm hf HCS.out HBW.out.size)))
              have hS1 : S + 1 ≤ W.heap.size := by have := blk_lt HP3.out.s; omega
              have HE5 : Hid (EvF (S + 1) w5 ⟨xk, xc, xn, xb, xp⟩ (fun j => [Value.int .i64 xk, .int .i64 xc, .int .i64 xn, .slice ab xb.length cb, .slice ak xp.length ck].getD j undef)) := ⟨rfl, rfl, rfl, hbs, hks, hfb.mono hS1, hfk.mono hS1⟩
              have HEO := Lib.hid heo
              have HRR := Lib.hid hrd.rdc
              unfold evV
              dsimp only
              obtain ⟨nb, hnb⟩ : ∃ nb, nb = xb.length := ⟨_, rfl⟩
              obtain ⟨nk, hnk⟩ : ∃ nk, nk = xp.length := ⟨_, rfl⟩
              rw [← hnb, ← hnk] at HE5 ⊢
              clear hbs hks hfb hfk hrd heo hf hnb hnk HRD HRD'
              obtain ⟨X, W6, HX, HW6, HK6, HZ6⟩ := boxed1 w5 #[.int .i64 xk, .int .i64 xc, .int .i64 xn, .slice ab nb cb, .slice ak nk ck] 41
              have HP6 := Lib.hid (HP5.out.step HK6.out.below)
              have HR6 := Lib.hid (HRR.out.below HK6.out.below)
              have HE6 := Lib.hid (HE5.out.below HK6.out.below)
              have HXB := Lib.hid HK6.out.b0
              obtain ⟨va, vc, rfl⟩ := HP6.out.ev.form
              obtain ⟨ne, hne⟩ : ∃ ne, ne = evs.length := ⟨_, rfl⟩
              rw [← hne] at HP6
              have HNE := Lib.hid hne
              clear hne HP5 HRR HE5 HP1 HP2 HP3 HPT hS1
              have HSS := HP6.out.s
              unfold scrO at HSS
              have s0 : W6.cell? ⟨S, 0, none⟩ = some (.int .i64 p.g) := blk_cell HSS 0
              have s1 : W6.cell? ⟨S, 1, none⟩ = some (.int .i64 p.s) := blk_cell HSS 1
              have s2 : W6.cell? ⟨S, 2, none⟩ = some (.int .i64 p.l) := blk_cell HSS 2
              have s3 : W6.cell? ⟨S, 3, none⟩ = some (.int .i64 p.p) := blk_cell HSS 3
              have s4 : W6.cell? ⟨S, 4, none⟩ = some (.int .i64 p.c) := blk_cell HSS 4
              have s5 : W6.cell? ⟨S, 5, none⟩ = some (.slice va ne vc) := blk_cell HSS 5
              have y0 : W6.cell? ⟨X, 0, none⟩ = some (.int .i64 xk) := blk_cell HXB.out 0
              have y1 : W6.cell? ⟨X, 1, none⟩ = some (.int .i64 xc) := blk_cell HXB.out 1
              have y2 : W6.cell? ⟨X, 2, none⟩ = some (.int .i64 xn) := blk_cell HXB.out 2
              have y3 : W6.cell? ⟨X, 3, none⟩ = some (.slice ab nb cb) := blk_cell HXB.out 3
              have y4 : W6.cell? ⟨X, 4, none⟩ = some (.slice ak nk ck) := blk_cell HXB.out 4
              clear HSS
              go_upto_region 12 with fail
              rw [HW6.out, HX.out]
              clear HW6 HX HZ6 HK6
              go_cut [7] from 19 to 95 (fun s7 wd => ∃ wg : Bool, s7 = .bool wg ∧ Hid (Below W6.heap.size W6 wd) ∧ Hid (wg = (!ok || (!rightE p ⟨xk, xc, xn, xb, xp⟩ || decide (ne = 200)))))
              case first =>
                have HR30 : Hid (Calls Tryd.prog 30 #[.agg #[.int .i64 p.g, .int .i64 p.s, .int .i64 p.l, .int .i64 p.p, .int .i64 p.c], .agg #[.int .i64 xk, .int .i64 xc, .int .i64 xn, .slice ab nb cb, .slice ak nk ck]] W6 fun e w' => e = .returned (.bool (rightE p ⟨xk, xc, xn, xb, xp⟩)) ∧ Below W6.heap.size W6 w') := right30 W6 p _ _ HE6.out.at
                obtain ⟨rr, hrr⟩ : ∃ rr, rr = rightE p ⟨xk, xc, xn, xb, xp⟩ := ⟨_, rfl⟩
                rw [← hrr] at HR30
                have HRR := Lib.hid hrr
                clear hrr
                cases ok with
                | false =>
                  go_wp2_with fail
                  go_meet
                  case rel => exact ⟨true, rfl, Below.refl _ _, by rfl⟩
                | true =>
                  go_wp2_with fail
                  refine HR30.out.mono ?_
                  rintro e w7 ⟨rfl, hb7⟩
                  have t5 : w7.cell? ⟨S, 5, none⟩ = some (.slice va ne vc) := by
                    have h := (HP6.out.step hb7).s
                    unfold scrO at h
                    exact blk_cell h 5
                  have HB7 := Lib.hid hb7
                  clear hb7
                  cases rr with
                  | false =>
                    go_wp2_with fail
                    go_meet
                    case rel => exact ⟨true, rfl, HB7, by show _ = _; rw [← HRR.out]; rfl⟩
                  | true =>
                    by_cases h2 : ne = 200
                    · have h2' : ((ne : Int) == 200) = true := by simp [h2]
                      go_wp2_with fail
                      go_meet
                      case rel => exact ⟨true, rfl, HB7, by show _ = _; rw [← HRR.out, decide_eq_true h2]; rfl⟩
                    · have h2' : ((ne : Int) == 200) = false := beq_eq_false_iff_ne.2 (by omega)
                      go_wp2_with fail
                      go_meet
                      case rel => exact ⟨false, rfl, HB7, by show _ = _; rw [← HRR.out, decide_eq_false h2]; rfl⟩
              case rest =>
                obtain ⟨wg, rfl, HB13, HWG⟩ := hcut
                have HP7 := Lib.hid (HP6.out.step HB13.out)
                have HR7 := Lib.hid (HR6.out.below HB13.out)
                have HE7 := Lib.hid (HE6.out.below HB13.out)
                have hXB : wc.heap[X]? = some (.cells #[.int .i64 xk, .int .i64 xc, .int .i64 xn, .slice ab nb cb, .slice ak nk ck] 41 (0, 0)) := (HB13.out.block X (blk_lt HXB.out)).trans HXB.out
                have HSS := HP7.out.s
                unfold scrO at HSS
                clear s0 s1 s2 s3 s4 s5 y0 y1 y2 y3 y4
                have s0 : wc.cell? ⟨S, 0, none⟩ = some (.int .i64 p.g) := blk_cell HSS 0
                have s1 : wc.cell? ⟨S, 1, none⟩ = some (.int .i64 p.s) := blk_cell HSS 1
                have s2 : wc.cell? ⟨S, 2, none⟩ = some (.int .i64 p.l) := blk_cell HSS 2
                have s3 : wc.cell? ⟨S, 3, none⟩ = some (.int .i64 p.p) := blk_cell HSS 3
                have s4 : wc.cell? ⟨S, 4, none⟩ = some (.int .i64 p.c) := blk_cell HSS 4
                have s5 : wc.cell? ⟨S, 5, none⟩ = some (.slice va ne vc) := blk_cell HSS 5
                have y0 : wc.cell? ⟨X, 0, none⟩ = some (.int .i64 xk) := blk_cell hXB 0
                have y1 : wc.cell? ⟨X, 1, none⟩ = some (.int .i64 xc) := blk_cell hXB 1
                have y2 : wc.cell? ⟨X, 2, none⟩ = some (.int .i64 xn) := blk_cell hXB 2
                have y3 : wc.cell? ⟨X, 3, none⟩ = some (.slice ab nb cb) := blk_cell hXB 3
                have y4 : wc.cell? ⟨X, 4, none⟩ = some (.slice ak nk ck) := blk_cell hXB 4
                have hb8 : Below wc.heap.size wc (wc.alloc (.cells #[.int .i64 xk, .int .i64 xc, .int .i64 xn, .slice ab nb cb, .slice ak nk ck] 41)) := (Below.refl _ wc).alloc (Nat.le_refl _) _
                have hnew := heap_alloc_new wc (.cells #[.int .i64 xk, .int .i64 xc, .int .i64 xn, .slice ab nb cb, .slice ak nk ck] 41)
                obtain ⟨v', w9, hrun, hown, hfr⟩ := EvsOwn.append (sx := .slice (some ⟨wc.heap.size, 0, none⟩) 1 1) (HP7.out.ev.below hb8) (HE7.out.below hb8) (⟨rfl, .inr ⟨by decide, wc.heap.size, 0, 1, rfl, by decide, by decide, blk_lt hnew, fun j hj => by
                  rw [Nat.zero_add, blk_cell hnew]
                  obtain rfl | rfl | rfl | rfl | rfl : j = 0 ∨ j = 1 ∨ j = 2 ∨ j = 3 ∨ j = 4 := by simp at hj; omega
                  all_goals rfl⟩⟩) (fun j hj => by
                  obtain rfl | rfl | rfl | rfl | rfl : j = 0 ∨ j = 1 ∨ j = 2 ∨ j = 3 ∨ j = 4 := by omega
                  all_goals rfl) (by have := blk_lt HP7.out.s; have := hb8.size; omega) (by have := HE2.out; omega)
                obtain ⟨va', vc', rfl⟩ := hown.form
                have HP8 := Lib.hid ((HP7.out.step hb8).app hown hfr)
                have hcw : (wc.alloc (.cells #[.int .i64 xk, .int .i64 xc, .int .i64 xn, .slice ab nb cb, .slice ak nk ck] 41)).heap[C]? = wc.heap[C]? := hb8.block C (by obtain ⟨_, _, h⟩ := HR7.out; exact blk_lt h)
                have HR8 : Hid (RdC (w9.setCell ⟨S, 5, none⟩ (.slice va' (evs ++ [(⟨xk, xc, xn, xb, xp⟩ : Ev)]).length vc')) C rest bad) := by
                  obtain ⟨ra, rc, hr⟩ := HR7.out
                  have h8 := hcw.trans hr
                  have hne2 := (HP7.out.ev.below hb8).ne h8 (by decide)
                  exact (RdC.frm (⟨ra, rc, h8⟩ : RdC _ C rest bad) hfr hne2).frm (frm_set S 5 _) (by have := HSC.out; omega)
                have hS9 : w9.heap[S]? = some (scrO p (.slice va ne vc)) := by
                  have h8 := (HP7.out.step hb8).s
                  exact (hfr.block S (blk_lt h8) ((HP7.out.ev.below hb8).ne h8 (by decide))).trans h8
                have t5 : w9.cell? ⟨S, 5, none⟩ = some (.slice va ne vc) := by unfold scrO at hS9; exact blk_cell hS9 5
                have ft : ∀ r, w9.frozen? ⟨S, r, none⟩ = false := fun r => by unfold scrO at hS9; exact blk_frozen hS9 r
                have HRUN := Lib.hid hrun
                generalize (evs ++ [(⟨xk, xc, xn, xb, xp⟩ : Ev)]).length = ne1 at HRUN HP8 HR8 ⊢
                clear hrun hown hfr hcw hS9 hnew hb8 hXB HSS
                go_wp2_with (refine wpList_append_eq rfl _ _ 24 rfl (by first | rfl | simp [go_sem]) (by first | rfl | simp [go_sem]) HRUN.out ?_)
                go_meet
                case rel => exact ⟨wg, bad, p, _, evs ++ [⟨xk, xc, xn, xb, xp⟩], rest, rfl, HP8, HR8, by
                  show ParN _ _ _ _ _ _ _ _
                  have hw := HWG.out
                  rcases HOK.out with ⟨rfl, hcl⟩ | ⟨rfl, hcl⟩
                  · exact par_ev HPS.out HA0.out hlt (by rw [← HSX.out]; exact hcl) (by rw [← HLL'.out]; exact HEO.out) (by rw [hw, HNE.out]; rfl)
                  · exact par_ev_no HPS.out HA0.out hlt (by rw [← HSX.out]; exact hcl) (by rw [hw]; rfl)⟩
          case rest =>
            obtain ⟨wg, bad, p', v', evs', rest, rfl, HPT2, HRD2, HN⟩ := hcut
            obtain ⟨ra, rc, g1⟩ := HRD2.out
            obtain ⟨nr, hnr⟩ : ∃ nr, nr = rest.length := ⟨_, rfl⟩
            rw [← hnr] at g1
            have q0 : wc.cell? ⟨C, 0, none⟩ = some (.slice ra nr rc) := blk_cell g1 0
            have q1 : wc.cell? ⟨C, 1, none⟩ = some (.bool bad) := blk_cell g1 1
            have HNR := Lib.hid hnr
            have a0 : wc.cell? ⟨A, 0, none⟩ = some (.int .i64 0) := blk_cell HPT2.out.a 0
            have a1 : wc.cell? ⟨A, 1, none⟩ = some (.int .i64 0) := blk_cell HPT2.out.a 1
            have a2 : wc.cell? ⟨A, 2, none⟩ = some (.int .i64 0) := blk_cell HPT2.out.a 2
            have a3 : wc.cell? ⟨A, 3, none⟩ = some (.int .i64 0) := blk_cell HPT2.out.a 3
            have a4 : wc.cell? ⟨A, 4, none⟩ = some (.int .i64 0) := blk_cell HPT2.out.a 4
            have a5 : wc.cell? ⟨A, 5, none⟩ = some (.slice none 0 0) := blk_cell HPT2.out.a 5
            have fa := fun r => blk_frozen HPT2.out.a r
            clear g1 hnr HRD2
            cases wg with
            | true =>
              go_wp2_with fail
              rw [Exit.noGoto_ret]
              have e6 := set6 (v0 := .int .i64 0) (v1 := .int .i64 0) (v2 := .int .i64 0) (v3 := .int .i64 0) (v4 := .int .i64 0) (v5 := .slice none 0 0) HPT2.out.a
              have r0 := blk_cell e6 0
              have r1 := blk_cell e6 1
              have r2 := blk_cell e6 2
              have r3 := blk_cell e6 3
              have r4 := blk_cell e6 4
              have r5 := blk_cell e6 5
              refine bodyPost_ret (v := .tuple #[zeroS, .int .i64 (a : Nat), .int .i64 360]) (by simp [results, Tryd.f17, go_sem, r0, r1, r2, r3, r4, r5, zeroS]) rfl ?_
              exact ⟨zeroS, (a : Nat), 360, rfl, HPT2.out.bel.trans (below_frm (frm_set6 A _ _ _ _ _ _) hAW HPT2.out.bel.size), HPN.out hlen _ a (by have h := HN.out; unfold ParN at h; rw [if_pos (by simp)] at h; exact h)⟩
            | false =>
              cases bad with
              | true =>
                go_wp2_with fail
                rw [Exit.noGoto_ret]
                have e6 := set6 (v0 := .int .i64 0) (v1 := .int .i64 0) (v2 := .int .i64 0) (v3 := .int .i64 0) (v4 := .int .i64 0) (v5 := .slice none 0 0) HPT2.out.a
                have r0 := blk_cell e6 0
                have r1 := blk_cell e6 1
                have r2 := blk_cell e6 2
                have r3 := blk_cell e6 3
                have r4 := blk_cell e6 4
                have r5 := blk_cell e6 5
                refine bodyPost_ret (v := .tuple #[zeroS, .int .i64 (a : Nat), .int .i64 360]) (by simp [results, Tryd.f17, go_sem, r0, r1, r2, r3, r4, r5, zeroS]) rfl ?_
                exact ⟨zeroS, (a : Nat), 360, rfl, HPT2.out.bel.trans (below_frm (frm_set6 A _ _ _ _ _ _) hAW HPT2.out.bel.size), HPN.out hlen _ a (by have h := HN.out; unfold ParN at h; rw [if_pos (by simp)] at h; exact h)⟩
              | false =>
                by_cases h0 : nr = 0
                · have hne : decide (0 < rest.length) = false := by rw [← HNR.out, h0]; rfl
                  have HNE := Lib.hid hne
                  have HN2 : Hid (ParS t (a + line.length + 1) p' evs') := by
                    have h := HN.out
                    unfold ParN at h
                    rw [HNE.out, if_neg (by simp)] at h
                    exact h
                  have hle : a + line.length + 1 ≤ t.length := by
                    rcases HN2.out with ⟨h, _⟩ | ⟨_, h, _⟩
                    · omega
                    · exact h
                  clear hne HNR
                  subst h0
                  go_wp2_with fail
                  go_roundg (t.length - (a + line.length + 1))
                  case measure => omega
                  case rel => exact ⟨a + line.length + 1, p', v', evs', rfl, hle, by go_num, rfl, HN2.out, HPT2.out⟩
                · have hpos : 0 < nr := Nat.pos_of_ne_zero h0
                  have hne : decide (0 < rest.length) = true := by rw [← HNR.out]; simp [hpos]
                  have HNE := Lib.hid hne
                  have HN3 := HN
                  have HN : Hid (ParN t a line p' evs' false true rest) := by
                    have h := HN3.out
                    show ParN _ _ _ _ _ _ _ _
                    unfold ParN at h ⊢
                    rw [HNE.out, if_pos (by simp)] at h
                    rw [if_pos (by simp)]
                    exact h
                  have hpz : (0 : Int) < (nr : Int) := by omega
                  clear hne HN3
                  go_wp2_with fail
                  rw [Exit.noGoto_ret]
                  have e6 := set6 (v0 := .int .i64 0) (v1 := .int .i64 0) (v2 := .int .i64 0) (v3 := .int .i64 0) (v4 := .int .i64 0) (v5 := .slice none 0 0) HPT2.out.a
                  have r0 := blk_cell e6 0
                  have r1 := blk_cell e6 1
                  have r2 := blk_cell e6 2
                  have r3 := blk_cell e6 3
                  have r4 := blk_cell e6 4
                  have r5 := blk_cell e6 5
                  refine bodyPost_ret (v := .tuple #[zeroS, .int .i64 (a : Nat), .int .i64 360]) (by simp [results, Tryd.f17, go_sem, r0, r1, r2, r3, r4, r5, zeroS]) rfl ?_
                  exact ⟨zeroS, (a : Nat), 360, rfl, HPT2.out.bel.trans (below_frm (frm_set6 A _ _ _ _ _ _) hAW HPT2.out.bel.size), HPN.out hlen _ a (by have h := HN.out; unfold ParN at h; rw [if_pos (by simp)] at h; exact h)⟩
        · obtain ⟨va, vc, rfl⟩ := HPT.out.ev.form
          have hge : t.length ≤ a := by omega
          have HPE : Hid (parseP t = .ok ⟨p, evs⟩) := par_end HPS.out hge
          have HSS := HPT.out.s
          unfold scrO at HSS
          obtain ⟨ne, hnev⟩ : ∃ ne, ne = evs.length := ⟨_, rfl⟩
          rw [← hnev] at HSS HPT
          have s0 : wr.cell? ⟨S, 0, none⟩ = some (.int .i64 p.g) := blk_cell HSS 0
          have s1 : wr.cell? ⟨S, 1, none⟩ = some (.int .i64 p.s) := blk_cell HSS 1
          have s2 : wr.cell? ⟨S, 2, none⟩ = some (.int .i64 p.l) := blk_cell HSS 2
          have s3 : wr.cell? ⟨S, 3, none⟩ = some (.int .i64 p.p) := blk_cell HSS 3
          have s4 : wr.cell? ⟨S, 4, none⟩ = some (.int .i64 p.c) := blk_cell HSS 4
          have s5 : wr.cell? ⟨S, 5, none⟩ = some (.slice va ne vc) := blk_cell HSS 5
          have a0 : wr.cell? ⟨A, 0, none⟩ = some (.int .i64 0) := blk_cell HPT.out.a 0
          have a1 : wr.cell? ⟨A, 1, none⟩ = some (.int .i64 0) := blk_cell HPT.out.a 1
          have a2 : wr.cell? ⟨A, 2, none⟩ = some (.int .i64 0) := blk_cell HPT.out.a 2
          have a3 : wr.cell? ⟨A, 3, none⟩ = some (.int .i64 0) := blk_cell HPT.out.a 3
          have a4 : wr.cell? ⟨A, 4, none⟩ = some (.int .i64 0) := blk_cell HPT.out.a 4
          have a5 : wr.cell? ⟨A, 5, none⟩ = some (.slice none 0 0) := blk_cell HPT.out.a 5
          have fa := fun r => blk_frozen HPT.out.a r
          have hage : ¬ ((a : Int) < (t.length : Int)) := by omega
          clear HSS hnev
          go_wp2_with fail
          have e6 := set6 (v0 := .int .i64 p.g) (v1 := .int .i64 p.s) (v2 := .int .i64 p.l) (v3 := .int .i64 p.p) (v4 := .int .i64 p.c) (v5 := .slice va ne vc) HPT.out.a
          have r0 := blk_cell e6 0
          have r1 := blk_cell e6 1
          have r2 := blk_cell e6 2
          have r3 := blk_cell e6 3
          have r4 := blk_cell e6 4
          have r5 := blk_cell e6 5
          refine bodyPost_ret (v := .tuple #[scrV p (.slice va ne vc), .int .i64 0, .int .i64 0]) (by simp [results, Tryd.f17, go_sem, r0, r1, r2, r3, r4, r5, scrV]) rfl ?_
          have hAS : A < S + 1 := by have := HPT.out.hA; have := HPT.out.hS; omega
          exact ⟨_, 0, 0, rfl, HPT.out.bel.trans (below_frm (frm_set6 A _ _ _ _ _ _) hAW HPT.out.bel.size), HPY.out hlen _ ⟨p, evs⟩ _ HPE.out ((HPT.out.ev.keep hAS (frm_set6 A _ _ _ _ _ _)).mono (by have := HPT.out.hS; omega))⟩
end Go.Proofs.YtelaijogjgcloaaDoor
