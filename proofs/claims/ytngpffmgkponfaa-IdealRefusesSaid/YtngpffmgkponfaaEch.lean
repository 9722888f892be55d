/- ideal.step.each: what becomes of the versions that may be told, by a function that is handed in. Conditions: the step lies in memory. -/
import Derived.Test.YtngpffmgkponfaaWrt2
import Derived.Test.YtngpffmgkponfaaItm
set_option linter.unusedVariables false
set_option linter.unusedSimpArgs false
namespace Go.Proofs.Ytngpffmgkponfaa
open Go.RowKit Go.Ice Go.Idl

/-- Blocks of what was there, blocks of bytes. -/
def ElB (C : Nat → Prop) (W : World) (base b : Nat) : Prop := C b ∨ (base ≤ b ∧ ∃ c, W.heap[b]? = some (.cells c 5 (0, 0)))
def boxC (x : Value) (t : Tv) : Array Value := #[x, .int .u32 t.fl, .int .u32 t.ex, .int .u64 t.cas]

/-- What the function leaves: it tells whether a version is taken, and what it becomes. -/
def HowR (W : World) (p : Nat) (x : Value) (t : Tv) (how : Option Tv) (e : Ending) (w' : World) : Prop :=
  e = .returned (.bool how.isSome) ∧ Frm (fun b => b = p) W w' ∧
      ∀ t', how = some t' → Tv.ok t' ∧ ∃ x', w'.heap[p]? = some (.cells (boxC x' t') 49 (0, 0)) ∧ ((x' = x ∧ t'.val = t.val) ∨ Own w' W.heap.size 5 x' (t'.val.map u8v))
/-- What is asked of the function. -/
def How (w : World) (g : Nat) (cb : Array Value) (how : Tv → Option Tv) : Prop :=
  ∀ (W : World) (p : Nat) (x : Value) (t : Tv), Below w.heap.size w W → w.heap.size ≤ p → W.heap[p]? = some (.cells (boxC x t) 49 (0, 0)) → BytesIn W (fun b => b ≠ p) x t.val → Tv.ok t →
    Calls Try.prog g (#[.pointer (some ⟨p, 0, none⟩)] ++ cb) W (HowR W p x t (how t))

structure EchI (C : Nat → Prop) (w : World) (how : Tv → Option Tv) (l : List Tv) (k : Nat) (v : Value) (W : World) (rl : List (Value × Tv)) : Prop where
  bel : Below w.heap.size w W
  eq : rl.map Prod.snd = (l.take k).filterMap how
  len : rl.length ≤ k
  own : W.ownsRow w.heap.size 49 4 v rl.length (cellsR rl)
  el : ∀ p ∈ rl, BytesIn W (ElB C W w.heap.size) p.1 p.2.val
  ok : ∀ p ∈ rl, Tv.ok p.2

theorem elB_keep {C : Nat → Prop} {w W W' : World} {x : Value} {l : List UInt8} (h : BytesIn W (ElB C W w.heap.size) x l) (hb : ∀ b, b < W.heap.size → ElB C W w.heap.size b → W'.heap[b]? = W.heap[b]?) : BytesIn W' (ElB C W' w.heap.size) x l := by
  refine ⟨?_, fun hl b hb' => ?_⟩
  · rcases h.1 with h1 | ⟨h0, b, off, cap, hv, h1, h2, h3, h4⟩
    · exact .inl h1
    · have hbb := hb b h3 (h.2 (by intro e; simp [e] at h0) b (by rw [hv]; rfl))
      have hlt : b < W'.heap.size := by
        have : W.heap[b]? = some W.heap[b] := Array.getElem?_eq_getElem h3
        rw [this] at hbb
        exact (Array.getElem?_eq_some_iff.1 hbb).1
      exact .inr ⟨h0, b, off, cap, hv, h1, h2, hlt, fun j hj => by rw [World.cell?_of_block (w := W) hbb]; exact h4 j hj⟩
  · have h5 := h.2 hl b hb'
    have h6 : b < W.heap.size := by
      rcases h.1 with ⟨h1, _⟩ | ⟨h0, b', off, cap, hv, h1, h2, h3, h4⟩
      · simp at h1; exact absurd h1 hl
      · rw [hv] at hb'; cases hb'; exact h3
    rcases h5 with h7 | ⟨h8, c, h7⟩
    · exact .inl h7
    · exact .inr ⟨h8, c, (hb b h6 (.inr ⟨h8, c, h7⟩)).trans h7⟩

theorem EchI.skip {C : Nat → Prop} {w W W3 : World} {how : Tv → Option Tv} {l : List Tv} {k : Nat} {v : Value} {rl : List (Value × Tv)} {t : Tv} (h : EchI C w how l k v W rl) (hb : Below W.heap.size W W3) (ht : l[k]? = some t) (hn : how t = none) : EchI C w how l (k + 1) v W3 rl :=
  ⟨h.bel.trans (hb.mono h.bel.size), by rw [h.eq, List.take_add_one, ht]; simp [hn], Nat.le_succ_of_le h.len, own_belowK h.own hb (Nat.le_refl _), fun p hp => elB_keep (h.el p hp) fun b hb' _ => hb.block b hb', h.ok⟩

theorem EchI.step {C : Nat → Prop} {w W W3 : World} {how : Tv → Option Tv} {l : List Tv} {k : Nat} {v x : Value} {rl : List (Value × Tv)} {t t' : Tv} {g : Nat} (h : EchI C w how l k v W rl) (hb : Below W.heap.size W W3) (hC : ∀ b, C b → b < w.heap.size) (ht : l[k]? = some t) (hs : how t = some t') (hk : k ≤ 1000000)
    (hx : BytesIn W3 (ElB C W3 w.heap.size) x t'.val) (hok : Tv.ok t') (hn : IsSlK W3 4 1 (.slice (some ⟨g, 0, none⟩) 1 1) (encR (x, t'))) :
    ∃ v' w', (Builtin.append_ #[54, 54] 54 #[v, .slice (some ⟨g, 0, none⟩) 1 1]).run Try.prog W3 = .ok v' w' ∧ Hid (EchI C w how l (k + 1) v' w' (rl ++ [(x, t')])) := by
  have ho := own_belowK h.own hb (Nat.le_refl _)
  have hlr := h.len
  obtain ⟨v', w', hr, ho', hg, hloc⟩ := app_at (P := Try.prog) (t := 54) (ty := 54) elemTold ho hn (by
    obtain ⟨a, c, e, _⟩ := hx.1.form
    intro u hu
    simp only [encR, e, List.mem_cons, List.mem_nil_iff, or_false] at hu
    rcases hu with rfl | rfl | rfl | rfl <;> rfl) (by omega) (by unfold maxLen; omega) (by have := hb.size; have := h.bel.size; omega)
  have hap : ∀ {y : Value} {m : List UInt8}, BytesIn W3 (ElB C W3 w.heap.size) y m → BytesIn w' (ElB C w' w.heap.size) y m := fun hy => elB_keep hy fun b hb' he => hg.block b hb' (fun e => by
    rcases he with he | ⟨_, c, he⟩
    · have := (ho.lt b e.symm).1; have := hC b he; omega
    · exact block_apart ho he (by decide) e)
  refine ⟨v', w', hr, ?_, ?_, by rw [List.length_append]; simp; exact hlr, ?_, ?_, ?_⟩
  · exact (h.bel.trans (hb.mono h.bel.size)).grown hg (by have := hb.size; have := h.bel.size; omega) (fun b hb' => (ho.lt b hb'.symm.symm).1)
  · rw [List.map_append, h.eq, List.take_add_one, ht]; simp [hs]
  · rw [cellsR_append]
    have : cellsR [(x, t')] = encR (x, t') := by simp [cellsR]
    rw [this, List.length_append]; exact ho'
  · intro p hp
    rcases List.mem_append.1 hp with hp | hp
    · exact hap (elB_keep (h.el p hp) fun b hb' _ => hb.block b hb')
    · obtain rfl : p = (x, t') := by simpa using hp
      exact hap hx
  · intro p hp
    rcases List.mem_append.1 hp with hp | hp
    · exact h.ok p hp
    · obtain rfl : p = (x, t') := by simpa using hp
      exact hok
theorem EchI.fin {C : Nat → Prop} {w W : World} {how : Tv → Option Tv} {l : List Tv} {k : Nat} {v : Value} {rl : List (Value × Tv)} (h : EchI C w how l k v W rl) (hk : l.length = k) : VersAt W (fun b => C b ∨ w.heap.size ≤ b) v (l.filterMap how) ∧ Below w.heap.size w W := by
  refine ⟨⟨rl, by rw [h.eq, List.take_of_length_le (by omega)], VersR.own h.own (fun b hb => .inr hb) (fun p hp => (h.el p hp).mono fun b _ hb => hb.imp id (fun h => h.1)) h.ok⟩, h.bel⟩

set_option maxHeartbeats 8000000 in
set_option maxRecDepth 20000 in
theorem each61 (w : World) (C : Nat → Prop) (sb mb kb : Nat) (q : Rq) (a : An) (now : Int) (r : Raw) (hs : List Tv) (Y : St) (F : List UInt8 → Option Value) (h : SW w C sb mb kb q a now r hs Y F) (hm : hs.length ≤ 100000)
    (g : Nat) (cb : Array Value) (eg : ∀ args w, (callFunc g args).run Try.prog w = .ok (.enter g args) w) (how : Tv → Option Tv) (hh : How w g cb how) :
    Calls Try.prog 61 #[.pointer (some ⟨sb, 0, none⟩), .func (.func g) #[] cb] w fun e w' => ∃ v, e = .returned v ∧ VersAt w' (fun b => C b ∨ w.heap.size ≤ b) v (hs.filterMap how) ∧ Below w.heap.size w w' := by
  have H := Lib.hid h
  have HH := Lib.hid hh
  have HCOLD := Lib.hid h.cold
  obtain ⟨rl0, hrl, hv0⟩ := h.has
  have HV := Lib.hid hv0
  have HRL := Lib.hid hrl
  have q22 : w.cell? ⟨sb, 22, none⟩ = some (.slice r.ha r.hn r.hc) := h.cell 22
  obtain ⟨n, hn⟩ : ∃ n, n = r.hn := ⟨_, rfl⟩
  rw [← hn] at q22
  have HHN : Hid (hs.length = n) := by show _ = _; rw [hn, h.hn]
  have HL : Hid (rl0.length = n) := by show _ = _; rw [← HHN.out, ← hrl, List.length_map]
  have hnm : n ≤ 100000 := by rw [← HHN.out]; exact hm
  obtain ⟨ha, hha⟩ : ∃ x, x = r.ha := ⟨_, rfl⟩
  obtain ⟨hc, hhc⟩ : ∃ x, x = r.hc := ⟨_, rfl⟩
  rw [← hn, ← hha, ← hhc] at HV
  rw [← hha, ← hhc] at q22
  clear h hh hv0 hrl hn hm hha hhc
  go_enter Try.func61, Try.ntmps61
  go_wp2_with fail
  go_step3
  go_wp2_with fail
  go_step3
  go_wp2_with fail
  go_loopg [5, 7, 13] n (fun gg ov bv kv wr => ∃ (k : Nat) (rl : List (Value × Tv)), gg = n - k ∧ k ≤ n ∧ kv = .int .i64 k ∧ Hid (EchI C w how hs k ov wr rl))
  case atStart => exact ⟨0, [], by omega, by omega, rfl, Below.refl _ _, rfl, Nat.le_refl _, ⟨rfl, .inl ⟨rfl, rfl⟩⟩, by simp, by simp⟩
  case round =>
    obtain ⟨k, rl, rfl, hk, rfl, HI⟩ := hrel
    by_cases hlt : k < n
    · have hkl : k < rl0.length := by rw [HL.out]; exact hlt
      obtain ⟨⟨xv, t⟩, hp⟩ : ∃ p, rl0[k]? = some p := ⟨_, List.getElem?_eq_getElem hkl⟩
      have hmem := List.mem_of_getElem? hp
      have hbt := HV.out.el _ hmem
      have htok := HV.out.ok _ hmem
      have ht : hs[k]? = some t := by rw [← HRL.out, List.getElem?_map, hp]; rfl
      obtain ⟨xa, xc, hxv, _⟩ := hbt.1.form
      have hxv : xv = .slice xa t.val.length xc := hxv
      obtain ⟨b, off, cap, e1, h1, h2, h3, _, h5⟩ := HV.out.at (by omega)
      obtain ⟨p0, p1, p2, p3⟩ := h5.frm (frm_below (T := fun _ => False) HI.out.bel) h3 (fun h => h) k _ hp
      rw [HL.out] at e1 h1
      injection e1 with y1 y2 y3
      subst y1 y3 hxv
      unfold maxLen at h2
      have HT := Lib.hid ht
      have HTOK := Lib.hid htok
      have HBT : Hid (BytesIn w C (.slice xa t.val.length xc) t.val) := hbt
      dsimp only at p0 p1 p2 p3
      obtain ⟨xn, hxn⟩ : ∃ xn, xn = t.val.length := ⟨_, rfl⟩
      rw [← hxn] at p0 HBT
      obtain ⟨B, W1, HB, HW, HK, HZ⟩ := boxed1 wr #[.slice xa xn xc, .int .u32 t.fl, .int .u32 t.ex, .int .u64 t.cas] 49
      have hbw1 : Below w.heap.size w W1 := HI.out.bel.trans (HK.out.below.mono HI.out.bel.size)
      have hcall := HH.out W1 B (.slice xa xn xc) t hbw1 (by have := HB.out; have := HI.out.bel.size; omega) HK.out.b0 ⟨IsSl.below HBT.out.1 hbw1 (Nat.le_refl _), fun hl b hb e => by have := HCOLD.out b (HBT.out.2 hl b hb); have := HB.out; have := HI.out.bel.size; omega⟩ htok
      have HCL := Lib.hid hcall
      have HBW1 := Lib.hid hbw1
      clear hmem hbt htok ht h3 h5 hp hkl hcall hbw1 hxn y2
      go_upto_region 5 with fail
      rw [HB.out, HW.out]
      clear p0 p1 p2 p3 h1 h2
      go_wp2_with fail
      refine HCL.out.mono ?_
      cases hht : how t with
      | none =>
        rintro e w1 ⟨rfl, hf1, _⟩
        have HN : Hid (EchI C w how hs (k + 1) u5 w1 rl) := HI.out.skip (HK.out.below.trans (hf1.below (fun b hb e => by have := HB.out; omega) HK.out.below.size)) HT.out hht
        have hx : (none : Option Tv).isSome = false := rfl
        rw [hx]
        clear hf1 hht HCL
        go_wp2_with fail
        go_roundg (n - (k + 1))
        case measure => omega
        case rel => exact ⟨k + 1, rl, by omega, by omega, by go_num, HN.out⟩
      | some t' =>
        rintro e w1 ⟨rfl, hf1, hres⟩
        obtain ⟨hok', x', hbx, hxx⟩ := hres t' rfl
        have hb1 : Below wr.heap.size wr w1 := HK.out.below.trans (hf1.below (fun b hb e => by have := HB.out; omega) HK.out.below.size)
        have hxi : BytesIn w1 (ElB C w1 w.heap.size) x' t'.val := by
          rcases hxx with ⟨rfl, e⟩ | ho
          · rw [e]
            have hbw : Below w.heap.size w w1 := HI.out.bel.trans (hb1.mono HI.out.bel.size)
            exact ⟨IsSl.below HBT.out.1 hbw (Nat.le_refl _), fun hl b hb => .inl (HBT.out.2 hl b hb)⟩
          · exact ⟨own_isSl ho, fun _ b hb => .inr ⟨Nat.le_trans HBW1.out.size (ho.lt b hb).1, own_block ho hb⟩⟩
        obtain ⟨xa', xc', rfl, _⟩ := hxi.1.form
        have HXI := Lib.hid hxi
        have HOK := Lib.hid hok'
        have HBX := Lib.hid hbx
        obtain ⟨xn', hxn'⟩ : ∃ xn, xn = t'.val.length := ⟨_, rfl⟩
        rw [← hxn'] at HXI HBX
        have c0 : w1.cell? ⟨B, 0, none⟩ = some (.slice xa' xn' xc') := blk_cell HBX.out 0
        have c1 : w1.cell? ⟨B, 1, none⟩ = some (.int .u32 t'.fl) := blk_cell HBX.out 1
        have c2 : w1.cell? ⟨B, 2, none⟩ = some (.int .u32 t'.ex) := blk_cell HBX.out 2
        have c3 : w1.cell? ⟨B, 3, none⟩ = some (.int .u64 t'.cas) := blk_cell HBX.out 3
        have hal : Below w1.heap.size w1 (w1.alloc (.cells #[.slice xa' xn' xc', .int .u32 t'.fl, .int .u32 t'.ex, .int .u64 t'.cas] 49)) := (Below.refl _ w1).alloc (Nat.le_refl _) _
        obtain ⟨v4, w4, hr4, HI4⟩ := HI.out.step (g := w1.heap.size) (x := .slice xa' xn' xc') (hb1.trans (hal.mono hb1.size)) HCOLD.out HT.out hht (by omega) (elB_keep HXI.out fun b hb _ => hal.block b hb) HOK.out
          (isSlK_new w1 [.slice xa' xn' xc', .int .u32 t'.fl, .int .u32 t'.ex, .int .u64 t'.cas] 49 1 4 1 (by omega) rfl (by omega) (by decide))
        have HR4 := Lib.hid hr4
        have hx : (some t').isSome = true := rfl
        rw [hx]
        clear hf1 hht HCL hres hok' hbx hxx hb1 hxi hal hr4 hxn'
        go_wp2_with (at_builtin; refine wpList_append_eq rfl _ _ _ rfl rfl rfl HR4.out ?_)
        go_roundg (n - (k + 1))
        case measure => omega
        case rel => exact ⟨k + 1, _, by omega, by omega, by go_num, HI4.out⟩
    · obtain rfl : k = n := by omega
      have HF := Lib.hid (HI.out.fin HHN.out)
      go_wp2_with fail
      rw [Exit.noGoto_ret]
      go_ret
      exact ⟨_, rfl, HF.out⟩
end Go.Proofs.Ytngpffmgkponfaa
