/- ideal.step.turned: what it leaves. Conditions: the step lies in memory. -/
import Derived.Test.YtngpffmgkponfaaTnd
import Derived.Test.YtngpffmgkponfaaRfw
import Derived.Test.YtngpffmgkponfaaWrt2
set_option linter.unusedVariables false
set_option linter.unusedSimpArgs false
namespace Go.Idl
open Go.Proofs.Ytngpffmgkponfaa
def turL (q : Rq) (n now : Int) (hs : List Tv) : List Tv :=
  (if q.ex ≠ 4294967295 ∧ n = q.ini then [⟨textF n.toNat, 0, expiryF now q.ex, 0⟩] else []) ++ hs.filterMap (turHow q n)
def writeF (Y : St) (q : Rq) (a : An) (l : List Tv) : Option St :=
  if l = [] ∨ anBare0 a = false ∨ a.cas ≤ Y.tok then none
  else some ⟨fun k => if k = q.key then sortT (l.map (Tv.withCas a.cas)) else Y.now k, fun k => if k = q.key then sortT (l.map (Tv.withCas a.cas)) else Y.safe k, a.cas⟩
def An.noNum (a : An) : An := { a with num := 0 }
end Go.Idl
namespace Go.Proofs.Ytngpffmgkponfaa
open Go.RowKit Go.Ice Go.Idl

theorem IsSlK.form {w : World} {size n : Nat} {v : Value} {cs : List Value} (h : IsSlK w size n v cs) : ∃ a c, v = .slice a n c ∧ n ≤ maxLen := by
  rcases h.2 with ⟨rfl, rfl | ⟨a, c, rfl⟩⟩ | ⟨h0, b, off, cap, rfl, h1, h2, _⟩
  · exact ⟨_, _, rfl, by decide⟩
  · exact ⟨_, _, rfl, by decide⟩
  · exact ⟨_, _, rfl, by omega⟩
theorem SW.num0 {w : World} {C : Nat → Prop} {sb mb kb : Nat} {q : Rq} {a : An} {now : Int} {r : Raw} {hs : List Tv} {Y : St} {F : List UInt8 → Option Value} (h : SW w C sb mb kb q a now r hs Y F) :
    SW (w.setCell ⟨sb, 17, none⟩ (.int .u64 0)) C sb mb kb q a.noNum now r hs Y F := by
  have hf := setCell_frm1 w sb 17 (.int .u64 0)
  have hS : ∀ b, C b → ¬ (b = sb) := fun b hb e => h.cs (e ▸ hb)
  exact ⟨blk_setAt h.blk _, h.key.frm hf hS, h.val.frm hf hS, h.aval.frm hf hS, h.stats.frm hf hS, h.hn, h.has.frm hf hS, h.map.frm hf hS (fun e => h.nm e.symm) (fun e => h.nk e.symm), h.qok,
    ⟨h.aok.1, h.aok.2.1, h.aok.2.2.1, h.aok.2.2.2.1, Int.le_refl _, by show (0 : Int) ≤ _; omega, h.aok.2.2.2.2.2.2⟩, h.now_, h.cs, h.nm, h.nk, fun b hb => Nat.lt_of_lt_of_le (h.cold b hb) hf.size⟩

/-- A row of one's own and versions elsewhere, put behind one another. -/
theorem app_vers {W : World} {base : Nat} {lv v : Value} {rl1 : List (Value × Tv)} {l2 : List Tv} {E : Nat → Prop} (ho : W.ownsRow base 49 4 lv rl1.length (cellsR rl1)) (he1 : ∀ p ∈ rl1, BytesIn W E p.1 p.2.val) (hok1 : ∀ p ∈ rl1, Tv.ok p.2)
    (hv : VersAt W E v l2) (hE : ∀ b, lv.ownBlock = some b → ¬ E b) (hb : base ≤ W.heap.size) (h1 : rl1.length ≤ 1000000) (h2 : l2.length ≤ 1000000) :
    ∃ v' W', (Builtin.append_ #[54, 54] 54 #[lv, v]).run Try.prog W = .ok v' W' ∧ VersAt W' (fun _ => True) v' (rl1.map Prod.snd ++ l2) ∧ Below base W W' := by
  obtain ⟨rl2, e2, hv2⟩ := hv
  have hl2 : rl2.length = l2.length := by rw [← e2, List.length_map]
  obtain ⟨v', W', hr, ho', hg, _⟩ := app_at (P := Try.prog) (t := 54) (ty := 54) elemTold ho hv2.isSlK (cellsR_one hv2.slices) (by omega) (by unfold maxLen; omega) hb
  have hbel : Below base W W' := (Below.refl _ W).grown hg hb (fun k hk => (ho.lt k hk).1)
  have hfr : Frm (fun b => lv.ownBlock = some b) W W' := ⟨hbel.os, hbel.tape, hbel.output, hbel.size, fun k hk hs => hg.block k hk (fun e => hs e.symm)⟩
  rw [← cellsR_append, ← List.length_append] at ho'
  refine ⟨v', W', hr, ⟨rl1 ++ rl2, by rw [List.map_append, e2], VersR.own ho' (fun _ _ => trivial) (fun p hp => ?_) (fun p hp => ?_)⟩, hbel⟩
  · have hpe : BytesIn W E p.1 p.2.val := by
      rcases List.mem_append.1 hp with h | h
      · exact he1 p h
      · exact hv2.el p h
    exact (hpe.frm hfr fun b hb' e => hE b e hb').mono fun _ _ _ => trivial
  · rcases List.mem_append.1 hp with h | h
    · exact hok1 p h
    · exact hv2.ok p h

theorem expiryF_bound {now x : Int} (h0 : 0 ≤ now) (h1 : now ≤ 4294967295) (h2 : 0 ≤ x) (h3 : x ≤ 4294967295) : 0 ≤ expiryF now x ∧ expiryF now x ≤ 4294967295 := by
  unfold expiryF
  split <;> (try split) <;> (try split) <;> omega

theorem row_one (w2 : World) (A : Obj) (x : Value) (t : Tv) (base : Nat) (hb : base ≤ w2.heap.size) :
    (((w2.alloc A).alloc (.cells (#[x, .int .u32 t.fl, .int .u32 t.ex, .int .u64 t.cas] ++ Builtin.zeroCells #[.slice none 0 0, .int .u32 0, .int .u32 0, .int .u64 0] ((Question.appendCap 1 0 49).cut (w2.tape w2.drawn (Question.appendCap 1 0 49)) - 1)) 49)).drew).ownsRow base 49 4
      (.slice (some ⟨w2.heap.size + 1, 0, none⟩) 1 ((Question.appendCap 1 0 49).cut (w2.tape w2.drawn (Question.appendCap 1 0 49)))) 1 (cellsR [(x, t)]) := by
  have hge := grownCap_ge w2 1 0 49
  have hcm := grownCap_le_maxLen w2 1 0 49 (by decide)
  unfold grownCap at hge hcm
  have hh := heap_alloc_new (w2.alloc A) (.cells (#[x, .int .u32 t.fl, .int .u32 t.ex, .int .u64 t.cas] ++ Builtin.zeroCells #[.slice none 0 0, .int .u32 0, .int .u32 0, .int .u64 0] ((Question.appendCap 1 0 49).cut (w2.tape w2.drawn (Question.appendCap 1 0 49)) - 1)) 49)
  have hz : (w2.alloc A).heap.size = w2.heap.size + 1 := by simp
  rw [hz] at hh
  generalize (Question.appendCap 1 0 49).cut (w2.tape w2.drawn (Question.appendCap 1 0 49)) = G at *
  refine ⟨rfl, .inr ⟨w2.heap.size + 1, G, _, rfl, by omega, hh, hge, hcm, ?_, ?_⟩⟩
  · simp only [Array.size_append, List.size_toArray, size_zeroCells, List.length_cons, List.length_nil]
    omega
  · simp [cellsR, encR]

set_option maxHeartbeats 8000000 in
set_option maxRecDepth 20000 in
theorem turned71 (w : World) (C : Nat → Prop) (sb mb kb : Nat) (q : Rq) (a : An) (now : Int) (r : Raw) (hs : List Tv) (Y : St) (F : List UInt8 → Option Value) (h : SW w C sb mb kb q a now r hs Y F) (hm : hs.length ≤ 10000) :
    Calls Try.prog 71 #[.pointer (some ⟨sb, 0, none⟩)] w (TakeR w C sb mb kb (writeF Y q a.noNum (turL q a.num now hs))) := by
  obtain ⟨res, hres⟩ : ∃ res, res = writeF Y q a.noNum (turL q a.num now hs) := ⟨_, rfl⟩
  rw [← hres]
  have HRES := Lib.hid hres
  clear hres
  have H := Lib.hid h
  obtain ⟨w0, hw0⟩ : ∃ w0, w0 = w.setCell ⟨sb, 17, none⟩ (.int .u64 0) := ⟨_, rfl⟩
  have hs0 : SW w0 C sb mb kb q a.noNum now r hs Y F := by rw [hw0]; exact h.num0
  have hf0 : Frm (fun b => b = sb) w w0 := by rw [hw0]; exact setCell_frm1 w sb 17 (.int .u64 0)
  have hz0 : w0.heap.size = w.heap.size := by rw [hw0]; simp [World.setCell]
  obtain ⟨B, N, W, HB, HN, HW, HK, HZ⟩ := boxed2 w0 #[.pointer (some ⟨sb, 0, none⟩)] 77 #[.int .u64 a.num] 29
  have hsb := blk_lt h.blk
  have HB' : Hid (w.heap.size = B) := hz0.symm.trans HB.out
  have HS2 : Hid (SW W C sb mb kb q a.noNum now r hs Y F) := hs0.below HK.out.below
  have HF2 : Hid (Frm (fun b => b = sb) w W) := hf0.trans (frm_below HK.out.below)
  have HW0 := Lib.hid hw0.symm
  have q17 : w.cell? ⟨sb, 17, none⟩ = some (.int .u64 a.num) := h.cell 17
  have f17 : w.frozen? ⟨sb, 17, none⟩ = false := blk_frozen h.blk 17
  have hne : sb ≠ w.heap.size := by omega
  clear hs0 hf0 hz0 hw0 h
  have b0 : W.cell? ⟨B, 0, none⟩ = some (.pointer (some ⟨sb, 0, none⟩)) := blk_cell HK.out.b0 0
  have n0 : W.cell? ⟨N, 0, none⟩ = some (.int .u64 a.num) := blk_cell HK.out.b1 0
  have q10 : W.cell? ⟨sb, 9, none⟩ = some (.int .u32 q.ex) := HS2.out.cell 9
  have q12 : W.cell? ⟨sb, 12, none⟩ = some (.int .u64 q.ini) := HS2.out.cell 12
  have q20 : W.cell? ⟨sb, 20, none⟩ = some (.int .u32 now) := HS2.out.cell 20
  obtain ⟨n, hn⟩ : ∃ n, n = a.num := ⟨_, rfl⟩
  rw [← hn] at q17 n0 HRES HK HW
  have hn0 : 0 ≤ n := by rw [hn]; exact H.out.aok.2.2.2.2.1
  have hn1 : n ≤ 18446744073709551615 := by rw [hn]; exact H.out.aok.2.2.2.2.2.1
  have HNN := Lib.hid hn
  clear hn
  obtain ⟨d, rfl⟩ := Int.eq_ofNat_of_zero_le hn0
  have HD : Hid (d ≤ 18446744073709551615) := by show d ≤ _; omega
  clear hn0 hn1
  go_enter Try.func71, Try.ntmps71
  go_upto_region 4 with fail
  have HNB : Hid (w.heap.size + 1 = N) := by rw [HB'.out, ← HB.out]; exact HN.out
  rw [HW0.out, HNB.out, HB'.out, HW.out]
  clear q17 hne hsb f17
  obtain ⟨bb, hbb⟩ : ∃ bb, bb = decide (q.ex ≠ 4294967295 ∧ (d : Int) = q.ini) := ⟨_, rfl⟩
  have HBB := Lib.hid hbb
  clear hbb
  go_cut [28] from 14 to 28 (fun s28 W4 => ∃ sv, s28 = sv ∧ Hid (sv = .bool bb ∧ ∃ k, W4 = W.drewN k))
  case first =>
    by_cases hx : q.ex = 4294967295
    · rw [hx] at q10
      go_quiet (fail)
      go_wp2_with fail
      go_meet
      case rel => exact ⟨_, rfl, by rw [HBB.out, decide_eq_false (by simp [hx])], _, rfl⟩
    · have hx' : (q.ex == 4294967295) = false := by simpa using hx
      by_cases hi : (d : Int) = q.ini
      · rw [← hi] at q12
        have HI := Lib.hid hi
        clear hi
        go_quiet (fail)
        go_wp2_with fail
        go_meet
        case rel => exact ⟨_, rfl, by rw [HBB.out, decide_eq_true ⟨hx, HI.out⟩]; simp [hx], _, rfl⟩
      · have hi' : ((d : Int) == q.ini) = false := by simpa using hi
        go_quiet (fail)
        go_wp2_with fail
        go_meet
        case rel => exact ⟨_, rfl, by rw [HBB.out, decide_eq_false (by simp [hi])], _, rfl⟩
  case rest =>
    obtain ⟨sv, rfl, hk⟩ := hcut
    obtain ⟨WA, hwa⟩ : ∃ WA, WA = wc := ⟨_, rfl⟩
    subst hwa
    have HW4 : Hid (Below W.heap.size W WA) := by obtain ⟨_, k, rfl⟩ := hk.out; exact drewN_below W k
    have hb4 := HW4.out
    have b4 := cellB hb4 b0
    have n4 := cellB hb4 n0
    have q24 := cellB hb4 q20
    have q14 := cellB hb4 q10
    have HSV := Lib.hid hk.out.1
    clear hk hb4 b0 n0 q20 q10 q12
    go_wp2_with fail
    go_cut [4] from 28 to 45 (fun s4 W6 => ∃ lv, s4 = lv ∧ Hid (∃ rl1 : List (Value × Tv), W6.ownsRow WA.heap.size 49 4 lv rl1.length (cellsR rl1) ∧ Below WA.heap.size WA W6 ∧ (∀ p ∈ rl1, Tv.ok p.2) ∧ (∀ p ∈ rl1, BytesIn W6 (fun b => WA.heap.size ≤ b ∧ lv.ownBlock ≠ some b) p.1 p.2.val) ∧ rl1.length ≤ 1 ∧ rl1.map Prod.snd = if bb then [⟨textF d, 0, expiryF now q.ex, 0⟩] else []))
    case first =>
      cases bb with
      | false =>
        rw [HSV.out]
        go_wp2_with fail
        go_meet
        case rel => exact ⟨_, rfl, [], ⟨rfl, .inl ⟨rfl, rfl⟩⟩, Below.refl _ _, by simp, by simp, by simp, rfl⟩
      | true =>
        rw [HSV.out]
        go_wp2_with fail
        have HTX := Lib.hid (fun W1 : World => text d HD.out W1)
        have HXP := Lib.hid (fun W1 : World => expiry25 now q.ex W1 HS2.out.now_.1 HS2.out.now_.2 HS2.out.qok.2.2.1 HS2.out.qok.2.2.2.1)
        go_region_held3 (fun w' => w'.cell? ⟨N, 0, none⟩ = some (.int .u64 (d : Nat)) ∧ w'.cell? ⟨B, 0, none⟩ = some (.pointer (some ⟨sb, 0, none⟩)) ∧ w'.cell? ⟨sb, 20, none⟩ = some (.int .u32 now) ∧ w'.cell? ⟨sb, 9, none⟩ = some (.int .u32 q.ex)) (first | exact ⟨n4, b4, q24, q14⟩ | exact ⟨n1, b1, q21, q11⟩ | go_keep) (first | (go_at_call 34; refine (HTX.out _).mono ?_; rintro e w1 ⟨v1, rfl, ho1, hb1⟩; obtain ⟨a1, c1, hv1, _⟩ := ho1.isSl.form; have hb1 : Below WA.heap.size WA w1 := (hbelow_drew WA).trans hb1; have n1 := cellB hb1 n4; have b1 := cellB hb1 b4; have q21 := cellB hb1 q24; have q11 := cellB hb1 q14; have HB1 := Lib.hid hb1; have HO1 := Lib.hid ho1; rw [List.length_map] at hv1; subst hv1; clear hb1 ho1) | (go_at_call 25; refine (HXP.out _).mono ?_; rintro e w2 ⟨rfl, rfl⟩))
        go_wp2_with fail
        go_meet
        case rel =>
          refine ⟨_, rfl, ?_⟩
          have hsz : WA.heap.size ≤ w2.heap.size := HB1.out.size
          have htl := textF_len d HD.out
          have hex := HS2.out.qok
          have hnw := HS2.out.now_
          have hal : Below w2.heap.size w2 (w2.alloc (.cells #[.slice a1 (textF d).length c1, .int .u32 0, .int .u32 (expiryF now q.ex), .int .u64 0] 49)) := (Below.refl _ w2).alloc (Nat.le_refl _) _
          have hal2 := (hal.alloc (by simp) (.cells (#[.slice a1 (textF d).length c1, .int .u32 0, .int .u32 (expiryF now q.ex), .int .u64 0] ++ Builtin.zeroCells #[.slice none 0 0, .int .u32 0, .int .u32 0, .int .u64 0] ((Question.appendCap 1 0 49).cut (w2.tape w2.drawn (Question.appendCap 1 0 49)) - 1)) 49)).drew
          refine ⟨[(.slice a1 (textF d).length c1, ⟨textF d, 0, expiryF now q.ex, 0⟩)], row_one w2 _ _ ⟨textF d, 0, expiryF now q.ex, 0⟩ _ hsz, HB1.out.trans (hal2.mono hsz), ?_, ?_, by simp, rfl⟩
          · intro p hp
            obtain rfl := List.mem_singleton.1 hp
            have := expiryF_bound hnw.1 hnw.2 hex.2.2.1 hex.2.2.2.1
            exact ⟨by show (textF d).length ≤ 1000; omega, by show (0 : Int) ≤ 0; omega, by show (0 : Int) ≤ _; omega, this.1, this.2, by show (0 : Int) ≤ 0; omega, by show (0 : Int) ≤ _; omega⟩
          · intro p hp
            obtain rfl := List.mem_singleton.1 hp
            exact ⟨IsSl.below HO1.out.isSl hal2 (Nat.le_refl _), fun _ b hb => ⟨(HO1.out.lt b hb).1, fun e => by have := (HO1.out.lt b hb).2; have e : some (w2.heap.size + 1) = some b := e; injection e with e; omega⟩⟩
    case rest =>
      obtain ⟨lv, hlv, HC⟩ := hcut
      have hlv := hlv.symm
      subst hlv
      obtain ⟨rl1, ho1, hb6, hok1, hel1, hl1, he1⟩ := HC.out
      have hBW : wc.drew.heap[B]? = some (.cells #[.pointer (some ⟨sb, 0, none⟩)] 77 (0, 0)) := (hb6.block B (blk_lt ((HW4.out.block B (blk_lt HK.out.b0)).trans HK.out.b0))).trans ((HW4.out.block B (blk_lt HK.out.b0)).trans HK.out.b0)
      have hNW : wc.drew.heap[N]? = some (.cells #[.int .u64 d] 29 (0, 0)) := (hb6.block N (blk_lt ((HW4.out.block N (blk_lt HK.out.b1)).trans HK.out.b1))).trans ((HW4.out.block N (blk_lt HK.out.b1)).trans HK.out.b1)
      have hbx : Below W.heap.size W wc.drew := (HW4.out.trans (hb6.mono HW4.out.size)).drew
      have hs6 := HS2.out.below hbx
      have hE := each61 wc.drew C sb mb kb q a.noNum now r hs Y F hs6 (by omega) 88 #[.pointer (some ⟨B, 0, none⟩), .pointer (some ⟨N, 0, none⟩)] (enters_of Try.func88 (by kernel_rfl) rfl) (turHow q d)
        (how88 wc.drew C sb mb kb q a.noNum now r hs Y F hs6 B N d hBW hNW)
      have happ : ∀ v7 w7, VersAt w7 (fun b => C b ∨ wc.drew.heap.size ≤ b) v7 (hs.filterMap (turHow q d)) → Below wc.drew.heap.size wc.drew w7 → ∃ v' W', (Builtin.append_ #[54, 54] 54 #[lv, v7]).run Try.prog w7 = .ok v' W' ∧ VersAt W' (fun _ => True) v' (turL q d now hs) ∧ Below W.heap.size W W' := by
        intro v7 w7 hv hb
        have hsz := hb6.size
        have hb' : Below wc.heap.size wc w7 := (hbelow_drew wc).trans hb
        have hsz7 := hb.size
        have hdz : wc.drew.heap.size = wc.heap.size := rfl
        obtain ⟨v', W', h1, h2, h3⟩ := app_vers (E := fun b => (C b ∨ WA.heap.size ≤ b) ∧ lv.ownBlock ≠ some b) (own_belowK ho1 (B := wc.heap.size) hb' (Nat.le_refl _))
          (fun p hp => BytesIn.mono ⟨IsSl.below (hel1 p hp).1 (B := wc.heap.size) hb' (Nat.le_refl _), (hel1 p hp).2⟩ fun b _ h => ⟨.inr h.1, h.2⟩) hok1
          (hv.mono fun b _ h => ⟨h.imp id (fun h => by omega), fun e => by
            have := ho1.lt b e
            rcases h with h | h
            · have := HS2.out.cold b h; have := HW4.out.size; omega
            · omega⟩) (fun b hb e => e.2 hb) (by omega) (by omega) (by have := filterMap_len (turHow q d) hs; omega)
        refine ⟨v', W', h1, ?_, hbx.trans ((hb.mono hbx.size).trans (h3.mono (by have := HW4.out.size; exact this)))⟩
        rw [he1, HBB.out] at h2
        unfold turL
        by_cases hc : q.ex ≠ 4294967295 ∧ (d : Int) = q.ini
        · rw [if_pos hc]; rw [decide_eq_true hc] at h2; exact h2
        · rw [if_neg hc]; rw [decide_eq_false hc] at h2; exact h2
      have HE := Lib.hid hE
      have HAPP := Lib.hid happ
      have B0 : wc.cell? ⟨B, 0, none⟩ = some (.pointer (some ⟨sb, 0, none⟩)) := blk_cell hBW 0
      have BW : W.cell? ⟨B, 0, none⟩ = some (.pointer (some ⟨sb, 0, none⟩)) := blk_cell HK.out.b0 0
      obtain ⟨la, lc, rfl, _⟩ := (own_isSlK ho1).form
      have hll : (turL q d now hs).length ≤ 100000 := by
        have := filterMap_len (turHow q d) hs
        unfold turL
        rw [List.length_append]
        split <;> simp <;> omega
      have HLL := Lib.hid hll
      have HNE : Hid (¬ (B = sb ∨ B = mb ∨ B = kb)) := by
        have h1 := blk_lt H.out.blk; have h2 := blk_lt H.out.map.blk; have h3 := H.out.map.map.lt; have h4 := HB'.out
        show ¬ _
        omega
      clear hE happ hBW hNW hbx hs6 hb6 hok1 hel1 he1 ho1 b4 n4 q24 q14 hll
      by_cases hno : turL q d now hs = [] ∨ anBare0 a.noNum = false ∨ a.noNum.cas ≤ Y.tok
      · have HNO := Lib.hid hno
        clear hno
        go_wp2_with fail
        go_region_held3 (fun w' => w'.cell? ⟨B, 0, none⟩ = some (.pointer (some ⟨sb, 0, none⟩))) (first | exact B0 | exact B1 | exact B2 | exact B3) (first | (refine step_append_eq rfl _ _ _ rfl rfl rfl HR8.out ?_) | (go_at_call 61; refine HE.out.mono ?_; rintro e w7 ⟨v7, rfl, hv7, hb7⟩; obtain ⟨v8, w8, hr8, hv8, hb8⟩ := HAPP.out v7 w7 hv7 hb7; obtain ⟨a7, c7, rfl, _⟩ := hv7.form; obtain ⟨a8, c8, rfl, _⟩ := hv8.form; have B1 := cellB hb7 B0; have B2 := cellB hb8 BW; have HB8 := Lib.hid hb8; have HV8 := Lib.hid hv8; have HR8 := Lib.hid hr8; clear hr8 hb7 hv7 hb8 hv8) | (go_at_call 68; refine (written68_no _ C sb mb kb q a.noNum now r hs Y F (HS2.out.below HB8.out) a8 _ c8 (HNO.out.imp (fun h => by rw [h]; rfl) id)).mono ?_; rintro e w9 ⟨rfl, hb9⟩; have B3 := cellB hb9 B2; have HB9 := Lib.hid hb9; clear hb9))
        all_goals
          go_wp2_with fail
          go_ret
          exact takeR_none rfl (by rw [HRES.out]; unfold writeF; rw [if_pos HNO.out]) (HF2.out.trans (frm_below (HB8.out.trans (HB9.out.mono HB8.out.size))))
      · have HNO := Lib.hid hno
        clear hno
        go_wp2_with fail
        go_region_held3 (fun w' => w'.cell? ⟨B, 0, none⟩ = some (.pointer (some ⟨sb, 0, none⟩))) (first | exact B0 | exact B1 | exact B2 | exact B3) (first | (refine step_append_eq rfl _ _ _ rfl rfl rfl HR8.out ?_) | (go_at_call 61; refine HE.out.mono ?_; rintro e w7 ⟨v7, rfl, hv7, hb7⟩; obtain ⟨v8, w8, hr8, hv8, hb8⟩ := HAPP.out v7 w7 hv7 hb7; obtain ⟨a7, c7, rfl, _⟩ := hv7.form; obtain ⟨a8, c8, rfl, _⟩ := hv8.form; have B1 := cellB hb7 B0; have B2 := cellB hb8 BW; have HB8 := Lib.hid hb8; have HV8 := Lib.hid hv8; have HR8 := Lib.hid hr8; clear hr8 hb7 hv7 hb8 hv8) | (go_at_call 68; refine (written68 _ C sb mb kb q a.noNum now r hs Y F (HS2.out.below HB8.out) _ _ _ HV8.out HLL.out (fun h => HNO.out (.inl h)) (by have := HNO.out; simp only [not_or] at this; simpa using this.2.1) (by have := HNO.out; simp only [not_or] at this; omega)).mono ?_; rintro e w9 ⟨rfl, hd9⟩; have B3 := (hd9.frm.cell (p := ⟨B, 0, none⟩) (World.block_lt_of_cell? _ _ B2) HNE.out).trans B2; have HD9 := Lib.hid hd9; clear hd9))
        all_goals
          go_wp2_with fail
          go_ret
          exact takeR_some rfl (by rw [HRES.out]; unfold writeF; rw [if_neg HNO.out]) (Done.of H.out (HF2.out.trans (frm_below HB8.out)) HD9.out)
end Go.Proofs.Ytngpffmgkponfaa
