/- The law ScriptParses, its walk. Conditions: the text; the variables are as laid. -/
import Derived.Test.YtelaijogjgcloaaDoorRpq
import Derived.Test.YtelaijogjgcloaaDoorRss
import Derived.Test.YtelaijogjgcloaaDoorWks
set_option linter.unusedVariables false
set_option linter.unusedSimpArgs false
namespace Go.Proofs.YtelaijogjgcloaaDoor
open Go.RowKit Go.Ice Go.Scr

/-- What a parse answers: the script, the place, the error. -/
def parS (t : Txt) : Scr := if 262144 < t.length then ⟨plan0, []⟩ else match parseP t with
  | .ok s => s
  | .error _ => ⟨plan0, []⟩
def parK (t : Txt) : Int := if 262144 < t.length then 0 else match parseP t with
  | .ok _ => 0
  | .error j => (j : Nat)
def parN (t : Txt) : Int := if 262144 < t.length then 3 else match parseP t with
  | .ok _ => 0
  | .error _ => 360
theorem ParOut.is {B : Nat} {W : World} {t : Txt} {sv : Value} {k n : Int} (h : ParOut B W t sv k n) : k = parK t ∧ n = parN t ∧ ∃ v, sv = scrV (parS t).plan v ∧ EvsOwn B W v (parS t).evs := by
  unfold ParOut at h
  unfold parK parN parS
  by_cases hl : 262144 < t.length
  · rw [if_pos hl] at h
    rw [if_pos hl, if_pos hl, if_pos hl]
    obtain ⟨rfl, rfl, rfl⟩ := h
    exact ⟨rfl, rfl, _, rfl, EvsOwn.nil _ _⟩
  · rw [if_neg hl] at h
    rw [if_neg hl, if_neg hl, if_neg hl]
    cases hp : parseP t with
    | ok s =>
      rw [hp] at h
      obtain ⟨⟨v, rfl, hv⟩, rfl, rfl⟩ := h
      exact ⟨rfl, rfl, v, rfl, hv⟩
    | error j =>
      rw [hp] at h
      obtain ⟨rfl, rfl, rfl⟩ := h
      exact ⟨rfl, rfl, _, rfl, EvsOwn.nil _ _⟩
theorem parS_keep (t : Txt) : ∀ e ∈ (parS t).evs, e.keep.length ≤ 1000000 := by
  intro e he
  unfold parS at he
  split at he
  · simp at he
  · split at he
    · rename_i s hs
      have h := checkS_facts (p := s.plan) (evs := s.evs) (text_parse hs).2
      have := (right_facts h.1 (h.2.2 e he)).2.2.2.2
      omega
    · simp at he
theorem parS_bytes (t : Txt) : ∀ e ∈ (parS t).evs, e.bytes.length ≤ 1000000 := by
  intro e he
  unfold parS at he
  split at he
  · simp at he
  · split at he
    · rename_i s hs
      have h := checkS_facts (p := s.plan) (evs := s.evs) (text_parse hs).2
      have := (right_facts h.1 (h.2.2 e he)).2.2.2.1
      omega
    · simp at he
/-- The values of events' cells. -/
def EvXs (l : List Ev) (X : Nat → Nat → Value) : Prop := ∀ i x, l[i]? = some x → X i 0 = .int .i64 x.kind ∧ X i 1 = .int .i64 x.conn ∧ X i 2 = .int .i64 x.n ∧ (∃ a c, X i 3 = .slice a x.bytes.length c ∧ (0 < x.bytes.length → ∃ b off, a = some ⟨b, off, none⟩)) ∧ (∃ a n c, X i 4 = .slice a n c)
/-- While bytes of events are written over: the row of events, the rows of bytes. -/
structure LwE (wo : World) (v : Value) (l : List Ev) (X : Nat → Nat → Value) (W : World) : Prop where
  bel : Below wo.heap.size wo W
  row : RowAt W 5 v l.length X
  own : ∀ g, v.ownBlock = some g → ∃ c, W.heap[g]? = some (.cells c 41 (0, 0))
  fr : ∀ i, i < l.length → Fresh wo.heap.size W (X i 3) 5
theorem LwE.of {wo W : World} {v : Value} {l : List Ev} (h : EvsOwn wo.heap.size W v l) (hb : Below wo.heap.size wo W) : ∃ X, LwE wo v l X W ∧ EvXs l X := by
  obtain ⟨X, h1, h2⟩ := h
  refine ⟨X, ⟨hb, own_rowAt h1, fun g hg => own_block h1 hg, fun i hi => (h2 i l[i] (List.getElem?_eq_getElem hi)).fb⟩, fun i x hx => ?_⟩
  have h := h2 i x hx
  refine ⟨h.c0, h.c1, h.c2, ?_, ?_⟩
  · obtain ⟨a, c, e, _⟩ := h.bs.form
    refine ⟨a, c, e, fun h0 => ?_⟩
    rcases h.bs with ⟨g, _⟩ | ⟨_, b, off, cap, g, _⟩
    · have := congrArg List.length g
      simp at this
      rw [this] at h0
      simp at h0
    · rw [e] at g
      injection g with g
      exact ⟨b, off, g⟩
  · obtain ⟨a, c, e, _⟩ := h.ks.form
    exact ⟨a, _, c, e⟩
theorem LwE.step {wo W W' : World} {v : Value} {l : List Ev} {X : Nat → Nat → Value} (h : LwE wo v l X W) (hb : Below W.heap.size W W') : LwE wo v l X W' :=
  ⟨h.bel.trans (hb.mono h.bel.size), h.row.below hb (Nat.le_refl _), fun g hg => by
    obtain ⟨c, hc⟩ := h.own g hg
    exact ⟨c, (hb.block g (blk_lt hc)).trans hc⟩, fun i hi => (h.fr i hi).below hb⟩
theorem Fresh.set {B b k : Nat} {w : World} {u v : Value} {e : TypeId} (h : Fresh B w v e) : Fresh B (w.setCell ⟨b, k, none⟩ u) v e := fun a n c hv => by
  obtain ⟨h1, cs, h2, h3⟩ := h a n c hv
  by_cases hab : a.block = b
  · rw [hab] at h2 ⊢
    exact ⟨by omega, _, set_at h2 u, by simpa using h3⟩
  · exact ⟨h1, cs, blk_set h2 (p := ⟨b, k, none⟩) hab u, h3⟩
theorem LwE.set {wo W : World} {v : Value} {l : List Ev} {X : Nat → Nat → Value} (h : LwE wo v l X W) {b : Nat} {cs : Array Value} (hb : wo.heap.size ≤ b) (hc : W.heap[b]? = some (.cells cs 5 (0, 0))) (k : Nat) (u : Value) : LwE wo v l X (W.setCell ⟨b, k, none⟩ u) := by
  have hne : ∀ g, v.ownBlock = some g → g ≠ b := fun g hg e => by
    obtain ⟨c, hc'⟩ := h.own g hg
    rw [e, hc] at hc'
    injection hc' with hc'
    injection hc' with _ h2 _
    revert h2; decide
  refine ⟨h.bel.setCell hb _, h.row.frm (frm_set b k u) hne, fun g hg => ?_, fun i hi => (h.fr i hi).set⟩
  obtain ⟨c, hc'⟩ := h.own g hg
  exact ⟨c, blk_set hc' (p := ⟨b, k, none⟩) (hne g hg) u⟩
theorem LwE.at {wo W : World} {v : Value} {l : List Ev} {X : Nat → Nat → Value} (h : LwE wo v l X W) (hX : EvXs l X) {i : Nat} {x : Ev} (hx : l[i]? = some x) : ∃ g off cap ab cb ak nk ck, v = .slice (some ⟨g, off, none⟩) l.length cap ∧ l.length ≤ maxLen ∧ X i 3 = .slice ab x.bytes.length cb ∧ (0 < x.bytes.length → ∃ b off, ab = some ⟨b, off, none⟩) ∧
    W.cell? ⟨g, off + i * 5, none⟩ = some (.int .i64 x.kind) ∧ W.cell? ⟨g, off + i * 5 + 1, none⟩ = some (.int .i64 x.conn) ∧ W.cell? ⟨g, off + i * 5 + 2, none⟩ = some (.int .i64 x.n) ∧ W.cell? ⟨g, off + i * 5 + 3, none⟩ = some (.slice ab x.bytes.length cb) ∧ W.cell? ⟨g, off + i * 5 + 4, none⟩ = some (.slice ak nk ck) := by
  have hi := (List.getElem?_eq_some_iff.1 hx).1
  obtain ⟨g, off, cap, hv, h1, h2, _, hc⟩ := h.row.at (by omega)
  obtain ⟨x0, x1, x2, ⟨ab, cb, x3, x3'⟩, ak, nk, ck, x4⟩ := hX i x hx
  refine ⟨g, off, cap, ab, cb, ak, nk, ck, hv, by omega, x3, x3', ?_, ?_, ?_, ?_, ?_⟩
  · rw [← x0]; exact hc i hi 0 (by omega)
  · rw [← x1]; exact hc i hi 1 (by omega)
  · rw [← x2]; exact hc i hi 2 (by omega)
  · rw [← x3]; exact hc i hi 3 (by omega)
  · rw [← x4]; exact hc i hi 4 (by omega)
/-- While the law is at its rounds: what was asked for. -/
structure LwS (w : World) (B Y : Nat) (p : Plan) (v : Value) (l : List Ev) (W : World) : Prop where
  bel : Below w.heap.size w W
  y : W.heap[Y]? = some (scrO p v)
  ev : EvsOwn B W v l
theorem LwS.step {w : World} {B Y : Nat} {p : Plan} {v : Value} {l : List Ev} {W W' : World} (h : LwS w B Y p v l W) (hb : Below W.heap.size W W') : LwS w B Y p v l W' :=
  ⟨h.bel.trans (hb.mono h.bel.size), (hb.block Y (blk_lt h.y)).trans h.y, h.ev.below hb⟩

set_option maxHeartbeats 16000000 in
set_option maxRecDepth 100000 in
theorem parses4 (w : World) (t : Txt) (hl : Laid w) (ht : t.length ≤ maxLen) :
    Calls Tryd.prog 4 #[.string ⟨t.toArray⟩] w fun e w' => e = .returned (.bool true) ∧ Below w.heap.size w w' := by
  have HL := Lib.hid hl
  have HW := wakes8 w hl
  unfold maxLen at ht
  obtain ⟨t1, ht1⟩ : ∃ t1, t1 = t.take 262145 := ⟨_, rfl⟩
  have HT1 := Lib.hid ht1
  have ht1l : t1.length ≤ 262145 := by rw [ht1, List.length_take]; omega
  clear hl ht1
  go_enter Tryd.func4, Tryd.ntmps4
  go_wp2_with fail
  refine HW.mono ?_
  rintro e w1 ⟨rfl, hb1⟩
  have HB1 := Lib.hid hb1
  clear hb1 HW
  go_upto_if 17 with fail
  go_cut [0] from 18 to 19 (fun s0 wc => s0 = .string ⟨t1.toArray⟩ ∧ wc = w1)
  case first =>
    by_cases hlong : (262145 : Int) < (t.length : Nat)
    · have HE : Hid ((⟨t.toArray⟩ : ByteArray).extract 0 262145 = ⟨t1.toArray⟩) := by show _ = _; rw [extract_pre, ← HT1.out]
      have hle : (262145 : Int) ≤ (t.length : Nat) := by omega
      go_wp2_with fail
      go_meet
      case rel => exact ⟨by rw [HE.out], rfl⟩
    · have HE : Hid (t1 = t) := by show _ = _; rw [HT1.out, List.take_of_length_le (by omega)]
      go_wp2_with fail
      go_meet
      case rel => exact ⟨by rw [HE.out], rfl⟩
  case rest =>
    obtain ⟨rfl, rfl⟩ := hcut
    clear ht
    go_wp2_with fail
    refine (parse16 t1 wc).mono ?_
    rintro e w2 ⟨sv, k, n, rfl, hb2, ho⟩
    obtain ⟨hk, hn, v2, rfl, hev⟩ := ho.is
    have hkeep := parS_keep t1
    have hbyte := parS_bytes t1
    obtain ⟨PS, hPS⟩ : ∃ PS, PS = parS t1 := ⟨_, rfl⟩
    rw [← hPS] at hev hkeep hbyte ⊢
    have HPS := Lib.hid hPS
    obtain ⟨⟨pg, ps, pl, pp, pc⟩, evs⟩ := PS
    dsimp only at hev hkeep hbyte ⊢
    have HKP : Hid (∀ e ∈ evs, e.keep.length ≤ 1000000) := hkeep
    have HKB : Hid (∀ e ∈ evs, e.bytes.length ≤ 1000000) := hbyte
    have HK := Lib.hid hk
    have HN := Lib.hid hn
    obtain ⟨va, vc, rfl⟩ := hev.form
    obtain ⟨ne, hne⟩ : ∃ ne, ne = evs.length := ⟨_, rfl⟩
    rw [← hne] at hev ⊢
    have HNE := Lib.hid hne
    have HB2 : Hid (Below w.heap.size w w2) := HB1.out.trans (hb2.mono HB1.out.size)
    unfold scrV
    dsimp only
    obtain ⟨Y, W3, HY, HW3, HK3, HYZ⟩ := boxed1 w2 #[.int .i64 pg, .int .i64 ps, .int .i64 pl, .int .i64 pp, .int .i64 pc, .slice va ne vc] 26
    have HS3 : Hid (LwS w wc.heap.size Y ⟨pg, ps, pl, pp, pc⟩ (.slice va ne vc) evs W3) := ⟨HB2.out.trans (HK3.out.below.mono HB2.out.size), HK3.out.b0, hev.below HK3.out.below⟩
    clear hk hn hkeep hbyte hPS hne hev ho hb2
    go_upto_region 6 with fail
    rw [HW3.out, HY.out]
    clear HW3 HY HK3 HYZ
    go_wp2_with fail
    go_loopg [6, 7, 8, 9, 11, 12] 2 (fun g rv u7 u8 u9 u11 u12 wr => ∃ r : Nat, g = 2 - r ∧ r ≤ 2 ∧ rv = .int .i64 r ∧ Hid (LwS w wc.heap.size Y ⟨pg, ps, pl, pp, pc⟩ (.slice va ne vc) evs wr))
    case atStart => exact ⟨0, rfl, by omega, rfl, HS3⟩
    case round =>
      obtain ⟨r, rfl, hr, rfl, HS⟩ := hrel
      clear HS3
      by_cases hlt : r < 2
      · obtain ⟨wo, rfl⟩ : ∃ wo : World, wo = wr := ⟨_, rfl⟩
        have hlt' : (r : Int) < 2 := by omega
        have HP := parse17 wo t1 (HL.out.below HS.out.bel) (by omega)
        go_wp2_with fail
        refine HP.mono ?_
        rintro e w5 ⟨sv, k', n', rfl, hb5, ho⟩
        obtain ⟨hk', hn', v5, rfl, hev⟩ := ho.is
        have hkk : k' = k := hk'.trans HK.out.symm
        have hnn : n' = n := hn'.trans HN.out.symm
        subst hkk hnn
        rw [← HPS.out] at hev ⊢
        dsimp only at hev ⊢
        obtain ⟨vb, vd, rfl⟩ := hev.form
        rw [← HNE.out] at hev ⊢
        unfold scrV
        dsimp only
        obtain ⟨Z, W6, HZ, HW6, HK6, HZS⟩ := boxed1 w5 #[.int .i64 pg, .int .i64 ps, .int .i64 pl, .int .i64 pp, .int .i64 pc, .slice vb ne vd] 26
        have HB6 : Hid (Below wo.heap.size wo W6) := hb5.trans (HK6.out.below.mono hb5.size)
        have HE6 : Hid (EvsOwn wo.heap.size W6 (.slice vb ne vd) evs) := hev.below HK6.out.below
        have HS6 := Lib.hid (HS.out.step HB6.out)
        have HZB := Lib.hid HK6.out.b0
        have HC := rsame13 W6 (.agg #[.int .i64 pg, .int .i64 ps, .int .i64 pl, .int .i64 pp, .int .i64 pc, .slice vb ne vd]) (.agg #[.int .i64 pg, .int .i64 ps, .int .i64 pl, .int .i64 pp, .int .i64 pc, .slice va ne vc]) ⟨⟨pg, ps, pl, pp, pc⟩, evs⟩ ⟨⟨pg, ps, pl, pp, pc⟩, evs⟩ ⟨_, rfl, HE6.out.at⟩ ⟨_, rfl, HS6.out.ev.at⟩ HKP.out HKP.out
        rw [decide_eq_true rfl] at HC
        have HYB := HS6.out.y
        unfold scrO at HYB
        clear hk' hn' hev ho hb5 HP
        have y0 : W6.cell? ⟨Y, 0, none⟩ = some (.int .i64 pg) := blk_cell HYB 0
        have y1 : W6.cell? ⟨Y, 1, none⟩ = some (.int .i64 ps) := blk_cell HYB 1
        have y2 : W6.cell? ⟨Y, 2, none⟩ = some (.int .i64 pl) := blk_cell HYB 2
        have y3 : W6.cell? ⟨Y, 3, none⟩ = some (.int .i64 pp) := blk_cell HYB 3
        have y4 : W6.cell? ⟨Y, 4, none⟩ = some (.int .i64 pc) := blk_cell HYB 4
        have y5 : W6.cell? ⟨Y, 5, none⟩ = some (.slice va ne vc) := blk_cell HYB 5
        have z0 : W6.cell? ⟨Z, 0, none⟩ = some (.int .i64 pg) := blk_cell HZB.out 0
        have z1 : W6.cell? ⟨Z, 1, none⟩ = some (.int .i64 ps) := blk_cell HZB.out 1
        have z2 : W6.cell? ⟨Z, 2, none⟩ = some (.int .i64 pl) := blk_cell HZB.out 2
        have z3 : W6.cell? ⟨Z, 3, none⟩ = some (.int .i64 pp) := blk_cell HZB.out 3
        have z4 : W6.cell? ⟨Z, 4, none⟩ = some (.int .i64 pc) := blk_cell HZB.out 4
        have z5 : W6.cell? ⟨Z, 5, none⟩ = some (.slice vb ne vd) := blk_cell HZB.out 5
        clear HYB
        go_upto_region 10 with fail
        rw [HW6.out, HZ.out]
        clear HW6 HZ HZS HK6
        go_wp2_with fail
        refine HC.mono ?_
        rintro e w7 ⟨rfl, hb7⟩
        have HZ7 : Hid (w7.heap[Z]? = some (.cells #[.int .i64 pg, .int .i64 ps, .int .i64 pl, .int .i64 pp, .int .i64 pc, .slice vb ne vd] 26 (0, 0))) := (hb7.block Z (blk_lt HZB.out)).trans HZB.out
        have HE7 : Hid (EvsOwn wo.heap.size w7 (.slice vb ne vd) evs) := HE6.out.below hb7
        have HB7 : Hid (Below wo.heap.size wo w7) := HB6.out.trans (hb7.mono HB6.out.size)
        obtain ⟨X, hle, hxs⟩ := LwE.of HE7.out HB7.out
        have HLE := Lib.hid hle
        have HXS := Lib.hid hxs
        clear hb7 HC HZB HE6 HB6 HS6 hle hxs HE7 HB7 y0 y1 y2 y3 y4 y5 z0 z1 z2 z3 z4 z5
        have z5 : w7.cell? ⟨Z, 5, none⟩ = some (.slice vb ne vd) := blk_cell HZ7.out 5
        clear HZ7
        go_wp2_with fail
        go_loopg [11, 12, 53, 60] ne (fun m u11 u12 kv u60 wi => ∃ i : Nat, m = ne - i ∧ i ≤ ne ∧ kv = .int .i64 i ∧ Hid (LwE wo (.slice vb ne vd) evs X wi))
        case atStart => exact ⟨0, rfl, by omega, rfl, HLE⟩
        case round =>
          obtain ⟨i, rfl, hi, rfl, HE⟩ := hrel
          clear HLE z5
          by_cases hin : i < ne
          · have hil : i < evs.length := by rw [← HNE.out]; exact hin
            obtain ⟨x, hx⟩ : ∃ x, evs[i]? = some x := ⟨evs[i], List.getElem?_eq_getElem hil⟩
            obtain ⟨g, off, cap, ab, cb, ak, nk, ck, e1, e2, e3, e4, q0, q1, q2, q3, q4⟩ := HE.out.at HXS.out hx
            rw [← HNE.out] at e1 e2
            injection e1 with x1 x2 x3
            subst x1 x3
            obtain ⟨wi', rfl⟩ : ∃ w' : World, w' = wr := ⟨_, rfl⟩
            have hin' : (i : Int) < (ne : Nat) := by omega
            have HFR : Hid (X i 3 = .slice ab x.bytes.length cb) := e3
            have HAB : Hid (0 < x.bytes.length → ∃ b off, ab = some ⟨b, off, none⟩) := e4
            have HXM : Hid (x.bytes.length ≤ 1000000) := HKB.out x (List.mem_of_getElem? hx)
            unfold maxLen at e2
            obtain ⟨nb, hnb⟩ : ∃ nb, nb = x.bytes.length := ⟨_, rfl⟩
            rw [← hnb] at q3 HFR HAB HXM
            obtain ⟨xk, xc, xn, xb, xp⟩ := x
            dsimp only at q0 q1 q2
            obtain ⟨D, W8, HD, HW8, HK8, HDS⟩ := boxed1 wi' #[.int .i64 xk, .int .i64 xc, .int .i64 xn, .slice ab nb cb, .slice ak nk ck] 41
            have HE8 := Lib.hid (HE.out.step HK8.out.below)
            have HD8 := Lib.hid HK8.out.b0
            clear e3 e4 hx x2 hnb
            go_upto_region 15 with fail
            rw [HW8.out, HD.out]
            clear HW8 HD HDS HK8 q0 q1 q2 q3 q4
            have d3 : W8.cell? ⟨D, 3, none⟩ = some (.slice ab nb cb) := blk_cell HD8.out 3
            go_wp2_with fail
            go_loopg [12, 60] nb (fun m2 u12 jv wj => ∃ j : Nat, m2 = nb - j ∧ j ≤ nb ∧ jv = .int .i64 j ∧ Hid (LwE wo (.slice (some ⟨g, off, none⟩) ne vd) evs X wj ∧ wj.heap[D]? = some (.cells #[.int .i64 xk, .int .i64 xc, .int .i64 xn, .slice ab nb cb, .slice ak nk ck] 41 (0, 0))))
            case atStart => exact ⟨0, rfl, by omega, rfl, HE8.out, HD8.out⟩
            case round =>
              obtain ⟨j, rfl, hj, rfl, HJ⟩ := hrel
              clear d3 HE8 HD8
              by_cases hjn : j < nb
              · obtain ⟨b, bo, rfl⟩ := HAB.out (by omega)
                obtain ⟨hge, cs, hcs, hsz⟩ := HJ.out.1.fr i (by rw [← HNE.out]; exact hin) _ _ _ HFR.out
                dsimp only at hge hcs hsz
                have hjn' : (j : Int) < (nb : Nat) := by omega
                have hxm := HXM.out
                have d3 : wr.cell? ⟨D, 3, none⟩ = some (.slice (some ⟨b, bo, none⟩) nb cb) := blk_cell HJ.out.2 3
                obtain ⟨u, c0⟩ : ∃ u, wr.cell? ⟨b, bo + j, none⟩ = some u := ⟨cs[bo + j]'(by omega), by rw [blk_cell hcs]; exact Array.getElem?_eq_getElem (by omega)⟩
                have fz : wr.frozen? ⟨b, bo + j, none⟩ = false := blk_frozen hcs _
                have HDB : Hid (D ≠ b) := fun e => by
                  have h := HJ.out.2
                  rw [e, hcs] at h
                  injection h with h
                  injection h with _ h2 _
                  revert h2; decide
                have HJ2 : Hid (LwE wo (.slice (some ⟨g, off, none⟩) ne vd) evs X (wr.setCell ⟨b, bo + j, none⟩ (.int .u8 238)) ∧ (wr.setCell ⟨b, bo + j, none⟩ (.int .u8 238)).heap[D]? = some (.cells #[.int .i64 xk, .int .i64 xc, .int .i64 xn, .slice (some ⟨b, bo, none⟩) nb cb, .slice ak nk ck] 41 (0, 0))) := ⟨HJ.out.1.set hge hcs _ _, blk_set HJ.out.2 (p := ⟨b, bo + j, none⟩) HDB.out _⟩
                clear hge hcs hsz
                go_wp2_with fail
                go_roundg (nb - (j + 1))
                case measure => omega
                case rel => exact ⟨j + 1, rfl, by omega, by go_num, HJ2⟩
              · have hjn' : ¬ (j : Int) < (nb : Nat) := by omega
                go_wp2_with fail
                go_roundg (ne - (i + 1))
                case measure => omega
                case rel => exact ⟨i + 1, rfl, by omega, by go_num, HJ.out.1⟩
          · have hin' : ¬ (i : Int) < (ne : Nat) := by omega
            have HS9 := Lib.hid (HS.out.step HE.out.bel)
            go_wp2_with fail
            go_roundg (2 - (r + 1))
            case measure => omega
            case rel => exact ⟨r + 1, rfl, by omega, by go_num, HS9⟩
      · have hlt' : ¬ (r : Int) < 2 := by omega
        go_wp2_with fail
        go_ret
        exact ⟨rfl, HS.out.bel⟩
end Go.Proofs.YtelaijogjgcloaaDoor
