/- Plain: Append of which something may fail; what is told behind a crash. Conditions: as many calls as the law makes. Plain: the first record of a new log. Conditions: none. A constant's bytes: a block that bears the run-time's mark. Conditions: a slice of bytes. The law's wakes: what is put into a new log is read. No condition. Arguments that came in, read leaf by leaf: structs and slices of structs, nested however deep, whose leaves take one cell each. No condition. -/
import Derived.Test.YtjmocjcjiiopnaaLogCuts34
import Derived.Test.YtjmocjcjiiopnaaLogCuts32
import Derived.Test.YtjmocjcjiiopnaaLogCuts06
import Derived.Test.YtjmocjcjiiopnaaLogCuts08
import Derived.Lib.SlBytesConst
import Derived.Test.YtjmocjcjiiopnaaLogCuts01
import Derived.Deep.Slices
import Derived.SizedLaws

section
set_option linter.unusedVariables false
set_option linter.unusedSimpArgs false
namespace Go.Lg
open Go.Ring Go.Dsk Go.Oct Go.Proofs.Ytjmocjcjiiopnaa
section
variable {P : RecT → Prop} {k : Nat} {L : Lg} {m : Nat} {C X S : Nat → List RecT}
theorem Cuts.openOk (h : Cuts P k L m C X S) (hk : k ≤ 1000) {nn : Nat} (hn : nn ≤ 17) (h0 : L.open.2 = 0) : PutOk L.open.1 nn := by
  obtain ⟨hs, hsl, hsg, hlg⟩ := h.sealed
  have hm5 := h.hm
  have hnx := hs.next
  rw [hsl] at hnx
  have hgm := h.genm
  have hpe := h.pend
  have htk := h.tok
  have hgk := h.gen
  by_cases hmn : m = 5
  · rw [if_pos hmn] at hnx
    unfold Lg.open at h0
    rw [hnx] at h0
    cases h0
  · rw [if_neg hmn] at hnx
    have hm' : m < 5 := by omega
    have hna : nextAt 5 0 m = m := by unfold nextAt; split; omega; rw [Nat.zero_add, Nat.mod_eq_of_lt hm']
    rw [hna] at hnx
    have hup : L.up.may = true := by
      have := of_decide_eq_true h.may
      unfold Sp.may Lg.up
      rw [decide_eq_true_eq]
      dsimp only
      omega
    obtain ⟨D1, e1, w1, W1, a1⟩ := set_wrote h.disk.ok h.disk.len (by omega) L.up L.t
    obtain ⟨D2, e2, w2, W2, a2⟩ := write_wrote W1.ok (i := 2 + m * 24) (by rw [W1.len, h.disk.len]; omega) (headS_len (L.x.gen + 1) m) (by have := W1.pend; omega)
    have w2' : D1.write (2 + (m : Int) * L.x.sec) (headS (L.x.gen + 1) m) = (D2, e2) := by
      rw [h.xsec, show (2 + (m : Int) * (24 : Int)) = ((2 + m * 24 : Nat) : Int) by simp]
      exact w2
    obtain ⟨D3, e3, w3, W3, a3⟩ := sync_wrote W2.ok
    have key : L.open.1 = ⟨L.up, L.t + 1, D3, (sealS L.segs).set m ⟨1, L.x.gen + 1, 1⟩, L.br⟩ := by
      by_cases he1 : e1 = 0
      · by_cases he2 : e2 = 0
        · by_cases he3 : e3 = 0
          · unfold Lg.open
            rw [hnx]
            dsimp only
            rw [w1, if_neg (by simpa using he1)]
            dsimp only
            rw [w2', if_neg (by simpa using he2)]
            dsimp only
            rw [w3, if_neg (by simpa using he3)]
          · unfold Lg.open at h0
            rw [hnx] at h0
            dsimp only at h0
            rw [w1, if_neg (by simpa using he1)] at h0
            dsimp only at h0
            rw [w2', if_neg (by simpa using he2)] at h0
            dsimp only at h0
            rw [w3, if_pos he3] at h0
            exact absurd h0 he3
        · unfold Lg.open at h0
          rw [hnx] at h0
          dsimp only at h0
          rw [w1, if_neg (by simpa using he1)] at h0
          dsimp only at h0
          rw [w2', if_pos he2] at h0
          exact absurd h0 he2
      · unfold Lg.open at h0
        rw [hnx] at h0
        dsimp only at h0
        rw [w1, if_pos he1] at h0
        exact absurd h0 he1
    rw [key]
    have hsd := hs.open (g := L.x.gen + 1) (by rw [hsl]; exact hm') (by rw [hlg]; omega)
    have hst0 : startAt 0 m = 0 := by unfold startAt; split <;> rfl
    rw [hsl, hna, hst0] at hsd
    have hmsl : m < (sealS L.segs).length := by rw [hsl]; exact hm'
    have hop : openedP ((sealS L.segs).set m ⟨1, L.x.gen + 1, 1⟩) = some m := by
      rw [hsd.opened, if_pos rfl, List.length_set, hsl]
      congr 1
      omega
    exact {
      chk := by show checkB L.x.sec _ = true; rw [h.xsec]; exact hsd.check
      len := by show ((List.set _ _ _).length : Int) = L.x.seg; rw [List.length_set, hsl, h.xseg]; rfl
      may := hup
      op := ⟨m, hop, by show m < (List.set _ _ _).length; rw [List.length_set]; exact hmsl, by rw [at_set hmsl, if_pos rfl]; show 1 ≤ L.x.gen + 1; omega, by rw [at_set hmsl, if_pos rfl]; show L.x.gen + 1 ≤ _; omega⟩
      room := by
        unfold leftP
        rw [hop]
        dsimp only
        rw [at_set hmsl, if_pos rfl]
        show (nn : Int) ≤ L.x.sec - 1
        rw [h.xsec]; omega
      pend := by show D3.pend.length < _; have := W1.pend; have := W2.pend; have := W3.pend; omega }
theorem Cuts.readyOk (h : Cuts P k L m C X S) (hk : k ≤ 1000) {nn : Nat} (hn : nn ≤ 17) (h0 : (L.ready nn).2 = 0) : PutOk (L.ready nn).1 nn := by
  have hop := h.opened
  by_cases hm : 0 < m
  · rw [if_pos hm] at hop
    have e : L.ready nn = if leftP L.x.sec L.segs < nn then L.open else (L, 0) := by unfold Lg.ready; rw [hop]
    rw [e] at h0 ⊢
    by_cases hl : leftP L.x.sec L.segs < nn
    · rw [if_pos hl] at h0 ⊢; exact h.openOk hk hn h0
    · rw [if_neg hl]
      refine h.putOk hk hm ?_
      have hu := (h.segs (m - 1) (by omega)).2
      unfold leftP at hl
      rw [hop] at hl
      dsimp only at hl
      rw [hu, h.xsec] at hl
      omega
  · rw [if_neg hm] at hop
    have e : L.ready nn = L.open := by unfold Lg.ready; rw [hop]
    rw [e] at h0 ⊢
    exact h.openOk hk hn h0
theorem Cuts.later (h : Cuts P k L m C X S) {k' : Nat} (hk : k ≤ k') : Cuts P k' L m C X S := { h with tok := Nat.le_trans h.tok hk, gen := Nat.le_trans h.gen hk, pend := by have := h.pend; omega }
/-- A record is appended, or not. -/
theorem Cuts.append (h : Cuts P k L m C X S) (hk : k ≤ 900) (r : RecT) (hf : r.rc.fits) (hP : P r) :
    L.fit ∧ (r.rc.right r.ka.length r.va.length = true → (L.ready r.n).2 = 0 → PutOk (L.ready r.n).1 r.n) ∧ ((∃ L' m' e X', e ≠ 0 ∧ L.append r.rc r.ka r.va = (L', e, (0, 0, 0)) ∧ Cuts P (k + 2) L' m' C X' S) ∨ ∃ L' m' i, i < 5 ∧ L.append r.rc r.ka r.va = (L', 0, (i, i + 1, ((1 + usedR (C i) : Nat) : Int))) ∧ Cuts P (k + 2) L' m' (fun a => if a = i then C a ++ [r] else C a) X S) := by
  refine ⟨h.lfit (by omega), fun hr h0 => h.readyOk (by omega) (RecT.n_le ⟨hf, hr⟩) h0, ?_⟩
  cases hr : r.rc.right r.ka.length r.va.length with
  | false => exact .inl ⟨L, m, 160, X, by decide, by unfold Lg.append; rw [if_pos hr], h.later (by omega)⟩
  | true =>
    have hro : r.ok := ⟨hf, hr⟩
    have hn17 := RecT.n_le hro
    cases hb : L.br with
    | true => exact .inl ⟨L, m, 8, X, by decide, by unfold Lg.append; rw [if_neg (by rw [hr]; decide), if_pos hb], h.later (by omega)⟩
    | false =>
      have hap : L.append r.rc r.ka r.va = if (L.ready r.n).2 ≠ 0 then ((L.ready r.n).1, (L.ready r.n).2, (0, 0, 0)) else (L.ready r.n).1.put r.b := by
        unfold Lg.append
        rw [if_neg (by rw [hr]; decide), if_neg (by rw [hb]; decide)]
        rfl
      have hre : (∃ e L', e ≠ 0 ∧ L.ready r.n = (L', e) ∧ Cuts P (k + 1) L' m C X S) ∨ (∃ L' m', 0 < m' ∧ L.ready r.n = (L', 0) ∧ L'.br = false ∧ Cuts P (k + 1) L' m' C X S ∧ 1 + usedR (C (m' - 1)) + r.n ≤ 24) := by
        have hopen : L.ready r.n = L.open → (∃ e L', e ≠ 0 ∧ L.ready r.n = (L', e) ∧ Cuts P (k + 1) L' m C X S) ∨ (∃ L' m', 0 < m' ∧ L.ready r.n = (L', 0) ∧ L'.br = false ∧ Cuts P (k + 1) L' m' C X S ∧ 1 + usedR (C (m' - 1)) + r.n ≤ 24) := fun e => by
          rw [e]
          rcases h.open (by omega) hb with h1 | ⟨hm, L', h1, h2, h3⟩
          · exact .inl h1
          · refine .inr ⟨L', m + 1, by omega, h1, h2, h3, ?_⟩
            rw [Nat.add_sub_cancel, h.virgin m (Nat.le_refl _)]
            simp [usedR]
            omega
        have hop := h.opened
        by_cases hm : 0 < m
        · rw [if_pos hm] at hop
          have e : L.ready r.n = if leftP L.x.sec L.segs < r.n then L.open else (L, 0) := by unfold Lg.ready; rw [hop]
          by_cases hl : leftP L.x.sec L.segs < r.n
          · rw [if_pos hl] at e; exact hopen e
          · rw [if_neg hl] at e
            refine .inr ⟨L, m, hm, e, hb, h.later (by omega), ?_⟩
            have hu := (h.segs (m - 1) (by omega)).2
            unfold leftP at hl
            rw [hop] at hl
            dsimp only at hl
            rw [hu, h.xsec] at hl
            omega
        · rw [if_neg hm] at hop
          exact hopen (by unfold Lg.ready; rw [hop])
      rw [hap]
      rcases hre with ⟨e, L', he, e1, h1⟩ | ⟨L', m', hm', e1, hb', h1, hroom⟩
      · rw [e1, if_pos he]
        exact .inl ⟨L', m, e, X, he, rfl, h1.later (by omega)⟩
      · rw [e1, if_neg (by simp)]
        have h5 := h1.hm
        rcases h1.put (by omega) hb' hm' hro hP hroom with ⟨e, L2, X', he, e2, h2⟩ | ⟨L2, e2, h2⟩
        · exact .inl ⟨L2, m', e, X', he, e2, h2⟩
        · exact .inr ⟨L2, m', m' - 1, by omega, by rw [e2, show m' - 1 + 1 = m' by omega], h2⟩
theorem crash_calm (D : Dk) (keep : List Bool) : (D.crash keep).calm ∧ (D.crash keep).pend = [] ∧ (D.crash keep).safe.length = D.safe.length ∧ ∀ q v, Poss (D.crash keep) q v → Poss D q v :=
  ⟨⟨rfl, rfl, rfl⟩, rfl, stl_len _ _ _ _, fun q v hv => (show Poss (D.settle fun i => keep.getD i false) q v from hv).settle⟩
theorem Cuts.crash (h : Cuts P k L m C X S) (keep : List Bool) : Sects (L.D.crash keep) (fun i => C i ++ X i) :=
  h.disk.more (Dk.crash_ok h.disk.ok keep) (crash_calm L.D keep).2.2.1 (fun i => List.prefix_refl _) fun q v hv => .inl ((crash_calm L.D keep).2.2.2 q v hv)
/-- What is told of a segment behind a crash. -/
theorem Cuts.told (h : Cuts P k L m C X S) (keep : List Bool) {x : Sp} (hx : x.sec = 24) {i : Nat} (hi : i < 5) : ∃ gk uk l, scanF x (L.D.crash keep) i = (L.D.crash keep, 0, gk, uk, placed 1 l) ∧ (l ≠ [] → gk = i + 1) ∧ (S i).length ≤ l.length ∧ (l <+: C i ∨ ∃ r, P r ∧ l = C i ++ [r]) := by
  obtain ⟨hc, hp, hl, hq⟩ := crash_calm L.D keep
  have hS := h.crash keep
  obtain ⟨c, gk, uk, hcl, e, hg, hs⟩ := hS.scan hc hp hx hi (h.oks i) (h.fit i)
  refine ⟨gk, uk, _, e, hg, ?_, ?_⟩
  · rw [List.length_take, Nat.min_eq_left hcl]
    have hpre := h.preT i
    refine hs (S i).length hpre.length_le fun hne j hj => ?_
    have ht : (C i ++ X i).take (S i).length = S i := (List.prefix_iff_eq_take.1 hpre).symm
    rw [ht] at hj
    obtain ⟨v, hv⟩ : ∃ v, (segT i (S i))[j]? = some v := ⟨_, List.getElem?_eq_getElem (by rw [segT_len]; exact hj)⟩
    have hat : (L.D.crash keep).at (2 + i * 24 + j) = v := by
      rw [Dk.at_safe hp]
      exact h.sure i j v hi (fun e => hne (by rw [e]; rfl)) hv _ (hq _ _ (.inl rfl))
    rw [hat]
    exact segT_le hv hpre
  · rcases h.under i with e | ⟨_, r, e, hP⟩
    · rw [e, List.append_nil]
      exact .inl (List.take_prefix _ _)
    · rw [e] at hcl ⊢
      by_cases hlt : c ≤ (C i).length
      · rw [List.take_append_of_le_length hlt]
        exact .inl (List.take_prefix _ _)
      · right
        refine ⟨r, hP, List.take_of_length_le ?_⟩
        simp at hcl ⊢
        omega
/-- Behind a crash a store is found. -/
theorem Cuts.found (h : Cuts P k L m C X S) (keep : List Bool) : openR (L.D.crash keep) = (L.D.crash keep, 0) ∧ ∃ x t, openS (L.D.crash keep) = some (x, t) ∧ x.seg = 5 ∧ x.sec = 24 ∧ x.may = true :=
  (h.crash keep).found (crash_calm L.D keep).1 (crash_calm L.D keep).2.1
end
theorem D0_sup (n sec : Nat) : (D0 n sec).at 0 = supB (x0 n sec) 0 ∧ (D0 n sec).at 1 = zB ∧ (D0 n sec).pend = [] := by
  have hok := new_ok (N := 1026) (by decide)
  have hl := new_len 1026
  have h3 := Dk.put_ok hok (i := 0) (by rw [hl]; decide) (supB_len (x0 n sec) 0) (by show 0 < 1000000; decide)
  have h4 := Dk.put_ok h3 (i := 1) (b := zB) (by rw [Dk.put_len, hl]; decide) List.length_replicate (by show 1 < 1000000; decide)
  unfold D0
  refine ⟨?_, ?_, rfl⟩
  · rw [Dk.settle_at h4, Dk.put_at, Dk.put_at, if_neg (by decide), if_pos rfl]
  · rw [Dk.settle_at h4, Dk.put_at, if_pos rfl]
/-- The laws' new log, on whose disk something is to fail. -/
theorem Cuts.born (P : RecT → Prop) {D : Dk} (ok : D.ok) (hs : D.safe = (D0 5 24).safe) (hp : D.pend = []) : Cuts P 0 { L0 5 24 with D := D } 0 (fun _ => []) (fun _ => []) (fun _ => []) := by
  have hG := (Told.born (n := 5) (sec := 24) (by decide) (by decide)).good
  have h0 := D0_sup 5 24
  have hval : ∀ q v, Poss D q v → v = (D0 5 24).at q := fun q v hv => by
    rcases hv with hv | hv
    · rw [Dk.at_safe h0.2.2, ← hs]; exact hv.symm
    · rw [hp] at hv; cases hv
  exact {
    side := hG.side
    xseg := hG.xseg
    xsec := hG.xsec
    len := hG.len
    may := hG.may
    fits := hG.fits
    tok := Nat.le_refl _
    gen := Nat.le_refl _
    genm := Nat.le_refl _
    xgen := fun _ => rfl
    pend := by show D.pend.length ≤ _; rw [hp]; exact Nat.le_refl _
    segs := fun i hi => absurd hi (Nat.not_lt_zero i)
    virgin := fun _ _ => rfl
    oks := fun i r hr => by cases hr
    under := fun _ => .inl rfl
    fit := fun _ => by decide
    disk := ⟨ok, by show D.safe.length = 1026; rw [hs]; exact hG.dlen, fun i j v hi hj hv => .inl (by rw [hval _ _ hv, (D0_at (n := 5) (sec := 24) (by omega) (by omega)).1]; rfl), fun v hv => ⟨x0 5 24, 0, by rw [hval _ _ hv]; exact h0.1, rfl, rfl, hG.may, hG.fits, by decide⟩, fun v hv => .inl (by rw [hval _ _ hv]; exact h0.2.1)⟩
    full := fun _ i j v hi => absurd hi (Nat.not_lt_zero i)
    pre := fun _ => List.prefix_refl _
    sure := fun i j v _ hne => absurd rfl hne }
end Go.Lg
end

section
set_option linter.unusedVariables false
set_option linter.unusedSimpArgs false
namespace Go.Lg
open Go.Ring Go.Dsk Go.Oct Go.Proofs.Ytjmocjcjiiopnaa
def wakeR : RecT := ⟨⟨1, 0, 0, 1⟩, [97], [120]⟩
theorem wake_ok {n sec : Nat} (hn : 4 ≤ n ∧ n ≤ 16) (hs : 24 ≤ sec ∧ sec ≤ 64) : (L0 n sec).fit ∧ (((L0 n sec).ready (secs (encB ⟨1, 0, 0, 1⟩ [97] [120]).length)).2 = 0 → PutOk ((L0 n sec).ready (secs (encB ⟨1, 0, 0, 1⟩ [97] [120]).length)).1 (secs (encB ⟨1, 0, 0, 1⟩ [97] [120]).length)) ∧ ∃ L', (L0 n sec).append ⟨1, 0, 0, 1⟩ [97] [120] = (L', 0, (0, 1, 1)) ∧ L'.read (0, 1, 1) = (L'.D, (⟨1, 0, 0, 1⟩, [97], [120]), 0) ∧ checkB L'.x.sec L'.segs = true ∧ (L'.segs.length : Int) = L'.x.seg ∧ L'.x.may = true := by
  have hG := (Told.born hn hs).good
  have hro : wakeR.ok := ⟨by unfold Rc.fits wakeR; decide, by decide⟩
  have hn1 := RecT.n_le hro
  refine ⟨hG.fit (by omega), fun h0 => hG.readyOk (by omega) hn1 h0, ?_⟩
  have hap : (L0 n sec).append ⟨1, 0, 0, 1⟩ [97] [120] = if ((L0 n sec).ready wakeR.n).2 ≠ 0 then (((L0 n sec).ready wakeR.n).1, ((L0 n sec).ready wakeR.n).2, (0, 0, 0)) else ((L0 n sec).ready wakeR.n).1.put wakeR.b := by
    unfold Lg.append
    rw [if_neg (by decide), if_neg (by show ¬ false = true; decide)]
    rfl
  rw [hap]
  have hop := hG.side.opened
  have hrd : (L0 n sec).ready wakeR.n = (L0 n sec).open := by
    unfold Lg.ready
    rw [hop]
    rfl
  rw [hrd]
  rcases hG.open (by omega) with ⟨h1, _⟩ | ⟨hm, D1, e, hfar, hg⟩
  · omega
  · rw [e, if_neg (by simp)]
    have hna : nextAt n 0 0 = 0 := rfl
    have hs0 : startAt 0 0 = 0 := rfl
    rw [hna, hs0] at hg
    rw [hna]
    generalize hL1 : (Lg.mk (L0 n sec).up ((L0 n sec).t + 1) D1 ((sealS (L0 n sec).segs).set 0 ⟨1, (L0 n sec).x.gen + 1, 1⟩) false) = L1 at *
    obtain ⟨L', e1, hx, ht, hfr, hsg, hg'⟩ := hg.put (by omega) hro (by simp [usedR]; omega)
    have hz : (0 + (0 + 1 - 1)) % n = 0 := by simp
    rw [hz] at e1 hg'
    have hgen : Ring.gen L1.segs 0 = 1 := by
      rw [← hL1]
      show Ring.gen (List.set _ _ _) 0 = _
      rw [gen_set (by rw [sealS_len, hG.len]; omega), if_pos rfl]
      rfl
    have hst : (at' L'.segs 0).st ≠ 0 := by
      rw [(hsg 0).1, ← hL1]
      show (at' (List.set _ _ _) 0).st ≠ 0
      rw [at_set (by rw [sealS_len, hG.len]; omega), if_pos rfl]
      show (1 : Int) ≠ 0
      decide
    rw [hgen] at e1
    have hrd := hg'.read (by omega) (i := 0) (by omega) hst (l1 := []) (l2 := []) (r := wakeR) (by simp)
    rw [(hsg 0).2, hgen] at hrd
    refine ⟨L', e1, hrd, by rw [hg'.xsec]; exact hg'.side.check, by rw [hg'.len, hg'.xseg], hg'.may⟩
end Go.Lg
end

section
set_option linter.unusedVariables false
set_option linter.unusedSimpArgs false
namespace Go.Ice
open Go.RowKit
/-- A block of bytes with the mark behind it. -/
def mrkA (b : Nat) (cs : List Value) (ty : TypeId) : Asn := objA b (.cells cs.toArray ty (cs.length, cs.length + 1))
section
variable {w0 : World} {B : Nat → Prop} {M S : List Asn} {w : World}
theorem freeze_frm (w : World) (b k : Nat) : Frm (fun x => x = b) w (w.freeze ⟨b, k, none⟩ 1) := by
  unfold World.freeze
  rw [if_neg (by decide)]
  refine ⟨rfl, rfl, rfl, by simp, fun x hx hne => ?_⟩
  show (w.heap.modify b _)[x]? = _
  rw [Array.getElem?_modify, if_neg (fun e => hne e.symm)]
theorem freeze_at {w : World} {b : Nat} {cs : Array Value} {e : TypeId} (h : w.heap[b]? = some (.cells cs e (0, 0))) (k : Nat) : (w.freeze ⟨b, k, none⟩ 1).heap[b]? = some (.cells cs e (k, k + 1)) := by
  unfold World.freeze
  rw [if_neg (by decide)]
  show (w.heap.modify b _)[b]? = _
  rw [Array.getElem?_modify, if_pos rfl, h]
  rfl
theorem run_mark {P : Program} {t e : TypeId} (ht : P.underlying t = some (.slice e)) (he : P.underlying e = some (.int .u8)) {b : Nat} {cs : Array Value} (h : w.heap[b]? = some (.cells cs e (0, 0))) (n c : Nat) :
    (convert t t (.slice (some ⟨b, 0, none⟩) n c)).run P w = .ok (.slice (some ⟨b, 0, none⟩) n c) (w.freeze ⟨b, cs.size, none⟩ 1) := by
  have hsh : w.shape? b = some (e, cs.size) := by unfold World.shape?; rw [h]
  simp [convert, run_underlying ht, run_underlying he, markStringish, hsh]
theorem St.mark {P : Program} {t e : TypeId} (ht : P.underlying t = some (.slice e)) (he : P.underlying e = some (.int .u8)) {b : Nat} {cs : List Value} (h : St w0 B M S w) (i : Nat) (hi : M[i]? = some (blkA b cs e)) (n c : Nat) :
    (convert t t (.slice (some ⟨b, 0, none⟩) n c)).run P w = .ok (.slice (some ⟨b, 0, none⟩) n c) (w.freeze ⟨b, cs.length, none⟩ 1) ∧ St w0 B (M.set i (mrkA b cs e)) S (w.freeze ⟨b, cs.length, none⟩ 1) := by
  refine ⟨?_, h.stepAt i hi fun F hF => ⟨F, ⟨hF.1, ?_⟩, ?_, fun x hx => .inl hx⟩⟩
  · have := run_mark (P := P) ht he (h.heap i hi) n c
    simpa using this
  · exact freeze_at hF.2 _
  · exact (freeze_frm w b _).mono fun x _ hx => (hF.1 x).2 hx
/-- A new block with the mark. -/
theorem St.allocM (h : St w0 B M S w) (cs : List Value) (ty : TypeId) : St w0 B (mrkA w.heap.size cs ty :: M) S (w.alloc (.cells cs.toArray ty (cs.length, cs.length + 1))) :=
  h.new ((Below.refl _ _).alloc (Nat.le_refl _) _) (F' := fun b => b = w.heap.size) ⟨fun _ => Iff.rfl, heap_alloc_new _ _⟩ (fun b e => by rw [e]; exact Nat.le_refl _)
theorem mrk_imp {b : Nat} {e : TypeId} {l : List UInt8} (hl : l.length ≤ maxLen) (h0 : 0 < l.length) : (mrkA b (l.map u8v) e).imp (bytA (.slice (some ⟨b, 0, none⟩) l.length l.length) l) := fun F w hF => by
  refine ⟨F, ⟨fun x => ?_, ?_⟩, fun x h => h⟩
  · rw [hF.1 x]
    have hne : l ≠ [] := fun e => by simp [e] at h0
    exact ⟨fun e => ⟨hne, by rw [e]; rfl⟩, fun e => by cases e.2; rfl⟩
  · have hlm : (l.map u8v).length = l.length := List.length_map ..
    refine .inr ⟨by omega, b, 0, l.length, by rw [hlm], by omega, hl, blk_lt hF.2, fun j hj => ?_⟩
    rw [Nat.zero_add]
    have := hF.2
    show w.cell? ⟨b, j, none⟩ = _
    simp only [World.cell?, this]
    rw [hlm] at hj
    simp [List.getElem?_map, List.getElem?_eq_getElem hj]
end
section
variable {P : Program} {ops : Array Oper} {Θ : Type} {tbl : Θ → List (Nat × Nat × Value)} {J : Θ → World → Prop} {θ : Θ} {done : Nat → Bool} {Q : Exit → Act → World → Prop} {i : Nat} {b : Act} {W : World} {o : Oper}
/-- A conversion whose run is known. -/
theorem convG {W' : World} (θ' : Θ) {x v : Value} (s d : TypeId) (y : Operand) (ho : ops[i]? = some o) (hg : Region.wanted o (yielded ops b.tmps) = true) (hop : o.op = .convert s d y) (hx : b.eval y = x) (hrun : (convert s d x).run P W = .ok v W')
    (hm : ∀ d, o.dst = some d → (i, d, v) ∈ tbl θ') (hag : θ' = θ ∨ Agree done (tbl θ) (tbl θ')) (hJ : J θ' W') :
    wpOp P ops Q i (fun a' W' => ∃ v θ', a' = b.put o.dst v ∧ (∀ d, o.dst = some d → (i, d, v) ∈ tbl θ') ∧ (θ' = θ ∨ Agree done (tbl θ) (tbl θ')) ∧ J θ' W') b W :=
  wpOp_valW ho hg (by unfold execOp; simp only [hop, hx, Sem.run_bind, hrun]; rfl) ⟨v, θ', rfl, hm, hag, hJ⟩
end
end Go.Ice
end

section
set_option linter.unusedVariables false
set_option linter.unusedSimpArgs false
namespace Go.Proofs.Ytjmocjcjiiopnaa
open Go.RowKit Go.Ice Go.Oct Go.Dsk Go.Ring Go.Lg
theorem conv_own {P : Program} {src e dst : TypeId} (hs : P.underlying src = some (.slice e)) (he : P.underlying e = some (.int .u8)) (hd : P.underlying dst = some .string) {w0 : World} {B : Nat → Prop} {M S : List Asn} {w : World} (h : St w0 B M S w) (i : Nat) {a : Option Addr} {n c : Nat} {l : List UInt8} (hi : M[i]? = some (ownA 5 1 (.slice a n c) n (l.map u8v))) (hl : 0 < l.length) : (convert src dst (.slice a n c)).run P w = .ok (.string ⟨l.toArray⟩) w := by
  have hb : BytesAt w (.slice a n c) l := own_isSl (h.own i hi)
  obtain ⟨b, off, cap, hv, h1, h2, h3, h4⟩ := hb.at hl
  cases hv
  have := run_convert_bytes_arg (P := P) w src e hs he b off l.length c (l.map fun x => (x.toNat : Int)) (by simp) (fun j hj => by
    rw [h4 j hj]
    simp [List.getD_eq_getElem?_getD, List.getElem?_map, List.getElem?_eq_getElem hj]) dst hd
  rw [this]
  unfold strOfNums
  simp [List.map_map, Function.comp_def]
set_option maxHeartbeats 16000000 in
set_option maxRecDepth 100000 in
theorem wakes : Meets Try.prog 5 #[] [] [] fun v L => v = .bool true ∧ L = [] := by
  intro w B H
  have HB := born 4 24 (by decide) (by decide)
  obtain ⟨hfit, hput, L', e1, hrd, hck, hln, hmy⟩ := wake_ok (n := 4) (sec := 24) (by decide) (by decide)
  have hfits : Rc.fits ⟨1, 0, 0, 1⟩ := by unfold Rc.fits; decide
  have HFIT := Lib.hid hfit
  have HPUT := Lib.hid hput
  have HAE := Lib.hid e1
  have HRD := Lib.hid hrd
  have HCK := Lib.hid hck
  have HLN := Lib.hid hln
  have HMY := Lib.hid hmy
  clear hfit hput e1 hrd hck hln hmy
  go_enter Try.func5, Try.ntmps5
  go_wp2_with fail
  refine (HB.call (L := []) (M := []) H (by simp)).mono ?_
  rintro e w1 ⟨_, L1, rfl, ⟨g, s, p, rfl, rfl⟩, H1⟩
  clear HB
  have kc := fun (W : World) (C : Array Value) (n c : Nat) => Lib.run_convert_bytes_const (P := Try.prog) W 31 5 C n c Try.underlying31 Try.underlying5
  have kc2 := fun (C : Array Value) (n c : Nat) => Lib.run_convert_bytes_const (P := Try.prog) (w1.alloc (.cells #[.int .u8 97] 5 (1, 2))) 31 5 C n c Try.underlying31 Try.underlying5
  simp only [World.size_alloc] at kc2
  have H2 := ((H1.allocM [.int .u8 97] 5).allocM [.int .u8 120] 5).alloc [.int .i64 1, .int .u32 0, .int .u32 0, .int .u64 1, .slice (some ⟨w1.heap.size, 0, none⟩) 1 1, .slice (some ⟨w1.heap.size + 1, 0, none⟩) 1 1] 33
  simp only [World.size_alloc] at H2
  obtain ⟨rc, hrc⟩ : ∃ rc, rc = w1.heap.size + 1 + 1 := ⟨_, rfl⟩
  obtain ⟨kb, hkb⟩ : ∃ kb, kb = w1.heap.size + 1 := ⟨_, rfl⟩
  obtain ⟨ka, hka⟩ : ∃ ka, ka = w1.heap.size := ⟨_, rfl⟩
  rw [← hrc, ← hkb, ← hka] at H2
  go_upto_region 5 with fail
  rw [← hrc, ← hkb, ← hka]
  clear hrc hkb hka kc kc2
  refine wp_world (fun W => St w B _ _ W) H2 ?_
  intro w2 H3
  clear H1 H2
  have H4 := (St.share (St.share (St.pick H3 [1, 2, 0, 3])))
  have i1 : (mrkA ka [.int .u8 97] 5).imp (bytA (.slice (some ⟨ka, 0, none⟩) 1 1) [97]) := mrk_imp (l := [97]) (by decide) (by decide)
  have i2 : (mrkA kb [.int .u8 120] 5).imp (bytA (.slice (some ⟨kb, 0, none⟩) 1 1) [120]) := mrk_imp (l := [120]) (by decide) (by decide)
  have H5 := (H4.also (A := mrkA ka [.int .u8 97] 5) (by simp) (fun F => i1 F _)).also (A := mrkA kb [.int .u8 120] 5) (by simp) (fun F => i2 F _)
  clear H3 H4
  have HAP := append g s p (L0 4 24) ⟨1, 0, 0, 1⟩ hfits (some ⟨ka, 0, none⟩) (some ⟨kb, 0, none⟩) [97] [120] 1 1 HFIT.out (fun _ => HPUT.out)
  rw [HAE.out] at HAP
  have HAP : Meets Try.prog 7 #[.pointer (some ⟨g, 0, none⟩), .agg #[.int .i64 1, .int .u32 0, .int .u32 0, .int .u64 1, .slice (some ⟨ka, 0, none⟩) 1 1, .slice (some ⟨kb, 0, none⟩) 1 1]] [logA g s p (L0 4 24)] [bytA (.slice (some ⟨ka, 0, none⟩) 1 1) [97], bytA (.slice (some ⟨kb, 0, none⟩) 1 1) [120]] (fun v M => v = .tuple #[.agg #[.int .i64 0, .int .u64 1, .int .i64 1], .int .i64 0] ∧ M = [logA g s p L']) := HAP
  have HAP := Lib.hid HAP
  have HRE := lread g s p L' (0, 1, 1) HCK.out HLN.out HMY.out
  rw [HRD.out] at HRE
  have HRE : Meets Try.prog 11 #[.pointer (some ⟨g, 0, none⟩), .agg #[.int .i64 0, .int .u64 1, .int .i64 1]] [logA g s p L'] [] (fun v M => ∃ x y c d, v = .tuple #[.agg #[.int .i64 1, .int .u32 0, .int .u32 0, .int .u64 1, .slice x 1 c, .slice y 1 d], .int .i64 0] ∧ M = [logA g s p L', ownA 5 1 (.slice x 1 c) 1 ([97].map u8v), ownA 5 1 (.slice y 1 d) 1 ([120].map u8v)]) := HRE
  have HRE := Lib.hid HRE
  clear HFIT HPUT HAE HRD HCK HLN HMY hfits
  obtain ⟨hc, hf⟩ := St.cells H5 0
  go_wp2_with fail
  refine (HAP.out.call (L := [_]) (M := [_]) (St.pick H5 [1, 0]) (self_imp' (by simp))).mono ?_
  rintro e w3 ⟨_, M', rfl, ⟨rfl, rfl⟩, H6⟩
  clear H5 hc hf HAP
  have H7 := H6.alloc [.int .i64 0, .int .u64 1, .int .i64 1] 35
  obtain ⟨xa, hxa⟩ : ∃ xa, xa = w3.heap.size := ⟨_, rfl⟩
  rw [← hxa] at H7
  go_upto_region 6 with fail
  rw [← hxa]
  clear hxa
  refine wp_world (fun W => St w B _ _ W) H7 ?_
  intro w4 H8
  clear H6 H7
  obtain ⟨hc, hf⟩ := St.cells H8 0
  go_wp2_with fail
  refine (HRE.out.call (L := [_]) (M := [_, _]) (St.pick H8 [1, 0, 2]) (by simp)).mono ?_
  rintro e w5 ⟨_, M', rfl, ⟨x1, y1, c1, d1, rfl, rfl⟩, H9⟩
  clear H8 hc hf HRE
  have H10 := H9.alloc [.int .i64 1, .int .u32 0, .int .u32 0, .int .u64 1, .slice x1 1 c1, .slice y1 1 d1] 33
  obtain ⟨xr, hxr⟩ : ∃ xr, xr = w5.heap.size := ⟨_, rfl⟩
  rw [← hxr] at H10
  go_upto_region 7 with fail
  rw [← hxr]
  clear hxr
  refine wp_world (fun W => St w B _ _ W) H10 ?_
  intro w6 H11
  clear H9 H10
  obtain ⟨hc, hf⟩ := St.cells H11 0
  obtain ⟨hc2, hf2⟩ := St.cells H11 4
  have hcv := conv_own (P := Try.prog) Try.underlying31 Try.underlying5 Try.underlying9 H11 3 (l := [120]) rfl (by decide)
  go_wp2_with fail
  exact bodyPost_ret (results_tmp rfl _ _ _) rfl (Back.mk (L' := []) ⟨rfl, rfl⟩ (St.pick (St.shares H11 (S' := []) (by simp)) []))
end Go.Proofs.Ytjmocjcjiiopnaa
end

section
set_option linter.unusedVariables false
namespace Go.Ice
open Go.ChangeShapes Go.WideShapes Go.Deep Go.RowKit

/-- The leaves of a row of fields, one behind the other from a place on. -/
def leavesFs (P : Program) (L : TypeId → Option (List TypeId)) : Nat → List Field → Option (List TypeId)
  | _, [] => some []
  | off, f :: r => match L f.type, leavesFs P L (off + P.cellsOf f.type) r with
    | some a, some b => if f.offset = off ∧ a.length = P.cellsOf f.type then some (a ++ b) else none
    | _, _ => none
/-- The types of a type's leaves, in their order. -/
def leavesOf (P : Program) : Nat → TypeId → Option (List TypeId)
  | 0, _ => none
  | d + 1, t => match P.underlying t with
    | some (.struct fs) => leavesFs P (leavesOf P d) 0 fs.toList
    | some _ => if P.cellsOf t = 1 then some [t] else none
    | none => none

section
variable {H : Type} {enc : TypeId × Value → H} {P : Program} {w : World} {base : Nat} {spare : Nat → Bool} {held : Bool}

/-- A leaf's reading. -/
def LeafAt (enc : TypeId × Value → H) (P : Program) (w : World) (base : Nat) (spare : Nat → Bool) (held : Bool) (t : TypeId) (v : Value) : Prop :=
  ∃ n y, DataW.trod enc P w base spare held n t [v] = some y

theorem leavesFs_trod {L : TypeId → Option (List TypeId)} {n : Nat} {cs : List Value}
    (hL : ∀ t ts cs x, L t = some ts → cs.length = ts.length → DataW.trod enc P w base spare held n t cs = some x → ∀ (j : Nat) (t' : TypeId), ts[j]? = some t' → ∃ v, cs[j]? = some v ∧ LeafAt enc P w base spare held t' v) :
    ∀ (fs : List Field) (off : Nat) (ts : List TypeId), leavesFs P L off fs = some ts → off + ts.length ≤ cs.length → (∀ f ∈ fs, ∃ y, DataW.trod enc P w base spare held n f.type ((cs.drop f.offset).take (P.cellsOf f.type)) = some y) →
      ∀ (j : Nat) (t' : TypeId), ts[j]? = some t' → ∃ v, cs[off + j]? = some v ∧ LeafAt enc P w base spare held t' v
  | [], off, ts, h, _, _, j, t', hj => by simp [leavesFs] at h; subst h; simp at hj
  | f :: r, off, ts, h, hl, hf, j, t', hj => by
    unfold leavesFs at h
    split at h
    · rename_i a b ha hb
      split at h
      · rename_i hab
        obtain ⟨hof, hal⟩ := hab
        obtain rfl : a ++ b = ts := by simpa using h
        rw [List.length_append] at hl
        obtain ⟨y, hy⟩ := hf f (by simp)
        by_cases hja : j < a.length
        · rw [List.getElem?_append_left hja] at hj
          obtain ⟨v, hv, hl2⟩ := hL _ _ _ _ ha (by rw [List.length_take, List.length_drop]; omega) hy j t' hj
          rw [List.getElem?_take_of_lt (by omega), List.getElem?_drop, hof] at hv
          exact ⟨v, hv, hl2⟩
        · rw [List.getElem?_append_right (by omega)] at hj
          obtain ⟨v, hv, hl2⟩ := leavesFs_trod hL r _ _ hb (by omega) (fun g hg => hf g (by simp [hg])) _ t' hj
          rw [show off + P.cellsOf f.type + (j - a.length) = off + j from by omega] at hv
          exact ⟨v, hv, hl2⟩
      · simp at h
    · simp at h

theorem leaves_trod : ∀ (d : Nat) (n : Nat) (t : TypeId) (ts : List TypeId) (cs : List Value) (x : DataW H × List MemPlace), leavesOf P d t = some ts → cs.length = ts.length → DataW.trod enc P w base spare held n t cs = some x →
    ∀ (j : Nat) (t' : TypeId), ts[j]? = some t' → ∃ v, cs[j]? = some v ∧ LeafAt enc P w base spare held t' v
  | 0, n, t, ts, cs, x, h, _, _, _, _, _ => by simp [leavesOf] at h
  | d + 1, n, t, ts, cs, x, h, hl, ht, j, t', hj => by
    unfold leavesOf at h
    split at h
    · rename_i fs hu
      obtain ⟨xs, m, rfl, hx, hlen, hxl, hf⟩ := DataW.trod_struct hu ht
      have := leavesFs_trod (cs := cs) (n := m) (enc := enc) (P := P) (w := w) (base := base) (spare := spare) (held := held) (fun t ts cs x h1 h2 h3 => leaves_trod d m t ts cs x h1 h2 h3) fs.toList 0 ts h (by omega) (fun f hfm => by
        obtain ⟨i, hi, rfl⟩ := List.getElem_of_mem hfm
        have h4 := hf i fs.toList[i] (by simp)
        rw [h4, List.getElem?_eq_getElem (by rw [hxl]; simpa using hi)]
        exact ⟨_, rfl⟩) j t' hj
      simpa using this
    · split at h
      · obtain rfl : [t] = ts := by simpa using h
        match cs, hl with
        | [c], _ =>
          match j, hj with
          | 0, hj =>
            obtain rfl : t = t' := by simpa using hj
            exact ⟨c, rfl, n, x, ht⟩
      · simp at h
    · simp at h

theorem LeafAt.int {t : TypeId} {k : IntKind} {v : Value} (h : LeafAt enc P w base spare held t v) (ht : P.underlying t = some (.int k)) : ∃ n, v = .int k n ∧ (Lit.int k n).wf = true := by
  obtain ⟨n, y, h⟩ := h
  obtain ⟨z, h1, h2, h3⟩ := DataW.trod_int ht h
  exact ⟨z, by simpa using h1, h3⟩

/-- A struct by value: its leaves. -/
theorem open_flat {t : TypeId} {fs : Array Field} {v : Value} {dd : DataW H} {ps : List MemPlace} {b0 : Nat} {r : Reach} (hs : P.underlying t = some (.struct fs)) (d : Nat) (ts : List TypeId) (hts : leavesOf P d t = some ts) (hc : P.cellsOf t = ts.length)
    (hv : Value.okWide P w r b0 t v) (h : DataW.Trod enc P w base spare held t v dd ps) : ∃ cs : List Value, v = .agg cs.toArray ∧ cs.length = ts.length ∧ ∀ (j : Nat) (t' : TypeId), ts[j]? = some t' → ∃ u, cs[j]? = some u ∧ LeafAt enc P w base spare held t' u := by
  obtain ⟨cs, rfl, hsz⟩ := okWide_struct hs hv
  obtain ⟨n, hn⟩ := h
  refine ⟨cs.toList, rfl, by rw [← hc, ← hsz]; simp, ?_⟩
  have : (Value.agg cs).cells.toList = cs.toList := rfl
  rw [this] at hn
  exact leaves_trod d n t ts _ _ hts (by rw [← hc, ← hsz]; simp) hn

/-- A slice of such structs: its elements' leaves; the bytes that it takes. -/
theorem open_flat_slice {F : Func} {ds : List (DataW H)} {t e : TypeId} {v : Value} {dd : DataW H} {ps : List MemPlace} {b0 : Nat} {r : Reach} (hs : P.underlying t = some (.slice e)) (d : Nat) (ts : List TypeId) (hts : leavesOf P d e = some ts) (hc : P.cellsOf e = ts.length) (h0 : 0 < ts.length)
    (hv : Value.okWide P w r b0 t v) (h : DataW.Trod enc P w base spare held t v dd ps) :
    (v = .slice none 0 0 ∧ dd = .nil) ∨ ∃ (x : Addr) (len cap : Nat) (elems sp : List (DataW H)), v = .slice (some x) len cap ∧ dd = .slice elems sp ∧ len ≤ elems.length + sp.length ∧ len ≤ cap ∧ cap ≤ maxLen ∧ (0 < len → ∃ b off, x = ⟨b, off, none⟩ ∧ b < w.heap.size ∧
      ∀ i, i < len → ∀ (j : Nat) (t' : TypeId), ts[j]? = some t' → ∃ u, w.cell? ⟨b, off + (i * ts.length + j), none⟩ = some u ∧ LeafAt enc P w base spare held t' u) := by
  obtain ⟨a, len, cap, rfl⟩ := okWide_slice hs hv
  obtain ⟨n, hn⟩ := h
  rcases open_slice hs hn with ⟨hcs, hx⟩ | ⟨x, l, c, m, n', D, Pl, hcs, hb, hl, hm, hmm, hx, hel⟩
  · simp [Value.cells] at hcs
    obtain ⟨rfl, rfl, rfl⟩ := hcs
    left
    exact ⟨rfl, (Prod.mk.inj hx).1⟩
  · simp [Value.cells] at hcs
    obtain ⟨rfl, rfl, rfl⟩ := hcs
    right
    have hlm : len ≤ m := by rw [hmm]; split <;> omega
    refine ⟨x, len, cap, _, _, rfl, (Prod.mk.inj hx).1, by simp, hl, hm, fun hlen => ?_⟩
    have key : ∀ i, i < len → ∀ (j : Nat) (t' : TypeId), ts[j]? = some t' → ∃ u, w.cell? (x.add (i * ts.length + j)) = some u ∧ LeafAt enc P w base spare held t' u := by
      intro i hi j t' hj
      obtain ⟨cs', h1, h2⟩ := hel i (by omega)
      rw [hc] at h1
      obtain ⟨_, h3, h4⟩ := World.cells?_some h1
      have hjl : j < ts.length := (List.getElem?_eq_some_iff.1 hj).1
      obtain ⟨u, hu, hlf⟩ := leaves_trod d n' e ts cs' _ hts (by omega) h2 j t' hj
      have := h4 j hjl
      rw [add_add, hu] at this
      exact ⟨u, this, hlf⟩
    obtain ⟨u, hu, _⟩ := key 0 hlen 0 ts[0] (List.getElem?_eq_getElem h0)
    obtain ⟨b, off, spot⟩ := x
    have hspot : spot = none := by simpa [Addr.add] using World.cell?_spot hu
    subst hspot
    refine ⟨b, off, rfl, ?_, fun i hi j t' hj => ?_⟩
    · have := World.block_lt_of_cell? w _ hu
      simpa [Addr.add] using this
    · have := key i hi j t' hj
      rw [Go.WideShapes.add_plain] at this
      exact this

/-- A leaf that is a slice of such structs. -/
theorem LeafAt.structs {t e : TypeId} {v : Value} (hlf : LeafAt enc P w base spare held t v) (hs : P.underlying t = some (.slice e)) (d : Nat) (ts : List TypeId) (hts : leavesOf P d e = some ts) (hc : P.cellsOf e = ts.length) (h0 : 0 < ts.length) :
    v = .slice none 0 0 ∨ ∃ (x : Addr) (len cap : Nat), v = .slice (some x) len cap ∧ len ≤ cap ∧ cap ≤ maxLen ∧ (0 < len → ∃ b off, x = ⟨b, off, none⟩ ∧ b < w.heap.size ∧
      ∀ i, i < len → ∀ (j : Nat) (t' : TypeId), ts[j]? = some t' → ∃ u, w.cell? ⟨b, off + (i * ts.length + j), none⟩ = some u ∧ LeafAt enc P w base spare held t' u) := by
  obtain ⟨n, y, hn⟩ := hlf
  rcases open_slice hs hn with ⟨hcs, hx⟩ | ⟨x, l, c, m, n', D, Pl, hcs, hb, hl, hm, hmm, hx, hel⟩
  · left
    simpa using hcs
  · right
    have hlm : l ≤ m := by rw [hmm]; split <;> omega
    refine ⟨x, l, c, by simpa using hcs, hl, hm, fun hlen => ?_⟩
    have key : ∀ i, i < l → ∀ (j : Nat) (t' : TypeId), ts[j]? = some t' → ∃ u, w.cell? (x.add (i * ts.length + j)) = some u ∧ LeafAt enc P w base spare held t' u := by
      intro i hi j t' hj
      obtain ⟨cs', h1, h2⟩ := hel i (by omega)
      rw [hc] at h1
      obtain ⟨_, h3, h4⟩ := World.cells?_some h1
      have hjl : j < ts.length := (List.getElem?_eq_some_iff.1 hj).1
      obtain ⟨u, hu, hlf⟩ := leaves_trod d n' e ts cs' _ hts (by omega) h2 j t' hj
      have := h4 j hjl
      rw [add_add, hu] at this
      exact ⟨u, this, hlf⟩
    obtain ⟨u, hu, _⟩ := key 0 hlen 0 ts[0] (List.getElem?_eq_getElem h0)
    obtain ⟨b, off, spot⟩ := x
    have hspot : spot = none := by simpa [Addr.add] using World.cell?_spot hu
    subst hspot
    refine ⟨b, off, rfl, ?_, fun i hi j t' hj => ?_⟩
    · have := World.block_lt_of_cell? w _ hu
      simpa [Addr.add] using this
    · have := key i hi j t' hj
      rw [Go.WideShapes.add_plain] at this
      exact this
end
end Go.Ice
end
