/- Plain: the log's state by what its segments hold: put, Append, Scan, Read, Free. Conditions: nothing fails. -/
import Derived.Test.YtjmocjcjiiopnaaGreatLogScans27

section
set_option linter.unusedVariables false
set_option linter.unusedSimpArgs false
namespace Go.Lg
open Go.Ring Go.Dsk Go.Oct Go.Proofs.YtjmocjcjiiopnaaGreat
def putsD : Dk → Nat → List (List UInt8) → Dk
  | D, _, [] => D
  | D, k, b :: l => putsD (D.put k b) (k + 1) l
structure PutsD (D D' : Dk) (k : Nat) (l : List (List UInt8)) : Prop where
  calm : D'.calm
  ok : D'.ok
  len : D'.safe.length = D.safe.length
  pend : D'.pend.length = D.pend.length + l.length
  at_ : ∀ q, D'.at q = if k ≤ q ∧ q < k + l.length then l.getD (q - k) [] else D.at q
theorem writesF_calm : ∀ (l : List (List UInt8)) (D : Dk) (k : Nat), D.calm → D.ok → k + l.length ≤ D.safe.length → (∀ b ∈ l, b.length = 64) → D.pend.length + l.length < 1000000 → writesF D k l = (putsD D k l, 0) ∧ PutsD D (putsD D k l) k l
  | [], D, k, hc, ho, _, _, _ => ⟨rfl, hc, ho, rfl, by simp [putsD], fun q => by rw [if_neg (by simp)]; rfl⟩
  | b :: l, D, k, hc, ho, hl, hb, hp => by
    simp only [List.length_cons] at hl hp
    have hok := Dk.put_ok ho (i := k) (by omega) (hb b (by simp)) (by omega)
    obtain ⟨e, P⟩ := writesF_calm l (D.put k b) (k + 1) (hc.put k b) hok (by rw [Dk.put_len]; omega) (fun x hx => hb x (by simp [hx])) (by unfold Dk.put; simp; omega)
    have hw := hc.write (i := k) (by omega) b
    refine ⟨?_, P.calm, P.ok, ?_, ?_, fun q => ?_⟩
    · rw [writesF_ok hw, show ((k : Int) + 1) = ((k + 1 : Nat) : Int) by omega, e]; rfl
    · rw [putsD, P.len, Dk.put_len]
    · rw [putsD, P.pend]; unfold Dk.put; simp; omega
    · rw [putsD, P.at_, Dk.put_at]
      simp only [List.length_cons]
      by_cases h1 : k + 1 ≤ q ∧ q < k + 1 + l.length
      · rw [if_pos h1, if_pos (by omega), show q - k = (q - (k + 1)) + 1 by omega]
        rfl
      · rw [if_neg h1]
        by_cases h2 : q = k
        · subst h2; rw [if_pos rfl, if_pos (by omega), Nat.sub_self]; rfl
        · rw [if_neg h2, if_neg (by omega)]
theorem splitB_getD {r : RecT} {g u k : Nat} (h : k < r.n) : (splitB g u r.b).getD k [] = r.sec g u k := by
  rw [RecT.split, List.getD_eq_getElem?_getD, List.getElem?_map, List.getElem?_range h]
  rfl
theorem splitB_len (r : RecT) (g u : Nat) : (splitB g u r.b).length = r.n := by rw [RecT.split]; simp
section
variable {n sec k : Nat} {L : Lg} {s m : Nat} {o : Bool} {C : Nat → List RecT}
/-- A record is put behind. -/
theorem Good.put (h : Good n sec k L s m true C) (hk : k ≤ 1000000000) {r : RecT} (hr : r.ok) (hroom : 1 + usedR (C ((s + (m - 1)) % n)) + r.n ≤ sec) : ∃ L', L.put r.b = (L', 0, ((s + (m - 1)) % n, Ring.gen L.segs ((s + (m - 1)) % n), ((1 + usedR (C ((s + (m - 1)) % n)) : Nat) : Int))) ∧ L'.x = L.x ∧ L'.t = L.t ∧ (∀ q, (q < 2 + (s + (m - 1)) % n * sec + (1 + usedR (C ((s + (m - 1)) % n))) ∨ 2 + (s + (m - 1)) % n * sec + sec ≤ q) → L'.D.at q = L.D.at q) ∧ (∀ i, (at' L'.segs i).st = (at' L.segs i).st ∧ Ring.gen L'.segs i = Ring.gen L.segs i) ∧ Good n sec (k + 1) L' s m true (fun a => if a = (s + (m - 1)) % n then C a ++ [r] else C a) := by
  have hop := h.side.opened
  rw [if_pos rfl, h.len] at hop
  have hm := h.side.ho rfl
  have hu := h.side.used (m - 1) (by omega)
  rw [h.len] at hu
  have hla := h.last
  have hpe := h.pend
  generalize hi : (s + (m - 1)) % n = i at *
  have hsg := h.segm i hla (by rw [hu.1]; split <;> decide)
  obtain ⟨hg1, hg2, hus, S⟩ := hsg
  have hb := h.bd
  have hfg := h.gen
  have hin := h.inn hla (j := sec - 1) (by omega)
  have hge : (at' L.segs i).gen = Ring.gen L.segs i := rfl
  have hpe' : (L.D.pend.length : Int) ≤ 1 + usedR (C i) := by rw [← hus]; exact hpe
  obtain ⟨hw, P⟩ := writesF_calm (splitB (Ring.gen L.segs i) (1 + usedR (C i)) r.b) L.D (2 + i * sec + (1 + usedR (C i))) h.calm h.ok (by rw [splitB_len, h.dlen]; omega) (fun b hb => by
      rw [RecT.split] at hb
      obtain ⟨j, _, rfl⟩ := List.mem_map.1 hb
      exact r.sec_len _ _ _) (by rw [splitB_len]; omega)
  generalize putsD L.D (2 + i * sec + (1 + usedR (C i))) (splitB (Ring.gen L.segs i) (1 + usedR (C i)) r.b) = D' at *
  have hat : ∀ q, (q < 2 + i * sec + (1 + usedR (C i)) ∨ 2 + i * sec + (1 + usedR (C i)) + r.n ≤ q) → D'.at q = L.D.at q := fun q hq => by
    rw [P.at_, splitB_len, if_neg (by omega)]
  have hnew : Stands D' (2 + i * sec) (Ring.gen L.segs i) (1 + usedR (C i)) r := fun j hj => by
    rw [P.at_, splitB_len, if_pos (by omega), show 2 + i * sec + (1 + usedR (C i) + j) - (2 + i * sec + (1 + usedR (C i))) = j by omega, splitB_getD hj]
  have hsd := h.side.change (x := { at' L.segs i with used := (at' L.segs i).used + secs r.b.length }) (o' := true) (by rw [h.len, hi]; rfl) (by rw [if_pos rfl]; have := hu.1; rw [if_pos ⟨rfl, by omega⟩] at this; exact this) (by
    show 1 ≤ (at' L.segs i).used + (r.n : Int) ∧ (at' L.segs i).used + (r.n : Int) ≤ sec
    rw [hus]; omega)
  rw [h.len, hi] at hsd
  have hpn : 0 < r.n := r.n_pos
  refine ⟨{ L with D := D', segs := L.segs.set i { at' L.segs i with used := (at' L.segs i).used + secs r.b.length } }, ?_, rfl, rfl, fun q hq => hat q (by omega), fun a => ?_, ?_⟩
  · unfold Lg.put
    rw [hop]
    dsimp only
    have e1 : (2 + (i : Int) * L.x.sec + (at' L.segs i).used) = ((2 + i * sec + (1 + usedR (C i)) : Nat) : Int) := by rw [h.xsec, hus]; simp
    have e2 : (at' L.segs i).used.toNat = 1 + usedR (C i) := by rw [hus]; omega
    rw [e1, e2, hge, hw, if_neg (by simp), hus]
    simp
  · have hil : i < L.segs.length := by rw [h.len]; exact hla
    refine ⟨?_, ?_⟩
    · show (at' (List.set _ _ _) a).st = _
      rw [at_set hil]; split
      · rename_i e; rw [e]
      · rfl
    · show Ring.gen (List.set _ _ _) a = _
      rw [gen_set hil]; split
      · rename_i e; rw [e]; rfl
      · rfl
  · have hil : i < L.segs.length := by rw [h.len]; exact hla
    refine { side := hsd, xseg := h.xseg, xsec := h.xsec, len := by rw [List.length_set, h.len], may := h.may, fits := h.fits, br := h.br, calm := P.calm, ok := P.ok, dlen := by rw [P.len, h.dlen], pend := ?_, tok := by have := h.tok; show L.t ≤ k + 1; omega, gen := by show L.x.gen ≤ k + 1; omega, segm := ?_, fresh := ?_, ret := ?_ }
    · rw [hi, if_pos rfl]
      show ((D'.pend.length : Nat) : Int) ≤ (at' (List.set _ _ _) i).used
      rw [at_set hil, if_pos rfl, P.pend, splitB_len]
      show _ ≤ (at' L.segs i).used + (r.n : Int)
      rw [hus]; omega
    · intro a ha hst
      show 1 ≤ Ring.gen (List.set _ _ _) a ∧ Ring.gen (List.set _ _ _) a ≤ L.x.gen ∧ (at' (List.set _ _ _) a).used = _ ∧ Segm D' _ (Ring.gen (List.set _ _ _) a) _ _ _
      have hst' : (at' (L.segs.set i { at' L.segs i with used := (at' L.segs i).used + secs r.b.length }) a).st ≠ 0 := hst
      rw [at_set hil] at hst' ⊢
      rw [gen_set hil]
      by_cases e : a = i
      · subst e
        simp only [if_true]
        refine ⟨hg1, hg2, ?_, ?_, ?_, ?_, ?_, ?_⟩
        · rw [usedR_snoc, hus]; show _ + (r.n : Int) = _; omega
        · have := hat (2 + a * sec) (by omega)
          rw [this]; exact S.head
        · intro x hx
          rcases List.mem_append.1 hx with hx | hx
          · exact S.oks x hx
          · cases List.mem_singleton.1 hx; exact hr
        · exact (S.holds.frame fun j h1 h2 => hat _ (by omega)).snoc hnew
        · rw [usedR_snoc]; omega
        · intro j h1 h2 z hz
          rw [usedR_snoc] at h1
          rw [hat _ (by omega)] at hz
          exact S.beyond j (by omega) h2 z hz
      · simp only [if_neg e] at hst' ⊢
        have hga := h.segm a ha hst'
        refine ⟨hga.1, hga.2.1, hga.2.2.1, hga.2.2.2.frame fun j hj => hat _ ?_⟩
        have h1 := fun q (hq : q < sec) => apart (sec := sec) e hj hq
        rcases Nat.lt_or_ge (2 + a * sec + j) (2 + i * sec) with h2 | h2
        · exact .inl (by omega)
        · refine .inr (Nat.le_of_not_lt fun h3 => h1 (2 + a * sec + j - (2 + i * sec)) (by omega) (by omega))
    · intro a ha j h1 h2 z hz
      show z.1 ≤ L.x.gen
      have hz' : readB (D'.at (2 + a * sec + j)) = some z := hz
      by_cases hq : 2 + i * sec + (1 + usedR (C i)) ≤ 2 + a * sec + j ∧ 2 + a * sec + j < 2 + i * sec + (1 + usedR (C i)) + r.n
      · have hs := hnew (2 + a * sec + j - (2 + i * sec + (1 + usedR (C i)))) (by omega)
        rw [show 2 + i * sec + (1 + usedR (C i) + (2 + a * sec + j - (2 + i * sec + (1 + usedR (C i))))) = 2 + a * sec + j by omega] at hs
        rw [hs] at hz'
        unfold RecT.sec at hz'
        rw [readB_packB ⟨hg1, by omega⟩ (by omega) (by rw [List.length_take]; omega)] at hz'
        cases hz'
        exact hg2
      · rw [hat _ (by omega)] at hz'
        exact h.fresh a ha j h1 h2 z hz'
    · intro a ha hst
      show L.x.ret ≤ Ring.gen (List.set _ _ _) a
      have hst' : (at' (L.segs.set i { at' L.segs i with used := (at' L.segs i).used + secs r.b.length }) a).st ≠ 0 := hst
      rw [at_set hil] at hst'
      rw [gen_set hil]
      by_cases e : a = i
      · subst e; rw [if_pos rfl]; exact h.ret a ha (by rw [hu.1]; split <;> decide)
      · rw [if_neg e] at hst' ⊢; exact h.ret a ha hst'
theorem lastAt_open (n s m : Nat) (hn : 0 < n) (hs : s < n) : (startAt s m + (m + 1 - 1)) % n = nextAt n s m := by
  unfold startAt nextAt
  by_cases e : m = 0
  · subst e; simp
  · rw [if_neg e, if_neg e, Nat.add_sub_cancel]
theorem Good.left (h : Good n sec k L s m true C) : leftP L.x.sec L.segs = (sec : Int) - (1 + usedR (C ((s + (m - 1)) % n)) : Nat) := by
  have hop := h.side.opened
  rw [if_pos rfl, h.len] at hop
  have hm := h.side.ho rfl
  have hu := h.side.used (m - 1) (by omega)
  rw [h.len] at hu
  have hsg := h.segm _ h.last (by rw [hu.1]; split <;> decide)
  unfold leftP
  rw [hop]
  dsimp only
  rw [hsg.2.2.1, h.xsec]
  omega
theorem Good.putOk (h : Good n sec k L s m true C) (hk : k ≤ 1000000000) {nn : Nat} (hroom : 1 + usedR (C ((s + (m - 1)) % n)) + nn ≤ sec) : PutOk L nn where
  chk := by rw [h.xsec]; exact h.side.check
  len := by rw [h.len, h.xseg]
  may := h.may
  op := by
    have hop := h.side.opened
    rw [if_pos rfl, h.len] at hop
    have hm := h.side.ho rfl
    have hu := h.side.used (m - 1) (by omega)
    rw [h.len] at hu
    have hsg := h.segm _ h.last (by rw [hu.1]; split <;> decide)
    have := h.gen
    refine ⟨_, hop, by rw [h.len]; exact h.last, hsg.1, ?_⟩
    have := hsg.2.1
    unfold Ring.gen at this
    omega
  room := by rw [h.left]; omega
  pend := by have := h.pend; have hb := h.bd; rw [if_pos rfl] at this; have hu := h.side.used (m - 1) (by have := h.side.ho rfl; omega); rw [h.len] at hu; omega
/-- Whether there is room, or a segment to be opened. -/
theorem Good.ready (h : Good n sec k L s m o C) (hk : k ≤ 1000000000) (nn : Nat) : (L.ready nn = (L, 6)) ∨ (o = true ∧ L.ready nn = (L, 0) ∧ 1 + usedR (C ((s + (m - 1)) % n)) + nn ≤ sec) ∨ (m < n ∧ ∃ D1, L.ready nn = (⟨L.up, L.t + 1, D1, (sealS L.segs).set (nextAt n s m) ⟨1, L.x.gen + 1, 1⟩, false⟩, 0) ∧ (∀ q, 2 ≤ q → q ≠ 2 + nextAt n s m * sec → D1.at q = L.D.at q) ∧ Good n sec (k + 1) ⟨L.up, L.t + 1, D1, (sealS L.segs).set (nextAt n s m) ⟨1, L.x.gen + 1, 1⟩, false⟩ (startAt s m) (m + 1) true (fun a => if a = nextAt n s m then [] else C a)) := by
  have hop := h.side.opened
  have ho := h.open hk
  cases o with
  | false =>
    rw [if_neg (by decide)] at hop
    have e : L.ready nn = L.open := by unfold Lg.ready; rw [hop]
    rw [e]
    rcases ho with ⟨_, h1⟩ | ⟨h1, D1, h2⟩
    · exact .inl h1
    · exact .inr (.inr ⟨h1, D1, h2⟩)
  | true =>
    rw [if_pos rfl, h.len] at hop
    have e : L.ready nn = if leftP L.x.sec L.segs < nn then L.open else (L, 0) := by unfold Lg.ready; rw [hop]
    rw [e, h.left]
    by_cases hr : (sec : Int) - (1 + usedR (C ((s + (m - 1)) % n)) : Nat) < nn
    · rw [if_pos hr]
      rcases ho with ⟨_, h1⟩ | ⟨h1, D1, h2⟩
      · exact .inl h1
      · exact .inr (.inr ⟨h1, D1, h2⟩)
    · rw [if_neg hr]
      exact .inr (.inl ⟨rfl, rfl, by omega⟩)
theorem Good.readyOk (h : Good n sec k L s m o C) (hk : k ≤ 999999999) {nn : Nat} (hn : nn ≤ 17) (h0 : (L.ready nn).2 = 0) : PutOk (L.ready nn).1 nn := by
  rcases h.ready (by omega) nn with e | ⟨rfl, e, hr⟩ | ⟨hm, D1, e, _, hg⟩
  · rw [e] at h0; cases h0
  · rw [e]; exact h.putOk (by omega) hr
  · rw [e]
    refine hg.putOk (by omega) ?_
    have hb := h.bd
    have hs := h.side.hs
    rw [h.len] at hs
    rw [lastAt_open n s m (by omega) hs]
    simp [usedR]
    omega
end
end Go.Lg
end
