/- Plain: a log of which something may fail: what it wrote, what is sure. Conditions: as many calls as the law makes. -/
import Derived.Test.YtjmocjcjiiopnaaLogCuts33

section
set_option linter.unusedVariables false
set_option linter.unusedSimpArgs false
namespace Go.Lg
open Go.Ring Go.Dsk Go.Oct Go.Proofs.Ytjmocjcjiiopnaa
/-- A log of which something may have failed: C what was told, X what was under way, S what was synced. -/
structure Cuts (P : RecT → Prop) (k : Nat) (L : Lg) (m : Nat) (C X S : Nat → List RecT) : Prop where
  side : Side (24 : Int) L.segs 0 m (decide (0 < m))
  xseg : L.x.seg = 5
  xsec : L.x.sec = 24
  len : L.segs.length = 5
  may : L.x.may = true
  fits : L.x.fits
  tok : L.t ≤ k
  gen : L.x.gen ≤ k
  genm : m ≤ L.x.gen
  xgen : L.br = false → L.x.gen = m
  pend : L.D.pend.length ≤ 50 * k
  segs : ∀ i, i < m → Ring.gen L.segs i = i + 1 ∧ (at' L.segs i).used = ((1 + usedR (C i) : Nat) : Int)
  virgin : ∀ i, m ≤ i → C i = []
  oks : ∀ i, ∀ r ∈ C i ++ X i, r.ok
  under : ∀ i, X i = [] ∨ (L.br = true ∧ ∃ r, X i = [r] ∧ P r)
  fit : ∀ i, 1 + usedR (C i ++ X i) ≤ 24
  disk : Sects L.D (fun i => C i ++ X i)
  full : L.br = false → ∀ i j v, i < m → (segT i (C i))[j]? = some v → L.D.at (2 + i * 24 + j) = v
  pre : ∀ i, S i <+: C i
  sure : ∀ i j v, i < 5 → S i ≠ [] → (segT i (S i))[j]? = some v → ∀ v', Poss L.D (2 + i * 24 + j) v' → v' = v
section
variable {P : RecT → Prop} {k : Nat} {L : Lg} {m : Nat} {C X S : Nat → List RecT}
theorem Cuts.hm (h : Cuts P k L m C X S) : m ≤ 5 := by rw [← h.len]; exact h.side.hm
theorem Cuts.noX (h : Cuts P k L m C X S) (hb : L.br = false) (i : Nat) : X i = [] := by
  rcases h.under i with e | ⟨e, _⟩
  · exact e
  · rw [hb] at e; cases e
theorem Cuts.preT (h : Cuts P k L m C X S) (i : Nat) : S i <+: C i ++ X i := (h.pre i).trans (List.prefix_append _ _)
/-- Another disk of which no more is possible. -/
theorem Cuts.swap (h : Cuts P k L m C X S) {D' : Dk} {k' : Nat} (ok : D'.ok) (len : D'.safe.length = L.D.safe.length) (hk : k ≤ k') (hp : D'.pend.length ≤ 50 * k') (hq : ∀ q v, Poss D' q v → Poss L.D q v ∨ May (fun i => C i ++ X i) q v) {x : Sp} {t : Nat} (hx : x.seg = 5 ∧ x.sec = 24 ∧ x.may = true ∧ x.fits ∧ x.gen ≤ k' ∧ m ≤ x.gen) (ht : t ≤ k') : Cuts P k' ⟨x, t, D', L.segs, true⟩ m C X S where
  side := h.side
  xseg := hx.1
  xsec := hx.2.1
  len := h.len
  may := hx.2.2.1
  fits := hx.2.2.2.1
  tok := ht
  gen := hx.2.2.2.2.1
  genm := hx.2.2.2.2.2
  xgen := fun e => by cases e
  pend := hp
  segs := h.segs
  virgin := h.virgin
  oks := h.oks
  under := fun i => (h.under i).elim .inl fun ⟨_, h⟩ => .inr ⟨rfl, h⟩
  fit := h.fit
  disk := h.disk.more ok len (fun i => List.prefix_refl _) hq
  full := fun e => by cases e
  pre := h.pre
  sure := sure_more h.sure h.preT (fun i _ => h.fit i) hq
theorem Cuts.xs (h : Cuts P k L m C X S) : L.x.seg = 5 ∧ L.x.sec = 24 ∧ L.x.may = true ∧ L.x.fits ∧ L.x.gen ≤ k ∧ m ≤ L.x.gen := ⟨h.xseg, h.xsec, h.may, h.fits, h.gen, h.genm⟩
theorem Cuts.sync (h : Cuts P k L m C X S) : ∃ S', Cuts P k L.sync.1 m C X S' ∧ (L.sync.2 = 0 → S' = C) ∧ (L.sync.2 ≠ 0 → S' = S) := by
  cases hb : L.br with
  | true =>
    have e : L.sync = (L, 8) := by unfold Lg.sync; rw [hb]; rfl
    rw [e]
    exact ⟨S, h, fun h => (by cases h), fun _ => rfl⟩
  | false =>
    obtain ⟨D', e, hs, ok, ⟨he, h1, h2⟩ | ⟨he, h1, h2⟩⟩ := Dk.sync_cases h.disk.ok
    · have e' : L.sync = (⟨L.x, L.t, D', L.segs, true⟩, e) := by unfold Lg.sync; rw [hb, if_neg (by decide), hs, if_neg (by exact he)]
      rw [e']
      exact ⟨S, h.swap ok (by rw [h1]) (Nat.le_refl _) (by rw [h2]; exact h.pend) (fun q v hv => .inl (hv.same h1 h2)) h.xs h.tok, fun h => absurd h he, fun _ => rfl⟩
    · subst he
      have e' : L.sync = (⟨L.x, L.t, D', L.segs, L.br⟩, 0) := by unfold Lg.sync; rw [hb, if_neg (by decide), hs, if_pos rfl]
      rw [e']
      have hX := h.noX hb
      have hposs : ∀ q v, Poss D' q v → Poss L.D q v := fun q v hv => by
        have : Poss (L.D.settle fun _ => true) q v := by
          unfold Poss at hv ⊢
          rw [h1, h2] at hv
          exact hv
        exact this.settle
      have hat : ∀ q, D'.at q = L.D.at q := fun q => by
        rw [← Dk.settle_at h.disk.ok]
        exact Dk.at_eq h1 h2 q
      refine ⟨C, ?_, fun _ => rfl, fun h => absurd rfl h⟩
      refine { side := h.side, xseg := h.xseg, xsec := h.xsec, len := h.len, may := h.may, fits := h.fits, tok := h.tok, gen := h.gen, genm := h.genm, xgen := h.xgen, pend := ?_, segs := h.segs, virgin := h.virgin, oks := h.oks, under := h.under, fit := h.fit, disk := h.disk.more ok (by rw [h1, settle_len]) (fun i => List.prefix_refl _) (fun q v hv => .inl (hposs q v hv)), full := ?_, pre := fun i => List.prefix_refl _, sure := fun i j v hi hne hv v' hv' => ?_ }
      · show D'.pend.length ≤ _
        rw [h2]
        exact Nat.zero_le _
      · intro _ i j v hi hv
        show D'.at _ = v
        rw [hat]
        exact h.full hb i j v hi hv
      have him : i < m := Nat.lt_of_not_le fun hle => hne (h.virgin i hle)
      have hv'' : D'.safe.getD (2 + i * 24 + j) [] = v' := by
        rcases hv' with hv' | hv'
        · exact hv'
        · rw [show (Lg.mk L.x L.t D' L.segs L.br).D.pend = [] from h2] at hv'; cases hv'
      rw [← hv'', ← Dk.at_safe h2, hat]
      exact h.full hb i j v him hv
theorem sealed_of {sec : Int} {n m : Nat} {l : List Seg} {o : Bool} (h : Side sec l 0 m o) (hl : l.length = n) (hn : 0 < n) : Side sec (sealS l) 0 m false ∧ ∀ i, i < n → (at' (sealS l) i).gen = (at' l i).gen ∧ (at' (sealS l) i).used = (at' l i).used := by
  have hop := h.opened
  rw [hl] at hop
  unfold sealS
  cases o with
  | false => rw [hop, if_neg (by decide)]; exact ⟨h, fun i _ => ⟨rfl, rfl⟩⟩
  | true =>
    rw [hop, if_pos rfl]
    have hm := h.ho rfl
    have hu := h.used (m - 1) (by omega)
    rw [hl] at hu
    have hc := h.change (x := { at' l ((0 + (m - 1)) % n) with st := 2 }) (o' := false) (by rw [hl]; rfl) (by simp) ⟨hu.2.1, hu.2.2.1⟩
    rw [hl] at hc
    refine ⟨hc, fun i hi => ?_⟩
    rw [at_set (by rw [hl]; exact Nat.mod_lt _ hn)]
    by_cases e : i = (0 + (m - 1)) % n
    · rw [if_pos e, e]; exact ⟨rfl, rfl⟩
    · rw [if_neg e]; exact ⟨rfl, rfl⟩
theorem last5 {m : Nat} (h : m ≤ 5) : (0 + (m - 1)) % 5 = m - 1 := by omega
theorem Cuts.sealed (h : Cuts P k L m C X S) : Side (24 : Int) (sealS L.segs) 0 m false ∧ (sealS L.segs).length = 5 ∧ (∀ i, i < 5 → (at' (sealS L.segs) i).gen = (at' L.segs i).gen ∧ (at' (sealS L.segs) i).used = (at' L.segs i).used) ∧ Ring.lastGen (sealS L.segs) = m := by
  obtain ⟨h1, h2⟩ := sealed_of h.side h.len (by decide)
  have hl : (sealS L.segs).length = 5 := by rw [sealS_len, h.len]
  refine ⟨h1, hl, h2, ?_⟩
  have hm := h.hm
  rw [h1.lastGen_eq, hl]
  split
  · omega
  · rw [last5 hm]
    have e := (h2 (m - 1) (by omega)).1
    have := (h.segs (m - 1) (by omega)).1
    unfold Ring.gen at this ⊢
    rw [e, this]
    omega
theorem Cuts.lfit (h : Cuts P k L m C X S) (hk : k ≤ 1000) : L.fit where
  chk := by rw [h.xsec]; exact h.side.check
  chk2 := by rw [h.xsec]; exact h.sealed.1.check
  len := by rw [h.len, h.xseg]; rfl
  may := h.may
  fits := h.fits
  gen := by have := h.gen; omega
  nop := by rw [h.sealed.1.opened]; rfl
  lst := by rw [h.sealed.2.2.2]; exact h.genm
  tok := by have := h.tok; omega
  pend := by have := h.pend; omega
theorem Cuts.opened (h : Cuts P k L m C X S) : openedP L.segs = if 0 < m then some (m - 1) else none := by
  have := h.side.opened
  rw [h.len, last5 h.hm] at this
  rw [this]
  by_cases e : 0 < m
  · rw [if_pos e, if_pos (by simpa using e)]
  · rw [if_neg e, if_neg (by simpa using e)]
theorem Cuts.putOk (h : Cuts P k L m C X S) (hk : k ≤ 1000) (hm : 0 < m) {nn : Nat} (hroom : 1 + usedR (C (m - 1)) + nn ≤ 24) : PutOk L nn where
  chk := by rw [h.xsec]; exact h.side.check
  len := by rw [h.len, h.xseg]; rfl
  may := h.may
  op := by
    have hmm := h.hm
    have hg := (h.segs (m - 1) (by omega)).1
    unfold Ring.gen at hg
    exact ⟨_, by rw [h.opened, if_pos hm], by rw [h.len]; omega, by rw [hg]; omega, by rw [hg]; omega⟩
  room := by
    have hu := (h.segs (m - 1) (by omega)).2
    unfold leftP
    rw [h.opened, if_pos hm]
    dsimp only
    rw [hu, h.xsec]
    omega
  pend := by have := h.pend; omega
end
/-- What a write that may fail leaves. -/
structure Wrote (D D' : Dk) (n : Nat) (A : Nat → List UInt8 → Prop) : Prop where
  ok : D'.ok
  len : D'.safe.length = D.safe.length
  pend : D'.pend.length ≤ D.pend.length + n
  poss : ∀ q v, Poss D' q v → Poss D q v ∨ A q v
theorem Wrote.refl {D : Dk} (h : D.ok) (n : Nat) (A : Nat → List UInt8 → Prop) : Wrote D D n A := ⟨h, rfl, Nat.le_add_right _ _, fun _ _ h => .inl h⟩
theorem Wrote.trans {D D1 D2 : Dk} {n1 n2 : Nat} {A1 A2 : Nat → List UInt8 → Prop} (h1 : Wrote D D1 n1 A1) (h2 : Wrote D1 D2 n2 A2) : Wrote D D2 (n1 + n2) (fun q v => A1 q v ∨ A2 q v) :=
  ⟨h2.ok, h2.len.trans h1.len, by have := h1.pend; have := h2.pend; omega, fun q v hv => (h2.poss q v hv).elim (fun h => (h1.poss q v h).elim .inl fun h => .inr (.inl h)) fun h => .inr (.inr h)⟩
theorem Wrote.mono {D D' : Dk} {n n' : Nat} {A A' : Nat → List UInt8 → Prop} (h : Wrote D D' n A) (hn : n ≤ n') (hA : ∀ q v, A q v → A' q v) : Wrote D D' n' A' :=
  ⟨h.ok, h.len, by have := h.pend; omega, fun q v hv => (h.poss q v hv).elim .inl fun h => .inr (hA q v h)⟩
theorem poss_put {D D' : Dk} {i : Nat} {b : List UInt8} (h1 : D'.safe = D.safe) (h2 : D'.pend = D.pend ++ [(i, b)]) {q : Nat} {v : List UInt8} (h : Poss D' q v) : Poss D q v ∨ (q = i ∧ v = b) := by
  unfold Poss at h ⊢
  rw [h1, h2] at h
  rcases h with h | h
  · exact .inl (.inl h)
  · rcases List.mem_append.1 h with h | h
    · exact .inl (.inr h)
    · cases List.mem_singleton.1 h; exact .inr ⟨rfl, rfl⟩
theorem at_put {D D' : Dk} {i : Nat} {b : List UInt8} (h1 : D'.safe = D.safe) (h2 : D'.pend = D.pend ++ [(i, b)]) (q : Nat) : D'.at q = if q = i then b else D.at q := by
  rw [← Dk.put_at]
  exact Dk.at_eq (D := D.put i b) h1 h2 q
theorem write_wrote {D : Dk} (ho : D.ok) {i : Nat} (hi : i < D.safe.length) {b : List UInt8} (hb : b.length = 64) (hp : D.pend.length < 1000000) : ∃ D' e, D.write (i : Int) b = (D', e) ∧ Wrote D D' 1 (fun q v => q = i ∧ v = b) ∧ (e = 0 → ∀ q, D'.at q = if q = i then b else D.at q) := by
  obtain ⟨D', e, h, ok, h1, ⟨he, h2⟩ | ⟨he, h2⟩⟩ := Dk.write_cases ho hi hb hp
  · exact ⟨D', e, h, ⟨ok, by rw [h1], by rw [h2]; omega, fun q v hv => .inl (hv.same h1 h2)⟩, fun h => absurd h he⟩
  · exact ⟨D', e, h, ⟨ok, by rw [h1], by rw [h2]; simp, fun q v hv => poss_put h1 h2 hv⟩, fun _ q => at_put h1 h2 q⟩
theorem sync_wrote {D : Dk} (ho : D.ok) : ∃ D' e, D.sync = (D', e) ∧ Wrote D D' 0 (fun _ _ => False) ∧ (e = 0 → ∀ q, D'.at q = D.at q) := by
  obtain ⟨D', e, hs, ok, ⟨he, h1, h2⟩ | ⟨he, h1, h2⟩⟩ := Dk.sync_cases ho
  · exact ⟨D', e, hs, ⟨ok, by rw [h1], by rw [h2]; omega, fun q v hv => .inl (hv.same h1 h2)⟩, fun h => absurd h he⟩
  · refine ⟨D', e, hs, ⟨ok, by rw [h1, settle_len], by rw [h2]; simp, fun q v hv => .inl ?_⟩, fun _ q => ?_⟩
    · have : Poss (D.settle fun _ => true) q v := by
        unfold Poss at hv ⊢
        rw [h1, h2] at hv
        exact hv
      exact this.settle
    · rw [← Dk.settle_at ho]
      exact Dk.at_eq h1 h2 q
theorem set_wrote {D : Dk} (ho : D.ok) (hl : D.safe.length = 1026) (hp : D.pend.length < 1000000) (x : Sp) (t : Nat) : ∃ D' e, setF D x t = (D', e) ∧ Wrote D D' 1 (fun q v => q = (t + 1) % 2 ∧ v = supB x (t + 1)) ∧ (e = 0 → ∀ q, 2 ≤ q → D'.at q = D.at q) := by
  obtain ⟨D1, e1, w1, W1, a1⟩ := write_wrote ho (i := (t + 1) % 2) (by omega) (supB_len x (t + 1)) hp
  unfold setF
  rw [w1]
  dsimp only
  by_cases he : e1 = 0
  · subst he
    rw [if_neg (by simp)]
    obtain ⟨D2, e2, w2, W2, a2⟩ := sync_wrote W1.ok
    refine ⟨D2, e2, w2, (W1.trans W2).mono (by omega) (fun q v h => h.elim id False.elim), fun h q hq => ?_⟩
    rw [a2 h, a1 rfl, if_neg (by omega)]
  · rw [if_pos he]
    exact ⟨D1, e1, rfl, W1, fun h => absurd h he⟩
theorem writes_wrote : ∀ (l : List (List UInt8)) (D : Dk) (k : Nat), D.ok → k + l.length ≤ D.safe.length → (∀ b ∈ l, b.length = 64) → D.pend.length + l.length < 1000000 → ∃ D' e, writesF D k l = (D', e) ∧ Wrote D D' l.length (fun q v => ∃ j, j < l.length ∧ q = k + j ∧ l[j]? = some v) ∧ (e = 0 → ∀ q, D'.at q = if k ≤ q ∧ q < k + l.length then l.getD (q - k) [] else D.at q)
  | [], D, k, ho, _, _, _ => ⟨D, 0, rfl, Wrote.refl ho _ _, fun _ q => by rw [if_neg (by simp)]⟩
  | b :: l, D, k, ho, hl, hb, hp => by
    simp only [List.length_cons] at hl hp
    obtain ⟨D1, e1, w1, W1, a1⟩ := write_wrote ho (i := k) (by omega) (hb b (by simp)) (by omega)
    have hA : ∀ q v, (q = k ∧ v = b) → ∃ j, j < (b :: l).length ∧ q = k + j ∧ (b :: l)[j]? = some v := fun q v ⟨h1, h2⟩ => ⟨0, by simp, h1, by rw [h2]; rfl⟩
    by_cases he : e1 = 0
    · subst he
      obtain ⟨D2, e2, w2, W2, a2⟩ := writes_wrote l D1 (k + 1) W1.ok (by rw [W1.len]; omega) (fun x hx => hb x (by simp [hx])) (by have := W1.pend; omega)
      refine ⟨D2, e2, by rw [writesF_ok w1, show ((k : Int) + 1) = ((k + 1 : Nat) : Int) by omega, w2], (W1.trans W2).mono (by simp; omega) (fun q v h => ?_), fun h q => ?_⟩
      · rcases h with h | ⟨j, h1, h2, h3⟩
        · exact hA q v h
        · exact ⟨j + 1, by simp; omega, by omega, by simpa using h3⟩
      · rw [a2 h, a1 rfl]
        simp only [List.length_cons]
        by_cases h1 : k + 1 ≤ q ∧ q < k + 1 + l.length
        · rw [if_pos h1, if_pos (by omega), show q - k = (q - (k + 1)) + 1 by omega]
          rfl
        · rw [if_neg h1]
          by_cases h2 : q = k
          · subst h2; rw [if_pos rfl, if_pos (by omega), Nat.sub_self]; rfl
          · rw [if_neg h2, if_neg (by omega)]
    · exact ⟨D1, e1, writesF_bad w1 he, W1.mono (by simp) hA, fun h => absurd h he⟩
section
variable {P : RecT → Prop} {k : Nat} {L : Lg} {m : Nat} {C X S : Nat → List RecT}
/-- The next segment is opened, if there is one, and nothing fails. -/
theorem Cuts.open (h : Cuts P k L m C X S) (hk : k ≤ 1000) (hb : L.br = false) : (∃ e L', e ≠ 0 ∧ L.open = (L', e) ∧ Cuts P (k + 1) L' m C X S) ∨ (m < 5 ∧ ∃ L', L.open = (L', 0) ∧ L'.br = false ∧ Cuts P (k + 1) L' (m + 1) C X S) := by
  obtain ⟨hs, hsl, hsg, hlg⟩ := h.sealed
  have hm5 := h.hm
  have hX := h.noX hb
  have hnx := hs.next
  rw [hsl] at hnx
  have hxg := h.xgen hb
  have hpe := h.pend
  have htk := h.tok
  have hgk := h.gen
  by_cases hmn : m = 5
  · rw [if_pos hmn] at hnx
    refine .inl ⟨6, L, by decide, ?_, ?_⟩
    · unfold Lg.open
      rw [hnx]
    · exact { h with tok := by omega, gen := by omega, pend := by omega }
  · rw [if_neg hmn] at hnx
    have hm' : m < 5 := by omega
    have hna : nextAt 5 0 m = m := by unfold nextAt; split; omega; rw [Nat.zero_add, Nat.mod_eq_of_lt hm']
    rw [hna] at hnx
    have hup : L.up.seg = 5 ∧ L.up.sec = 24 ∧ L.up.may = true ∧ L.up.fits ∧ L.up.gen ≤ k + 1 ∧ m ≤ L.up.gen := by
      refine ⟨h.xseg, h.xsec, ?_, ?_, ?_, ?_⟩
      · have := of_decide_eq_true h.may
        unfold Sp.may Lg.up
        rw [decide_eq_true_eq]
        dsimp only
        omega
      · have := h.fits
        unfold Sp.fits Lg.up at *
        dsimp only
        omega
      · show L.x.gen + 1 ≤ k + 1; omega
      · show m ≤ L.x.gen + 1; omega
    have hsup : SupOk (supB L.up (L.t + 1)) := ⟨L.up, L.t + 1, rfl, hup.1, hup.2.1, hup.2.2.1, hup.2.2.2.1, by omega⟩
    have hCm : C m = [] := h.virgin m (Nat.le_refl _)
    obtain ⟨D1, e1, w1, W1, a1⟩ := set_wrote h.disk.ok h.disk.len (by omega) L.up L.t
    have M1 : ∀ q v, Poss D1 q v → Poss L.D q v ∨ May (fun i => C i ++ X i) q v := fun q v hv => (W1.poss q v hv).elim .inl fun ⟨h1, h2⟩ => .inr (.inl ⟨by omega, by rw [h2]; exact hsup⟩)
    by_cases he1 : e1 = 0
    · subst he1
      obtain ⟨D2, e2, w2, W2, a2⟩ := write_wrote W1.ok (i := 2 + m * 24) (by rw [W1.len, h.disk.len]; omega) (headS_len (L.x.gen + 1) m) (by have := W1.pend; omega)
      have w2' : D1.write (2 + (m : Int) * L.x.sec) (headS (L.x.gen + 1) m) = (D2, e2) := by
        rw [h.xsec, show (2 + (m : Int) * (24 : Int)) = ((2 + m * 24 : Nat) : Int) by simp]
        exact w2
      have hhd : (segT m (C m ++ X m))[0]? = some (headS (L.x.gen + 1) m) := by rw [hxg]; rfl
      have M2 : ∀ q v, Poss D2 q v → Poss L.D q v ∨ May (fun i => C i ++ X i) q v := fun q v hv => (W2.poss q v hv).elim (M1 q v) fun ⟨h1, h2⟩ => .inr (.inr ⟨m, 0, hm', by omega, h1, by rw [h2]; exact hhd⟩)
      by_cases he2 : e2 = 0
      · subst he2
        obtain ⟨D3, e3, w3, W3, a3⟩ := sync_wrote W2.ok
        have M3 : ∀ q v, Poss D3 q v → Poss L.D q v ∨ May (fun i => C i ++ X i) q v := fun q v hv => (W3.poss q v hv).elim (M2 q v) False.elim
        have hp3 : D3.pend.length ≤ 50 * (k + 1) := by have := W1.pend; have := W2.pend; have := W3.pend; omega
        have hl3 : D3.safe.length = L.D.safe.length := by rw [W3.len, W2.len, W1.len]
        by_cases he3 : e3 = 0
        · subst he3
          right
          refine ⟨hm', ⟨L.up, L.t + 1, D3, (sealS L.segs).set m ⟨1, L.x.gen + 1, 1⟩, L.br⟩, ?_, hb, ?_⟩
          · unfold Lg.open
            rw [hnx]
            dsimp only
            rw [w1, if_neg (by simp)]
            dsimp only
            rw [w2', if_neg (by simp)]
            dsimp only
            rw [w3, if_neg (by simp)]
          · have hsd := hs.open (g := L.x.gen + 1) (by rw [hsl]; exact hm') (by rw [hlg]; omega)
            have hst0 : startAt 0 m = 0 := by unfold startAt; split <;> rfl
            rw [hsl, hna, hst0] at hsd
            have hdec : decide (0 < m + 1) = true := by simp
            have hmsl : m < (sealS L.segs).length := by rw [hsl]; exact hm'
            exact {
              side := by rw [hdec]; exact hsd
              xseg := hup.1
              xsec := hup.2.1
              len := by show (List.set _ _ _).length = 5; rw [List.length_set, hsl]
              may := hup.2.2.1
              fits := hup.2.2.2.1
              tok := by show L.t + 1 ≤ k + 1; omega
              gen := hup.2.2.2.2.1
              genm := by show m + 1 ≤ L.x.gen + 1; omega
              xgen := fun _ => by show L.x.gen + 1 = m + 1; omega
              pend := hp3
              segs := fun i hi => by
                show Ring.gen (List.set _ _ _) i = _ ∧ (at' (List.set _ _ _) i).used = _
                rw [gen_set hmsl, at_set hmsl]
                by_cases e : i = m
                · subst e
                  rw [if_pos rfl, if_pos rfl, hCm]
                  exact ⟨by show L.x.gen + 1 = i + 1; omega, rfl⟩
                · rw [if_neg e, if_neg e]
                  have h1 := hsg i (by omega)
                  have h2 := h.segs i (by omega)
                  unfold Ring.gen at h2 ⊢
                  rw [h1.1, h1.2]
                  exact h2
              virgin := fun i hi => h.virgin i (by omega)
              oks := h.oks
              under := fun i => .inl (hX i)
              fit := h.fit
              disk := h.disk.more W3.ok hl3 (fun i => List.prefix_refl _) M3
              full := fun _ i j v hi hv => by
                show D3.at _ = v
                rw [a3 rfl, a2 rfl]
                have hj := (List.getElem?_eq_some_iff.1 hv).1
                rw [segT_len] at hj
                have hft := h.fit i
                rw [hX i, List.append_nil] at hft
                by_cases e : i = m
                · subst e
                  rw [hCm] at hj hv
                  have : j = 0 := by simp [usedR] at hj; omega
                  subst this
                  rw [if_pos (by omega), hxg]
                  have hv' : some (headS (i + 1) i) = some v := hv
                  exact Option.some.inj hv'
                · rw [if_neg (by omega), a1 rfl _ (by omega)]
                  exact h.full hb i j v (by omega) hv
              pre := h.pre
              sure := sure_more h.sure h.preT (fun i _ => h.fit i) M3 }
        · left
          refine ⟨e3, ⟨L.up, L.t + 1, D3, L.segs, true⟩, he3, ?_, h.swap W3.ok hl3 (by omega) hp3 M3 hup (by omega)⟩
          unfold Lg.open
          rw [hnx]
          dsimp only
          rw [w1, if_neg (by simp)]
          dsimp only
          rw [w2', if_neg (by simp)]
          dsimp only
          rw [w3, if_pos he3]
      · left
        refine ⟨e2, ⟨L.up, L.t + 1, D2, L.segs, true⟩, he2, ?_, h.swap W2.ok (by rw [W2.len, W1.len]) (by omega) (by have := W1.pend; have := W2.pend; omega) M2 hup (by omega)⟩
        unfold Lg.open
        rw [hnx]
        dsimp only
        rw [w1, if_neg (by simp)]
        dsimp only
        rw [w2', if_pos he2]
    · left
      refine ⟨e1, ⟨L.x, L.t, D1, L.segs, true⟩, he1, ?_, h.swap W1.ok W1.len (by omega) (by have := W1.pend; omega) M1 ⟨h.xseg, h.xsec, h.may, h.fits, by omega, h.genm⟩ (by omega)⟩
      unfold Lg.open
      rw [hnx]
      dsimp only
      rw [w1, if_pos he1]
/-- A record is put behind, or something fails. -/
theorem Cuts.put (h : Cuts P k L m C X S) (hk : k ≤ 1000) (hb : L.br = false) (hm : 0 < m) {r : RecT} (hr : r.ok) (hP : P r) (hroom : 1 + usedR (C (m - 1)) + r.n ≤ 24) : (∃ e L' X', e ≠ 0 ∧ L.put r.b = (L', e, (0, 0, 0)) ∧ Cuts P (k + 1) L' m C X' S) ∨ (∃ L', L.put r.b = (L', 0, (m - 1, m, ((1 + usedR (C (m - 1)) : Nat) : Int))) ∧ Cuts P (k + 1) L' m (fun a => if a = m - 1 then C a ++ [r] else C a) X S) := by
  have hm5 := h.hm
  have hX := h.noX hb
  have hop := h.opened
  rw [if_pos hm] at hop
  have hpe := h.pend
  have hus := (h.segs (m - 1) (by omega)).2
  have hge := (h.segs (m - 1) (by omega)).1
  have hge' : (at' L.segs (m - 1)).gen = m := by unfold Ring.gen at hge; omega
  have hn17 := RecT.n_le hr
  have hpn := r.n_pos
  generalize hi : m - 1 = i at *
  have hmi : m = i + 1 := by omega
  have hsl := splitB_len r m (1 + usedR (C i))
  obtain ⟨D', e, hw, W, a⟩ := writes_wrote (splitB m (1 + usedR (C i)) r.b) L.D (2 + i * 24 + (1 + usedR (C i))) h.disk.ok (by rw [hsl, h.disk.len]; omega) (fun b hb => by
      rw [RecT.split] at hb
      obtain ⟨j, _, rfl⟩ := List.mem_map.1 hb
      exact r.sec_len _ _ _) (by rw [hsl]; omega)
  rw [hsl] at W a
  have hseg : ∀ (j : Nat) (v : List UInt8), (splitB m (1 + usedR (C i)) r.b)[j]? = some v → (segT i (C i ++ [r]))[1 + usedR (C i) + j]? = some v := fun j v hj => by
    rw [segT_app, List.getElem?_append_right (by rw [segT_len]; omega), segT_len, Nat.add_sub_cancel_left]
    show (splitB (i + 1) (1 + usedR (C i)) r.b ++ [])[j]? = some v
    rw [List.append_nil, ← hmi]
    exact hj
  have M : ∀ (T : Nat → List RecT), T i = C i ++ [r] → ∀ q v, Poss D' q v → Poss L.D q v ∨ May T q v := fun T hT q v hv => (W.poss q v hv).elim .inl fun ⟨j, h1, h2, h3⟩ => .inr (.inr ⟨i, 1 + usedR (C i) + j, by omega, by omega, by omega, by rw [hT]; exact hseg j v h3⟩)
  have hil : i < L.segs.length := by rw [h.len]; omega
  have e1 : (2 + (i : Int) * L.x.sec + (at' L.segs i).used) = ((2 + i * 24 + (1 + usedR (C i)) : Nat) : Int) := by rw [h.xsec, hus]; simp
  have e2 : (at' L.segs i).used.toNat = 1 + usedR (C i) := by rw [hus]; omega
  by_cases he : e = 0
  · subst he
    right
    refine ⟨{ L with D := D', segs := L.segs.set i { at' L.segs i with used := (at' L.segs i).used + secs r.b.length } }, ?_, ?_⟩
    · unfold Lg.put
      rw [hop]
      dsimp only
      rw [e1, e2, hge', hw, if_neg (by simp), hus]
    · have hu := h.side.used i (by omega)
      rw [h.len, Nat.zero_add, Nat.mod_eq_of_lt (by omega)] at hu
      have hdec : decide (0 < m) = true := by simpa using hm
      have hsd0 := h.side
      rw [hdec] at hsd0
      have hsd := hsd0.change (x := { at' L.segs i with used := (at' L.segs i).used + secs r.b.length }) (o' := true) (by rw [h.len, last5 hm5, hi]; rfl) (by rw [if_pos rfl]; have := hu.1; rw [if_pos ⟨hdec, by omega⟩] at this; exact this) (by
        show 1 ≤ (at' L.segs i).used + (r.n : Int) ∧ (at' L.segs i).used + (r.n : Int) ≤ 24
        rw [hus]; omega)
      rw [h.len, last5 hm5, hi] at hsd
      have hT : ∀ a, (if a = i then C a ++ [r] else C a) ++ X a = if a = i then C a ++ [r] else C a ++ X a := fun a => by
        split
        · rw [hX a, List.append_nil]
        · rfl
      have hle : ∀ a, C a ++ X a <+: (if a = i then C a ++ [r] else C a) ++ X a := fun a => by
        rw [hX a, List.append_nil, List.append_nil]
        split
        · exact List.prefix_append _ _
        · exact List.prefix_refl _
      have hTi : ((if i = i then C i ++ [r] else C i) ++ X i) = C i ++ [r] := by rw [if_pos rfl, hX i, List.append_nil]
      have hfit : ∀ a, 1 + usedR ((if a = i then C a ++ [r] else C a) ++ X a) ≤ 24 := fun a => by
        rw [hX a, List.append_nil]
        have hf := h.fit a
        rw [hX a, List.append_nil] at hf
        split
        · rename_i e; subst e; rw [usedR_snoc]; omega
        · exact hf
      exact {
        side := by rw [hdec]; exact hsd
        xseg := h.xseg
        xsec := h.xsec
        len := by show (List.set _ _ _).length = 5; rw [List.length_set, h.len]
        may := h.may
        fits := h.fits
        tok := by have := h.tok; show L.t ≤ k + 1; omega
        gen := by have := h.gen; show L.x.gen ≤ k + 1; omega
        genm := h.genm
        xgen := h.xgen
        pend := by show D'.pend.length ≤ _; have := W.pend; omega
        segs := fun b hb' => by
          show Ring.gen (List.set _ _ _) b = _ ∧ (at' (List.set _ _ _) b).used = _
          rw [gen_set hil, at_set hil]
          by_cases e : b = i
          · subst e
            simp only [if_true]
            refine ⟨by show (at' L.segs b).gen = _; omega, ?_⟩
            rw [usedR_snoc, hus]
            show _ + (r.n : Int) = _
            omega
          · simp only [if_neg e]
            exact h.segs b hb'
        virgin := fun b hb' => by rw [if_neg (by omega)]; exact h.virgin b hb'
        oks := fun b x hx => by
          rw [hT] at hx
          split at hx
          · rcases List.mem_append.1 hx with hx | hx
            · exact h.oks b x (List.mem_append_left _ hx)
            · cases List.mem_singleton.1 hx; exact hr
          · exact h.oks b x hx
        under := fun b => .inl (hX b)
        fit := hfit
        disk := h.disk.more W.ok W.len hle (M _ hTi)
        full := fun _ b j v hb' hv => by
          show D'.at _ = v
          have hj := (List.getElem?_eq_some_iff.1 hv).1
          rw [segT_len] at hj
          have hf := hfit b
          rw [hX b, List.append_nil] at hf
          rw [a rfl]
          by_cases e : b = i
          · subst e
            simp only [if_true] at hv hj hf
            rw [usedR_snoc] at hj
            by_cases hlt : j < 1 + usedR (C b)
            · rw [if_neg (by omega)]
              refine h.full hb b j v (by omega) ?_
              rw [segT_app, List.getElem?_append_left (by rw [segT_len]; exact hlt)] at hv
              exact hv
            · have hv2 := hseg (j - (1 + usedR (C b))) ((splitB m (1 + usedR (C b)) r.b).getD (j - (1 + usedR (C b))) []) (by
                rw [List.getD_eq_getElem?_getD, List.getElem?_eq_getElem (by rw [hsl]; omega)]; rfl)
              rw [show 1 + usedR (C b) + (j - (1 + usedR (C b))) = j by omega, hv] at hv2
              rw [if_pos (by omega), show 2 + b * 24 + j - (2 + b * 24 + (1 + usedR (C b))) = j - (1 + usedR (C b)) by omega]
              exact (Option.some.inj hv2).symm
          · rw [if_neg e] at hv hj hf
            have hf2 := hroom
            rw [if_neg (by omega)]
            exact h.full hb b j v hb' hv
        pre := fun b => by
          split
          · exact (h.pre b).trans (List.prefix_append _ _)
          · exact h.pre b
        sure := sure_more h.sure (fun b => (h.preT b).trans (hle b)) (fun b _ => hfit b) (M _ hTi) }
  · left
    have hle : ∀ a, C a ++ X a <+: C a ++ (if a = i then [r] else []) := fun a => by
      rw [hX a, List.append_nil]
      exact List.prefix_append _ _
    have hfit : ∀ a, 1 + usedR (C a ++ (if a = i then [r] else [])) ≤ 24 := fun a => by
      have hf := h.fit a
      rw [hX a, List.append_nil] at hf
      split
      · rename_i e; subst e; rw [usedR_snoc]; omega
      · rw [List.append_nil]; exact hf
    refine ⟨e, { L with D := D', br := true }, fun a => if a = i then [r] else [], he, ?_, ?_⟩
    · unfold Lg.put
      rw [hop]
      dsimp only
      rw [e1, e2, hge', hw, if_pos he]
    · exact {
        side := h.side
        xseg := h.xseg
        xsec := h.xsec
        len := h.len
        may := h.may
        fits := h.fits
        tok := by have := h.tok; show L.t ≤ k + 1; omega
        gen := by have := h.gen; show L.x.gen ≤ k + 1; omega
        genm := h.genm
        xgen := fun e => by cases e
        pend := by show D'.pend.length ≤ _; have := W.pend; omega
        segs := h.segs
        virgin := h.virgin
        oks := fun b x hx => by
          rcases List.mem_append.1 hx with hx | hx
          · exact h.oks b x (List.mem_append_left _ hx)
          · split at hx
            · cases List.mem_singleton.1 hx; exact hr
            · cases hx
        under := fun b => by
          by_cases e : b = i
          · exact .inr ⟨rfl, r, by rw [if_pos e], hP⟩
          · exact .inl (by rw [if_neg e])
        fit := hfit
        disk := h.disk.more W.ok W.len hle (M _ (by rw [if_pos rfl]))
        full := fun e => by cases e
        pre := h.pre
        sure := sure_more h.sure (fun b => (h.preT b).trans (hle b)) (fun b _ => hfit b) (M _ (by rw [if_pos rfl])) }
end
end Go.Lg
end
