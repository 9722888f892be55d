/- Plain: the log's state by what its segments hold: Scan, Read, Free. Conditions: nothing fails. Plain: what was told of a log that is only appended to. Conditions: nothing fails. Plain: the first record of a new log. Conditions: none. A constant's bytes: a block that bears the run-time's mark. Conditions: a slice of bytes. The law's wakes: what is put into a new log is read. No condition. -/
import Derived.Test.YtjmocjcjiiopnaaGreatLogScans28
import Derived.Test.YtjmocjcjiiopnaaGreatLogScans29
import Derived.Test.YtjmocjcjiiopnaaGreatLogScans06
import Derived.Test.YtjmocjcjiiopnaaGreatLogScans08
import Derived.Lib.SlBytesConst

section
set_option linter.unusedVariables false
set_option linter.unusedSimpArgs false
namespace Go.Lg
open Go.Ring Go.Dsk Go.Oct Go.Proofs.YtjmocjcjiiopnaaGreat
section
variable {n sec k : Nat} {L : Lg} {s m : Nat} {o : Bool} {C : Nat → List RecT}
theorem Good.alive (h : Good n sec k L s m o C) {i : Nat} (hi : i < n) {most : Int} (hm : most ≤ sec) : Alive L.D (2 + i * sec) most := ⟨h.calm, by
  have := h.bd
  have := h.inn hi (j := sec - 1) (by omega)
  rw [h.dlen]; omega⟩
theorem base_eq (h : Good n sec k L s m o C) (i : Nat) : 2 + (i : Int) * L.x.sec = ((2 + i * sec : Nat) : Int) := by rw [h.xsec]; simp
/-- A segment that is in use tells its records. -/
theorem Good.scan (h : Good n sec k L s m o C) (hk : k ≤ 1000000000) {i : Nat} (hi : i < n) (hst : (at' L.segs i).st ≠ 0) : scanF L.x L.D i = (L.D, 0, Ring.gen L.segs i, 1 + usedR (C i), placed 1 (C i)) := by
  obtain ⟨hg1, hg2, hus, S⟩ := h.segm i hi hst
  have hb := h.bd
  have hgk := h.gen
  have hg : 1 ≤ Ring.gen L.segs i ∧ Ring.gen L.segs i ≤ 18446744073709551615 := ⟨hg1, by omega⟩
  have A := h.alive hi (most := (sec : Int)) (by omega)
  have hrd := h.calm.read (i := 2 + i * sec) (by rw [h.dlen]; have := h.inn hi (j := 0) (by omega); omega)
  rw [S.head] at hrd
  have hrb : readB (headS (Ring.gen L.segs i) i) = some (Ring.gen L.segs i, 0, beB i 2) := readB_packB hg (by omega) (by rw [beB_len]; omega)
  have hl := usedR_len (C i)
  have hf := S.fit
  have hgo := scanGo_holds A hg (by omega) (C i) 1 64 [] S.oks S.holds (by omega) (by omega) fun hlt z hz hc => by
    have := S.beyond (1 + usedR (C i)) (by omega) (by omega) z hz
    omega
  unfold scanF
  rw [base_eq h i, hrd, if_neg (by simp)]
  dsimp only
  rw [hrb]
  dsimp only
  rw [if_neg (by simp), h.xsec, hgo, if_neg (by simp)]
  rfl
theorem scan_none (h : Good n sec k L s m o C) {i : Nat} (hi : i < n) (hn : readB (L.D.at (2 + i * sec)) = none) : scanF L.x L.D i = (L.D, 0, 0, 0, []) := by
  have hb := h.bd
  have hrd := h.calm.read (i := 2 + i * sec) (by rw [h.dlen]; have := h.inn hi (j := 0) (by omega); omega)
  unfold scanF
  rw [base_eq h i, hrd, if_neg (by simp)]
  dsimp only
  rw [hn]
theorem Holds.mid {D : Dk} {b g : Nat} {r : RecT} {l2 : List RecT} : ∀ {l1 : List RecT} {u : Nat}, Holds D b g u (l1 ++ r :: l2) → Stands D b g (u + usedR l1) r
  | [], u, h => by simpa [usedR] using h.1
  | x :: l1, u, h => by
    have := Holds.mid (l1 := l1) h.2
    rw [usedR_cons]
    rw [Nat.add_assoc] at this
    exact this
theorem usedR_app (l1 l2 : List RecT) : usedR (l1 ++ l2) = usedR l1 + usedR l2 := by unfold usedR; simp
/-- What was told is read. -/
theorem Good.read (h : Good n sec k L s m o C) (hk : k ≤ 1000000000) {i : Nat} (hi : i < n) (hst : (at' L.segs i).st ≠ 0) {l1 l2 : List RecT} {r : RecT} (hc : C i = l1 ++ r :: l2) : L.read ((i : Int), Ring.gen L.segs i, ((1 + usedR l1 : Nat) : Int)) = (L.D, (r.rc, r.ka, r.va), 0) := by
  obtain ⟨hg1, hg2, hus, S⟩ := h.segm i hi hst
  have hb := h.bd
  have hgk := h.gen
  have hg : 1 ≤ Ring.gen L.segs i ∧ Ring.gen L.segs i ≤ 18446744073709551615 := ⟨hg1, by omega⟩
  have hf := S.fit
  have hue : usedR (C i) = usedR l1 + (r.n + usedR l2) := by rw [hc, usedR_app, usedR_cons]
  have hp := r.n_pos
  have A := h.alive hi (most := ((1 + usedR (C i) : Nat) : Int)) (by omega)
  have hr : r.ok := S.oks r (by rw [hc]; simp)
  have hh := S.holds
  rw [hc] at hh
  have e := recF_hit A hg hr (u := 1 + usedR l1) (by omega) (by omega) hh.mid
  have hbad : ¬ addrBad L.segs ((i : Int), Ring.gen L.segs i, ((1 + usedR l1 : Nat) : Int)) := by
    unfold addrBad
    dsimp only
    rw [h.len, show ((i : Int)).toNat = i by omega, hus]
    show ¬ (_ ∨ _ ∨ _ ∨ (at' L.segs i).gen ≠ (at' L.segs i).gen ∨ _)
    omega
  have e1 : (at' L.segs (i : Int).toNat).used = ((1 + usedR (C i) : Nat) : Int) := by rw [Int.toNat_natCast, hus]; omega
  have e2 : (at' L.segs (i : Int).toNat).gen = Ring.gen L.segs i := by rw [Int.toNat_natCast]; rfl
  have e3 : (((1 + usedR l1 : Nat) : Int)).toNat = 1 + usedR l1 := by omega
  have hn0 : ¬ r.n = 0 := by omega
  unfold Lg.read
  rw [if_neg hbad]
  dsimp only
  rw [base_eq h i, e1, e2, e3, e.2, e.1]
  dsimp only
  rw [if_neg (by simp), if_neg hn0]
theorem read_bad {segs : List Seg} {a : Int × Nat × Int} (hb : addrBad segs a) (hs : L.segs = segs) : L.read a = (L.D, (⟨0, 0, 0, 0⟩, [], []), 4) := by
  subst hs
  unfold Lg.read
  rw [if_pos hb]
theorem Good.freeOk (h : Good n sec k L s m o C) (hk : k ≤ 1000000000) : FreeOk L where
  chk := by rw [h.xsec]; exact h.side.check
  may := h.may
  fits := h.fits
  tok := by have := h.tok; omega
  pend := by
    have := (h.fit hk).pend
    have h1 := h.pend
    split at h1
    · rename_i ho
      have hu := h.side.used (m - 1) (by have := h.side.ho ho; omega)
      rw [h.len] at hu
      have := h.bd
      omega
    · omega
  gens := fun i hi => by
    have hol := h.side.oldest
    rw [hi] at hol
    split at hol
    · cases hol
    · rename_i hs
      cases hol
      have hm : 0 < m := by unfold sealedN at hs; split at hs <;> omega
      have hu := h.side.used 0 hm
      have hsl := h.side.hs
      rw [Nat.add_zero, Nat.mod_eq_of_lt hsl] at hu
      rw [h.len] at hsl
      have hst : (at' L.segs s).st ≠ 0 := by rw [hu.1]; split <;> decide
      exact ⟨h.ret s hsl hst, (h.segm s hsl hst).2.1⟩
/-- The oldest segment is freed, or nothing. -/
theorem Good.free (h : Good n sec k L s m o C) (hk : k ≤ 1000000000) (i : Int) : (∃ e, e ≠ 0 ∧ e ≠ 4 ∧ L.free i = (L, e)) ∨ (i = s ∧ ∃ L', L.free i = (L', 0) ∧ L'.segs = L.segs.set s zero ∧ (∀ q, 2 ≤ q → L'.D.at q = L.D.at q) ∧ Good n sec (k + 1) L' ((s + 1) % n) (m - 1) o C) := by
  have hol := h.side.oldest
  have hsl := h.side.hs
  have hbd := h.bd
  have hfo := h.freeOk hk
  unfold Lg.free
  by_cases h1 : i < 0 ∨ (L.segs.length : Int) ≤ i
  · rw [if_pos h1]; exact .inl ⟨2, by decide, by decide, rfl⟩
  · rw [if_neg h1, if_neg (by rw [h.br]; decide)]
    by_cases h2 : oldestP L.segs ≠ some i.toNat
    · rw [if_pos h2]; exact .inl ⟨181, by decide, by decide, rfl⟩
    · rw [if_neg h2]
      have h2 : oldestP L.segs = some i.toNat := Classical.not_not.1 h2
      rw [hol] at h2
      split at h2
      · cases h2
      · rename_i hs
        have his : s = i.toNat := by simpa using h2
        have hi' : i = (s : Int) := by omega
        refine .inr ⟨hi', ?_⟩
        rw [← his]
        have hm : 0 < m := by unfold sealedN at hs; split at hs <;> omega
        obtain ⟨D1, e1, c1, o1, l1, p1, a1⟩ := supB_calm h.calm h.ok h.dlen (by have := hfo.pend; omega) (L.gone s) L.t
        rw [e1, if_neg (by simp)]
        have hsd := h.side.freed (by omega)
        rw [h.len] at hsd hsl
        have hfar : ∀ q, 2 ≤ q → D1.at q = L.D.at q := fun q hq => by rw [a1, if_neg (by omega)]
        have hu := h.side.used 0 hm
        rw [h.len, Nat.add_zero, Nat.mod_eq_of_lt hsl] at hu
        have hst0 : (at' L.segs s).st ≠ 0 := by rw [hu.1]; split <;> decide
        have hsg := h.segm s hsl hst0
        have hgs : (at' L.segs s).gen = Ring.gen L.segs s := rfl
        have hsle : s < L.segs.length := by rw [h.len]; exact hsl
        refine ⟨_, rfl, rfl, hfar, ?_⟩
        refine { side := hsd, xseg := h.xseg, xsec := h.xsec, len := by rw [List.length_set, h.len], may := ?_, fits := ?_, br := h.br, calm := c1, ok := o1, dlen := l1, pend := ?_, tok := by have := h.tok; show L.t + 1 ≤ k + 1; omega, gen := by have := h.gen; show L.x.gen ≤ k + 1; omega, segm := ?_, fresh := ?_, ret := ?_ }
        · have := of_decide_eq_true h.may
          unfold Sp.may Lg.gone
          rw [decide_eq_true_eq]
          dsimp only
          rw [hgs]
          have := hsg.2.1
          omega
        · have := h.fits
          have := hsg.2.1
          unfold Sp.fits Lg.gone at *
          dsimp only
          rw [hgs]
          omega
        · show ((D1.pend.length : Nat) : Int) ≤ _
          rw [p1]
          split
          · rename_i ho
            have hmm : 0 < m - 1 := hsd.ho ho
            have hu2 := hsd.used (m - 1 - 1) (by omega)
            rw [List.length_set, h.len] at hu2
            exact Int.le_trans (by decide) hu2.2.1
          · exact Int.le_refl _
        · intro a ha hst
          have hst' : (at' (L.segs.set s zero) a).st ≠ 0 := hst
          show 1 ≤ Ring.gen (List.set _ _ _) a ∧ Ring.gen (List.set _ _ _) a ≤ L.x.gen ∧ (at' (List.set _ _ _) a).used = _ ∧ Segm D1 _ (Ring.gen (List.set _ _ _) a) _ _ _
          rw [at_set hsle] at hst' ⊢
          rw [gen_set hsle]
          by_cases e : a = s
          · rw [if_pos e] at hst'; exact absurd rfl hst'
          · simp only [if_neg e] at hst' ⊢
            have hga := h.segm a ha hst'
            exact ⟨hga.1, hga.2.1, hga.2.2.1, hga.2.2.2.frame fun j hj => hfar _ (by omega)⟩
        · intro a ha j h1 h2 z hz
          have hz' : readB (D1.at (2 + a * sec + j)) = some z := hz
          rw [hfar _ (by omega)] at hz'
          exact h.fresh a ha j h1 h2 z hz'
        · intro a ha hst
          have hst' : (at' (L.segs.set s zero) a).st ≠ 0 := hst
          show (at' L.segs s).gen ≤ Ring.gen (List.set _ _ _) a
          rw [at_set hsle] at hst'
          rw [gen_set hsle]
          by_cases e : a = s
          · rw [if_pos e] at hst'; exact absurd rfl hst'
          · rw [if_neg e] at hst' ⊢
            rw [hgs]
            have hex : ∃ j, j < m ∧ (s + j) % n = a := by
              apply Classical.byContradiction
              intro hno
              have := h.side.free a (by rw [h.len]; exact ha) fun j hj he => hno ⟨j, hj, by rw [← h.len]; exact he⟩
              rw [this] at hst'
              exact hst' rfl
            obtain ⟨j, hj, rfl⟩ := hex
            have hj0 : 0 < j := Nat.pos_of_ne_zero fun hz => e (by rw [hz, Nat.add_zero, Nat.mod_eq_of_lt hsl])
            have := h.side.rise 0 j hj0 hj
            rw [h.len, Nat.add_zero, Nat.mod_eq_of_lt hsl] at this
            omega
end
end Go.Lg
end

section
set_option linter.unusedVariables false
set_option linter.unusedSimpArgs false
namespace Go.Lg
open Go.Ring Go.Dsk Go.Oct Go.Proofs.YtjmocjcjiiopnaaGreat
abbrev AdT := Nat × Nat × Int
/-- What is told of a segment. -/
def putAt (C : Nat → List RecT) (i : Nat) : List (AdT × RecT) := (placed 1 (C i)).map fun z => ((i, i + 1, (z.1 : Int)), ⟨z.2.1, z.2.2.1, z.2.2.2⟩)
def allPut (n : Nat) (C : Nat → List RecT) : List (AdT × RecT) := (List.range n).flatMap (putAt C)
structure Told (n sec k : Nat) (L : Lg) (m : Nat) (C : Nat → List RecT) (put : List (AdT × RecT)) : Prop where
  good : Good n sec k L 0 m (decide (0 < m)) C
  xgen : L.x.gen = m
  gens : ∀ i, i < m → Ring.gen L.segs i = i + 1
  virgin : ∀ i, m ≤ i → i < n → C i = [] ∧ readB (L.D.at (2 + i * sec)) = none
  put : put = allPut n C
theorem readB_zero : readB (List.replicate 64 0) = none := by decide
theorem at_new {q : Nat} (h : q < 1026) : (Dk.new 1026).at q = List.replicate 64 0 := by
  unfold Dk.at Dk.new
  show (List.replicate 1026 (List.replicate 64 0)).getD q [] = _
  rw [List.getD_eq_getElem?_getD, List.getElem?_replicate, if_pos h]
  rfl
theorem new_len (N : Nat) : (Dk.new N).safe.length = N := List.length_replicate
theorem new_ok {N : Nat} (h : 1 ≤ N ∧ N ≤ 2048) : (Dk.new N).ok := ⟨fun b hb => by rw [List.eq_of_mem_replicate hb]; exact List.length_replicate, fun x hx => (by cases hx), by rw [new_len]; exact h, Nat.zero_le _, fun e => (by cases e), show (0 : Int) ≤ 0 ∧ (0 : Int) ≤ 4611686018427387904 by decide⟩
theorem D0_at {n sec q : Nat} (h1 : 2 ≤ q) (h2 : q < 1026) : (D0 n sec).at q = List.replicate 64 0 ∧ (D0 n sec).ok ∧ (D0 n sec).calm ∧ (D0 n sec).safe.length = 1026 ∧ (D0 n sec).pend = [] := by
  have hok := new_ok (N := 1026) (by decide)
  have hl := new_len 1026
  have h3 := Dk.put_ok hok (i := 0) (by rw [hl]; decide) (supB_len (x0 n sec) 0) (by show 0 < 1000000; decide)
  have h4 := Dk.put_ok h3 (i := 1) (b := zB) (by rw [Dk.put_len, hl]; decide) List.length_replicate (by show 1 < 1000000; decide)
  unfold D0
  refine ⟨?_, Dk.settle_ok h4 _, ((((Dk.new_calm 1026).put _ _).put _ _).settle _), by rw [settle_len, Dk.put_len, Dk.put_len, hl], rfl⟩
  rw [Dk.settle_at h4, Dk.put_at, Dk.put_at, if_neg (by omega), if_neg (by omega), at_new h2]
theorem Told.born {n sec : Nat} (hn : 4 ≤ n ∧ n ≤ 16) (hs : 24 ≤ sec ∧ sec ≤ 64) : Told n sec 0 (L0 n sec) 0 (fun _ => []) [] := by
  have hns : n * sec ≤ 16 * 64 := Nat.mul_le_mul (by omega) (by omega)
  have hin : ∀ i j, i < n → j < sec → 2 + i * sec + j < 1026 := fun i j hi hj => by
    have := Nat.mul_le_mul_right sec (show i + 1 ≤ n from hi)
    rw [Nat.add_mul] at this; omega
  have hz : ∀ i j, i < n → j < sec → readB ((D0 n sec).at (2 + i * sec + j)) = none := fun i j hi hj => by
    rw [(D0_at (by omega) (hin i j hi hj)).1]; exact readB_zero
  have hd := (D0_at (n := n) (sec := sec) (q := 2) (by omega) (by omega)).2
  have hst : ∀ i, i < n → (at' (List.replicate n zero) i).st = 0 := fun i hi => by
    unfold at'
    rw [List.getD_eq_getElem?_getD, List.getElem?_replicate, if_pos hi]; rfl
  refine ⟨{ side := Side.new (by unfold sizedB; simp; omega), xseg := rfl, xsec := rfl, len := by unfold L0; simp, may := by unfold L0 x0 Sp.may; simp; omega, fits := by unfold L0 x0 Sp.fits; simp, br := rfl, calm := hd.2.1, ok := hd.1, dlen := hd.2.2.1, pend := ?_, tok := Nat.le_refl _, gen := Nat.le_refl _, segm := fun i hi h => absurd (hst i hi) h, fresh := fun i hi j h1 h2 z h => ?_, ret := fun i hi h => absurd (hst i hi) h }, rfl, fun i hi => (by omega), fun i _ hi => ⟨rfl, hz i 0 hi (by omega)⟩, ?_⟩
  · show (((D0 n sec).pend.length : Nat) : Int) ≤ _
    rw [hd.2.2.2]
    rw [if_neg (by decide)]
    exact Int.le_refl _
  · have h' : readB ((D0 n sec).at (2 + i * sec + j)) = some z := h
    rw [hz i j hi h2] at h'; cases h'
  · unfold allPut putAt
    symm
    rw [List.flatMap_eq_nil_iff]
    intro i hi
    rfl
theorem allPut_snoc {n i : Nat} (hi : i < n) (C : Nat → List RecT) (hv : ∀ j, i < j → j < n → C j = []) (r : RecT) : allPut n (fun a => if a = i then C a ++ [r] else C a) = allPut n C ++ [((i, i + 1, ((1 + usedR (C i) : Nat) : Int)), r)] := by
  have hsp : List.range n = List.range i ++ i :: (List.range' (i + 1) (n - i - 1)) := by
    rw [List.range_eq_range', List.range_eq_range']
    generalize he : n - i - 1 = d
    rw [show n = i + (1 + d) by omega, ← List.range'_append_1, Nat.add_comm 1 d, List.range'_succ, Nat.zero_add]
  unfold allPut
  rw [hsp, List.flatMap_append, List.flatMap_append, List.flatMap_cons, List.flatMap_cons]
  have h1 : (List.range i).flatMap (putAt fun a => if a = i then C a ++ [r] else C a) = (List.range i).flatMap (putAt C) := by
    simp only [List.flatMap_def]
    congr 1
    refine List.map_congr_left fun a ha => ?_
    have := List.mem_range.1 ha
    unfold putAt
    simp only [if_neg (show ¬ a = i by omega)]
  have h2 : ∀ C' : Nat → List RecT, (∀ j, i < j → j < n → C' j = []) → (List.range' (i + 1) (n - i - 1)).flatMap (putAt C') = [] := fun C' hC => by
    rw [List.flatMap_eq_nil_iff]
    intro a ha
    have := List.mem_range'_1.1 ha
    unfold putAt
    rw [hC a (by omega) (by omega)]; rfl
  have h3 : putAt (fun a => if a = i then C a ++ [r] else C a) i = putAt C i ++ [((i, i + 1, ((1 + usedR (C i) : Nat) : Int)), r)] := by
    unfold putAt
    simp only [if_true]
    rw [placed_snoc, List.map_append]
    rfl
  rw [h1, h2 _ hv, h2 (fun a => if a = i then C a ++ [r] else C a) (fun j h1 h2 => by simp only [if_neg (show ¬ j = i by omega)]; exact hv j h1 h2), h3]
  simp
section
variable {n sec k : Nat} {L : Lg} {m : Nat} {C : Nat → List RecT} {put : List (AdT × RecT)}
theorem Told.append (h : Told n sec k L m C put) (hk : k ≤ 900000000) (r : RecT) (hf : r.rc.fits) :
    L.fit ∧ (r.rc.right r.ka.length r.va.length = true → (L.ready r.n).2 = 0 → PutOk (L.ready r.n).1 r.n) ∧ ((∃ e, (e = 160 ∨ e = 6) ∧ L.append r.rc r.ka r.va = (L, e, (0, 0, 0))) ∨ ∃ L' m' C' a, L.append r.rc r.ka r.va = (L', 0, a) ∧ Told n sec (k + 2) L' m' C' (put ++ [(a, r)])) := by
  have hG := h.good
  refine ⟨hG.fit (by omega), fun hr h0 => hG.readyOk (by omega) (RecT.n_le ⟨hf, hr⟩) h0, ?_⟩
  cases hr : r.rc.right r.ka.length r.va.length with
  | false => exact .inl ⟨160, .inl rfl, by unfold Lg.append; rw [if_pos hr]⟩
  | true =>
    have hro : r.ok := ⟨hf, hr⟩
    have hn17 := RecT.n_le hro
    have hap : L.append r.rc r.ka r.va = if (L.ready r.n).2 ≠ 0 then ((L.ready r.n).1, (L.ready r.n).2, (0, 0, 0)) else (L.ready r.n).1.put r.b := by
      unfold Lg.append
      rw [if_neg (by rw [hr]; decide), if_neg (by rw [hG.br]; decide)]
      rfl
    have hb := hG.bd
    rw [hap]
    rcases hG.ready (by omega) r.n with e | ⟨ho, e, hroom⟩ | ⟨hm, D1, e, hfar, hg⟩
    · rw [e, if_pos (by simp)]
      exact .inl ⟨6, .inr rfl, rfl⟩
    · rw [e, if_neg (by simp)]
      have hm0 : 0 < m := of_decide_eq_true ho
      have hG' := hG
      rw [ho] at hG'
      obtain ⟨L', e1, hx, ht, hfr, hsg, hg'⟩ := hG'.put (by omega) hro hroom
      have hmn := hG.hm
      rw [Nat.zero_add, Nat.mod_eq_of_lt (by omega)] at e1 hfr hg'
      refine .inr ⟨L', m, (fun a => if a = m - 1 then C a ++ [r] else C a), _, e1, ?_, by rw [hx, h.xgen], fun i hi => by rw [(hsg i).2, h.gens i hi], fun i h1 h2 => ?_, ?_⟩
      · rw [ho]
        exact { hg' with tok := by have := hg'.tok; omega, gen := by have := hg'.gen; omega }
      · have hv := h.virgin i h1 h2
        refine ⟨by rw [if_neg (by omega)]; exact hv.1, ?_⟩
        rw [hfr _ (by have := Nat.mul_le_mul_right sec (show m - 1 + 1 ≤ i by omega); rw [Nat.add_mul] at this; right; omega)]
        exact hv.2
      · rw [h.put, allPut_snoc (by omega) C (fun j h1 h2 => (h.virgin j (by omega) h2).1) r, h.gens _ (by omega), show m - 1 + 1 = m by omega]
    · rw [e, if_neg (by simp)]
      have hs0 : startAt 0 m = 0 := by unfold startAt; split <;> rfl
      have hna : nextAt n 0 m = m := by unfold nextAt; split; omega; rw [Nat.zero_add, Nat.mod_eq_of_lt hm]
      rw [hs0, hna] at hg
      rw [hna] at hfar
      generalize hL1 : (Lg.mk L.up (L.t + 1) D1 ((sealS L.segs).set (nextAt n 0 m) ⟨1, L.x.gen + 1, 1⟩) false) = L1 at *
      have hL1' : L1 = Lg.mk L.up (L.t + 1) D1 ((sealS L.segs).set m ⟨1, L.x.gen + 1, 1⟩) false := by rw [← hL1, hna]
      rw [← hL1'] at hg
      have hlast : (0 + (m + 1 - 1)) % n = m := by rw [Nat.zero_add, Nat.add_sub_cancel, Nat.mod_eq_of_lt hm]
      obtain ⟨L', e1, hx, ht, hfr, hsg, hg'⟩ := hg.put (by omega) hro (by rw [hlast, if_pos rfl]; simp [usedR]; omega)
      rw [hlast] at e1 hfr hg'
      have hgn : ∀ i, i < m + 1 → Ring.gen L1.segs i = i + 1 := fun i hi => by
        rw [hL1']
        show Ring.gen (List.set _ _ _) i = _
        rw [gen_set (by rw [sealS_len, hG.len]; exact hm)]
        by_cases e : i = m
        · rw [if_pos e, h.xgen, e]
        · rw [if_neg e]
          have := (hG.sealed.2 i (by omega)).1
          unfold Ring.gen
          rw [this]
          exact h.gens i (by omega)
      refine .inr ⟨L', m + 1, (fun a => if a = m then (if a = m then [] else C a) ++ [r] else (if a = m then [] else C a)), _, e1, ?_, ?_, fun i hi => by rw [(hsg i).2, hgn i hi], fun i h1 h2 => ?_, ?_⟩
      · rw [show decide (0 < m + 1) = true by simp]
        exact hg'
      · rw [hx, hL1']
        show L.x.gen + 1 = m + 1
        rw [h.xgen]
      · have hv := h.virgin i (by omega) h2
        refine ⟨by rw [if_neg (by omega), if_neg (by omega)]; exact hv.1, ?_⟩
        have hap := apart (sec := sec) (show i ≠ m by omega) (j := 0) (k := 0) (by omega) (by omega)
        have hD : L1.D = D1 := by rw [hL1']
        rw [hfr _ (by have := Nat.mul_le_mul_right sec (show m + 1 ≤ i by omega); rw [Nat.add_mul] at this; right; omega), hD, hfar _ (by omega) (by omega)]
        exact hv.2
      · have hva := allPut_snoc hm (fun a => if a = m then [] else C a) (fun j h1 h2 => by rw [if_neg (by omega)]; exact (h.virgin j (by omega) h2).1) r
        rw [hva, hgn m (by omega)]
        congr 1
        rw [h.put]
        unfold allPut
        simp only [List.flatMap_def]
        congr 1
        refine List.map_congr_left fun a ha => ?_
        unfold putAt
        have han := List.mem_range.1 ha
        by_cases e : a = m
        · subst e; simp only [if_true]; rw [(h.virgin a (Nat.le_refl _) han).1]
        · simp only [if_neg e]
end
end Go.Lg
end

section
set_option linter.unusedVariables false
set_option linter.unusedSimpArgs false
namespace Go.Lg
open Go.Ring Go.Dsk Go.Oct Go.Proofs.YtjmocjcjiiopnaaGreat
def wakeR : RecT := ⟨⟨1, 0, 0, 1⟩, [97], [120]⟩
theorem wake_ok {n sec : Nat} (hn : 4 ≤ n ∧ n ≤ 16) (hs : 24 ≤ sec ∧ sec ≤ 64) : (L0 n sec).fit ∧ (((L0 n sec).ready (secs (encB ⟨1, 0, 0, 1⟩ [97] [120]).length)).2 = 0 → PutOk ((L0 n sec).ready (secs (encB ⟨1, 0, 0, 1⟩ [97] [120]).length)).1 (secs (encB ⟨1, 0, 0, 1⟩ [97] [120]).length)) ∧ ∃ L', (L0 n sec).append ⟨1, 0, 0, 1⟩ [97] [120] = (L', 0, (0, 1, 1)) ∧ L'.read (0, 1, 1) = (L'.D, (⟨1, 0, 0, 1⟩, [97], [120]), 0) ∧ checkB L'.x.sec L'.segs = true ∧ (L'.segs.length : Int) = L'.x.seg ∧ L'.x.may = true := by
  have hG := (Told.born hn hs).good
  have hro : wakeR.ok := ⟨by unfold Rc.fits wakeR; decide, by decide⟩
  have hn1 := RecT.n_le hro
  refine ⟨hG.fit (by omega), fun h0 => hG.readyOk (by omega) hn1 h0, ?_⟩
  have hap : (L0 n sec).append ⟨1, 0, 0, 1⟩ [97] [120] = if ((L0 n sec).ready wakeR.n).2 ≠ 0 then (((L0 n sec).ready wakeR.n).1, ((L0 n sec).ready wakeR.n).2, (0, 0, 0)) else ((L0 n sec).ready wakeR.n).1.put wakeR.b := by
    unfold Lg.append
    rw [if_neg (by decide), if_neg (by show ¬ false = true; decide)]
    rfl
  rw [hap]
  have hop := hG.side.opened
  have hrd : (L0 n sec).ready wakeR.n = (L0 n sec).open := by
    unfold Lg.ready
    rw [hop]
    rfl
  rw [hrd]
  rcases hG.open (by omega) with ⟨h1, _⟩ | ⟨hm, D1, e, hfar, hg⟩
  · omega
  · rw [e, if_neg (by simp)]
    have hna : nextAt n 0 0 = 0 := rfl
    have hs0 : startAt 0 0 = 0 := rfl
    rw [hna, hs0] at hg
    rw [hna]
    generalize hL1 : (Lg.mk (L0 n sec).up ((L0 n sec).t + 1) D1 ((sealS (L0 n sec).segs).set 0 ⟨1, (L0 n sec).x.gen + 1, 1⟩) false) = L1 at *
    obtain ⟨L', e1, hx, ht, hfr, hsg, hg'⟩ := hg.put (by omega) hro (by simp [usedR]; omega)
    have hz : (0 + (0 + 1 - 1)) % n = 0 := by simp
    rw [hz] at e1 hg'
    have hgen : Ring.gen L1.segs 0 = 1 := by
      rw [← hL1]
      show Ring.gen (List.set _ _ _) 0 = _
      rw [gen_set (by rw [sealS_len, hG.len]; omega), if_pos rfl]
      rfl
    have hst : (at' L'.segs 0).st ≠ 0 := by
      rw [(hsg 0).1, ← hL1]
      show (at' (List.set _ _ _) 0).st ≠ 0
      rw [at_set (by rw [sealS_len, hG.len]; omega), if_pos rfl]
      show (1 : Int) ≠ 0
      decide
    rw [hgen] at e1
    have hrd := hg'.read (by omega) (i := 0) (by omega) hst (l1 := []) (l2 := []) (r := wakeR) (by simp)
    rw [(hsg 0).2, hgen] at hrd
    refine ⟨L', e1, hrd, by rw [hg'.xsec]; exact hg'.side.check, by rw [hg'.len, hg'.xseg], hg'.may⟩
end Go.Lg
end

section
set_option linter.unusedVariables false
set_option linter.unusedSimpArgs false
namespace Go.Ice
open Go.RowKit
/-- A block of bytes with the mark behind it. -/
def mrkA (b : Nat) (cs : List Value) (ty : TypeId) : Asn := objA b (.cells cs.toArray ty (cs.length, cs.length + 1))
section
variable {w0 : World} {B : Nat → Prop} {M S : List Asn} {w : World}
theorem freeze_frm (w : World) (b k : Nat) : Frm (fun x => x = b) w (w.freeze ⟨b, k, none⟩ 1) := by
  unfold World.freeze
  rw [if_neg (by decide)]
  refine ⟨rfl, rfl, rfl, by simp, fun x hx hne => ?_⟩
  show (w.heap.modify b _)[x]? = _
  rw [Array.getElem?_modify, if_neg (fun e => hne e.symm)]
theorem freeze_at {w : World} {b : Nat} {cs : Array Value} {e : TypeId} (h : w.heap[b]? = some (.cells cs e (0, 0))) (k : Nat) : (w.freeze ⟨b, k, none⟩ 1).heap[b]? = some (.cells cs e (k, k + 1)) := by
  unfold World.freeze
  rw [if_neg (by decide)]
  show (w.heap.modify b _)[b]? = _
  rw [Array.getElem?_modify, if_pos rfl, h]
  rfl
theorem run_mark {P : Program} {t e : TypeId} (ht : P.underlying t = some (.slice e)) (he : P.underlying e = some (.int .u8)) {b : Nat} {cs : Array Value} (h : w.heap[b]? = some (.cells cs e (0, 0))) (n c : Nat) :
    (convert t t (.slice (some ⟨b, 0, none⟩) n c)).run P w = .ok (.slice (some ⟨b, 0, none⟩) n c) (w.freeze ⟨b, cs.size, none⟩ 1) := by
  have hsh : w.shape? b = some (e, cs.size) := by unfold World.shape?; rw [h]
  simp [convert, run_underlying ht, run_underlying he, markStringish, hsh]
theorem St.mark {P : Program} {t e : TypeId} (ht : P.underlying t = some (.slice e)) (he : P.underlying e = some (.int .u8)) {b : Nat} {cs : List Value} (h : St w0 B M S w) (i : Nat) (hi : M[i]? = some (blkA b cs e)) (n c : Nat) :
    (convert t t (.slice (some ⟨b, 0, none⟩) n c)).run P w = .ok (.slice (some ⟨b, 0, none⟩) n c) (w.freeze ⟨b, cs.length, none⟩ 1) ∧ St w0 B (M.set i (mrkA b cs e)) S (w.freeze ⟨b, cs.length, none⟩ 1) := by
  refine ⟨?_, h.stepAt i hi fun F hF => ⟨F, ⟨hF.1, ?_⟩, ?_, fun x hx => .inl hx⟩⟩
  · have := run_mark (P := P) ht he (h.heap i hi) n c
    simpa using this
  · exact freeze_at hF.2 _
  · exact (freeze_frm w b _).mono fun x _ hx => (hF.1 x).2 hx
/-- A new block with the mark. -/
theorem St.allocM (h : St w0 B M S w) (cs : List Value) (ty : TypeId) : St w0 B (mrkA w.heap.size cs ty :: M) S (w.alloc (.cells cs.toArray ty (cs.length, cs.length + 1))) :=
  h.new ((Below.refl _ _).alloc (Nat.le_refl _) _) (F' := fun b => b = w.heap.size) ⟨fun _ => Iff.rfl, heap_alloc_new _ _⟩ (fun b e => by rw [e]; exact Nat.le_refl _)
theorem mrk_imp {b : Nat} {e : TypeId} {l : List UInt8} (hl : l.length ≤ maxLen) (h0 : 0 < l.length) : (mrkA b (l.map u8v) e).imp (bytA (.slice (some ⟨b, 0, none⟩) l.length l.length) l) := fun F w hF => by
  refine ⟨F, ⟨fun x => ?_, ?_⟩, fun x h => h⟩
  · rw [hF.1 x]
    have hne : l ≠ [] := fun e => by simp [e] at h0
    exact ⟨fun e => ⟨hne, by rw [e]; rfl⟩, fun e => by cases e.2; rfl⟩
  · have hlm : (l.map u8v).length = l.length := List.length_map ..
    refine .inr ⟨by omega, b, 0, l.length, by rw [hlm], by omega, hl, blk_lt hF.2, fun j hj => ?_⟩
    rw [Nat.zero_add]
    have := hF.2
    show w.cell? ⟨b, j, none⟩ = _
    simp only [World.cell?, this]
    rw [hlm] at hj
    simp [List.getElem?_map, List.getElem?_eq_getElem hj]
end
section
variable {P : Program} {ops : Array Oper} {Θ : Type} {tbl : Θ → List (Nat × Nat × Value)} {J : Θ → World → Prop} {θ : Θ} {done : Nat → Bool} {Q : Exit → Act → World → Prop} {i : Nat} {b : Act} {W : World} {o : Oper}
/-- A conversion whose run is known. -/
theorem convG {W' : World} (θ' : Θ) {x v : Value} (s d : TypeId) (y : Operand) (ho : ops[i]? = some o) (hg : Region.wanted o (yielded ops b.tmps) = true) (hop : o.op = .convert s d y) (hx : b.eval y = x) (hrun : (convert s d x).run P W = .ok v W')
    (hm : ∀ d, o.dst = some d → (i, d, v) ∈ tbl θ') (hag : θ' = θ ∨ Agree done (tbl θ) (tbl θ')) (hJ : J θ' W') :
    wpOp P ops Q i (fun a' W' => ∃ v θ', a' = b.put o.dst v ∧ (∀ d, o.dst = some d → (i, d, v) ∈ tbl θ') ∧ (θ' = θ ∨ Agree done (tbl θ) (tbl θ')) ∧ J θ' W') b W :=
  wpOp_valW ho hg (by unfold execOp; simp only [hop, hx, Sem.run_bind, hrun]; rfl) ⟨v, θ', rfl, hm, hag, hJ⟩
end
end Go.Ice
end

section
set_option linter.unusedVariables false
set_option linter.unusedSimpArgs false
namespace Go.Proofs.YtjmocjcjiiopnaaGreat
open Go.RowKit Go.Ice Go.Oct Go.Dsk Go.Ring Go.Lg
theorem conv_own {P : Program} {src e dst : TypeId} (hs : P.underlying src = some (.slice e)) (he : P.underlying e = some (.int .u8)) (hd : P.underlying dst = some .string) {w0 : World} {B : Nat → Prop} {M S : List Asn} {w : World} (h : St w0 B M S w) (i : Nat) {a : Option Addr} {n c : Nat} {l : List UInt8} (hi : M[i]? = some (ownA 5 1 (.slice a n c) n (l.map u8v))) (hl : 0 < l.length) : (convert src dst (.slice a n c)).run P w = .ok (.string ⟨l.toArray⟩) w := by
  have hb : BytesAt w (.slice a n c) l := own_isSl (h.own i hi)
  obtain ⟨b, off, cap, hv, h1, h2, h3, h4⟩ := hb.at hl
  cases hv
  have := run_convert_bytes_arg (P := P) w src e hs he b off l.length c (l.map fun x => (x.toNat : Int)) (by simp) (fun j hj => by
    rw [h4 j hj]
    simp [List.getD_eq_getElem?_getD, List.getElem?_map, List.getElem?_eq_getElem hj]) dst hd
  rw [this]
  unfold strOfNums
  simp [List.map_map, Function.comp_def]
set_option maxHeartbeats 16000000 in
set_option maxRecDepth 100000 in
theorem wakes : Meets Tryz.prog 6 #[] [] [] fun v L => v = .bool true ∧ L = [] := by
  intro w B H
  have HB := born 4 24 (by decide) (by decide)
  obtain ⟨hfit, hput, L', e1, hrd, hck, hln, hmy⟩ := wake_ok (n := 4) (sec := 24) (by decide) (by decide)
  have hfits : Rc.fits ⟨1, 0, 0, 1⟩ := by unfold Rc.fits; decide
  have HFIT := Lib.hid hfit
  have HPUT := Lib.hid hput
  have HAE := Lib.hid e1
  have HRD := Lib.hid hrd
  have HCK := Lib.hid hck
  have HLN := Lib.hid hln
  have HMY := Lib.hid hmy
  clear hfit hput e1 hrd hck hln hmy
  go_enter Tryz.func6, Tryz.ntmps6
  go_wp2_with fail
  refine (HB.call (L := []) (M := []) H (by simp)).mono ?_
  rintro e w1 ⟨_, L1, rfl, ⟨g, s, p, rfl, rfl⟩, H1⟩
  clear HB
  have kc := fun (W : World) (C : Array Value) (n c : Nat) => Lib.run_convert_bytes_const (P := Tryz.prog) W 60 5 C n c Tryz.underlying60 Tryz.underlying5
  have kc2 := fun (C : Array Value) (n c : Nat) => Lib.run_convert_bytes_const (P := Tryz.prog) (w1.alloc (.cells #[.int .u8 97] 5 (1, 2))) 60 5 C n c Tryz.underlying60 Tryz.underlying5
  simp only [World.size_alloc] at kc2
  have H2 := ((H1.allocM [.int .u8 97] 5).allocM [.int .u8 120] 5).alloc [.int .i64 1, .int .u32 0, .int .u32 0, .int .u64 1, .slice (some ⟨w1.heap.size, 0, none⟩) 1 1, .slice (some ⟨w1.heap.size + 1, 0, none⟩) 1 1] 62
  simp only [World.size_alloc] at H2
  obtain ⟨rc, hrc⟩ : ∃ rc, rc = w1.heap.size + 1 + 1 := ⟨_, rfl⟩
  obtain ⟨kb, hkb⟩ : ∃ kb, kb = w1.heap.size + 1 := ⟨_, rfl⟩
  obtain ⟨ka, hka⟩ : ∃ ka, ka = w1.heap.size := ⟨_, rfl⟩
  rw [← hrc, ← hkb, ← hka] at H2
  go_upto_region 5 with fail
  rw [← hrc, ← hkb, ← hka]
  clear hrc hkb hka kc kc2
  refine wp_world (fun W => St w B _ _ W) H2 ?_
  intro w2 H3
  clear H1 H2
  have H4 := (St.share (St.share (St.pick H3 [1, 2, 0, 3])))
  have i1 : (mrkA ka [.int .u8 97] 5).imp (bytA (.slice (some ⟨ka, 0, none⟩) 1 1) [97]) := mrk_imp (l := [97]) (by decide) (by decide)
  have i2 : (mrkA kb [.int .u8 120] 5).imp (bytA (.slice (some ⟨kb, 0, none⟩) 1 1) [120]) := mrk_imp (l := [120]) (by decide) (by decide)
  have H5 := (H4.also (A := mrkA ka [.int .u8 97] 5) (by simp) (fun F => i1 F _)).also (A := mrkA kb [.int .u8 120] 5) (by simp) (fun F => i2 F _)
  clear H3 H4
  have HAP := append g s p (L0 4 24) ⟨1, 0, 0, 1⟩ hfits (some ⟨ka, 0, none⟩) (some ⟨kb, 0, none⟩) [97] [120] 1 1 HFIT.out (fun _ => HPUT.out)
  rw [HAE.out] at HAP
  have HAP : Meets Tryz.prog 16 #[.pointer (some ⟨g, 0, none⟩), .agg #[.int .i64 1, .int .u32 0, .int .u32 0, .int .u64 1, .slice (some ⟨ka, 0, none⟩) 1 1, .slice (some ⟨kb, 0, none⟩) 1 1]] [logA g s p (L0 4 24)] [bytA (.slice (some ⟨ka, 0, none⟩) 1 1) [97], bytA (.slice (some ⟨kb, 0, none⟩) 1 1) [120]] (fun v M => v = .tuple #[.agg #[.int .i64 0, .int .u64 1, .int .i64 1], .int .i64 0] ∧ M = [logA g s p L']) := HAP
  have HAP := Lib.hid HAP
  have HRE := lread g s p L' (0, 1, 1) HCK.out HLN.out HMY.out
  rw [HRD.out] at HRE
  have HRE : Meets Tryz.prog 21 #[.pointer (some ⟨g, 0, none⟩), .agg #[.int .i64 0, .int .u64 1, .int .i64 1]] [logA g s p L'] [] (fun v M => ∃ x y c d, v = .tuple #[.agg #[.int .i64 1, .int .u32 0, .int .u32 0, .int .u64 1, .slice x 1 c, .slice y 1 d], .int .i64 0] ∧ M = [logA g s p L', ownA 5 1 (.slice x 1 c) 1 ([97].map u8v), ownA 5 1 (.slice y 1 d) 1 ([120].map u8v)]) := HRE
  have HRE := Lib.hid HRE
  clear HFIT HPUT HAE HRD HCK HLN HMY hfits
  obtain ⟨hc, hf⟩ := St.cells H5 0
  go_wp2_with fail
  refine (HAP.out.call (L := [_]) (M := [_]) (St.pick H5 [1, 0]) (self_imp' (by simp))).mono ?_
  rintro e w3 ⟨_, M', rfl, ⟨rfl, rfl⟩, H6⟩
  clear H5 hc hf HAP
  have H7 := H6.alloc [.int .i64 0, .int .u64 1, .int .i64 1] 64
  obtain ⟨xa, hxa⟩ : ∃ xa, xa = w3.heap.size := ⟨_, rfl⟩
  rw [← hxa] at H7
  go_upto_region 6 with fail
  rw [← hxa]
  clear hxa
  refine wp_world (fun W => St w B _ _ W) H7 ?_
  intro w4 H8
  clear H6 H7
  obtain ⟨hc, hf⟩ := St.cells H8 0
  go_wp2_with fail
  refine (HRE.out.call (L := [_]) (M := [_, _]) (St.pick H8 [1, 0, 2]) (by simp)).mono ?_
  rintro e w5 ⟨_, M', rfl, ⟨x1, y1, c1, d1, rfl, rfl⟩, H9⟩
  clear H8 hc hf HRE
  have H10 := H9.alloc [.int .i64 1, .int .u32 0, .int .u32 0, .int .u64 1, .slice x1 1 c1, .slice y1 1 d1] 62
  obtain ⟨xr, hxr⟩ : ∃ xr, xr = w5.heap.size := ⟨_, rfl⟩
  rw [← hxr] at H10
  go_upto_region 7 with fail
  rw [← hxr]
  clear hxr
  refine wp_world (fun W => St w B _ _ W) H10 ?_
  intro w6 H11
  clear H9 H10
  obtain ⟨hc, hf⟩ := St.cells H11 0
  obtain ⟨hc2, hf2⟩ := St.cells H11 4
  have hcv := conv_own (P := Tryz.prog) Tryz.underlying60 Tryz.underlying5 Tryz.underlying9 H11 3 (l := [120]) rfl (by decide)
  go_wp2_with fail
  exact bodyPost_ret (results_tmp rfl _ _ _) rfl (Back.mk (L' := []) ⟨rfl, rfl⟩ (St.pick (St.shares H11 (S' := []) (by simp)) []))
end Go.Proofs.YtjmocjcjiiopnaaGreat
end
