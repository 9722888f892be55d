/- Plain: what a disk may hold behind a crash, and what a scan of it tells. No condition. -/
import Derived.Test.YtjmocjcjiiopnaaLogCuts32
import Derived.Test.YtjmocjcjiiopnaaLogCuts16

section
set_option linter.unusedVariables false
set_option linter.unusedSimpArgs false
namespace Go.Dsk
open Go.Oct Go.Lg
/-- What a sector may hold behind a crash. -/
def Poss (D : Dk) (q : Nat) (v : List UInt8) : Prop := D.safe.getD q [] = v ∨ (q, v) ∈ D.pend
theorem poss_stl (live : Nat → Bool) (D : Dk) (q : Nat) : ∀ n, Poss D q ((stl live D.pend D.safe n).getD q [])
  | 0 => .inl rfl
  | n + 1 => by
    rw [stl]
    cases hp : D.pend[n]? with
    | none => exact poss_stl live D q n
    | some x =>
      dsimp only
      split
      · have ih := poss_stl live D q n
        rw [List.getD_eq_getElem?_getD] at ih
        rw [List.getD_eq_getElem?_getD, List.getElem?_set]
        by_cases e : x.1 = q
        · subst e
          rw [if_pos rfl]
          split
          · exact .inr (List.mem_of_getElem? hp)
          · rename_i hlt
            rw [List.getElem?_eq_none (by omega)] at ih
            exact ih
        · rw [if_neg e]; exact ih
      · exact poss_stl live D q n
theorem Poss.settle {D : Dk} {f : Nat → Bool} {q : Nat} {v : List UInt8} (h : Poss (D.settle f) q v) : Poss D q v := by
  rcases h with h | h
  · rw [← h]; exact poss_stl f D q _
  · cases h
theorem Dk.at_safe {D : Dk} (h : D.pend = []) (q : Nat) : D.at q = D.safe.getD q [] := by
  unfold Dk.at
  rw [h]
  rfl
theorem Dk.at_eq {D D' : Dk} (h1 : D'.safe = D.safe) (h2 : D'.pend = D.pend) (q : Nat) : D'.at q = D.at q := by
  unfold Dk.at
  rw [h1, h2]
theorem Poss.same {D D' : Dk} (h1 : D'.safe = D.safe) (h2 : D'.pend = D.pend) {q : Nat} {v : List UInt8} (h : Poss D' q v) : Poss D q v := by
  unfold Poss at *
  rwa [h1, h2] at h
theorem Dk.write_cases {D : Dk} (ho : D.ok) {i : Nat} (hi : i < D.safe.length) {b : List UInt8} (hb : b.length = 64) (hp : D.pend.length < 1000000) : ∃ D' e, D.write (i : Int) b = (D', e) ∧ D'.ok ∧ D'.safe = D.safe ∧ ((e ≠ 0 ∧ D'.pend = D.pend) ∨ (e = 0 ∧ D'.pend = D.pend ++ [(i, b)])) := by
  have hs := D.ready_same (i : Int)
  have hok := Dk.ready_ok ho (i : Int)
  unfold Dk.write
  rcases D.op_cases (i : Int) (fun D => { D with pend := D.pend ++ [((i : Int).toNat, b)] }) with ⟨h1, e⟩ | ⟨h1, h2, e⟩ | ⟨D2, h1, h2, e⟩
  · rw [e]
    refine ⟨_, _, rfl, hok, hs.1, .inl ⟨?_, hs.2.1⟩⟩
    intro h0
    have h0' : (D.ready (i : Int)).2 = 0 := h0
    rw [h0'] at h1
    simp at h1
  · rw [e]
    exact ⟨_, _, rfl, Dk.out_ok hok, hs.1, .inl ⟨by decide, hs.2.1⟩⟩
  · rw [e]
    have hg := Dk.go_same h2
    have hok2 := Dk.go_ok hok h2
    refine ⟨_, _, rfl, ?_, by show D2.safe = _; rw [hg.1, hs.1], .inr ⟨rfl, by show D2.pend ++ _ = _; rw [hg.2.1, hs.2.1, Int.toNat_natCast]⟩⟩
    have h3 := Dk.put_ok hok2 (i := i) (b := b) (by rw [hg.1, hs.1]; exact hi) hb (by rw [hg.2.1, hs.2.1]; exact hp)
    rw [Int.toNat_natCast]
    exact h3
theorem Dk.sync_cases {D : Dk} (ho : D.ok) : ∃ D' e, D.sync = (D', e) ∧ D'.ok ∧ ((e ≠ 0 ∧ D'.safe = D.safe ∧ D'.pend = D.pend) ∨ (e = 0 ∧ D'.safe = (D.settle fun _ => true).safe ∧ D'.pend = [])) := by
  have hs := D.ready_same 0
  have hok := Dk.ready_ok ho 0
  unfold Dk.sync
  rcases D.op_cases 0 (fun D => D.settle fun _ => true) with ⟨h1, e⟩ | ⟨h1, h2, e⟩ | ⟨D2, h1, h2, e⟩
  · rw [e]
    refine ⟨_, _, rfl, hok, .inl ⟨?_, hs.1, hs.2.1⟩⟩
    intro h0
    have h0' : (D.ready 0).2 = 0 := h0
    rw [h0'] at h1
    simp at h1
  · rw [e]
    exact ⟨_, _, rfl, Dk.out_ok hok, .inl ⟨by decide, hs.1, hs.2.1⟩⟩
  · rw [e]
    have hg := Dk.go_same h2
    refine ⟨_, _, rfl, Dk.settle_ok (Dk.go_ok hok h2) _, .inr ⟨rfl, ?_, rfl⟩⟩
    show stl _ D2.pend D2.safe D2.pend.length = stl _ D.pend D.safe D.pend.length
    rw [hg.1, hg.2.1, hs.1, hs.2.1]
end Go.Dsk
namespace Go.Oct
open Go.Proofs.Ytjmocjcjiiopnaa Go.Lg Go.Dsk
theorem supD_supB {x : Sp} {t : Nat} (hm : x.may = true) (hf : x.fits) (ht : t ≤ 18446744073709551615) : supD (supB x t) = some (x, t) := by
  have hm' := of_decide_eq_true hm
  have hb8 : ∀ {x n : Nat}, x < 256 ^ n → numB (beB x n) = x := fun h => numB_beB' h
  obtain ⟨f1, f2, f3, f4⟩ := hf
  have key : ∀ rest : List UInt8, ∀ b, b = [105, 99, 101, 104, 111, 117, 115, 101] ++ (beB t 8 ++ (beB x.seg.toNat 2 ++ (beB x.sec.toNat 2 ++ (beB x.gen 8 ++ (beB x.ret 8 ++ (beB x.resv 8 ++ (beB x.flush 8 ++ rest))))))) → supX b = x ∧ supT b = t := by
    intro rest b hb
    have d8 : b.drop 8 = beB t 8 ++ (beB x.seg.toNat 2 ++ (beB x.sec.toNat 2 ++ (beB x.gen 8 ++ (beB x.ret 8 ++ (beB x.resv 8 ++ (beB x.flush 8 ++ rest)))))) := by rw [hb]; exact drop_app rfl
    have dn : ∀ n m, b.drop (n + m) = (b.drop n).drop m := fun n m => (List.drop_drop ..).symm
    have d16 := dn 8 8
    rw [d8, drop_app (beB_len _ _), show 8 + 8 = 16 from rfl] at d16
    have d18 := dn 16 2
    rw [d16, drop_app (beB_len _ _), show 16 + 2 = 18 from rfl] at d18
    have d20 := dn 18 2
    rw [d18, drop_app (beB_len _ _), show 18 + 2 = 20 from rfl] at d20
    have d28 := dn 20 8
    rw [d20, drop_app (beB_len _ _), show 20 + 8 = 28 from rfl] at d28
    have d36 := dn 28 8
    rw [d28, drop_app (beB_len _ _), show 28 + 8 = 36 from rfl] at d36
    have d44 := dn 36 8
    rw [d36, drop_app (beB_len _ _), show 36 + 8 = 44 from rfl] at d44
    refine ⟨?_, ?_⟩
    · unfold supX
      rw [d16, d18, d20, d28, d36, d44, take_app (beB_len _ _), take_app (beB_len _ _), take_app (beB_len _ _), take_app (beB_len _ _), take_app (beB_len _ _), take_app (beB_len _ _), hb8 (by omega), hb8 (by omega), hb8 (by omega), hb8 (by omega), hb8 (by omega), hb8 (by omega)]
      rw [Int.toNat_of_nonneg (by omega), Int.toNat_of_nonneg (by omega)]
    · unfold supT
      rw [d8, take_app (beB_len _ _), hb8 (by omega)]
  obtain ⟨k1, k2⟩ := key ([0, 0, 0, 0] ++ beB (hashB (supA x t)) 8) (supB x t) (by unfold supB supA supH; simp only [List.append_assoc])
  unfold supD
  rw [k1, k2, if_pos ⟨hm, rfl⟩]
theorem supD_zero : supD zB = none := by decide
end Go.Oct
namespace Go.Lg
open Go.Ring Go.Dsk Go.Oct Go.Proofs.Ytjmocjcjiiopnaa
/-- A superblock of the laws' logs. -/
def SupOk (v : List UInt8) : Prop := ∃ x t, v = supB x t ∧ x.seg = 5 ∧ x.sec = 24 ∧ x.may = true ∧ x.fits ∧ t ≤ 18446744073709551615
/-- The sectors of records. -/
def bodyT (g : Nat) : Nat → List RecT → List (List UInt8)
  | _, [] => []
  | u, r :: l => splitB g u r.b ++ bodyT g (u + r.n) l
theorem bodyT_len (g : Nat) : ∀ (l : List RecT) (u : Nat), (bodyT g u l).length = usedR l
  | [], _ => rfl
  | r :: l, u => by rw [bodyT, List.length_append, splitB_len, bodyT_len g l, usedR_cons]
theorem bodyT_app (g : Nat) : ∀ (l l' : List RecT) (u : Nat), bodyT g u (l ++ l') = bodyT g u l ++ bodyT g (u + usedR l) l'
  | [], l', u => by simp [bodyT, usedR]
  | r :: l, l', u => by rw [List.cons_append, bodyT, bodyT_app g l l', bodyT, usedR_cons, List.append_assoc, Nat.add_assoc]
def segT (i : Nat) (l : List RecT) : List (List UInt8) := headS (i + 1) i :: bodyT (i + 1) 1 l
theorem segT_len (i : Nat) (l : List RecT) : (segT i l).length = 1 + usedR l := by unfold segT; rw [List.length_cons, bodyT_len]; omega
theorem segT_app (i : Nat) (l l' : List RecT) : segT i (l ++ l') = segT i l ++ bodyT (i + 1) (1 + usedR l) l' := by unfold segT; rw [bodyT_app, List.cons_append]
theorem segT_le {i j : Nat} {l l' : List RecT} {v : List UInt8} (h : (segT i l)[j]? = some v) (hp : l <+: l') : (segT i l')[j]? = some v := by
  obtain ⟨r, rfl⟩ := hp
  have := (List.getElem?_eq_some_iff.1 h).1
  rw [segT_app, List.getElem?_append_left this, h]
/-- The disk of a log on which something may have failed; T: what was begun to be written. -/
structure Sects (D : Dk) (T : Nat → List RecT) : Prop where
  ok : D.ok
  len : D.safe.length = 1026
  log : ∀ i j v, i < 5 → j < 24 → Poss D (2 + i * 24 + j) v → v = zB ∨ (segT i (T i))[j]? = some v
  s0 : ∀ v, Poss D 0 v → SupOk v
  s1 : ∀ v, Poss D 1 v → v = zB ∨ SupOk v
/-- What may be written. -/
def May (T : Nat → List RecT) (q : Nat) (v : List UInt8) : Prop := (q < 2 ∧ SupOk v) ∨ ∃ i j, i < 5 ∧ j < 24 ∧ q = 2 + i * 24 + j ∧ (segT i (T i))[j]? = some v
theorem Sects.more {D D' : Dk} {T T' : Nat → List RecT} (h : Sects D T) (ok : D'.ok) (len : D'.safe.length = D.safe.length) (hT : ∀ i, T i <+: T' i) (hp : ∀ q v, Poss D' q v → Poss D q v ∨ May T' q v) : Sects D' T' where
  ok := ok
  len := by rw [len, h.len]
  log := fun i j v hi hj hv => by
    rcases hp _ _ hv with h1 | ⟨h1, _⟩ | ⟨a, b, h1, h2, h3, h4⟩
    · rcases h.log i j v hi hj h1 with h2 | h2
      · exact .inl h2
      · exact .inr (segT_le h2 (hT i))
    · omega
    · obtain ⟨rfl, rfl⟩ : i = a ∧ j = b := by omega
      exact .inr h4
  s0 := fun v hv => by
    rcases hp _ _ hv with h1 | ⟨h1, h2⟩ | ⟨a, b, h1, h2, h3, h4⟩
    · exact h.s0 v h1
    · exact h2
    · omega
  s1 := fun v hv => by
    rcases hp _ _ hv with h1 | ⟨h1, h2⟩ | ⟨a, b, h1, h2, h3, h4⟩
    · exact h.s1 v h1
    · exact .inr h2
    · omega
theorem sure_more {D D' : Dk} {T' S : Nat → List RecT} (h : ∀ i j v, i < 5 → S i ≠ [] → (segT i (S i))[j]? = some v → ∀ v', Poss D (2 + i * 24 + j) v' → v' = v) (hS : ∀ i, S i <+: T' i) (hfit : ∀ i, i < 5 → 1 + usedR (T' i) ≤ 24) (hp : ∀ q v, Poss D' q v → Poss D q v ∨ May T' q v) : ∀ i j v, i < 5 → S i ≠ [] → (segT i (S i))[j]? = some v → ∀ v', Poss D' (2 + i * 24 + j) v' → v' = v := by
  intro i j v hi hne hs v' hv
  have hs' := segT_le hs (hS i)
  have hj := (List.getElem?_eq_some_iff.1 hs').1
  rw [segT_len] at hj
  have := hfit i hi
  rcases hp _ _ hv with h1 | ⟨h1, h2⟩ | ⟨a, b, h1, h2, h3, h4⟩
  · exact h i j v hi hne hs v' h1
  · omega
  · obtain ⟨rfl, rfl⟩ : i = a ∧ j = b := by omega
    rw [hs'] at h4
    cases h4
    rfl
theorem least {P : Nat → Prop} : ∀ n, (∀ k, k < n → P k) ∨ ∃ i, i < n ∧ ¬ P i ∧ ∀ k, k < i → P k
  | 0 => .inl fun k hk => absurd hk (Nat.not_lt_zero k)
  | n + 1 => by
    rcases least (P := P) n with h | ⟨i, h1, h2, h3⟩
    · by_cases hn : P n
      · exact .inl fun k hk => by
          by_cases e : k = n
          · subst e; exact hn
          · exact h k (by omega)
      · exact .inr ⟨n, by omega, hn, h⟩
    · exact .inr ⟨i, by omega, h2, h3⟩
/-- Sectors that hold what was begun to be written, or nothing: a scan tells a beginning. -/
theorem scanGo_cut {D : Dk} {b g : Nat} {most : Int} (A : Alive D b most) (hg : 1 ≤ g ∧ g ≤ 18446744073709551615) (hm : most ≤ 100000) : ∀ (l : List RecT) (u f : Nat) (acc : List PlT), (∀ r ∈ l, r.ok) → ((u + usedR l : Nat) : Int) ≤ most → l.length < f → (∀ j, j < usedR l → D.at (b + (u + j)) = zB ∨ (bodyT g u l)[j]? = some (D.at (b + (u + j)))) → (((u + usedR l : Nat) : Int) < most → D.at (b + (u + usedR l)) = zB) → ∃ c, c ≤ l.length ∧ scanGo (b : Int) most g f D u acc = (D, 0, acc ++ placed u (l.take c), u + usedR (l.take c)) ∧ ∀ s, s ≤ l.length → (∀ j, j < usedR (l.take s) → (bodyT g u l)[j]? = some (D.at (b + (u + j)))) → s ≤ c
  | [], u, 0, acc, _, _, hf, _, _ => by simp at hf
  | [], u, f + 1, acc, _, _, hf, _, hn => by
    have e := recF_none (g := g) (u := u) A (fun h z hz => by
      have h0 : D.at (b + u) = zB := by simpa [usedR] using hn (by simpa [usedR] using h)
      rw [h0] at hz
      have : readB zB = none := readB_zero
      rw [this] at hz
      cases hz)
    refine ⟨0, Nat.le_refl _, ?_, fun s hs _ => hs⟩
    rw [scanGo_succ, e.2, e.1]
    simp [placed, usedR]
  | r :: l, u, 0, acc, _, _, hf, _, _ => by simp at hf
  | r :: l, u, f + 1, acc, ho, hu, hf, hj, hn => by
    rw [usedR_cons] at hu hn hj
    have hp := r.n_pos
    have hsp : ∀ k, k < r.n → (bodyT g u (r :: l))[k]? = some (r.sec g u k) := fun k hk => by
      rw [bodyT, List.getElem?_append_left (by rw [splitB_len]; exact hk), RecT.split, List.getElem?_map, List.getElem?_range hk]
      rfl
    have htl : ∀ k, (bodyT g u (r :: l))[r.n + k]? = (bodyT g (u + r.n) l)[k]? := fun k => by
      rw [bodyT, List.getElem?_append_right (by rw [splitB_len]; omega), splitB_len, Nat.add_sub_cancel_left]
    rcases least (P := fun k => D.at (b + (u + k)) = r.sec g u k) r.n with hall | ⟨i, hi, hbad, hpre⟩
    · have e := recF_hit A hg (ho r (by simp)) (u := u) (by omega) hm hall
      obtain ⟨c, hc, e2, h2⟩ := scanGo_cut A hg hm l (u + r.n) f (acc ++ [(u, r.rc, r.ka, r.va)]) (fun x hx => ho x (by simp [hx])) (by omega) (by simp at hf; omega) (fun j h1 => by
        have := hj (r.n + j) (by omega)
        rw [htl, show u + (r.n + j) = u + r.n + j by omega] at this
        exact this) (fun h1 => by
        have := hn (by omega)
        rw [show u + (r.n + usedR l) = u + r.n + usedR l by omega] at this
        exact this)
      refine ⟨c + 1, by simp; omega, ?_, fun s hs h3 => ?_⟩
      · rw [scanGo_succ, e.2, e.1]
        dsimp only
        rw [if_neg (by simp), if_neg (by omega), e2, List.take_succ_cons, placed, usedR_cons, List.append_assoc, Nat.add_assoc]
        rfl
      · cases s with
        | zero => omega
        | succ s =>
          have := h2 s (by simpa using hs) fun j h4 => by
            have := h3 (r.n + j) (by rw [List.take_succ_cons, usedR_cons]; omega)
            rw [htl, show u + (r.n + j) = u + r.n + j by omega] at this
            exact this
          omega
    · have hz : D.at (b + (u + i)) = zB := by
        rcases hj i (by omega) with h1 | h1
        · exact h1
        · rw [hsp i hi] at h1
          exact absurd (Option.some.inj h1).symm hbad
      have e := recF_torn A hg (ho r (by simp)) hm hi (by omega) hpre (fun _ z h1 => by
        rw [hz] at h1
        have : readB zB = none := readB_zero
        rw [this] at h1
        cases h1)
      refine ⟨0, Nat.zero_le _, ?_, fun s hs h3 => ?_⟩
      · rw [scanGo_succ, e.2, e.1]
        simp [placed, usedR]
      · cases s with
        | zero => exact Nat.le_refl _
        | succ s =>
          have h4 := h3 i (by rw [List.take_succ_cons, usedR_cons]; omega)
          rw [hsp i hi] at h4
          exact absurd (Option.some.inj h4).symm hbad
section
variable {D : Dk} {T : Nat → List RecT}
theorem Sects.val (h : Sects D T) (hp : D.pend = []) {i j : Nat} (hi : i < 5) (hj : j < 24) : D.at (2 + i * 24 + j) = zB ∨ (segT i (T i))[j]? = some (D.at (2 + i * 24 + j)) := by
  rw [Dk.at_safe hp]
  exact h.log i j _ hi hj (.inl rfl)
/-- A scan tells a beginning of what was begun to be written. -/
theorem Sects.scan (h : Sects D T) (hc : D.calm) (hp : D.pend = []) {x : Sp} (hx : x.sec = 24) {i : Nat} (hi : i < 5) (hok : ∀ r ∈ T i, r.ok) (hfit : 1 + usedR (T i) ≤ 24) : ∃ c gk uk, c ≤ (T i).length ∧ scanF x D i = (D, 0, gk, uk, placed 1 ((T i).take c)) ∧ ((T i).take c ≠ [] → gk = i + 1) ∧ ∀ s, s ≤ (T i).length → (s ≠ 0 → ∀ j, j < 1 + usedR ((T i).take s) → (segT i (T i))[j]? = some (D.at (2 + i * 24 + j))) → s ≤ c := by
  have hrd := hc.read (i := 2 + i * 24) (by rw [h.len]; omega)
  have hb : 2 + (i : Int) * x.sec = ((2 + i * 24 : Nat) : Int) := by rw [hx]; simp
  have hrb : readB (headS (i + 1) i) = some (i + 1, 0, beB i 2) := readB_packB (by omega) (by omega) (by rw [beB_len]; omega)
  have hrz : readB zB = none := readB_zero
  have h0 := h.val hp hi (j := 0) (by omega)
  rw [Nat.add_zero] at h0
  rcases h0 with h0 | h0
  · refine ⟨0, 0, 0, Nat.zero_le _, ?_, fun hne => absurd rfl hne, fun s hs h3 => ?_⟩
    · unfold scanF
      rw [hb, hrd, if_neg (by simp)]
      dsimp only
      rw [h0, hrz]
      rfl
    · cases s with
      | zero => exact Nat.le_refl _
      | succ s =>
        have h4 := h3 (by omega) 0 (by omega)
        rw [Nat.add_zero, h0] at h4
        have h5 : headS (i + 1) i = zB := Option.some.inj h4
        rw [h5, hrz] at hrb
        cases hrb
  · have h0 : D.at (2 + i * 24) = headS (i + 1) i := by
      have : some (headS (i + 1) i) = some (D.at (2 + i * 24)) := h0
      exact (Option.some.inj this).symm
    have A : Alive D (2 + i * 24) 24 := ⟨hc, by rw [h.len]; omega⟩
    have hl := usedR_len (T i)
    obtain ⟨c, hcl, e, h2⟩ := scanGo_cut A (g := i + 1) (by omega) (by omega) (T i) 1 64 [] hok (by omega) (by omega) (fun j hj => by
      have := h.val hp hi (j := 1 + j) (by omega)
      rcases this with h1 | h1
      · exact .inl h1
      · refine .inr ?_
        rw [Nat.add_comm 1 j] at h1
        rw [Nat.add_comm 1 j]
        exact h1) (fun hlt => by
      rcases h.val hp hi (j := 1 + usedR (T i)) (by omega) with h1 | h1
      · exact h1
      · have := (List.getElem?_eq_some_iff.1 h1).1
        rw [segT_len] at this
        omega)
    refine ⟨c, i + 1, 1 + usedR ((T i).take c), hcl, ?_, fun _ => rfl, fun s hs h3 => ?_⟩
    · unfold scanF
      rw [hb, hrd, if_neg (by simp)]
      dsimp only
      rw [h0, hrb]
      dsimp only
      rw [if_neg (by simp), hx, e, if_neg (by simp)]
      rfl
    · by_cases hs0 : s = 0
      · omega
      · refine h2 s hs fun j hj => ?_
        have := h3 hs0 (1 + j) (by omega)
        rw [Nat.add_comm 1 j] at this
        rw [Nat.add_comm 1 j]
        exact this
/-- A store is found. -/
theorem Sects.found (h : Sects D T) (hc : D.calm) (hp : D.pend = []) : openR D = (D, 0) ∧ ∃ x t, openS D = some (x, t) ∧ x.seg = 5 ∧ x.sec = 24 ∧ x.may = true := by
  have r0 := hc.read (i := 0) (by rw [h.len]; omega)
  have r1 := hc.read (i := 1) (by rw [h.len]; omega)
  have r0' : D.read 0 = (D, D.at 0, 0) := r0
  have r1' : D.read 1 = (D, D.at 1, 0) := r1
  have hS : ∃ x t, openS D = some (x, t) ∧ x.seg = 5 ∧ x.sec = 24 ∧ x.may = true := by
    unfold openS
    rw [r0', r1']
    dsimp only
    obtain ⟨x, t, e, h1, h2, h3, h4, h5⟩ := h.s0 (D.at 0) (by rw [Dk.at_safe hp]; exact .inl rfl)
    have e0 : supD (D.at 0) = some (x, t) := by rw [e]; exact supD_supB h3 h4 h5
    rcases h.s1 (D.at 1) (by rw [Dk.at_safe hp]; exact .inl rfl) with e1 | ⟨y, v, e1, k1, k2, k3, k4, k5⟩
    · rw [e0, e1, supD_zero]
      exact ⟨x, t, rfl, h1, h2, h3⟩
    · rw [e0, e1, supD_supB k3 k4 k5]
      unfold pickS
      dsimp only
      split
      · exact ⟨y, v, rfl, k1, k2, k3⟩
      · exact ⟨x, t, rfl, h1, h2, h3⟩
  refine ⟨?_, hS⟩
  obtain ⟨x, t, hx, h1, h2, h3⟩ := hS
  unfold openR
  rw [if_neg (by rw [h.len]; decide), r0', if_neg (by simp)]
  dsimp only
  rw [r1', if_neg (by simp), hx]
  dsimp only
  rw [if_pos]
  unfold roomB
  rw [h.len, h1, h2]
  decide
end
end Go.Lg
end
