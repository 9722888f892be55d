/- Plain: what a sector holds behind writes and syncs; records read off sectors that hold them. Conditions: nothing fails. The log: Sync, Super, Open. Conditions: the ring fits. -/
import Derived.Test.YtjmocjcjiiopnaaGreatLogScans11
import Derived.Test.YtjmocjcjiiopnaaGreatLogScans15
import Derived.Test.YtjmocjcjiiopnaaGreatLogScans23
import Derived.Test.YtjmocjcjiiopnaaGreatLogScans20

section
set_option linter.unusedVariables false
set_option linter.unusedSimpArgs false
namespace Go.Dsk
open Go.Oct Go.Lg
theorem bwd_snoc (l : List (Nat × List UInt8)) (x : Nat × List UInt8) : bwd (l ++ [x]) = (l.length, x) :: bwd l := by
  unfold bwd
  rw [List.length_append, List.length_singleton, List.range_succ_eq_map, List.map_cons, List.map_map]
  congr 1
  · simp [List.getD_eq_getElem?_getD]
  · refine List.map_congr_left fun k hk => ?_
    have := List.mem_range.1 hk
    simp only [Function.comp]
    rw [show l.length + 1 - 1 - (k + 1) = l.length - 1 - k by omega]
    simp only [List.getD_eq_getElem?_getD]
    rw [List.getElem?_append_left (by omega)]
theorem Dk.put_at (D : Dk) (i : Nat) (b : List UInt8) (j : Nat) : (D.put i b).at j = if j = i then b else D.at j := by
  unfold Dk.at Dk.put
  rw [bwd_snoc, List.find?_cons]
  by_cases h : j = i
  · subst h; simp
  · have : (i == j) = false := by simpa using fun e => h e.symm
    simp only [this, if_neg h]
/-- Sectors behind some writes. -/
def nowB (live : Nat → Bool) (safe : List (List UInt8)) (pend : List (Nat × List UInt8)) : List (List UInt8) := stl live pend safe pend.length
theorem stl_app (live : Nat → Bool) (p q : List (Nat × List UInt8)) (safe : List (List UInt8)) : ∀ k, k ≤ p.length → stl live (p ++ q) safe k = stl live p safe k
  | 0, _ => rfl
  | k + 1, h => by
    rw [stl, stl, stl_app live p q safe k (by omega), List.getElem?_append_left (by omega)]
theorem nowB_snoc (live : Nat → Bool) (safe : List (List UInt8)) (p : List (Nat × List UInt8)) (x : Nat × List UInt8) : nowB live safe (p ++ [x]) = if live p.length then (nowB live safe p).set x.1 x.2 else nowB live safe p := by
  unfold nowB
  rw [List.length_append, List.length_singleton, stl, stl_app live p [x] safe _ (Nat.le_refl _)]
  simp
theorem now_at (safe : List (List UInt8)) (d a : Bool) (l f : Int) (j : Nat) : ∀ (n : Nat) (p : List (Nat × List UInt8)), p.length = n → (∀ x ∈ p, x.1 < safe.length) → (Dk.mk safe p d a l f).at j = (nowB (fun _ => true) safe p).getD j []
  | 0, p, hp, _ => by
    have : p = [] := List.eq_nil_of_length_eq_zero hp
    subst this
    rfl
  | n + 1, p, hp, hx => by
    obtain ⟨q, x, rfl⟩ : ∃ q x, p = q ++ [x] := ⟨p.dropLast, p.getLast (by intro h; rw [h] at hp; cases hp), (List.dropLast_concat_getLast _).symm⟩
    have h1 := now_at safe d a l f j n q (by simpa using hp) (fun y hy => hx y (by simp [hy]))
    have h2 := Dk.put_at ⟨safe, q, d, a, l, f⟩ x.1 x.2 j
    have h3 : (Dk.mk safe (q ++ [x]) d a l f).at j = if j = x.1 then x.2 else (Dk.mk safe q d a l f).at j := h2
    have hlen : (nowB (fun _ => true) safe q).length = safe.length := stl_len _ _ _ _
    rw [h3, h1, nowB_snoc, if_pos rfl]
    simp only [List.getD_eq_getElem?_getD, List.getElem?_set]
    by_cases e : j = x.1
    · subst e
      have := hx x (by simp)
      rw [if_pos rfl, if_pos rfl, if_pos (by omega)]
      rfl
    · rw [if_neg e, if_neg (fun h => e h.symm)]
theorem Dk.settle_at {D : Dk} (h : D.ok) (j : Nat) : (D.settle fun _ => true).at j = D.at j := by
  rw [show D.at j = (nowB (fun _ => true) D.safe D.pend).getD j [] from now_at D.safe D.dead D.armed D.left D.fails j _ D.pend rfl fun x hx => (h.p64 x hx).2]
  rfl
theorem Dk.put_ok {D : Dk} (h : D.ok) {i : Nat} (hi : i < D.safe.length) {b : List UInt8} (hb : b.length = 64) (hp : D.pend.length < 1000000) : (D.put i b).ok :=
  ⟨h.s64, fun x hx => (by
    rcases List.mem_append.1 hx with hx | hx
    · exact h.p64 x hx
    · cases List.mem_singleton.1 hx; exact ⟨hb, hi⟩), h.len, by show (D.pend ++ [_]).length ≤ _; simp; omega, h.left0, h.fails0⟩
end Go.Dsk
namespace Go.Lg
open Go.Ring Go.Dsk Go.Oct Go.Proofs.YtjmocjcjiiopnaaGreat
/-- What a record fills. -/
structure RecT where
  rc : Rc
  ka : List UInt8
  va : List UInt8
def RecT.b (r : RecT) : List UInt8 := encB r.rc r.ka r.va
def RecT.n (r : RecT) : Nat := secs r.b.length
structure RecT.ok (r : RecT) : Prop where
  fits : r.rc.fits
  right : r.rc.right r.ka.length r.va.length = true
theorem RecT.len (r : RecT) : r.b.length = 21 + r.ka.length + r.va.length := encB_len' _ _ _
theorem RecT.n_pos (r : RecT) : 1 ≤ r.n := secs_pos _
theorem RecT.n_le {r : RecT} (h : r.ok) : r.n ≤ 17 := by
  have h1 := right_bd h.right
  have h2 := r.len
  have h3 := (secs_eq r.b.length).2 (by omega)
  unfold RecT.n
  omega
/-- The k-th sector of a record. -/
def RecT.sec (r : RecT) (g u k : Nat) : List UInt8 := packB g (u + k) ((r.b.drop (48 * k)).take 48)
theorem RecT.sec_len (r : RecT) (g u k : Nat) : (r.sec g u k).length = 64 := packB_len _ _ _ (by rw [List.length_take]; omega)
theorem RecT.split (r : RecT) (g u : Nat) : splitB g u r.b = (List.range r.n).map (r.sec g u) := rfl
/-- The disk answers. -/
structure Alive (D : Dk) (b : Nat) (most : Int) : Prop where
  calm : D.calm
  fit : (b : Int) + most ≤ D.safe.length
section
variable {D : Dk} {b g u : Nat} {most : Int}
theorem secF_end (h : most ≤ u) : secF D (b : Int) most g u = (D, [], zB, false, 0) := by unfold secF; rw [if_pos h]
theorem Alive.rd (h : Alive D b most) (hu : (u : Int) < most) : D.read ((b : Int) + u) = (D, D.at (b + u), 0) := by
  have := h.fit
  have e := h.calm.read (i := b + u) (by omega)
  rw [show ((b : Int) + u) = ((b + u : Nat) : Int) by omega]
  exact e
theorem secF_hit (h : Alive D b most) (hu : (u : Int) < most) {pl : List UInt8} (hat : D.at (b + u) = packB g u pl) (hg : 1 ≤ g ∧ g ≤ 18446744073709551615) (hu2 : u ≤ 4294967295) (hl : pl.length ≤ 48) : secF D (b : Int) most g u = (D, pl, packB g u pl, true, 0) := by
  unfold secF
  rw [if_neg (by omega), h.rd hu, if_neg (by simp), hat]
  dsimp only
  rw [readB_packB hg hu2 hl]
  simp
theorem secF_no (h : Alive D b most) (hn : (u : Int) < most → ∀ z, readB (D.at (b + u)) = some z → ¬ (z.1 = g ∧ z.2.1 = u)) : ∃ pl bl, secF D (b : Int) most g u = (D, pl, bl, false, 0) := by
  by_cases hu : (u : Int) < most
  · unfold secF
    rw [if_neg (by omega), h.rd hu, if_neg (by simp)]
    dsimp only
    cases hr : readB (D.at (b + u)) with
    | none => exact ⟨_, _, rfl⟩
    | some z =>
      refine ⟨z.2.2, D.at (b + u), ?_⟩
      dsimp only
      rw [decide_eq_false (hn hu z hr)]
  · exact ⟨_, _, secF_end (by omega)⟩
theorem head_take {b : List UInt8} (h : 21 ≤ b.length) : headR (b.take 48) = headR b ∧ headN (b.take 48) = headN b ∧ headM (b.take 48) = headM b ∧ headE (b.take 48) = headE b := by
  have e : ∀ i k, i + k ≤ 48 → ((b.take 48).drop i).take k = (b.drop i).take k := fun i k hk => by
    rw [List.drop_take, List.take_take, Nat.min_eq_left (by omega)]
  have e0 : (b.take 48).take 1 = b.take 1 := by rw [List.take_take]; rfl
  have h1 : headR (b.take 48) = headR b := by unfold headR; rw [e0, e _ _ (by omega), e _ _ (by omega), e _ _ (by omega)]
  have h2 : headN (b.take 48) = headN b := by unfold headN; rw [e _ _ (by omega)]
  have h3 : headM (b.take 48) = headM b := by unfold headM; rw [e _ _ (by omega)]
  refine ⟨h1, h2, h3, ?_⟩
  unfold headE
  rw [h1, h2, h3, List.length_take]
  by_cases h4 : b.length < 21
  · omega
  · rw [if_neg (by omega), if_neg h4]
/-- Sectors that hold a record's are read one behind the other. -/
theorem moreF_hit (h : Alive D b most) (hg : 1 ≤ g ∧ g ≤ 18446744073709551615) (r : RecT) : ∀ (c k : Nat) (acc : List (List UInt8)), (((u + k + c : Nat) : Int) ≤ most) → u + k + c ≤ 4294967295 → (∀ j, k ≤ j → j < k + c → D.at (b + (u + j)) = r.sec g u j) → moreF (b : Int) most g c D (u + k) acc = (D, some (acc ++ (List.range' k c).map (r.sec g u)), 0)
  | 0, k, acc, _, _, _ => by rw [moreF]; simp
  | c + 1, k, acc, hm, hx, hat => by
    have e := secF_hit (g := g) (u := u + k) h (by omega) (pl := (r.b.drop (48 * k)).take 48) (hat k (Nat.le_refl _) (by omega)) hg (by omega) (by rw [List.length_take]; omega)
    rw [moreF_ok e, Nat.add_assoc u k 1, moreF_hit h hg r c (k + 1) _ (by omega) (by omega) fun j h1 h2 => hat j (by omega) (by omega)]
    rw [List.append_assoc]
    rfl
theorem moreF_miss (h : Alive D b most) (hg : 1 ≤ g ∧ g ≤ 18446744073709551615) (r : RecT) : ∀ (c k : Nat) (acc : List (List UInt8)) (i : Nat), k ≤ i → i < k + c → (((u + i : Nat) : Int) ≤ most) → u + i ≤ 4294967295 → (∀ j, k ≤ j → j < i → D.at (b + (u + j)) = r.sec g u j) → (((u + i : Nat) : Int) < most → ∀ z, readB (D.at (b + (u + i))) = some z → ¬ (z.1 = g ∧ z.2.1 = u + i)) → moreF (b : Int) most g c D (u + k) acc = (D, none, 0)
  | 0, k, acc, i, h1, h2, _, _, _, _ => by omega
  | c + 1, k, acc, i, h1, h2, hm, hx, hat, hn => by
    by_cases e : i = k
    · subst e
      obtain ⟨pl, bl, e⟩ := secF_no h hn
      exact moreF_bad e (.inr rfl)
    · have e := secF_hit (g := g) (u := u + k) h (by omega) (pl := (r.b.drop (48 * k)).take 48) (hat k (Nat.le_refl _) (by omega)) hg (by omega) (by rw [List.length_take]; omega)
      rw [moreF_ok e, Nat.add_assoc u k 1]
      exact moreF_miss h hg r c (k + 1) _ i (by omega) (by omega) hm hx (fun j h1 h2 => hat j (by omega) (by omega)) hn
theorem need_take {r : RecT} (hr : r.ok) : headE (r.b.take 48) = 0 ∧ needB (r.b.take 48) = r.b.length := by
  have hs := encB_says hr.right hr.fits
  have hh := head_encB hr.right hr.fits
  have hl := r.len
  have ht := head_take (b := r.b) (by omega)
  have h0 : headE (r.b.take 48) = 0 := by rw [ht.2.2.2]; exact hs.1
  refine ⟨h0, ?_⟩
  have h2 : headN r.b = r.ka.length := hh.2.1
  have h3 : headM r.b = r.va.length := hh.2.2
  unfold needB
  rw [if_pos h0, ht.2.1, ht.2.2.1, h2, h3, hl]
/-- A record stands there. -/
def Stands (D : Dk) (b g u : Nat) (r : RecT) : Prop := ∀ k, k < r.n → D.at (b + (u + k)) = r.sec g u k
theorem recF_hit (h : Alive D b most) (hg : 1 ≤ g ∧ g ≤ 18446744073709551615) {r : RecT} (hr : r.ok) (hu : ((u + r.n : Nat) : Int) ≤ most) (hm : most ≤ 100000) (hs : Stands D b g u r) : recF D (b : Int) most g u = (D, some (r.b, r.n), 0) ∧ recT (recF D (b : Int) most g u) = (r.rc, r.ka, r.va, r.n, 0) := by
  have hn := r.n_pos
  have e := secF_hit (g := g) (u := u) h (by omega) (pl := (r.b.drop (48 * 0)).take 48) (hs 0 (by omega)) hg (by omega) (by rw [List.length_take]; omega)
  rw [Nat.mul_zero, List.drop_zero] at e
  have hnt := need_take hr
  have hm' := moreF_hit h hg r (u := u) (r.n - 1) 1 [packB g u (r.b.take 48)] (by omega) (by omega) fun j h1 h2 => hs j (by omega)
  have hsp : [packB g u (r.b.take 48)] ++ (List.range' 1 (r.n - 1)).map (r.sec g u) = splitB g u r.b := by
    rw [RecT.split]
    have : List.range r.n = 0 :: List.range' 1 (r.n - 1) := by
      rw [List.range_eq_range', show r.n = r.n - 1 + 1 by omega, List.range'_succ]
      simp
    rw [this, List.map_cons]
    rfl
  have hj := joinB_splitB (g := g) (p := u) (b := r.b) hg (by show u + r.n ≤ _; omega)
  have hsy := encB_says hr.right hr.fits
  have hall : allF r.b.length (splitB g u r.b) = some (r.b, r.n) := by
    unfold allF
    rw [hj]
    dsimp only
    rw [if_neg (by simp), if_neg (by rw [show decE r.b = 0 from hsy.2.2.1]; simp), RecT.split]
    simp
  have hf : recF D (b : Int) most g u = (D, some (r.b, r.n), 0) := by
    unfold recF
    rw [e]
    dsimp only
    rw [if_neg (by simp), if_neg (by rw [hnt.1]; simp), hnt.2, show secs r.b.length - 1 = r.n - 1 from rfl, hm']
    dsimp only
    rw [hsp, hall]
  refine ⟨hf, ?_⟩
  have hh := head_encB hr.right hr.fits
  have hR : headR r.b = r.rc := hh.1
  rw [hf]
  unfold recT
  dsimp only
  rw [hR, show (r.b.drop 21).take (headN r.b) = r.ka from hsy.2.2.2.1, show (r.b.drop (21 + headN r.b)).take (headM r.b) = r.va from hsy.2.2.2.2]
/-- No record stands there. -/
theorem recF_none (h : Alive D b most) (hn : (u : Int) < most → ∀ z, readB (D.at (b + u)) = some z → ¬ (z.1 = g ∧ z.2.1 = u)) : recF D (b : Int) most g u = (D, none, 0) ∧ recT (recF D (b : Int) most g u) = (⟨0, 0, 0, 0⟩, [], [], 0, 0) := by
  obtain ⟨pl, bl, e⟩ := secF_no h hn
  have hf : recF D (b : Int) most g u = (D, none, 0) := by
    unfold recF
    rw [e, if_pos (.inr rfl)]
  rw [hf]
  exact ⟨rfl, rfl⟩
/-- A record that is torn is none. -/
theorem recF_torn (h : Alive D b most) (hg : 1 ≤ g ∧ g ≤ 18446744073709551615) {r : RecT} (hr : r.ok) (hm : most ≤ 100000) {i : Nat} (hi : i < r.n) (hu : ((u + i : Nat) : Int) ≤ most) (hs : ∀ k, k < i → D.at (b + (u + k)) = r.sec g u k) (hn : ((u + i : Nat) : Int) < most → ∀ z, readB (D.at (b + (u + i))) = some z → ¬ (z.1 = g ∧ z.2.1 = u + i)) : recF D (b : Int) most g u = (D, none, 0) ∧ recT (recF D (b : Int) most g u) = (⟨0, 0, 0, 0⟩, [], [], 0, 0) := by
  cases i with
  | zero => exact recF_none h hn
  | succ i =>
    have e := secF_hit (g := g) (u := u) h (by omega) (pl := (r.b.drop (48 * 0)).take 48) (hs 0 (by omega)) hg (by omega) (by rw [List.length_take]; omega)
    rw [Nat.mul_zero, List.drop_zero] at e
    have hnt := need_take hr
    have hm' := moreF_miss h hg r (u := u) (r.n - 1) 1 [packB g u (r.b.take 48)] (i + 1) (by omega) (by omega) (by omega) (by omega) (fun j h1 h2 => hs j (by omega)) hn
    have hf : recF D (b : Int) most g u = (D, none, 0) := by
      unfold recF
      rw [e]
      dsimp only
      rw [if_neg (by simp), if_neg (by rw [hnt.1]; simp), hnt.2, show secs r.b.length - 1 = r.n - 1 from rfl, hm']
    rw [hf]
    exact ⟨rfl, rfl⟩
end
end Go.Lg
end

section
set_option linter.unusedVariables false
set_option linter.unusedSimpArgs false
namespace Go.Lg
open Go.Ring Go.Dsk Go.Oct
/-- What Sync leaves. -/
def Lg.sync (L : Lg) : Lg × Nat := if L.br then (L, 8) else if L.D.sync.2 = 0 then ({ L with D := L.D.sync.1 }, 0) else ({ L with D := L.D.sync.1, br := true }, L.D.sync.2)
end Go.Lg
namespace Go.Proofs.YtjmocjcjiiopnaaGreat
open Go.RowKit Go.Ice Go.Oct Go.Dsk Go.Ring Go.Lg
set_option maxHeartbeats 8000000 in
set_option maxRecDepth 20000 in
theorem lsuper (g s p : Nat) (L : Lg) : Meets Tryz.prog 9 #[.pointer (some ⟨g, 0, none⟩)] [logA g s p L] [] fun v M => v = .pointer (some ⟨s, 0, none⟩) ∧ M = [logA g s p L] := by
  intro w B H
  obtain ⟨a, c, H1⟩ := logA.open H
  have H2 := H1
  unfold logL logC at H2
  obtain ⟨hc, hf⟩ := St.cells H2 0
  go_enter Tryz.func9, Tryz.ntmps9
  go_wp2_with fail
  exact bodyPost_ret (results_tmp rfl _ _ _) rfl (Back.mk ⟨rfl, rfl⟩ H)
set_option maxHeartbeats 8000000 in
set_option maxRecDepth 20000 in
theorem lsync (g s p : Nat) (L : Lg) : Meets Tryz.prog 20 #[.pointer (some ⟨g, 0, none⟩)] [logA g s p L] [] fun v M => v = .int .i64 L.sync.2 ∧ M = [logA g s p L.sync.1] := by
  intro w B H
  obtain ⟨a, c, H1⟩ := logA.open H
  obtain ⟨x, t, D, segs, br⟩ := L
  have HR : Hid (Lg.sync ⟨x, t, D, segs, br⟩ = if br then (⟨x, t, D, segs, br⟩, 8) else if D.sync.2 = 0 then (⟨x, t, D.sync.1, segs, br⟩, 0) else (⟨x, t, D.sync.1, segs, true⟩, D.sync.2)) := Lib.hid rfl
  obtain ⟨r, hr⟩ : ∃ r, r = Lg.sync ⟨x, t, D, segs, br⟩ := ⟨_, rfl⟩
  rw [← hr] at HR ⊢
  clear hr
  unfold logL logC at H1
  dsimp only at H1
  have HK := sdisk s x t p
  have HS := sync p D
  cases br
  · generalize D.sync = r1 at *
    obtain ⟨D1, e1⟩ := r1
    dsimp only at HS
    obtain ⟨hc, hf⟩ := St.cells H1 0
    by_cases h1 : e1 = 0
    · have HQ : Hid (r = (⟨x, t, D1, segs, false⟩, 0)) := Lib.hid (by rw [HR.out]; simp [h1])
      subst h1
      go_enter Tryz.func20, Tryz.ntmps20
      go_wp2_with fail
      refine (HK.call (L := [_]) (M := [_, _, _]) (St.pick H1 [1, 0, 2, 3]) (by simp)).mono ?_
      rintro e w3 ⟨v, L, rfl, ⟨rfl, rfl⟩, H4⟩
      go_wp2_with fail
      refine (HS.call (L := [_]) (M := [_, _, _]) (St.pick H4 [2, 0, 1, 3]) (by simp)).mono ?_
      rintro e w5 ⟨v, L, rfl, ⟨rfl, rfl⟩, H6⟩
      go_wp2_with fail
      refine ((fails0 g _ _ _ _).call (L := [_]) (M := [_, _, _]) (St.pick H6 [2, 0, 1, 3]) (by simp)).mono ?_
      rintro e w7 ⟨v, L, rfl, ⟨rfl, rfl⟩, H8⟩
      go_wp2_with fail
      exact bodyPost_ret (results_tmp rfl _ _ _) rfl (Back.mk ⟨by rw [HQ.out]; rfl, by rw [HQ.out]⟩ (logA.close (L := ⟨x, t, D1, segs, false⟩) (St.pick H8 [0, 2, 1, 3])))
    · have HQ : Hid (r = (⟨x, t, D1, segs, true⟩, e1)) := Lib.hid (by rw [HR.out]; simp [h1])
      have HF := failsE g (.pointer (some ⟨s, 0, none⟩)) (.int .i64 x.sec) (.slice a segs.length c) false e1 h1
      clear h1
      go_enter Tryz.func20, Tryz.ntmps20
      go_wp2_with fail
      refine (HK.call (L := [_]) (M := [_, _, _]) (St.pick H1 [1, 0, 2, 3]) (by simp)).mono ?_
      rintro e w3 ⟨v, L, rfl, ⟨rfl, rfl⟩, H4⟩
      go_wp2_with fail
      refine (HS.call (L := [_]) (M := [_, _, _]) (St.pick H4 [2, 0, 1, 3]) (by simp)).mono ?_
      rintro e w5 ⟨v, L, rfl, ⟨rfl, rfl⟩, H6⟩
      go_wp2_with fail
      refine (HF.call (L := [_]) (M := [_, _, _]) (St.pick H6 [2, 0, 1, 3]) (by simp)).mono ?_
      rintro e w7 ⟨v, L, rfl, ⟨rfl, rfl⟩, H8⟩
      go_wp2_with fail
      exact bodyPost_ret (results_tmp rfl _ _ _) rfl (Back.mk ⟨by rw [HQ.out]; rfl, by rw [HQ.out]⟩ (logA.close (L := ⟨x, t, D1, segs, true⟩) (St.pick H8 [0, 2, 1, 3])))
  · have HQ : Hid (r = (⟨x, t, D, segs, true⟩, 8)) := Lib.hid (by rw [HR.out]; simp)
    obtain ⟨hc, hf⟩ := St.cells H1 0
    go_enter Tryz.func20, Tryz.ntmps20
    go_wp2_with fail
    exact bodyPost_ret (results_tmp rfl _ _ _) rfl (Back.mk ⟨by rw [HQ.out]; rfl, by rw [HQ.out]⟩ (logA.close (L := ⟨x, t, D, segs, true⟩) H1))
set_option maxHeartbeats 8000000 in
set_option maxRecDepth 20000 in
theorem lopen (s p : Nat) (x : Sp) (t : Nat) (D : Dk) (v : Value) (segs : List Seg) (hc : checkB x.sec segs = true) (hl : (segs.length : Int) = x.seg) (ho : openedP segs = none) : Meets Tryz.prog 31 #[.pointer (some ⟨s, 0, none⟩), .agg #[.int .i64 x.sec, v]] [blkA s (stoC x t p) 102, dskA p D, segsA v segs] [] fun u M => ∃ g, u = .tuple #[.pointer (some ⟨g, 0, none⟩), .int .i64 0] ∧ M = [logA g s p ⟨x, t, D, segs, false⟩] := by
  intro w B H
  obtain ⟨a, c, rfl, _⟩ := own_form (St.own H 2 rfl)
  have hsz := Rg.check_size hc
  have H1 := H.alloc [.int .i64 x.sec, .slice a segs.length c] 54
  have HG := sget s x t p
  have hsec : (x.sec != x.sec) = false := by simp
  have hseg : ((segs.length : Int) != x.seg) = false := by rw [hl]; simp
  have HCK := Lib.hid hc
  have HOP := Lib.hid ho
  have HSZ := Lib.hid hsz
  clear hc ho hl hsz
  obtain ⟨rb, hrb⟩ : ∃ rb, rb = w.heap.size := ⟨_, rfl⟩
  rw [← hrb] at H1
  obtain ⟨n, hn⟩ : ∃ n, n = segs.length := ⟨_, rfl⟩
  have HN := Lib.hid hn
  unfold supV supC at HG
  obtain ⟨seg, sec, gen, ret, resv, flush⟩ := x
  dsimp only at HG H1 hsec hseg HCK ⊢
  go_enter Tryz.func31, Tryz.ntmps31
  go_upto_region 1 with fail
  rw [← hrb]
  clear hrb hn
  refine wp_world (fun W => St w B _ _ W) H1 ?_
  intro w1 H2
  clear H1
  have hs2 := segs_of H2 3 rfl
  have HC := Rg.chek w1 sec _ segs hs2
  unfold Rg.ringV at HC
  rw [HCK.out] at HC
  clear hs2
  obtain ⟨hc, hf⟩ := St.cells H2 0
  go_wp2_with fail
  refine HC.mono ?_
  rintro e w3 ⟨rfl, hb⟩
  have H3 := H2.below hb
  unfold Rg.chekE
  rw [if_pos rfl]
  clear H2 HC hb hc hf
  obtain ⟨hc, hf⟩ := St.cells H3 0
  go_wp2_with fail
  refine (HG.call (L := [_]) (M := [_, _, _]) (St.pick H3 [1, 0, 2, 3]) (by simp)).mono ?_
  rintro e w4 ⟨v, L, rfl, ⟨rfl, rfl⟩, H4⟩
  clear H3 hc hf
  have H5 := H4.alloc [.int .i64 seg, .int .i64 sec, .int .u64 gen, .int .u64 ret, .int .u64 resv, .int .u64 flush] 51
  go_upto_region 7 with fail
  refine wp_world (fun W => St w B _ _ W) H5 ?_
  intro w5 H6
  clear H4 H5
  obtain ⟨hc, hf⟩ := St.cells H6 0
  obtain ⟨hc2, hf2⟩ := St.cells H6 2
  go_upto_region 9 with fail
  have HO := Rg.opend w5 sec _ segs (segs_of H6 4 rfl)
  unfold Rg.ringV Rg.seekV at HO
  rw [HCK.out, HOP.out, if_pos rfl] at HO
  go_wp2_with fail
  refine HO.mono ?_
  rintro e w6 ⟨rfl, hb⟩
  have H7 := H6.below hb
  clear H6 HO hb hc hf hc2 hf2
  obtain ⟨hc2, hf2⟩ := St.cells H7 2
  go_upto_region 12 with fail
  have HCL := Rg.clone w6 _ segs (segs_of H7 4 rfl) (by have := HSZ.out; omega)
  go_wp2_with fail
  refine HCL.mono ?_
  rintro e w7 ⟨u, rfl, ho, hb⟩
  obtain ⟨a7, c7, rfl, _⟩ := own_form ho
  have H8 := St.newSegs H7 hb ho
  clear H7 HCL hb hc2 hf2
  have H9 := H8.set_ 3 1 (.slice a7 segs.length c7)
  obtain ⟨hc2, hf2⟩ := St.cells H8 3
  go_upto_region 13 with fail
  refine wp_world (fun W => St w B _ _ W) H9 ?_
  intro w9 H10
  clear H8 H9 hc2 hf2 ho
  obtain ⟨hc2, hf2⟩ := St.cells H10 3
  go_wp2_with fail
  have H11 := (St.pick H10 [2, 4, 0]).alloc (logC s sec (.slice a7 segs.length c7) false) 100
  exact bodyPost_ret (results_tmp2 rfl _ _ _) rfl (Back.mk ⟨w9.heap.size, rfl, rfl⟩ (logA.close (L := ⟨⟨seg, sec, gen, ret, resv, flush⟩, t, D, segs, false⟩) H11))
end Go.Proofs.YtjmocjcjiiopnaaGreat
end
