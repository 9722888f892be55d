/- Package item: Number, Text, Turn, Join; slices.Reverse, Concat, Grow at bytes. Conditions: numbers fit their kinds, slices lie in memory. -/
import Derived.Test.YtngpffmgkponfaaMem
import Derived.Lib.AppendZeros
import Derived.Outline
set_option linter.unusedVariables false
namespace Go.Proofs.Ytngpffmgkponfaa
open Go.RowKit Go.Ice

theorem elemU8 : Elem Try.prog 23 5 1 1 (.int .u8 0) :=
  ⟨Try.underlying23, by
    obtain ⟨i0, hi, hz0, hz1, hz2⟩ := info_parts (show (Try.prog.info? 5).map (fun i => (i.zero, i.size, i.bytes)) = some (some (.int .u8 0), 1, 1) by kernel_rfl)
    exact ⟨i0, hi, hz0, hz1, hz2⟩, rfl, by decide⟩
theorem u8v_one (bs : List UInt8) : ∀ u ∈ bs.map u8v, u.oneCell' = true := by
  intro u hu
  obtain ⟨c, _, rfl⟩ := List.mem_map.1 hu
  rfl

-- Rev

/-- What is so of block g: cells X below n, not frozen, as many as there were. -/
def RevAt (g n m : Nat) (X : Nat → Value) (w : World) : Prop := ∃ c, w.heap[g]? = some (.cells c 5 (0, 0)) ∧ c.size = m ∧ ∀ k, k < n → c[k]? = some (X k)

theorem RevAt.cell {g n m : Nat} {X : Nat → Value} {w : World} (h : RevAt g n m X w) {k : Nat} (hk : k < n) : w.cell? ⟨g, k, none⟩ = some (X k) := by
  obtain ⟨c, h1, h2, h3⟩ := h
  simp [World.cell?, h1, h3 k hk]
theorem RevAt.frozen {g n m : Nat} {X : Nat → Value} {w : World} (h : RevAt g n m X w) (k : Nat) : w.frozen? ⟨g, k, none⟩ = false := by
  obtain ⟨c, h1, h2, h3⟩ := h
  simp [World.frozen?, h1]
theorem RevAt.drew {g n m : Nat} {X : Nat → Value} {w : World} (h : RevAt g n m X w) : RevAt g n m X w.drew := h
theorem RevAt.set {g n m : Nat} {X : Nat → Value} {w : World} (h : RevAt g n m X w) (j : Nat) (v : Value) : RevAt g n m (fun k => if k = j then v else X k) (w.setCell ⟨g, j, none⟩ v) := by
  obtain ⟨c, h1, h2, h3⟩ := h
  refine ⟨c.setIfInBounds j v, ?_, by simp [h2], ?_⟩
  · simp [World.setCell, Array.getElem?_modify, h1]
  · intro k hk
    have h4 := h3 k hk
    have hlt : k < c.size := (Array.getElem?_eq_some_iff.1 h4).1
    by_cases e : k = j
    · subst e; simp [hlt]
    · simp [e, Ne.symm e, h4]
theorem RevAt.congr {g n m : Nat} {X Y : Nat → Value} {w : World} (h : RevAt g n m X w) (hxy : ∀ k, k < n → X k = Y k) : RevAt g n m Y w := by
  obtain ⟨c, h1, h2, h3⟩ := h
  exact ⟨c, h1, h2, fun k hk => by rw [h3 k hk, hxy k hk]⟩

set_option maxHeartbeats 800000 in
theorem reverse (w : World) (g n cap m : Nat) (X : Nat → Int) (hn : n ≤ 1000000) (h : RevAt g n m (fun k => .int .u8 (X k)) w) :
    Calls Try.prog 48 #[.slice (some ⟨g, 0, none⟩) n cap] w fun e w' => e = .returned (.tuple #[]) ∧ RevAt g n m (fun k => .int .u8 (X (n - 1 - k))) w' ∧ Frm (fun k => k = g) w w' := by
  have H := Lib.hid h
  clear h
  go_enter Try.func48, Try.ntmps48
  go_wp2
  go_loopw [2, 3] (fun a b wr => ∃ i : Nat, i ≤ n ∧ 2 * i ≤ n + 1 ∧ a = .int .i64 i ∧ b = .int .i64 ((n : Int) - 1 - i) ∧ RevAt g n m (fun k => .int .u8 (X (if k < i ∨ n ≤ k + i then n - 1 - k else k))) wr ∧ Frm (fun k => k = g) w wr) (fun a b _ => (intOf b - intOf a + 1).toNat)
  case atStart =>
    refine ⟨0, by omega, by omega, rfl, by simp, ?_, Frm.refl _ _⟩
    exact H.out.congr fun k hk => by rw [if_neg (by omega)]
  case round =>
    obtain ⟨i, hi, h2i, rfl, rfl, hA, hF⟩ := hrel
    by_cases hlt : 2 * i + 1 < n
    · obtain ⟨j, hj⟩ : ∃ j : Nat, j = n - 1 - i := ⟨_, rfl⟩
      rw [show ((n : Int) - 1 - i) = (j : Int) from by omega]
      have hij : i < j := by omega
      have hjn : j < n := by omega
      have ci := hA.cell (k := i) (by omega)
      have cj := hA.cell (k := j) (by omega)
      simp only [show ¬ (i < i ∨ n ≤ i + i) from by omega, show ¬ (j < i ∨ n ≤ j + i) from by omega, if_false] at ci cj
      have fi := hA.frozen i
      have fj := hA.frozen j
      have HA := Lib.hid hA
      have HJ := Lib.hid hj
      clear hA hj
      go_wp2
      go_region
      go_wp2
      go_roundw
      case rel =>
        have hj := HJ.out
        refine ⟨i + 1, by omega, by omega, rfl, by congr 1; omega, ?_, ((hF.setCell (.inl rfl) _).setCell (.inl rfl) _).drew⟩
        refine (((HA.out.set i _).set j _).drew).congr fun k hk => ?_
        by_cases e1 : k = j
        · subst e1; rw [if_pos rfl, if_pos (by omega), show n - 1 - k = i from by omega]
        · rw [if_neg e1]
          by_cases e2 : k = i
          · subst e2; rw [if_pos rfl, if_pos (by omega), show n - 1 - k = j from by omega]
          · rw [if_neg e2]
            by_cases e3 : k < i ∨ n ≤ k + i
            · rw [if_pos e3, if_pos (by omega)]
            · rw [if_neg e3, if_neg (by omega)]
      case measure => simp [intOf]; omega
    · have hge : ¬ ((i : Int) < (n : Int) - 1 - i) := by omega
      have HA := Lib.hid hA
      clear hA
      go_wp2
      go_end0
      refine ⟨rfl, HA.out.congr fun k hk => ?_, hF⟩
      by_cases e3 : k < i ∨ n ≤ k + i
      · rw [if_pos e3]
      · rw [if_neg e3, show n - 1 - k = k from by omega]

-- Num

/-- item.Number on bytes, from n on. -/
def numLoop : Nat → List UInt8 → Option Nat
  | n, [] => some n
  | n, c :: cs => if 48 ≤ c.toNat ∧ c.toNat ≤ 57 then (if (18446744073709551615 - (c.toNat - 48)) / 10 < n then none else numLoop (10 * n + (c.toNat - 48)) cs) else none
def numF (bs : List UInt8) : Option Nat := if bs.length = 0 ∨ 20 < bs.length then none else numLoop 0 bs
def numV (o : Option Nat) : Value := .tuple #[.int .u64 (o.getD 0 : Nat), .int .i64 (if o.isSome then 0 else 270)]

theorem number_len (w : World) (v : Value) (n c : Nat) (a : Option Addr) (hv : v = .slice a n c) (h : n = 0 ∨ 20 < n) :
    Calls Try.prog 49 #[v] w fun e w' => e = .returned (numV none) ∧ w = w' := by
  subst hv
  rcases h with h | h
  · subst h
    go_enter Try.func49, Try.ntmps49
    go_wp2
    go_ret2
    exact ⟨rfl, rfl⟩
  · have h1 : ((n : Int) == 0) = false := beq_eq_false_iff_ne.2 (by omega)
    have h2 : (20 : Int) < n := by omega
    go_enter Try.func49, Try.ntmps49
    go_wp2
    go_ret2
    exact ⟨rfl, rfl⟩

theorem number_go (w : World) (v : Value) (bs : List UInt8) (b off cap : Nat) (hv : v = .slice (some ⟨b, off, none⟩) bs.length cap) (h0 : 0 < bs.length) (h20 : bs.length ≤ 20)
    (hcell : ∀ j, j < bs.length → w.cell? ⟨b, off + j, none⟩ = some (.int .u8 ((bs.map fun c => (c.toNat : Int)).getD j 0))) :
    Calls Try.prog 49 #[v] w fun e w' => e = .returned (numV (numLoop 0 bs)) ∧ Below w.heap.size w w' := by
  subst hv
  have h1 : ((bs.length : Int) == 0) = false := beq_eq_false_iff_ne.2 (by omega)
  have h2 : ¬ (20 : Int) < bs.length := by omega
  have hconv := run_convert_bytes_arg (P := Try.prog) w 23 5 Try.underlying23 Try.underlying5 b off bs.length cap (bs.map fun c => (c.toNat : Int)) (by simp) hcell 9 Try.underlying9
  have hs : strOfNums (bs.map fun c => (c.toNat : Int)) = ⟨bs.toArray⟩ := by
    simp [strOfNums, List.map_map, Function.comp_def]
  rw [hs] at hconv
  clear hs hcell
  go_enter Try.func49, Try.ntmps49
  go_wp2
  clear hconv h1 h2
  go_loopw [4] (fun v wr => ∃ n pos : Nat, pos ≤ bs.length ∧ n ≤ 18446744073709551615 ∧ v = .int .u64 n ∧ wr = w.iter ⟨bs.toArray⟩ pos ∧ Hid (numLoop n (bs.drop pos) = numLoop 0 bs)) (fun _ wr => bs.length - wr.iterPos w.heap.size)
  case atStart => exact ⟨0, 0, by omega, by omega, rfl, rfl, rfl⟩
  case round =>
    obtain ⟨n, pos, hpos, hn, rfl, rfl, hnl⟩ := hrel
    have hB : ∀ p, Below w.heap.size w (w.iter ⟨bs.toArray⟩ p) := fun p => (Below.refl _ _).alloc (Nat.le_refl _) _
    by_cases hp : pos < bs.length
    · have hp' : pos < (⟨bs.toArray⟩ : ByteArray).size := by simpa [ByteArray.size] using hp
      have hnx : ∀ ty, (Instr.next (.pointer (some ⟨w.heap.size, 0, none⟩)) true ty).run Try.prog (w.iter ⟨bs.toArray⟩ pos) = _ := fun ty => run_next_any w _ pos ty hp'
      have hdr : bs.drop pos = bs[pos] :: bs.drop (pos + 1) := List.drop_eq_getElem_cons hp
      have hget : (⟨bs.toArray⟩ : ByteArray)[pos] = bs[pos] := rfl
      generalize hc : bs[pos] = c at hdr
      generalize hr : (Utf8.decode ⟨bs.toArray⟩ pos).1 = r at hnx
      by_cases hd : 48 ≤ c.toNat ∧ c.toNat ≤ 57
      · obtain ⟨d1, d2⟩ := hd
        have hdec := decode_ascii ⟨bs.toArray⟩ pos hp' (by rw [hget, hc]; omega)
        rw [hget, hc] at hdec
        have hdec1 := congrArg Prod.fst hdec
        have hdec2 := congrArg Prod.snd hdec
        simp only at hdec1 hdec2
        obtain rfl : c.toNat = r := hdec1.symm.trans hr
        rw [hdec2] at hnx
        have HN : Hid (numLoop n (bs.drop pos) = numLoop 0 bs) := hnl
        have Hdr := Lib.hid hdr
        clear hnl hdr hdec hdec1 hdec2 hget hc hr
        by_cases ho : (18446744073709551615 - (c.toNat - 48)) / 10 < n
        · have hfin : numV (numLoop 0 bs) = .tuple #[.int .u64 0, .int .i64 270] := by
            rw [← HN.out, Hdr.out, numLoop, if_pos ⟨d1, d2⟩, if_pos ho]; rfl
          have Hfin := Lib.hid hfin
          clear hfin
          go_wp2
          go_ret2
          exact ⟨by rw [Hfin.out]; rfl, hB _⟩
        · go_wp2
          go_roundw
          case rel =>
            refine ⟨10 * n + (c.toNat - 48), pos + 1, by omega, by omega, by congr 1; omega, rfl, ?_⟩
            have h := HN.out
            rw [Hdr.out, numLoop, if_pos ⟨d1, d2⟩, if_neg ho] at h
            exact h
          case measure => simp; omega
      · have hfin : numV (numLoop 0 bs) = .tuple #[.int .u64 0, .int .i64 270] := by
          rw [← hnl.out, hdr, numLoop, if_neg hd]; rfl
        have Hfin := Lib.hid hfin
        have hrr : ((r : Int) < 48) ∨ (57 < (r : Int) ∧ ¬ (r : Int) < 48) := by
          by_cases h128 : c.toNat < 128
          · have hdec := decode_ascii ⟨bs.toArray⟩ pos hp' (by rw [hget, hc]; omega)
            rw [hget, hc] at hdec
            have hdec1 := congrArg Prod.fst hdec
            simp only at hdec1
            omega
          · have := (decode_high ⟨bs.toArray⟩ pos hp' (by rw [hget, hc]; omega)).1
            omega
        clear hfin hnl hdr hget hc hr hd
        rcases hrr with hrr | ⟨hrr, hr2⟩
        all_goals
          go_wp2
          go_ret2
          exact ⟨by rw [Hfin.out]; rfl, hB _⟩
    · have hnx : ∀ ty, (Instr.next (.pointer (some ⟨w.heap.size, 0, none⟩)) true ty).run Try.prog (w.iter ⟨bs.toArray⟩ pos) = _ := fun ty => run_next_end w _ pos ty (by simpa [ByteArray.size] using hp)
      have hfin : numV (numLoop 0 bs) = .tuple #[.int .u64 n, .int .i64 0] := by
        rw [← hnl.out, List.drop_of_length_le (by omega)]; rfl
      have Hfin := Lib.hid hfin
      clear hfin
      go_wp2
      go_ret2
      exact ⟨by rw [Hfin.out]; rfl, hB _⟩

-- Text

/-- The digits of n, the last one first. -/
def digR (n : Nat) : List UInt8 := if n < 10 then [UInt8.ofNat (48 + n)] else UInt8.ofNat (48 + n % 10) :: digR (n / 10)
termination_by n
decreasing_by omega
def textF (n : Nat) : List UInt8 := (digR n).reverse

theorem digR_pos (n : Nat) : 0 < (digR n).length := by
  unfold digR; split <;> simp
theorem digR_len (k n : Nat) (h : n < 10 ^ (k + 1)) : (digR n).length ≤ k + 1 := by
  induction k generalizing n with
  | zero => rw [digR, if_pos (by simpa using h)]; simp
  | succ k ih =>
    rw [digR]
    split
    · simp
    · have := ih (n / 10) (by rw [Nat.pow_succ] at h; omega)
      simp; omega
theorem digR_len20 (n : Nat) (h : n ≤ 18446744073709551615) : (digR n).length ≤ 20 := digR_len 19 n (by omega)

theorem RevAt.of_own {w : World} {base n : Nat} {v : Value} {xs : List Value} {g cap : Nat} (h : w.ownsRow base 5 1 v n xs) (hv : v = .slice (some ⟨g, 0, none⟩) n cap) : RevAt g n cap (fun k => xs.getD k undef) w := by
  obtain ⟨hl, h⟩ := h
  rcases h with ⟨h, _⟩ | ⟨g', cap', cur, h1, h2, h3, h4, h5, h6, h7⟩
  · rw [hv] at h; cases h
  · rw [hv] at h1
    injection h1 with e1 e2 e3
    injection e1 with e1
    injection e1 with e1
    subst e1 e3
    refine ⟨cur, h3, by omega, fun k hk => ?_⟩
    subst h7
    show cur[k]? = some ((List.take (n * 1) cur.toList).getD k undef)
    rw [List.getD_eq_getElem?_getD, List.getElem?_take_of_lt (by omega)]
    have : k < cur.size := by omega
    simp [this]

/-- The value v is a slice of its own at base or above, that holds the cells xs. -/
def Own (w : World) (base : Nat) (e : TypeId) (v : Value) (xs : List Value) : Prop := w.ownsRow base e 1 v xs.length xs


theorem Own.isSl {w : World} {base : Nat} {e : TypeId} {v : Value} {xs : List Value} (h : Own w base e v xs) : IsSl w v xs := own_isSl h

theorem Own.of_revAt {w : World} {base g cap : Nat} {X : Nat → Value} {xs : List Value} (h : RevAt g xs.length cap X w) (hg : base ≤ g) (hc : xs.length ≤ cap) (hm : cap ≤ maxLen) (hx : ∀ k, k < xs.length → some (X k) = xs[k]?) :
    Own w base 5 (.slice (some ⟨g, 0, none⟩) xs.length cap) xs := by
  obtain ⟨c, h1, h2, h3⟩ := h
  refine ⟨by simp, .inr ⟨g, cap, c, rfl, hg, h1, hc, hm, by omega, ?_⟩⟩
  apply List.ext_getElem?
  intro k
  by_cases hk : k < xs.length
  · rw [List.getElem?_take_of_lt (by omega), ← hx k hk]
    simpa using h3 k hk
  · rw [List.getElem?_eq_none (by simp; omega), List.getElem?_eq_none (by omega)]

set_option maxHeartbeats 800000 in
theorem text (N : Nat) (hN : N ≤ 18446744073709551615) (w : World) :
    Calls Try.prog 34 #[.int .u64 N] w fun e w' => ∃ v, e = .returned v ∧ Own w' w.heap.size 5 v ((textF N).map u8v) ∧ Below w.heap.size w w' := by
  obtain ⟨i0, hi, hz0, hz1, hz2⟩ := info_parts (show (Try.prog.info? 5).map (fun i => (i.zero, i.size, i.bytes)) = some (some (.int .u8 0), 1, 1) by kernel_rfl)
  have hlen := digR_len20 N hN
  have Hlen := Lib.hid hlen
  clear hlen
  go_enter Try.func34, Try.ntmps34
  go_wp2
  go_loopw [0, 3] (fun a b wr => ∃ (m : Nat) (ds : List UInt8), m ≤ 18446744073709551615 ∧ a = .int .u64 m ∧ wr.ownsRow w.heap.size 5 1 b ds.length (ds.map u8v) ∧ Below w.heap.size w wr ∧ Hid (digR N = ds ++ digR m)) (fun a _ _ => (intOf a).toNat)
  case atStart => exact ⟨N, [], hN, rfl, World.ownsRow_nil _ _ _ _, Below.refl _ _, rfl⟩
  case round =>
    obtain ⟨m, ds, hm, rfl, hown, hB, hd⟩ := hrel
    have hds : ds.length < 20 := by
      have h1 := Hlen.out
      rw [hd.out] at h1
      have := digR_pos m
      simp at h1; omega
    have hdr : digR m = UInt8.ofNat (48 + m % 10) :: (if m < 10 then [] else digR (m / 10)) := by
      rw [digR]; split
      · rw [Nat.mod_eq_of_lt (by omega)]
      · rfl
    have Hdr := Lib.hid hdr
    clear hdr
    have HB := Lib.hid hB
    clear hB
    have hbw : w.heap.size ≤ wr.heap.size := HB.out.size
    go_wp2_with (at_builtin; refine wpList_append_own _ rfl _ _ 23 rfl w.heap.size 5 i0 (.int .u8 0) 1 1 Try.underlying23 hi hz0 hz1 hz2 rfl (by decide) _ _ _ rfl (hown.alloc _) ⟨wr.heap.size, 0, none⟩ 1 1 [.int .u8 (48 + (m : Int) % 10)] rfl rfl ?c1 ?c2 ?c3 ?c4 ?c5 ?_)
    case c1 => exact cell_one_new _ _ _
    case c2 => intro u hu; simp only [List.mem_singleton] at hu; subst hu; rfl
    case c3 => unfold maxLen; omega
    case c4 => omega
    case c5 => simp; omega
    intro v' w1 hown1 hgrow _
    have hB1 : Hid (Below w.heap.size w w1) := (HB.out.alloc (by omega) _).grown hgrow (by simp; omega) (fun k hk => (hown.lt k hk).1)
    have ho1 : Hid (w1.ownsRow w.heap.size 5 1 v' (ds ++ [UInt8.ofNat (48 + m % 10)]).length ((ds ++ [UInt8.ofNat (48 + m % 10)]).map u8v)) := by
      have e : ((ds ++ [UInt8.ofNat (48 + m % 10)]).map u8v) = ds.map u8v ++ [.int .u8 (48 + (m : Int) % 10)] := by
        have e2 : (UInt8.ofNat (48 + m % 10)).toNat = 48 + m % 10 := by
          rw [UInt8.toNat_ofNat']; omega
        rw [List.map_append]; simp only [List.map_cons, List.map_nil, u8v, e2]; rfl
      rw [e, List.length_append]
      exact hown1
    clear hown1 hgrow hown HB
    by_cases hlt : m < 10
    · have hz : ((m : Int) / 10 == 0) = true := beq_iff_eq.2 (by omega)
      have hfin : digR N = ds ++ [UInt8.ofNat (48 + m % 10)] := by
        have h := hd.out
        rw [Hdr.out, if_pos hlt] at h
        exact h
      have Hfin := Lib.hid hfin
      clear hfin
      have hex : ∃ g cap, v' = .slice (some ⟨g, 0, none⟩) (ds.length + 1) cap ∧ w.heap.size ≤ g ∧ ds.length + 1 ≤ cap ∧ cap ≤ maxLen := by
        have h := ho1.out
        rw [List.length_append] at h
        rcases h.2 with ⟨h, _⟩ | ⟨g, cap, cur, h1, h2, h3, h4, h5, _⟩
        · exact absurd h ‹_›
        · exact ⟨g, cap, h1, h2, by simpa using h4, h5⟩
      obtain ⟨g, cap, hv, hg, hcap, hml⟩ := hex
      have hrev := RevAt.of_own ho1.out (by rw [List.length_append]; exact hv)
      have HR : Hid (RevAt g (ds.length + 1) cap (fun k => .int .u8 (((ds ++ [UInt8.ofNat (48 + m % 10)]).getD k 0).toNat : Int)) w1) := by
        rw [List.length_append] at hrev
        refine hrev.congr fun k hk => ?_
        have hk' : k < (ds ++ [UInt8.ofNat (48 + m % 10)]).length := by simpa using hk
        simp only [List.getD_eq_getElem?_getD, List.getElem?_map, List.getElem?_eq_getElem hk', Option.map_some, Option.getD_some, u8v]
      clear hrev
      rw [hv]
      clear hv
      go_wp2_with fail
      refine (reverse w1 g (ds.length + 1) cap cap (fun k => (((ds ++ [UInt8.ofNat (48 + m % 10)]).getD k 0).toNat : Int)) (by omega) HR.out).mono ?_
      rintro e w2 ⟨rfl, hr2, hf2⟩
      have HR2 := Lib.hid hr2
      have HF2 := Lib.hid hf2
      clear hr2 hf2
      go_wp2
      go_ret
      have hl : ((textF N).map u8v).length = ds.length + 1 := by
        rw [textF, Hfin.out]; simp
      refine ⟨_, rfl, ?_, hB1.out.trans (HF2.out.below (fun k hk e => by omega) (hB1.out.size))⟩
      have hown2 := Own.of_revAt (w := w2) (base := w.heap.size) (g := g) (cap := cap) (xs := (textF N).map u8v) (by rw [hl]; exact HR2.out) hg (by omega) hml (fun k hk => by
        rw [hl] at hk
        have hk' : ds.length + 1 - 1 - k < (ds ++ [UInt8.ofNat (48 + m % 10)]).length := by simp; omega
        rw [textF, Hfin.out, List.getElem?_map, List.getElem?_reverse (by simp; omega)]
        simp only [List.getD_eq_getElem?_getD, List.length_append, List.length_cons, List.length_nil]
        rw [List.getElem?_eq_getElem hk']
        rfl)
      rw [hl] at hown2
      exact hown2
    · have hz : ((m : Int) / 10 == 0) = false := beq_eq_false_iff_ne.2 (by omega)
      go_wp2
      go_roundw
      case rel =>
        refine ⟨m / 10, ds ++ [UInt8.ofNat (48 + m % 10)], by omega, rfl, ho1.out, hB1.out, ?_⟩
        have h := hd.out
        rw [Hdr.out, if_neg hlt] at h
        show digR N = _
        rw [h]; simp
      case measure => simp [intOf]; omega

-- Plain

def isDig (c : UInt8) : Prop := 48 ≤ c.toNat ∧ c.toNat ≤ 57
def valF (n : Nat) (bs : List UInt8) : Nat := bs.foldl (fun n c => 10 * n + (c.toNat - 48)) n

theorem valF_cons (n : Nat) (c : UInt8) (cs : List UInt8) : valF n (c :: cs) = valF (10 * n + (c.toNat - 48)) cs := by unfold valF; rw [List.foldl_cons]
theorem valF_nil (n : Nat) : valF n [] = n := by unfold valF; rw [List.foldl_nil]

theorem valF_ge (bs : List UInt8) : ∀ n, n ≤ valF n bs := by
  induction bs with
  | nil => intro n; exact Nat.le_refl _
  | cons c cs ih => intro n; have := ih (10 * n + (c.toNat - 48)); rw [valF_cons]; omega

theorem valF_eq (bs : List UInt8) : ∀ n, valF n bs = n * 10 ^ bs.length + valF 0 bs := by
  induction bs with
  | nil => intro n; simp [valF_nil]
  | cons c cs ih =>
    intro n
    rw [valF_cons, valF_cons, ih (10 * n + (c.toNat - 48)), ih (10 * 0 + (c.toNat - 48)), List.length_cons, Nat.pow_succ, ← Nat.add_assoc]
    congr 1
    rw [Nat.mul_zero, Nat.zero_add, Nat.add_mul]
    congr 1
    rw [Nat.mul_comm 10 n, Nat.mul_assoc, Nat.mul_comm 10]

theorem valF_lt (bs : List UInt8) (h : ∀ c ∈ bs, isDig c) : valF 0 bs < 10 ^ bs.length := by
  induction bs with
  | nil => simp [valF_nil]
  | cons c cs ih =>
    have h1 := ih (fun x hx => h x (by simp [hx]))
    have h2 := (h c (by simp)).2
    rw [valF_cons, valF_eq, List.length_cons, Nat.pow_succ]
    have h3 : (10 * 0 + (c.toNat - 48)) * 10 ^ cs.length ≤ 9 * 10 ^ cs.length := Nat.mul_le_mul_right _ (by omega)
    omega

theorem numLoop_some (bs : List UInt8) : ∀ n, (∀ c ∈ bs, isDig c) → valF n bs ≤ 18446744073709551615 → numLoop n bs = some (valF n bs) := by
  induction bs with
  | nil => intro n _ _; rfl
  | cons c cs ih =>
    intro n h hv
    have hc : 48 ≤ c.toNat ∧ c.toNat ≤ 57 := h c (by simp)
    rw [valF_cons] at hv ⊢
    have := valF_ge cs (10 * n + (c.toNat - 48))
    rw [numLoop, if_pos hc, if_neg (by omega), ih _ (fun x hx => h x (by simp [hx])) hv]

theorem numLoop_none (bs : List UInt8) : ∀ n, (¬ ∀ c ∈ bs, isDig c) ∨ 18446744073709551615 < valF n bs → n ≤ 18446744073709551615 → numLoop n bs = none := by
  induction bs with
  | nil =>
    intro n h hn
    rcases h with h | h
    · exact absurd (fun c hc => by cases hc) h
    · rw [valF_nil] at h; omega
  | cons c cs ih =>
    intro n h hn
    rw [numLoop]
    by_cases hc : 48 ≤ c.toNat ∧ c.toNat ≤ 57
    · rw [if_pos hc]
      split
      · rfl
      · rename_i ho
        refine ih _ ?_ (by omega)
        rcases h with h | h
        · refine .inl fun h' => h ?_
          intro x hx
          rcases List.mem_cons.1 hx with rfl | hx
          · exact hc
          · exact h' x hx
        · exact .inr h
    · rw [if_neg hc]

theorem less_val (a : List UInt8) : ∀ b : List UInt8, a.length = b.length → (∀ c ∈ a, isDig c) → (∀ c ∈ b, isDig c) → (Op.bytesLess a b = true ↔ valF 0 a < valF 0 b) := by
  induction a with
  | nil => intro b hl _ _; cases b with
    | nil => simp [Op.bytesLess]
    | cons _ _ => simp at hl
  | cons x xs ih =>
    intro b hl ha hb
    cases b with
    | nil => simp at hl
    | cons y ys =>
      have hl' : xs.length = ys.length := by simpa using hl
      have hx : 48 ≤ x.toNat ∧ x.toNat ≤ 57 := ha x (by simp)
      have hy : 48 ≤ y.toNat ∧ y.toNat ≤ 57 := hb y (by simp)
      have ih' := ih ys hl' (fun c hc => ha c (by simp [hc])) (fun c hc => hb c (by simp [hc]))
      have v1 := valF_lt xs (fun c hc => ha c (by simp [hc]))
      have v2 := valF_lt ys (fun c hc => hb c (by simp [hc]))
      rw [valF_cons, valF_cons, valF_eq xs, valF_eq ys, ← hl']
      rw [← hl'] at v2
      generalize 10 ^ xs.length = B at v1 v2 ⊢
      rw [Op.bytesLess]
      simp only [Bool.or_eq_true, decide_eq_true_eq, Bool.and_eq_true, beq_iff_eq, ih', UInt8.lt_iff_toNat_lt, Nat.mul_zero, Nat.zero_add]
      rcases Nat.lt_trichotomy x.toNat y.toNat with h | h | h
      · have h3 : (x.toNat - 48 + 1) * B ≤ (y.toNat - 48) * B := Nat.mul_le_mul_right _ (by omega)
        rw [Nat.add_mul, Nat.one_mul] at h3
        exact ⟨fun _ => by omega, fun _ => .inl h⟩
      · have e : x = y := UInt8.toNat.inj h
        subst e
        exact ⟨fun h' => by rcases h' with h' | h' <;> omega, fun h' => .inr ⟨rfl, by omega⟩⟩
      · have h3 : (y.toNat - 48 + 1) * B ≤ (x.toNat - 48) * B := Nat.mul_le_mul_right _ (by omega)
        rw [Nat.add_mul, Nat.one_mul] at h3
        refine ⟨fun h' => ?_, fun h' => by omega⟩
        rcases h' with h' | ⟨h', _⟩
        · omega
        · subst h'; omega

theorem val_inj (a : List UInt8) : ∀ b : List UInt8, a.length = b.length → (∀ c ∈ a, isDig c) → (∀ c ∈ b, isDig c) → valF 0 a = valF 0 b → a = b := by
  induction a with
  | nil => intro b hl _ _ _; cases b with
    | nil => rfl
    | cons _ _ => simp at hl
  | cons x xs ih =>
    intro b hl ha hb hv
    cases b with
    | nil => simp at hl
    | cons y ys =>
      have hl' : xs.length = ys.length := by simpa using hl
      have hx : 48 ≤ x.toNat ∧ x.toNat ≤ 57 := ha x (by simp)
      have hy : 48 ≤ y.toNat ∧ y.toNat ≤ 57 := hb y (by simp)
      have ih' := ih ys hl' (fun c hc => ha c (by simp [hc])) (fun c hc => hb c (by simp [hc]))
      have v1 := valF_lt xs (fun c hc => ha c (by simp [hc]))
      have v2 := valF_lt ys (fun c hc => hb c (by simp [hc]))
      rw [valF_cons, valF_cons, valF_eq xs, valF_eq ys, ← hl'] at hv
      rw [← hl'] at v2
      generalize 10 ^ xs.length = B at v1 v2 hv
      simp only [Nat.mul_zero, Nat.zero_add] at hv
      rcases Nat.lt_trichotomy x.toNat y.toNat with h | h | h
      · have h3 : (x.toNat - 48 + 1) * B ≤ (y.toNat - 48) * B := Nat.mul_le_mul_right _ (by omega)
        rw [Nat.add_mul, Nat.one_mul] at h3; omega
      · have e : x = y := UInt8.toNat.inj h
        subst e
        rw [ih' (by omega)]
      · have h3 : (y.toNat - 48 + 1) * B ≤ (x.toNat - 48) * B := Nat.mul_le_mul_right _ (by omega)
        rw [Nat.add_mul, Nat.one_mul] at h3; omega

def most : List UInt8 := [49, 56, 52, 52, 54, 55, 52, 52, 48, 55, 51, 55, 48, 57, 53, 53, 49, 54, 49, 53]

/-- When a text of twenty digits at most passes the greatest number. -/
theorem over_iff (bs : List UInt8) (h20 : bs.length ≤ 20) (hd : ∀ c ∈ bs, isDig c) :
    (bs.length = 20 ∧ ¬ Op.bytesLess bs most = true ∧ bs ≠ most) ↔ 18446744073709551615 < valF 0 bs := by
  have hm : ∀ c ∈ most, isDig c := by simp [most, isDig]
  have hv : valF 0 most = 18446744073709551615 := by decide
  by_cases hl : bs.length = 20
  · have h1 := less_val bs most (by rw [hl]; rfl) hd hm
    rw [hv] at h1
    constructor
    · rintro ⟨_, h3, h4⟩
      rcases Nat.lt_trichotomy (valF 0 bs) 18446744073709551615 with h | h | h
      · exact absurd (h1.2 h) h3
      · exact absurd (val_inj bs most (by rw [hl]; rfl) hd hm (by rw [h, hv])) h4
      · exact h
    · intro h
      refine ⟨hl, fun h' => by have := h1.1 h'; omega, fun h' => by rw [h', hv] at h; omega⟩
  · refine ⟨fun h => absurd h.1 hl, fun h => ?_⟩
    have := valF_lt bs hd
    have : 10 ^ bs.length ≤ 10 ^ 19 := Nat.pow_le_pow_right (by decide) (by omega)
    omega

theorem textF_lt (n : Nat) (h : n < 10) : textF n = [UInt8.ofNat (48 + n)] := by unfold textF; rw [digR, if_pos h]; rfl
theorem textF_ge (n : Nat) (h : ¬ n < 10) : textF n = textF (n / 10) ++ textF (n % 10) := by
  rw [textF_lt (n % 10) (by omega)]
  unfold textF; rw [digR, if_neg h, List.reverse_cons]
theorem textF_len (n : Nat) (h : n ≤ 18446744073709551615) : (textF n).length ≤ 20 := by unfold textF; rw [List.length_reverse]; exact digR_len20 n h
theorem numF_le (bs : List UInt8) : (numF bs).getD 0 ≤ 18446744073709551615 := by
  unfold numF
  split
  · simp
  · by_cases h : (∀ c ∈ bs, isDig c) ∧ valF 0 bs ≤ 18446744073709551615
    · rw [numLoop_some bs 0 h.1 h.2]; exact h.2
    · rw [numLoop_none bs 0 (by
        by_cases h1 : ∀ c ∈ bs, isDig c
        · exact .inr (by have : ¬ valF 0 bs ≤ 18446744073709551615 := fun h2 => h ⟨h1, h2⟩
                         omega)
        · exact .inl h1) (by omega)]
      simp
/-- The two results in plain form: what the number is, and whether there is one. -/
theorem numF_len (bs : List UInt8) (h : bs.length = 0 ∨ 20 < bs.length) : numF bs = none := by unfold numF; rw [if_pos h]
theorem number_any (w : World) (v : Value) (bs : List UInt8) (h : IsSl w v (bs.map u8v)) :
    Calls Try.prog 49 #[v] w fun e w' => e = .returned (numV (numF bs)) ∧ Below w.heap.size w w' := by
  obtain ⟨a, c, hv, hm⟩ := h.form
  rw [List.length_map] at hv hm
  by_cases hl : bs.length = 0 ∨ 20 < bs.length
  · rw [numF_len bs hl]
    exact (number_len w v bs.length c a hv hl).mono fun e w' ⟨h1, h2⟩ => ⟨h1, h2 ▸ Below.refl _ _⟩
  · have hf : numF bs = numLoop 0 bs := by unfold numF; rw [if_neg hl]
    rw [hf]
    rcases h with ⟨h, _⟩ | ⟨h0, b, off, cap, rfl, h1, h2, h3, h4⟩
    · exact absurd (.inl (by simpa using h)) hl
    · rw [List.length_map] at *
      exact number_go w _ bs b off cap rfl (by omega) (by omega) fun j hj => by
        rw [h4 j hj]; simp [u8v, List.getD_eq_getElem?_getD, hj]
theorem number_none (w : World) (v : Value) (bs : List UInt8) (h : IsSl w v (bs.map u8v)) (hq : numF bs = none) :
    Calls Try.prog 49 #[v] w fun e w' => e = .returned (.tuple #[.int .u64 0, .int .i64 270]) ∧ Below w.heap.size w w' :=
  (number_any w v bs h).mono fun e w' ⟨h1, h2⟩ => ⟨by rw [h1, hq]; rfl, h2⟩
theorem number_some (w : World) (v : Value) (bs : List UInt8) (k : Nat) (h : IsSl w v (bs.map u8v)) (hq : numF bs = some k) :
    Calls Try.prog 49 #[v] w fun e w' => e = .returned (.tuple #[.int .u64 k, .int .i64 0]) ∧ Below w.heap.size w w' :=
  (number_any w v bs h).mono fun e w' ⟨h1, h2⟩ => ⟨by rw [h1, hq]; rfl, h2⟩

-- Turn

theorem textF_dig (k : Nat) : ∀ n, n < k → ∀ c ∈ textF n, isDig c := by
  induction k with
  | zero => intro n h; omega
  | succ k ih =>
    intro n h c hc
    by_cases h10 : n < 10
    · rw [textF_lt n h10] at hc
      simp only [List.mem_singleton] at hc
      subst hc
      unfold isDig
      rw [UInt8.toNat_ofNat']; omega
    · rw [textF_ge n h10, List.mem_append] at hc
      rcases hc with hc | hc
      · exact ih (n / 10) (by omega) c hc
      · rw [textF_lt (n % 10) (by omega)] at hc
        simp only [List.mem_singleton] at hc
        subst hc
        unfold isDig
        rw [UInt8.toNat_ofNat']; omega

theorem valF_append (a b : List UInt8) (n : Nat) : valF n (a ++ b) = valF (valF n a) b := by unfold valF; rw [List.foldl_append]
theorem textF_val (k : Nat) : ∀ n, n < k → valF 0 (textF n) = n := by
  induction k with
  | zero => intro n h; omega
  | succ k ih =>
    intro n h
    by_cases h10 : n < 10
    · rw [textF_lt n h10, valF_cons, valF_nil, UInt8.toNat_ofNat']; omega
    · rw [textF_ge n h10, valF_append, ih (n / 10) (by omega), textF_lt (n % 10) (by omega), valF_cons, valF_nil, UInt8.toNat_ofNat']; omega
theorem textF_pos (n : Nat) : 0 < (textF n).length := by unfold textF; rw [List.length_reverse]; exact digR_pos n
theorem numF_text (n : Nat) (h : n ≤ 18446744073709551615) : numF (textF n) = some n := by
  have h1 := textF_pos n
  have h2 := textF_len n h
  unfold numF
  rw [if_neg (by omega), numLoop_some _ _ (textF_dig (n + 1) n (by omega)) (by rw [textF_val (n + 1) n (by omega)]; exact h), textF_val (n + 1) n (by omega)]

def turnF (n b : Nat) (down : Bool) : Nat := if down then n - b else (n + b) % 18446744073709551616
theorem turnF_le (n b : Nat) (down : Bool) (h : n ≤ 18446744073709551615) : turnF n b down ≤ 18446744073709551615 := by
  unfold turnF; split <;> omega
theorem wrap_over (n b : Nat) (h : 18446744073709551615 < n + b) (hn : n ≤ 18446744073709551615) (hb : b ≤ 18446744073709551615) : IntKind.u64.wrap ((n : Int) + b) = (((n + b) % 18446744073709551616 : Nat) : Int) := by
  simp only [IntKind.wrap_u64]; omega


theorem turn_none (w : World) (v : Value) (bs : List UInt8) (b : Nat) (down : Bool) (h : IsSl w v (bs.map u8v)) (hq : numF bs = none) :
    Calls Try.prog 35 #[v, .int .u64 b, .bool down] w fun e w' => e = .returned (.tuple #[.slice none 0 0, .int .u64 0, .int .i64 270]) ∧ Below w.heap.size w w' := by
  have H := Lib.hid h
  have HQ := Lib.hid hq
  clear h hq
  go_enter Try.func35, Try.ntmps35
  go_wp2_with fail
  refine (number_none _ _ bs H.out HQ.out).mono ?_
  rintro e w1 ⟨rfl, hb1⟩
  go_wp2_with fail
  go_ret3
  exact ⟨rfl, hb1⟩

theorem turn_some (w : World) (v : Value) (bs : List UInt8) (n b : Nat) (down : Bool) (h : IsSl w v (bs.map u8v)) (hq : numF bs = some n) (hb : b ≤ 18446744073709551615) :
    Calls Try.prog 35 #[v, .int .u64 b, .bool down] w fun e w' => ∃ v', e = .returned (.tuple #[v', .int .u64 (turnF n b down : Nat), .int .i64 0]) ∧ Own w' w.heap.size 5 v' ((textF (turnF n b down)).map u8v) ∧ Below w.heap.size w w' := by
  have H := Lib.hid h
  have HQ := Lib.hid hq
  have hn : n ≤ 18446744073709551615 := by have := numF_le bs; rw [hq] at this; exact this
  clear h hq
  have hle := turnF_le n b down hn
  cases down with
  | false =>
    by_cases ho : 18446744073709551615 < n + b
    · have hw := wrap_over n b ho hn hb
      rw [show turnF n b false = (n + b) % 18446744073709551616 from rfl] at *
      generalize (n + b) % 18446744073709551616 = m at *
      go_enter Try.func35, Try.ntmps35
      go_wp2_with fail
      refine (number_some _ _ bs n H.out HQ.out).mono ?_
      rintro e w1 ⟨rfl, hb1⟩
      go_wp2_with fail
      refine (text m hle _).mono ?_
      rintro e w2 ⟨v', rfl, ho2, hb2⟩
      go_wp2_with fail
      go_ret3
      exact ⟨_, rfl, own_base ho2 hb1.size, hb1.trans (hb2.mono hb1.size)⟩
    · have HF : turnF n b false = n + b := by show (n + b) % _ = _; omega
      rw [HF] at *
      clear HF
      go_enter Try.func35, Try.ntmps35
      go_wp2_with fail
      refine (number_some _ _ bs n H.out HQ.out).mono ?_
      rintro e w1 ⟨rfl, hb1⟩
      go_wp2_with fail
      rw [show ((n : Int) + b) = ((n + b : Nat) : Int) from by omega]
      refine (text (n + b) (by omega) _).mono ?_
      rintro e w2 ⟨v', rfl, ho2, hb2⟩
      go_wp2_with fail
      go_ret3
      exact ⟨_, rfl, own_base ho2 hb1.size, hb1.trans (hb2.mono hb1.size)⟩
  | true =>
    rw [show turnF n b true = n - b from rfl] at *
    by_cases hlt : n < b
    · rw [show n - b = 0 from by omega] at *
      go_enter Try.func35, Try.ntmps35
      go_wp2_with fail
      refine (number_some _ _ bs n H.out HQ.out).mono ?_
      rintro e w1 ⟨rfl, hb1⟩
      go_wp2_with fail
      refine (text 0 hle _).mono ?_
      rintro e w2 ⟨v', rfl, ho2, hb2⟩
      go_wp2_with fail
      go_ret3
      exact ⟨_, rfl, own_base ho2 hb1.size, hb1.trans (hb2.mono hb1.size)⟩
    · go_enter Try.func35, Try.ntmps35
      go_wp2_with fail
      refine (number_some _ _ bs n H.out HQ.out).mono ?_
      rintro e w1 ⟨rfl, hb1⟩
      go_wp2_with fail
      rw [show ((n : Int) - b) = ((n - b : Nat) : Int) from by omega]
      refine (text (n - b) hle _).mono ?_
      rintro e w2 ⟨v', rfl, ho2, hb2⟩
      go_wp2_with fail
      go_ret3
      exact ⟨_, rfl, own_base ho2 hb1.size, hb1.trans (hb2.mono hb1.size)⟩

-- Cat

set_option maxRecDepth 20000 in
theorem grow (n : Nat) (hn : n ≤ 1000000) (w : World) :
    Calls Try.prog 47 #[.slice none 0 0, .int .i64 n] w fun e w' => ∃ v, e = .returned v ∧ w'.ownsRow w.heap.size 5 1 v 0 [] ∧ Below w.heap.size w w' := by
  rcases Nat.eq_zero_or_pos n with rfl | h0
  · go_enter Try.func47, Try.ntmps47
    go_wp2_with fail
    go_ret
    exact ⟨_, rfl, World.ownsRow_nil _ _ _ _, Below.refl _ _⟩
  · obtain ⟨i, hi, hz, hs, hb⟩ := elemU8.hi
    have hr := Lib.run_append_nil_zeros (P := Try.prog) w 23 3 23 5 i (.int .u8 0) .i64 .i64 Try.underlying23 Try.underlying3 hi hz n h0 (by omega) (by omega) (by rw [hb]; omega)
    have hg := grownCap_ge w n 0 5
    have hg2 := grownCap_le_maxLen w n 0 5 (by unfold maxLen; omega)
    have hown := World.ownsRow_made (w := w.drew) (base := w.heap.size) (e := 5) (size := 1) (Builtin.zeroCells (Value.int .u8 0).cells n ++ Builtin.zeroCells (Value.int .u8 0).cells (grownCap w n 0 5 - n)) (grownCap w n 0 5) (Nat.le_refl _) hg2 (by
      rw [Array.size_append, size_zeroCells, size_zeroCells, show (Value.int .u8 0).cells.size = 1 from rfl]; omega)
    generalize hC : Builtin.zeroCells (Value.int .u8 0).cells n ++ Builtin.zeroCells (Value.int .u8 0).cells (grownCap w n 0 5 - n) = C at *
    generalize hG : grownCap w n 0 5 = G at *
    have HR := Lib.hid hr
    have HO := Lib.hid hown
    have hn0 : (0 : Int) < n := by omega
    clear hr hown hC hG hi hz hs hb
    go_enter Try.func47, Try.ntmps47
    go_wp2_with (at_builtin; refine Lib.wpList_append_run _ rfl _ _ 23 3 rfl _ _ rfl rfl _ _ HR.out ?_)
    go_ret
    exact ⟨_, rfl, HO.out, (Below.refl _ w).drew.alloc (Nat.le_refl _) _⟩

theorem concat (w : World) (b cap : Nat) (v1 v2 : Value) (xs ys : List UInt8) (hb : b < w.heap.size) (hc0 : w.cell? ⟨b, 0, none⟩ = some v1) (hc1 : w.cell? ⟨b, 1, none⟩ = some v2)
    (h1 : IsSl w v1 (xs.map u8v)) (h2 : IsSl w v2 (ys.map u8v)) (hl : xs.length + ys.length ≤ 512) :
    Calls Try.prog 33 #[.slice (some ⟨b, 0, none⟩) 2 cap] w fun e w' => ∃ v, e = .returned v ∧ Own w' w.heap.size 5 v ((xs ++ ys).map u8v) ∧ Below w.heap.size w w' := by
  obtain ⟨a1, k1, rfl, _⟩ := h1.form
  obtain ⟨a2, k2, rfl, _⟩ := h2.form
  rw [List.length_map] at *
  have H1 := Lib.hid h1
  have H2 := Lib.hid h2
  have C0 := Lib.hid hc0
  have C1 := Lib.hid hc1
  clear h1 h2
  go_enter Try.func33, Try.ntmps33
  go_wp2_with fail
  refine wp_loop_rounds 3 ?_
  rw [rounds_succ]
  go_wp2_with fail
  rw [rounds_succ]
  go_wp2_with fail
  rw [rounds_succ]
  go_wp2_with fail
  rw [show (xs.length : Int) + ys.length = ((xs.length + ys.length : Nat) : Int) from by omega]
  refine (grow (xs.length + ys.length) (by omega) w).mono ?_
  rintro e w1 ⟨v, rfl, hown, hb1⟩
  have hs1 := hb1.size
  obtain ⟨va, wa, hra, howna, hga, _⟩ := append_sl (P := Try.prog) (ty := 23) elemU8 hown (H1.out.below hb1 (Nat.le_refl _)) (u8v_one xs) (by simp; omega) (by simp [maxLen]; omega) hs1
  have hba : Below w.heap.size w wa := hb1.grown hga hs1 (fun k hk => (hown.lt k hk).1)
  have hsa := hba.size
  obtain ⟨vb, wb, hrb, hownb, hgb, _⟩ := append_sl (P := Try.prog) (ty := 23) elemU8 howna (H2.out.below hba (Nat.le_refl _)) (u8v_one ys) (by simp; omega) (by simp [maxLen]; omega) hsa
  have hbb : Below w.heap.size w wb := hba.grown hgb hsa (fun k hk => (howna.lt k hk).1)
  have c0 : w1.cell? ⟨b, 0, none⟩ = some (.slice a1 xs.length k1) := by rw [hb1.cell (p := ⟨b, 0, none⟩) hb]; exact C0.out
  have c1 : wa.cell? ⟨b, 1, none⟩ = some (.slice a2 ys.length k2) := by rw [hba.cell (p := ⟨b, 1, none⟩) hb]; exact C1.out
  have HRA := Lib.hid hra
  have HRB := Lib.hid hrb
  have HO := Lib.hid hownb
  have HBB := Lib.hid hbb
  clear hra hrb hown howna hga hownb hgb hb1 hba hbb
  go_wp2_with fail
  refine wp_loop_rounds 3 ?_
  rw [rounds_succ]
  go_wp2_with (at_builtin; refine wpList_append_eq rfl _ _ 23 rfl rfl rfl HRA.out ?_)
  rw [rounds_succ]
  go_wp2_with (at_builtin; refine wpList_append_eq rfl _ _ 23 rfl rfl rfl HRB.out ?_)
  rw [rounds_succ]
  go_wp2_with fail
  go_ret
  refine ⟨_, rfl, ?_, HBB.out⟩
  have := HO.out
  unfold Own
  rw [List.map_append]
  simpa using this

-- JoinW

theorem join_long (w : World) (a b : Option Addr) (n m c d : Nat) (h : 512 < n + m) (hn : n ≤ 140737488351232) (hm : m ≤ 140737488351232) :
    Calls Try.prog 27 #[.slice a n c, .slice b m d] w fun e w' => e = .returned (.tuple #[.slice none 0 0, .int .i64 3]) ∧ w = w' := by
  have h' : (512 : Int) < (n : Int) + m := by omega
  go_enter Try.func27, Try.ntmps27
  go_wp2_with fail
  go_ret2
  exact ⟨rfl, rfl⟩

theorem join_ok (w : World) (v1 v2 : Value) (xs ys : List UInt8) (h1 : IsSl w v1 (xs.map u8v)) (h2 : IsSl w v2 (ys.map u8v)) (hl : xs.length + ys.length ≤ 512) :
    Calls Try.prog 27 #[v1, v2] w fun e w' => ∃ v, e = .returned (.tuple #[v, .int .i64 0]) ∧ Own w' w.heap.size 5 v ((xs ++ ys).map u8v) ∧ Below w.heap.size w w' := by
  obtain ⟨a1, k1, rfl, _⟩ := h1.form
  obtain ⟨a2, k2, rfl, _⟩ := h2.form
  rw [List.length_map] at *
  have h' : ¬ (512 : Int) < (xs.length : Int) + ys.length := by omega
  have H := Lib.hid (concat (w.alloc (.cells #[.slice a1 xs.length k1, .slice a2 ys.length k2] 23)) w.heap.size 2 _ _ xs ys (by simp)
    (by rw [World.cell?_alloc_at _ _ _ _ rfl]; rfl) (by rw [World.cell?_alloc_at _ _ _ _ rfl]; rfl) (h1.below ((Below.refl _ w).alloc (Nat.le_refl _) _) (Nat.le_refl _)) (h2.below ((Below.refl _ w).alloc (Nat.le_refl _) _) (Nat.le_refl _)) hl)
  clear h1 h2
  go_enter Try.func27, Try.ntmps27
  go_wp2_with fail
  refine H.out.mono ?_
  rintro e w1 ⟨v, rfl, hs, hb⟩
  go_wp2_with fail
  go_ret2
  exact ⟨_, rfl, own_base hs (by simp), ((Below.refl w.heap.size w).alloc (Nat.le_refl _) _).trans (hb.mono (by simp))⟩


end Go.Proofs.Ytngpffmgkponfaa
