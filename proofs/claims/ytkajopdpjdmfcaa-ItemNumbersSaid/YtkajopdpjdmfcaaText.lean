/- item.Text returns a number's digits in new memory. Condition: the number fits 64 bits. -/
import Derived.Test.YtkajopdpjdmfcaaRev
namespace Go.Proofs.Ytkajopdpjdmfcaa
open Go.RowKit Go.Ice

/-- The digits of n, the last one first. -/
def digR (n : Nat) : List UInt8 := if n < 10 then [UInt8.ofNat (48 + n)] else UInt8.ofNat (48 + n % 10) :: digR (n / 10)
termination_by n
decreasing_by omega
def textF (n : Nat) : List UInt8 := (digR n).reverse

theorem digR_pos (n : Nat) : 0 < (digR n).length := by
  unfold digR; split <;> simp
theorem digR_len (k n : Nat) (h : n < 10 ^ (k + 1)) : (digR n).length ≤ k + 1 := by
  induction k generalizing n with
  | zero => rw [digR, if_pos (by simpa using h)]; simp
  | succ k ih =>
    rw [digR]
    split
    · simp
    · have := ih (n / 10) (by rw [Nat.pow_succ] at h; omega)
      simp; omega
theorem digR_len20 (n : Nat) (h : n ≤ 18446744073709551615) : (digR n).length ≤ 20 := digR_len 19 n (by omega)

theorem RevAt.of_own {w : World} {base n : Nat} {v : Value} {xs : List Value} {g cap : Nat} (h : w.ownsRow base 5 1 v n xs) (hv : v = .slice (some ⟨g, 0, none⟩) n cap) : RevAt g n cap (fun k => xs.getD k undef) w := by
  obtain ⟨hl, h⟩ := h
  rcases h with ⟨h, _⟩ | ⟨g', cap', cur, h1, h2, h3, h4, h5, h6, h7⟩
  · rw [hv] at h; cases h
  · rw [hv] at h1
    injection h1 with e1 e2 e3
    injection e1 with e1
    injection e1 with e1
    subst e1 e3
    refine ⟨cur, h3, by omega, fun k hk => ?_⟩
    subst h7
    show cur[k]? = some ((List.take (n * 1) cur.toList).getD k undef)
    rw [List.getD_eq_getElem?_getD, List.getElem?_take_of_lt (by omega)]
    have : k < cur.size := by omega
    simp [this]

/-- The value v is a slice of its own at base or above, that holds the cells xs. -/
def Own (w : World) (base : Nat) (e : TypeId) (v : Value) (xs : List Value) : Prop := w.ownsRow base e 1 v xs.length xs

theorem own_isSl {w : World} {base : Nat} {e : TypeId} {v : Value} {n : Nat} {xs : List Value} (h : w.ownsRow base e 1 v n xs) : IsSl w v xs := by
  obtain ⟨hl, h⟩ := h
  rcases h with ⟨h, h'⟩ | ⟨g', cap', cur, h1, h2, h3, h4, h5, h6, h7⟩
  · exact .inl ⟨List.length_eq_zero_iff.1 (by omega), .inl h⟩
  · have hlt : g' < w.heap.size := (Array.getElem?_eq_some_iff.1 h3).1
    obtain rfl : n = xs.length := by omega
    rw [h1]
    refine isSl_mk h4 h5 hlt fun j hj => ?_
    have e : xs[j]? = (cur.toList.take (xs.length * 1))[j]? := by rw [h7]
    rw [e, List.getElem?_take_of_lt (by omega)]
    simp [World.cell?, h3]

theorem Own.isSl {w : World} {base : Nat} {e : TypeId} {v : Value} {xs : List Value} (h : Own w base e v xs) : IsSl w v xs := own_isSl h

theorem Own.of_revAt {w : World} {base g cap : Nat} {X : Nat → Value} {xs : List Value} (h : RevAt g xs.length cap X w) (hg : base ≤ g) (hc : xs.length ≤ cap) (hm : cap ≤ maxLen) (hx : ∀ k, k < xs.length → some (X k) = xs[k]?) :
    Own w base 5 (.slice (some ⟨g, 0, none⟩) xs.length cap) xs := by
  obtain ⟨c, h1, h2, h3⟩ := h
  refine ⟨by simp, .inr ⟨g, cap, c, rfl, hg, h1, hc, hm, by omega, ?_⟩⟩
  apply List.ext_getElem?
  intro k
  by_cases hk : k < xs.length
  · rw [List.getElem?_take_of_lt (by omega), ← hx k hk]
    simpa using h3 k hk
  · rw [List.getElem?_eq_none (by simp; omega), List.getElem?_eq_none (by omega)]

set_option maxHeartbeats 800000 in
theorem text (N : Nat) (hN : N ≤ 18446744073709551615) (w : World) :
    Calls Try.prog 13 #[.int .u64 N] w fun e w' => ∃ v, e = .returned v ∧ Own w' w.heap.size 5 v ((textF N).map u8v) ∧ Below w.heap.size w w' := by
  obtain ⟨i0, hi, hz0, hz1, hz2⟩ := info_parts (show (Try.prog.info? 5).map (fun i => (i.zero, i.size, i.bytes)) = some (some (.int .u8 0), 1, 1) by kernel_rfl)
  have hlen := digR_len20 N hN
  have Hlen := Lib.hid hlen
  clear hlen
  go_enter Try.func13, Try.ntmps13
  go_wp2
  go_loopw [0, 3] (fun a b wr => ∃ (m : Nat) (ds : List UInt8), m ≤ 18446744073709551615 ∧ a = .int .u64 m ∧ wr.ownsRow w.heap.size 5 1 b ds.length (ds.map u8v) ∧ Below w.heap.size w wr ∧ Hid (digR N = ds ++ digR m)) (fun a _ _ => (intOf a).toNat)
  case atStart => exact ⟨N, [], hN, rfl, World.ownsRow_nil _ _ _ _, Below.refl _ _, rfl⟩
  case round =>
    obtain ⟨m, ds, hm, rfl, hown, hB, hd⟩ := hrel
    have hds : ds.length < 20 := by
      have h1 := Hlen.out
      rw [hd.out] at h1
      have := digR_pos m
      simp at h1; omega
    have hdr : digR m = UInt8.ofNat (48 + m % 10) :: (if m < 10 then [] else digR (m / 10)) := by
      rw [digR]; split
      · rw [Nat.mod_eq_of_lt (by omega)]
      · rfl
    have Hdr := Lib.hid hdr
    clear hdr
    have HB := Lib.hid hB
    clear hB
    have hbw : w.heap.size ≤ wr.heap.size := HB.out.size
    go_wp2_with (at_builtin; refine wpList_append_own _ rfl _ _ 22 rfl w.heap.size 5 i0 (.int .u8 0) 1 1 Try.underlying22 hi hz0 hz1 hz2 rfl (by decide) _ _ _ rfl (hown.alloc _) ⟨wr.heap.size, 0, none⟩ 1 1 [.int .u8 (48 + (m : Int) % 10)] rfl rfl ?c1 ?c2 ?c3 ?c4 ?c5 ?_)
    case c1 => exact cell_one_new _ _ _
    case c2 => intro u hu; simp only [List.mem_singleton] at hu; subst hu; rfl
    case c3 => unfold maxLen; omega
    case c4 => omega
    case c5 => simp; omega
    intro v' w1 hown1 hgrow _
    have hB1 : Hid (Below w.heap.size w w1) := (HB.out.alloc (by omega) _).grown hgrow (by simp; omega) (fun k hk => (hown.lt k hk).1)
    have ho1 : Hid (w1.ownsRow w.heap.size 5 1 v' (ds ++ [UInt8.ofNat (48 + m % 10)]).length ((ds ++ [UInt8.ofNat (48 + m % 10)]).map u8v)) := by
      have e : ((ds ++ [UInt8.ofNat (48 + m % 10)]).map u8v) = ds.map u8v ++ [.int .u8 (48 + (m : Int) % 10)] := by
        have e2 : (UInt8.ofNat (48 + m % 10)).toNat = 48 + m % 10 := by
          rw [UInt8.toNat_ofNat']; omega
        rw [List.map_append]; simp only [List.map_cons, List.map_nil, u8v, e2]; rfl
      rw [e, List.length_append]
      exact hown1
    clear hown1 hgrow hown HB
    by_cases hlt : m < 10
    · have hz : ((m : Int) / 10 == 0) = true := beq_iff_eq.2 (by omega)
      have hfin : digR N = ds ++ [UInt8.ofNat (48 + m % 10)] := by
        have h := hd.out
        rw [Hdr.out, if_pos hlt] at h
        exact h
      have Hfin := Lib.hid hfin
      clear hfin
      have hex : ∃ g cap, v' = .slice (some ⟨g, 0, none⟩) (ds.length + 1) cap ∧ w.heap.size ≤ g ∧ ds.length + 1 ≤ cap ∧ cap ≤ maxLen := by
        have h := ho1.out
        rw [List.length_append] at h
        rcases h.2 with ⟨h, _⟩ | ⟨g, cap, cur, h1, h2, h3, h4, h5, _⟩
        · exact absurd h ‹_›
        · exact ⟨g, cap, h1, h2, by simpa using h4, h5⟩
      obtain ⟨g, cap, hv, hg, hcap, hml⟩ := hex
      have hrev := RevAt.of_own ho1.out (by rw [List.length_append]; exact hv)
      have HR : Hid (RevAt g (ds.length + 1) cap (fun k => .int .u8 (((ds ++ [UInt8.ofNat (48 + m % 10)]).getD k 0).toNat : Int)) w1) := by
        rw [List.length_append] at hrev
        refine hrev.congr fun k hk => ?_
        have hk' : k < (ds ++ [UInt8.ofNat (48 + m % 10)]).length := by simpa using hk
        simp only [List.getD_eq_getElem?_getD, List.getElem?_map, List.getElem?_eq_getElem hk', Option.map_some, Option.getD_some, u8v]
      clear hrev
      rw [hv]
      clear hv
      go_wp2_with fail
      refine (reverse w1 g (ds.length + 1) cap cap (fun k => (((ds ++ [UInt8.ofNat (48 + m % 10)]).getD k 0).toNat : Int)) (by omega) HR.out).mono ?_
      rintro e w2 ⟨rfl, hr2, hf2⟩
      have HR2 := Lib.hid hr2
      have HF2 := Lib.hid hf2
      clear hr2 hf2
      go_wp2
      go_ret
      have hl : ((textF N).map u8v).length = ds.length + 1 := by
        rw [textF, Hfin.out]; simp
      refine ⟨_, rfl, ?_, hB1.out.trans (HF2.out.below (fun k hk e => by omega) (hB1.out.size))⟩
      have hown2 := Own.of_revAt (w := w2) (base := w.heap.size) (g := g) (cap := cap) (xs := (textF N).map u8v) (by rw [hl]; exact HR2.out) hg (by omega) hml (fun k hk => by
        rw [hl] at hk
        have hk' : ds.length + 1 - 1 - k < (ds ++ [UInt8.ofNat (48 + m % 10)]).length := by simp; omega
        rw [textF, Hfin.out, List.getElem?_map, List.getElem?_reverse (by simp; omega)]
        simp only [List.getD_eq_getElem?_getD, List.length_append, List.length_cons, List.length_nil]
        rw [List.getElem?_eq_getElem hk']
        rfl)
      rw [hl] at hown2
      exact hown2
    · have hz : ((m : Int) / 10 == 0) = false := beq_eq_false_iff_ne.2 (by omega)
      go_wp2
      go_roundw
      case rel =>
        refine ⟨m / 10, ds ++ [UInt8.ofNat (48 + m % 10)], by omega, rfl, ho1.out, hB1.out, ?_⟩
        have h := hd.out
        rw [Hdr.out, if_neg hlt] at h
        show digR N = _
        rw [h]; simp
      case measure => simp [intOf]; omega
end Go.Proofs.Ytkajopdpjdmfcaa
