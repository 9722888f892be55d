/- The walk of the law ItemBack. Condition: the number fits 64 bits. -/
import Derived.Test.YtkajopdpjdmfcaaTurn
import Derived.ArgAppend
set_option linter.unusedVariables false
namespace Go.Proofs.Ytkajopdpjdmfcaa
open Go.RowKit Go.Ice

/-- Noughts ahead turn nothing. -/
def zeros (k : Nat) (bs : List UInt8) : List UInt8 := List.replicate k 48 ++ bs
theorem zeros_dig (k : Nat) (bs : List UInt8) (h : ∀ c ∈ bs, isDig c) : ∀ c ∈ zeros k bs, isDig c := by
  intro c hc
  rcases List.mem_append.1 hc with hc | hc
  · rw [List.eq_of_mem_replicate hc]; exact ⟨by decide, by decide⟩
  · exact h c hc
theorem zeros_val (k : Nat) (bs : List UInt8) : valF 0 (zeros k bs) = valF 0 bs := by
  unfold zeros
  rw [valF_append]
  congr 1
  induction k with
  | zero => rfl
  | succ k ih => rw [List.replicate_succ, valF_cons]; exact ih
theorem zeros_succ (k : Nat) (bs : List UInt8) : zeros (k + 1) bs = [48] ++ zeros k bs := by unfold zeros; rw [List.replicate_succ]; rfl

/-- The first digit is no nought, unless it is the only one. -/
theorem textF_head (k : Nat) : ∀ n, n < k → 10 ≤ n → ∃ c cs, textF n = c :: cs ∧ 49 ≤ c.toNat := by
  induction k with
  | zero => intro n h; omega
  | succ k ih =>
    intro n h h10
    rw [textF_ge n (by omega)]
    by_cases h2 : n / 10 < 10
    · rw [textF_lt (n / 10) h2]
      exact ⟨_, _, rfl, by rw [UInt8.toNat_ofNat']; omega⟩
    · obtain ⟨c, cs, e, hc⟩ := ih (n / 10) (by omega) (by omega)
      rw [e]
      exact ⟨c, _, rfl, hc⟩

theorem numF_zeros (n k : Nat) (h : n ≤ 18446744073709551615) (hk : (zeros k (textF n)).length ≤ 20) : numF (zeros k (textF n)) = some n := by
  have h1 := textF_pos n
  have h2 : 0 < (zeros k (textF n)).length := by unfold zeros; rw [List.length_append]; omega
  unfold numF
  rw [if_neg (by omega), numLoop_some _ _ (zeros_dig k _ (textF_dig (n + 1) n (by omega))) (by rw [zeros_val, textF_val (n + 1) n (by omega)]; exact h), zeros_val, textF_val (n + 1) n (by omega)]
theorem numF_x (bs : List UInt8) : numF (bs ++ [120]) = none := by
  unfold numF
  split
  · rfl
  · exact numLoop_none _ _ (.inl fun h => by have := h 120 (by simp); simp [isDig] at this) (by omega)

theorem own_base {w : World} {base base' : Nat} {e : TypeId} {size : Nat} {v : Value} {n : Nat} {xs : List Value} (h : w.ownsRow base' e size v n xs) (hb : base ≤ base') : w.ownsRow base e size v n xs := by
  obtain ⟨h1, h2⟩ := h
  refine ⟨h1, ?_⟩
  rcases h2 with h2 | ⟨g, cap, cur, hv, hg, r⟩
  · exact .inl h2
  · exact .inr ⟨g, cap, cur, hv, Nat.le_trans hb hg, r⟩

set_option maxHeartbeats 4000000 in
theorem itemBackW.core (n : Nat) (a1 : Int) (w : World) (hn : n ≤ 18446744073709551615) (w1 : (Lit.int .i64 a1).wf = true) :
    Calls Try.prog 4 #[.int .u64 n, .int .i64 a1] w fun e w' => e = .returned (.bool true) ∧ Below w.heap.size w w' := by
  have hlen1 := textF_pos n
  have hlen2 := textF_len n hn
  obtain ⟨c, cs, hcs⟩ : ∃ c cs, textF n = c :: cs := by
    cases h : textF n with
    | nil => rw [h] at hlen1; simp at hlen1
    | cons c cs => exact ⟨c, cs, rfl⟩
  have hhead : cs.length = 0 ∨ 49 ≤ c.toNat := by
    by_cases h : n < 10
    · left; rw [textF_lt n h] at hcs; injection hcs with h1 h2; rw [← h2]; rfl
    · right
      obtain ⟨c', cs', h1, h2⟩ := textF_head (n + 1) n (by omega) (by omega)
      rw [hcs] at h1; injection h1 with h3 h4; rw [h3]; exact h2
  have HCS := Lib.hid hcs
  have hcs1 : ((textF n).length : Int) = 1 ∨ (1 < ((textF n).length : Int) ∧ ((c.toNat : Int) == 48) = false) := by
    rcases hhead with h | h
    · left; rw [hcs]; simp [h]
    · by_cases h1 : (textF n).length = 1
      · left; omega
      · right; exact ⟨by omega, beq_eq_false_iff_ne.2 (by omega)⟩
  have HC1 := Lib.hid hcs1
  have hL0 : (((textF n).length : Int) == 0) = false := beq_eq_false_iff_ne.2 (by omega)
  obtain ⟨L, hLL⟩ : ∃ L, L = (textF n).length := ⟨_, rfl⟩
  have HL := Lib.hid hLL
  rw [← hLL] at hL0 hlen1 hlen2
  have hc1 := HC1.out
  rw [← hLL] at hc1
  have HC2 := Lib.hid hc1
  clear hcs hhead hcs1 HC1 hLL hc1
  have kc := fun (w : World) (C : Array Value) (n c : Nat) => Lib.run_convert_bytes_const (P := Try.prog) w 22 5 C n c Try.underlying22 Try.underlying5
  go_enter Try.func4, Try.ntmps4
  go_wp2_with fail
  refine (wakes _).mono ?_
  rintro e wA ⟨rfl, hbA⟩
  go_wp2_with fail
  refine (text n hn _).mono ?_
  rintro e w1 ⟨v, rfl, ho, hb1⟩
  have hBw : Below w.heap.size w w1 := hbA.trans (hb1.mono hbA.size)
  have ho1 : w1.ownsRow w.heap.size 5 1 v L ((textF n).map u8v) := by
    have := own_base ho hbA.size
    rw [List.length_map, ← HL.out] at this
    exact this
  obtain ⟨g, cap, cur, hv, _⟩ : ∃ g cap cur, v = .slice (some ⟨g, 0, none⟩) L cap ∧ w1.heap[g]? = some (.cells cur 5 (0, 0)) := by
    rcases ho1.2 with ⟨_, h⟩ | ⟨g, cap, cur, h1, h2, h3, _⟩
    · omega
    · exact ⟨g, cap, cur, h1, h3⟩
  have hcell : w1.cell? ⟨g, 0, none⟩ = some (.int .u8 (c.toNat : Int)) := by
    have := ho1.cells (g := g) (by rw [hv]; rfl) 0 (u8v c) (by rw [HCS.out]; rfl)
    rw [Addr.add_zero'] at this
    exact this
  have HB := Lib.hid hBw
  have HO := Lib.hid ho1
  have HV := Lib.hid hv
  clear hbA hb1 ho hBw ho1
  rw [hv]
  clear hv
  obtain ⟨r, hr1, hr2, hrest⟩ : ∃ r : Int, 0 ≤ r ∧ r ≤ 24 ∧ ((a1 < 0 ∧ r ≤ 0) ∨ (0 ≤ a1 ∧ r = a1 % 25)) := by
    by_cases h : a1 < 0
    · exact ⟨0, by omega, by omega, .inl ⟨h, by omega⟩⟩
    · exact ⟨a1 % 25, by omega, by omega, .inr ⟨by omega, rfl⟩⟩
  have HRR := Lib.hid hrest
  clear hrest
  have hI1 : ((zeros 0 (textF n)).map u8v) = (textF n).map u8v := rfl
  have HI : Hid (w1.ownsRow w.heap.size 5 1 (.slice (some ⟨g, 0, none⟩) L cap) (0 + L) ((zeros 0 (textF n)).map u8v)) := by
    show World.ownsRow _ _ _ _ _ _ _
    rw [hI1, Nat.zero_add, ← HV.out]; exact HO.out
  clear hI1
  rcases HC2.out with h1 | ⟨h1, h48⟩ <;> rcases HRR.out with ⟨ha, hr⟩ | ⟨ha, hr⟩
  all_goals
    have HR2 := Lib.hid hr
    clear hr
    go_wp2_with fail
    try rw [← HR2.out]
    clear h1
    go_loopw [5, 31] (fun tv iv wr => ∃ j k : Nat, j ≤ 24 ∧ iv = .int .i64 j ∧ k + L ≤ 20 ∧ wr.ownsRow w.heap.size 5 1 tv (k + L) ((zeros k (textF n)).map u8v) ∧ Below w.heap.size w wr) (fun _ iv _ => 25 - (intOf iv).toNat)
    case atStart => exact ⟨0, 0, by omega, rfl, by omega, HI.out, HB.out⟩
    case round =>
      obtain ⟨j, k, hj, rfl, hk, hown, hBr⟩ := hrel
      have hzl : (zeros k (textF n)).length = k + L := by unfold zeros; rw [List.length_append, List.length_replicate, ← HL.out]
      obtain ⟨g', cap', hv', hcap'⟩ : ∃ g' cap', u5 = .slice (some ⟨g', 0, none⟩) (k + L) cap' ∧ k + L ≤ cap' := by
        rcases hown.2 with ⟨_, h⟩ | ⟨g, cap, cur, h1, h2, h3, h4, _⟩
        · omega
        · exact ⟨g, cap, h1, h4⟩
      rw [hv'] at hown ⊢
      have hsl := own_isSl hown
      have HSL := Lib.hid hsl
      have HBR := Lib.hid hBr
      have hsz := hBr.size
      by_cases hlt : (j : Int) < r
      · have hneg : 0 ≤ a1 := by have := HR2.out; omega
        first
        | (exfalso; omega)
        | (by_cases hl20 : k + L < 20
           · have hl' : ((k : Int) + L) < 20 := by omega
             obtain ⟨i, hi, hz, hs, hb⟩ := elemU8.hi
             obtain ⟨vn, wn, hrun, hownn, hgn⟩ := run_append_arg_grows (P := Try.prog) (wr.alloc (.cells #[.int .u8 48] 5 (1, 1 + 1))) 22 22 5 i (.int .u8 0) 1 1 Try.underlying22 hi hz hs hb rfl (by decide) ⟨wr.heap.size, 0, none⟩ 1 1 [.int .u8 48] rfl
               (fun q u hu => by
                 obtain rfl : q = 0 := by
                   rcases Nat.eq_zero_or_pos q with h | h
                   · exact h
                   · rw [List.getElem?_eq_none (by simp; omega)] at hu; cases hu
                 rw [Addr.add_zero', World.cell?_alloc_mark]; exact hu)
               ⟨g', 0, none⟩ (k + L) cap' ((zeros k (textF n)).map u8v) (by rw [List.length_map, hzl]; omega)
               (fun q u hu => by
                 have h := (hown.alloc (.cells #[.int .u8 48] 5 (1, 1 + 1))).cells (g := g') rfl q u hu
                 exact h) (by omega) (by unfold maxLen; omega) (by omega)
             have hbn : Below w.heap.size w wn := (hBr.alloc hsz _).grown hgn (by simp; omega) (fun q hq => by cases hq)
             have hon : wn.ownsRow w.heap.size 5 1 vn (k + 1 + L) ((zeros (k + 1) (textF n)).map u8v) := by
               have h := own_base (base := w.heap.size) hownn (by simp; omega)
               rw [zeros_succ, List.map_append, show k + 1 + L = 1 + (k + L) from by omega]
               exact h
             have HRUN := Lib.hid hrun
             have HBN := Lib.hid hbn
             have HON := Lib.hid hon
             clear hrun hbn hon hownn hgn hown hsl hBr hi hz hs hb
             go_wp2_with (at_builtin; refine wpList_append_eq rfl _ _ 22 rfl rfl rfl HRUN.out ?_)
             go_roundw
             case rel => exact ⟨j + 1, k + 1, by omega, rfl, by omega, HON.out, HBN.out⟩
             case measure => simp [intOf]; omega
           · have hl' : ¬ ((k : Int) + L) < 20 := by omega
             have HOW := Lib.hid hown
             clear hown hsl hBr
             go_wp2_with fail
             all_goals
               go_roundw
               case rel => exact ⟨j + 1, k, by omega, rfl, by omega, HOW.out, HBR.out⟩
               case measure => simp [intOf]; omega)
      · have HZ := Lib.hid hzl
        have HOW := Lib.hid hown
        clear hown hsl hBr hzl
        go_wp2_with fail
        all_goals
          refine (number_some _ _ (zeros k (textF n)) n HSL.out (numF_zeros n k hn (by rw [HZ.out]; omega))).mono ?_
          rintro e w3 ⟨rfl, hb3⟩
          have hs3 := hb3.size
          have hown3 : w3.ownsRow w.heap.size 5 1 (.slice (some ⟨g', 0, none⟩) (k + L) cap') (k + L) ((zeros k (textF n)).map u8v) := by
            obtain ⟨q1, q2⟩ := HOW.out
            refine ⟨q1, ?_⟩
            rcases q2 with q2 | ⟨g, cap, cur, e1, e2, e3, e4, e5, e6, e7⟩
            · exact .inl q2
            · exact .inr ⟨g, cap, cur, e1, e2, by rw [hb3.block g (Array.getElem?_eq_some_iff.1 e3).1]; exact e3, e4, e5, e6, e7⟩
          have hB3 : Below w.heap.size w w3 := HBR.out.trans (hb3.mono hsz)
          obtain ⟨vx, wx, hrunx, hownx, hgx, _⟩ := append_sl (P := Try.prog) (ty := 22) elemU8 (hown3.alloc (.cells #[.int .u8 120] 5)) (isSl_new w3 [.int .u8 120] 5 1 (by simp) (by decide) (0, 0)) (by intro u hu; simp only [List.mem_singleton] at hu; subst hu; rfl) (by simp; omega) (by simp [maxLen]; omega) (by simp; omega)
          have hBx : Below w.heap.size w wx := (hB3.alloc hB3.size _).grown hgx (by have := hB3.size; simp; omega) (fun q hq => (hown3.lt q hq).1)
          have HRX := Lib.hid hrunx
          have HBX := Lib.hid hBx
          have HSX : Hid (IsSl wx vx ((zeros k (textF n) ++ [120]).map u8v)) := by
            show IsSl _ _ _
            rw [List.map_append]; exact own_isSl hownx
          clear hrunx hBx hownx hgx hB3 hown3 hb3
          go_wp2_with (at_builtin; refine wpList_append_eq rfl _ _ 22 rfl rfl rfl HRX.out ?_)
          refine (number_none _ _ _ HSX.out (numF_x _)).mono ?_
          rintro e w4 ⟨rfl, hb4⟩
          have hnn : ((n : Int) == (n : Int)) = true := by simp
          go_wp2_with fail
          go_ret
          exact ⟨rfl, HBX.out.trans (hb4.mono HBX.out.size)⟩
theorem itemBackW.walk (a0 a1 : Int) (w : World) (w0 : (Lit.int .u64 a0).wf = true) (w1 : (Lit.int .i64 a1).wf = true) :
    Calls Try.prog 4 #[.int .u64 a0, .int .i64 a1] w fun e w' => e = .returned (.bool true) ∧ Below w.heap.size w w' := by
  obtain ⟨b1, b2⟩ := bounds_u64 w0
  obtain ⟨n, rfl⟩ := Int.eq_ofNat_of_zero_le b1
  exact itemBackW.core n a1 w (by omega) w1
end Go.Proofs.Ytkajopdpjdmfcaa
