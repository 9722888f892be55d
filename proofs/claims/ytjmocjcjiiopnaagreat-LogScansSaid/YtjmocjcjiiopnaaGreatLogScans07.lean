/- Records as bytes: right. No condition. Hashes of bytes. Condition: the bytes lie in memory. A region whose order is open, by an invariant on which operations are done. Condition: every operation waits for earlier ones alone. Regions of open order, by a table of the values that the operations yield: no frame is written out. No condition. A region of open order whose world is told by what is done: stores, appends. No condition. -/
import Derived.Test.YtjmocjcjiiopnaaGreatLogScans06
import Derived.Test.YtjmocjcjiiopnaaGreatLogScans05
import Derived.Test.YtjmocjcjiiopnaaGreatLogScans01

section
set_option linter.unusedVariables false
set_option linter.unusedSimpArgs false
namespace Go.Oct
/-- A record without its key and value: kind, flags, expiry, sequence. -/
structure Rc where
  k : Int
  f : Nat
  e : Nat
  s : Nat
/-- Whether it may be, with a key and a value of such lengths. -/
def Rc.right (r : Rc) (n m : Nat) : Bool := decide (r.s ≠ 0 ∧ 1 ≤ n ∧ n ≤ 250 ∧ m ≤ 512 ∧ (r.k = 1 ∨ (r.k = 2 ∧ r.f = 0 ∧ r.e = 0 ∧ m = 0)))
end Go.Oct
namespace Go.Proofs.YtjmocjcjiiopnaaGreat
open Go.RowKit Go.Ice Go.Oct
def recV (r : Rc) (a b : Value) : Value := .agg #[.int .i64 r.k, .int .u32 r.f, .int .u32 r.e, .int .u64 r.s, a, b]
set_option maxHeartbeats 8000000 in
set_option maxRecDepth 20000 in
theorem right (r : Rc) (a b : Value) (ha : ∃ x n c, a = .slice x n c) (hb : ∃ x n c, b = .slice x n c) (n m : Nat) (hn : n ≤ maxLen) (hm : m ≤ maxLen) : Meets Tryz.prog 125 #[recV r a b, .int .i64 n, .int .i64 m] [] [] fun v L => v = .bool (r.right n m) ∧ L = [] := by
  intro w B H
  unfold maxLen at hn hm
  obtain ⟨k, f, e, s⟩ := r
  obtain ⟨x1, n1, c1, rfl⟩ := ha
  obtain ⟨x2, n2, c2, rfl⟩ := hb
  obtain ⟨q, hq⟩ : ∃ q, q = Rc.right ⟨k, f, e, s⟩ n m := ⟨_, rfl⟩
  rw [← hq]
  unfold recV
  have H1 := H.alloc [.int .i64 k, .int .u32 f, .int .u32 e, .int .u64 s, .slice x1 n1 c1, .slice x2 n2 c2] 62
  have HQ := Lib.hid hq
  clear hq
  go_enter Tryz.func125, Tryz.ntmps125
  go_upto_region 1 with fail
  refine wp_world (fun W => St w B _ _ W) H1 ?_
  intro w1 H2
  clear H1
  obtain ⟨hc, hf⟩ := St.cells H2 0
  go_wp2_with fail
  all_goals
    refine bodyPost_ret (results_tmp rfl _ _ _) rfl (Back.mk ⟨?_, rfl⟩ (St.pick H2 []))
    have e := HQ.out
    show Value.bool _ = Value.bool q
    rw [e]
    congr 1
    unfold Rc.right
    rw [Bool.eq_iff_iff, decide_eq_true_eq]
    simp
    clear e hc hf H2 H HQ
    try simp only [beq_iff_eq, beq_eq_false_iff_ne, ne_eq] at *
    omega
set_option maxHeartbeats 8000000 in
set_option maxRecDepth 20000 in
theorem check (r : Rc) (x y : Option Addr) (n c m d : Nat) (hn : n ≤ maxLen) (hm : m ≤ maxLen) : Meets Tryz.prog 98 #[recV r (.slice x n c) (.slice y m d)] [] [] fun v L => v = .int .i64 (if r.right n m then 0 else 160) ∧ L = [] := by
  intro w B H
  have HR := right r (.slice x n c) (.slice y m d) ⟨_, _, _, rfl⟩ ⟨_, _, _, rfl⟩ n m hn hm
  obtain ⟨q, hq⟩ : ∃ q, q = r.right n m := ⟨_, rfl⟩
  rw [← hq] at HR ⊢
  have H1 := H.alloc [.int .i64 r.k, .int .u32 r.f, .int .u32 r.e, .int .u64 r.s, .slice x n c, .slice y m d] 62
  unfold recV at HR ⊢
  clear hq
  cases q
  all_goals
    go_enter Tryz.func98, Tryz.ntmps98
    go_upto_region 1 with fail
    refine wp_world (fun W => St w B _ _ W) H1 ?_
    intro w1 H2
    obtain ⟨hc, hf⟩ := St.cells H2 0
    go_wp2_with fail
    refine (HR.call (L := []) (M := [_]) H2 (by simp)).mono ?_
    rintro e w3 ⟨v, L, rfl, ⟨rfl, rfl⟩, H4⟩
    go_wp2_with fail
    exact bodyPost_ret (results_tmp rfl _ _ _) rfl (Back.mk (L' := []) ⟨rfl, rfl⟩ (St.pick H4 []))
end Go.Proofs.YtjmocjcjiiopnaaGreat
end

section
set_option linter.unusedVariables false
set_option linter.unusedSimpArgs false
namespace Go.Oct
/-- A hash, turned by a byte. -/
def stepH (h : Nat) (c : UInt8) : Nat := (bits .xor .u64 (h : Int) (c.toNat : Int) * 1099511628211 % 18446744073709551616).toNat
theorem stepH_eq (h : Nat) (c : UInt8) : bits .xor .u64 (h : Int) (c.toNat : Int) * 1099511628211 % 18446744073709551616 = (stepH h c : Int) := (Int.toNat_of_nonneg (Int.emod_nonneg _ (by decide))).symm
theorem stepH_lt (h : Nat) (c : UInt8) : stepH h c < 18446744073709551616 := by
  have := stepH_eq h c
  have := Int.emod_lt_of_pos (bits .xor .u64 (h : Int) (c.toNat : Int) * 1099511628211) (show (0 : Int) < 18446744073709551616 by decide)
  omega
def moreH (h : Nat) (l : List UInt8) : Nat := l.foldl stepH h
def hashB (l : List UInt8) : Nat := moreH 14695981039346656037 l
theorem moreH_snoc (h : Nat) (l : List UInt8) (c : UInt8) : moreH h (l ++ [c]) = stepH (moreH h l) c := by unfold moreH; rw [List.foldl_append, List.foldl_cons, List.foldl_nil]
theorem moreH_lt (l : List UInt8) : ∀ h, h < 18446744073709551616 → moreH h l < 18446744073709551616 := by
  induction l with
  | nil => exact fun h hh => hh
  | cons c l ih => exact fun h hh => ih _ (stepH_lt h c)
theorem hashB_lt (l : List UInt8) : hashB l < 18446744073709551616 := moreH_lt l _ (by decide)
theorem take_snoc {l : List UInt8} {k : Nat} (h : k < l.length) : l.take (k + 1) = l.take k ++ [l.getD k 0] := by
  rw [List.take_add_one, List.getElem?_eq_getElem h, List.getD_eq_getElem?_getD, List.getElem?_eq_getElem h]; rfl
end Go.Oct
namespace Go.Proofs.YtjmocjcjiiopnaaGreat
open Go.RowKit Go.Ice Go.Oct
theorem byt_cell {w : World} {a : Option Addr} {c : Nat} {l : List UInt8} (h : BytesAt w (.slice a l.length c) l) (hl : 0 < l.length) : ∃ b off, a = some ⟨b, off, none⟩ ∧ ∀ j, j < l.length → w.cell? ⟨b, off + j, none⟩ = some (u8v (l.getD j 0)) := by
  obtain ⟨b, off, cap, e, _, _, _, hcell⟩ := (byt_slK h).at hl
  cases e
  refine ⟨b, off, rfl, fun j hj => ?_⟩
  rw [hcell j (by simpa using hj), List.getElem?_map, List.getD_eq_getElem?_getD, List.getElem?_eq_getElem hj]; rfl
theorem bytes_max {w : World} {v : Value} {l : List UInt8} (h : BytesAt w v l) : l.length ≤ maxLen := (byt_slK h).form.elim fun _ h => h.elim fun _ h => h.2
set_option maxHeartbeats 8000000 in
set_option maxRecDepth 20000 in
theorem more (h0 : Nat) (h0l : h0 < 18446744073709551616) (a : Option Addr) (c : Nat) (l : List UInt8) : Meets Tryz.prog 132 #[.int .u64 h0, .slice a l.length c] [] [bytA (.slice a l.length c) l] fun v L => v = .int .u64 (moreH h0 l) ∧ L = [] := by
  intro w B H
  have hlm : l.length ≤ maxLen := bytes_max (H.bytes 0)
  unfold maxLen at hlm
  obtain ⟨n, hn⟩ : ∃ n, n = l.length := ⟨_, rfl⟩
  have hc : 0 < n → ∃ b off, a = some ⟨b, off, none⟩ ∧ ∀ j, j < n → w.cell? ⟨b, off + j, none⟩ = some (u8v (l.getD j 0)) := fun h => by rw [hn] at h ⊢; exact byt_cell (H.bytes 0) h
  rw [← hn] at hlm ⊢
  have HC := Lib.hid hc
  have HN := Lib.hid hn
  have HH0 := Lib.hid h0l
  clear hc hn h0l
  go_enter Tryz.func132, Tryz.ntmps132
  go_wp2_with fail
  go_loopg [0, 5, 8] n (fun gg b0 b5 b8 wr => ∃ j : Nat, j ≤ n ∧ gg = n - j ∧ b8 = .int .i64 j ∧ b0 = .int .u64 (moreH h0 (l.take j)) ∧ Hid (wr = w))
  case atStart => exact ⟨0, Nat.zero_le _, rfl, rfl, rfl, Lib.hid rfl⟩
  case round =>
  obtain ⟨j, hj, rfl, rfl, rfl, HWR⟩ := hrel
  have hw := HWR.out
  subst hw
  by_cases hlt : j < n
  · obtain ⟨b, off, rfl, hcel0⟩ := HC.out (by omega)
    have hcell := hcel0 j hlt
    clear hcel0
    have hst : moreH h0 (l.take (j + 1)) = stepH (moreH h0 (l.take j)) (l.getD j 0) := by rw [take_snoc (by rw [← HN.out]; exact hlt), moreH_snoc]
    have HST := Lib.hid hst
    clear hst
    have hcc := (l.getD j 0).toNat_lt
    have hmx := moreH_lt (l.take j) h0 HH0.out
    generalize (l.getD j 0) = cc at *
    unfold u8v at hcell
    generalize hx : moreH h0 (l.take j) = x at *
    clear hx
    go_wp2_with fail
    go_roundg (n - (j + 1))
    case measure => omega
    case rel => exact ⟨j + 1, by omega, rfl, by first | rfl | (congr 1; omega), by rw [HST.out, ← stepH_eq, IntKind.wrap_u64], Lib.hid rfl⟩
  · obtain rfl : j = n := by omega
    go_wp2_with fail
    go_ret
    exact Back.mk ⟨by rw [List.take_of_length_le (by rw [← HN.out]; exact Nat.le_refl _)]; rfl, rfl⟩ (by rw [HN.out]; exact H)
set_option maxHeartbeats 8000000 in
theorem hash (a : Option Addr) (c : Nat) (l : List UInt8) : Meets Tryz.prog 117 #[.slice a l.length c] [] [bytA (.slice a l.length c) l] fun v L => v = .int .u64 (hashB l) ∧ L = [] := by
  intro w B H
  have HM := Lib.hid (more 14695981039346656037 (by decide) a c l)
  go_enter Tryz.func117, Tryz.ntmps117
  go_wp2_with fail
  refine (HM.out.call0 H (sub_imp (by simp))).mono ?_
  rintro e w1 ⟨v, L, rfl, ⟨rfl, rfl⟩, H1⟩
  go_wp2_with fail
  go_ret
  exact Back.mk ⟨rfl, rfl⟩ H1
end Go.Proofs.YtjmocjcjiiopnaaGreat
end

section
namespace Go.Ice
open Go.RowKit

def unlisted (n : Nat) (done : Nat → Bool) : Nat := ((List.range n).filter fun i => !done i).length

theorem unlisted_step (n i : Nat) (done : Nat → Bool) (hi : i < n) (hd : done i = false) : unlisted n (fun k => decide (k = i) || done k) < unlisted n done := by
  unfold unlisted
  induction n with
  | zero => omega
  | succ n ih =>
    rw [List.range_succ, List.filter_append, List.filter_append, List.length_append, List.length_append]
    by_cases h : i = n
    · subst h
      have h1 : ((List.range i).filter fun k => !(decide (k = i) || done k)) = (List.range i).filter fun k => !done k := by
        apply List.filter_congr
        intro k hk
        have : k ≠ i := by have := List.mem_range.1 hk; omega
        simp [this]
      rw [h1]
      simp [hd]
    · have h1 := ih (by omega)
      have h2 : (([n].filter fun k => !(decide (k = i) || done k))) = [n].filter fun k => !done k := by
        apply List.filter_congr
        intro k hk
        have : k ≠ i := by rw [List.mem_singleton.1 hk]; exact fun e => h e.symm
        simp [this]
      rw [h2]
      exact Nat.add_lt_add_right h1 _

theorem unlisted_zero (n : Nat) (done : Nat → Bool) (h : unlisted n done = 0) : ∀ i, i < n → done i = true := by
  intro i hi
  unfold unlisted at h
  rw [List.length_eq_zero_iff, List.filter_eq_nil_iff] at h
  have := h i (List.mem_range.2 hi)
  simpa using this

/-- What is done has all done that it waits for. -/
def Closed (ops : Array Oper) (done : Nat → Bool) : Prop := ∀ (i : Nat) (o : Oper), ops[i]? = some o → done i = true → ∀ e ∈ o.after, Region.binds .any e = true → done e.on = true

theorem wp_region_inv {P : Program} {ops : Array Oper} {Q : Exit → Act → World → Prop} {id : Nat} {a : Act} {w : World} (hm : P.follows .mixedOrders = true)
    (hord : ∀ (i : Nat) (o : Oper), ops[i]? = some o → ∀ e ∈ o.after, e.on < i) (I : (Nat → Bool) → Act → World → Prop) (h0 : I (fun _ => false) a w.drew)
    (hstep : ∀ (done : Nat → Bool) (a : Act) (w : World) (i : Nat) (o : Oper), ops[i]? = some o → done i = false → (∀ e ∈ o.after, Region.binds .any e = true → done e.on = true) → Closed ops done → I done a w →
      wpOp P ops Q i (I (fun k => decide (k = i) || done k)) a w)
    (hend : ∀ (done : Nat → Bool) (a : Act) (w : World), (∀ i, i < ops.size → done i = true) → I done a w → Q .normal a w) : (Code.region id ops true).wp P Q a w := by
  refine wp_region_any hm ?_
  have hall : ∀ (listed : Array Bool) (done : Nat → Bool), listed.size = ops.size → (∀ i, i < ops.size → listed.getD i true = done i) → Region.ready .any ops listed = [] → ∀ i, i < ops.size → done i = true := by
    intro listed done hs hl hr
    intro i
    induction i using Nat.strongRecOn with
    | _ i ih =>
      intro hi
      cases hd : done i with
      | true => rfl
      | false =>
        exfalso
        have hmem : i ∈ Region.ready .any ops listed := by
          rw [mem_ready]
          refine ⟨by rw [hl i hi, hd], ops[i], Array.getElem?_eq_getElem hi, fun e he _ => ?_⟩
          have hlt := hord i _ (Array.getElem?_eq_getElem hi) e he
          have h1 := ih e.on hlt (by omega)
          have h2 := hl e.on (by omega)
          rw [h1] at h2
          have h3 : e.on < listed.size := by omega
          simp only [Array.getD, h3, dite_true] at h2 ⊢
          exact h2
        rw [hr] at hmem
        cases hmem
  have key : ∀ (fuel : Nat) (listed : Array Bool) (done : Nat → Bool) (a : Act) (w : World), listed.size = ops.size → (∀ i, i < ops.size → listed.getD i true = done i) → unlisted ops.size done ≤ fuel → Closed ops done → I done a w → wpAny P .any ops Q fuel listed a w := by
    intro fuel
    induction fuel with
    | zero =>
      intro listed done a w hs hl hu hcl hI
      have hd := unlisted_zero ops.size done (by omega)
      refine ⟨?_, hend done a w hd hI⟩
      rw [List.eq_nil_iff_forall_not_mem]
      intro j hj
      obtain ⟨h1, o, ho, _⟩ := mem_ready.1 hj
      have hlt : j < ops.size := (Array.getElem?_eq_some_iff.1 ho).1
      rw [hl j hlt, hd j hlt] at h1
      cases h1
    | succ fuel ih =>
      intro listed done a w hs hl hu hcl hI
      refine ⟨fun hr => hend done a w (hall listed done hs hl hr) hI, fun i hi => ?_⟩
      obtain ⟨h1, o, ho, h2⟩ := mem_ready.1 hi
      have hlt : i < ops.size := (Array.getElem?_eq_some_iff.1 ho).1
      have hd : done i = false := by rw [← hl i hlt]; exact h1
      refine wpOp_mono ?_ (hstep done a w i o ho hd (fun e he hb => ?_) hcl hI)
      · intro a' w' hI'
        refine ih _ _ a' w' (by rw [Array.size_setIfInBounds]; exact hs) (fun k hk => ?_) ?_ ?_ hI'
        · by_cases hk' : k = i
          · subst hk'
            simp [Array.getD, hs, hk]
          · have := hl k hk
            rw [getD_set_ne true (Ne.symm hk')]
            simp [hk', this]
        · have := unlisted_step ops.size i done hlt hd
          omega
        · intro k ok hok hdk e he hb
          by_cases hk' : k = i
          · subst hk'
            rw [ho] at hok
            cases hok
            have hlt2 := hord k o ho e he
            have h3 := h2 e he hb
            have h4 := hl e.on (by omega)
            have h5 : e.on < listed.size := by omega
            simp only [Array.getD, h5, dite_true] at h3 h4
            have : done e.on = true := by rw [← h4]; exact h3
            simp [this]
          · have := hcl k ok hok (by simpa [hk'] using hdk) e he hb
            simp [this]
      · have hlt2 := hord i o ho e he
        have h3 := h2 e he hb
        have h4 := hl e.on (by omega)
        have h5 : e.on < listed.size := by omega
        simp only [Array.getD, h5, dite_true] at h3 h4
        rw [← h4]
        exact h3
  refine key _ _ (fun _ => false) a _ (by simp) (fun i hi => ?_) ?_ (fun i o _ h => by cases h) h0
  · simp [Array.getD, hi]
  · unfold unlisted; exact Nat.le_trans (List.length_filter_le _ _) (by simp)

theorem wp_region_inv2 {P : Program} {ops : Array Oper} {Q : Exit → Act → World → Prop} {id : Nat} {a : Act} {w : World} (hm : P.follows .mixedOrders = true)
    (hord : ∀ (i : Nat) (o : Oper), ops[i]? = some o → ∀ e ∈ o.after, Region.binds .any e = true → e.on < i) (I : (Nat → Bool) → Act → World → Prop) (h0 : I (fun _ => false) a w.drew)
    (hstep : ∀ (done : Nat → Bool) (a : Act) (w : World) (i : Nat) (o : Oper), ops[i]? = some o → done i = false → (∀ e ∈ o.after, Region.binds .any e = true → done e.on = true) → Closed ops done → I done a w →
      wpOp P ops Q i (I (fun k => decide (k = i) || done k)) a w)
    (hend : ∀ (done : Nat → Bool) (a : Act) (w : World), (∀ i, i < ops.size → done i = true) → I done a w → Q .normal a w) : (Code.region id ops true).wp P Q a w := by
  refine wp_region_any hm ?_
  have hall : ∀ (listed : Array Bool) (done : Nat → Bool), listed.size = ops.size → (∀ i, i < ops.size → listed.getD i true = done i) → Region.ready .any ops listed = [] → ∀ i, i < ops.size → done i = true := by
    intro listed done hs hl hr
    intro i
    induction i using Nat.strongRecOn with
    | _ i ih =>
      intro hi
      cases hd : done i with
      | true => rfl
      | false =>
        exfalso
        have hmem : i ∈ Region.ready .any ops listed := by
          rw [mem_ready]
          refine ⟨by rw [hl i hi, hd], ops[i], Array.getElem?_eq_getElem hi, fun e he hb => ?_⟩
          have hlt := hord i _ (Array.getElem?_eq_getElem hi) e he hb
          have h1 := ih e.on hlt (by omega)
          have h2 := hl e.on (by omega)
          rw [h1] at h2
          have h3 : e.on < listed.size := by omega
          simp only [Array.getD, h3, dite_true] at h2 ⊢
          exact h2
        rw [hr] at hmem
        cases hmem
  have key : ∀ (fuel : Nat) (listed : Array Bool) (done : Nat → Bool) (a : Act) (w : World), listed.size = ops.size → (∀ i, i < ops.size → listed.getD i true = done i) → unlisted ops.size done ≤ fuel → Closed ops done → I done a w → wpAny P .any ops Q fuel listed a w := by
    intro fuel
    induction fuel with
    | zero =>
      intro listed done a w hs hl hu hcl hI
      have hd := unlisted_zero ops.size done (by omega)
      refine ⟨?_, hend done a w hd hI⟩
      rw [List.eq_nil_iff_forall_not_mem]
      intro j hj
      obtain ⟨h1, o, ho, _⟩ := mem_ready.1 hj
      have hlt : j < ops.size := (Array.getElem?_eq_some_iff.1 ho).1
      rw [hl j hlt, hd j hlt] at h1
      cases h1
    | succ fuel ih =>
      intro listed done a w hs hl hu hcl hI
      refine ⟨fun hr => hend done a w (hall listed done hs hl hr) hI, fun i hi => ?_⟩
      obtain ⟨h1, o, ho, h2⟩ := mem_ready.1 hi
      have hlt : i < ops.size := (Array.getElem?_eq_some_iff.1 ho).1
      have hd : done i = false := by rw [← hl i hlt]; exact h1
      refine wpOp_mono ?_ (hstep done a w i o ho hd (fun e he hb => ?_) hcl hI)
      · intro a' w' hI'
        refine ih _ _ a' w' (by rw [Array.size_setIfInBounds]; exact hs) (fun k hk => ?_) ?_ ?_ hI'
        · by_cases hk' : k = i
          · subst hk'
            simp [Array.getD, hs, hk]
          · have := hl k hk
            rw [getD_set_ne true (Ne.symm hk')]
            simp [hk', this]
        · have := unlisted_step ops.size i done hlt hd
          omega
        · intro k ok hok hdk e he hb
          by_cases hk' : k = i
          · subst hk'
            rw [ho] at hok
            cases hok
            have hlt2 := hord k o ho e he hb
            have h3 := h2 e he hb
            have h4 := hl e.on (by omega)
            have h5 : e.on < listed.size := by omega
            simp only [Array.getD, h5, dite_true] at h3 h4
            have : done e.on = true := by rw [← h4]; exact h3
            simp [this]
          · have := hcl k ok hok (by simpa [hk'] using hdk) e he hb
            simp [this]
      · have hlt2 := hord i o ho e he hb
        have h3 := h2 e he hb
        have h4 := hl e.on (by omega)
        have h5 : e.on < listed.size := by omega
        simp only [Array.getD, h5, dite_true] at h3 h4
        rw [← h4]
        exact h3
  refine key _ _ (fun _ => false) a _ (by simp) (fun i hi => ?_) ?_ (fun i o _ h => by cases h) h0
  · simp [Array.getD, hi]
  · unfold unlisted; exact Nat.le_trans (List.length_filter_le _ _) (by simp)

theorem hord_of2 {ops : Array Oper} (h : (ops.toList.zipIdx.all fun x => x.1.after.all fun e => !Region.binds .any e || decide (e.on < x.2)) = true) : ∀ (i : Nat) (o : Oper), ops[i]? = some o → ∀ e ∈ o.after, Region.binds .any e = true → e.on < i := by
  intro i o ho e he hb
  rw [List.all_eq_true] at h
  have hm : (o, i) ∈ ops.toList.zipIdx := by
    rw [List.mem_zipIdx_iff_getElem?]
    simpa using ho
  have h2 := h _ hm
  rw [Array.all_eq_true_iff_forall_mem] at h2
  have h3 := h2 e he
  rw [hb] at h3
  simpa using h3

/-- One operation of a region whose order is open, its run known. -/
theorem wpOp_val {P : Program} {ops : Array Oper} {Q : Exit → Act → World → Prop} {i : Nat} {o : Oper} {K : Act → World → Prop} {a : Act} {w w' : World} {v : Value} (ho : ops[i]? = some o) (hg : o.guard = none)
    (hrun : (execOp a.eval o).run P w = .ok (.value v) w') (hK : K (a.put o.dst v) w') : wpOp P ops Q i K a w := by
  unfold wpOp
  rw [ho]
  simp only [Region.wanted, hg, if_true]
  left
  unfold Oper.wp
  rw [hrun]
  exact hK

/-- One operation without a value in a region whose order is open, its run known. -/
theorem wpOp_skip {P : Program} {ops : Array Oper} {Q : Exit → Act → World → Prop} {i : Nat} {o : Oper} {K : Act → World → Prop} {a : Act} {w w' : World} (ho : ops[i]? = some o) (hg : o.guard = none)
    (hrun : (execOp a.eval o).run P w = .ok .skip w') (hK : K (a.put o.dst undef) w') : wpOp P ops Q i K a w := by
  unfold wpOp
  rw [ho]
  simp only [Region.wanted, hg, if_true]
  left
  unfold Oper.wp
  rw [hrun]
  exact hK

/-- An append in a region whose order is open, its run known. -/
theorem wpOp_append {P : Program} {ops : Array Oper} {Q : Exit → Act → World → Prop} {i : Nat} {o : Oper} {K : Act → World → Prop} {a : Act} {w w' : World} {v vx v' : Value} (ho : ops[i]? = some o) (hg : o.guard = none) (s x : Operand) (t : TypeId)
    (hop : o.op = .call { callee := .builtin .append, args := #[s, x], argTypes := #[t, t] }) (hs : a.eval s = v) (hx : a.eval x = vx) (hrun : (Builtin.append_ #[t, t] o.type #[v, vx]).run P w = .ok v' w') (hK : K (a.put o.dst v') w') : wpOp P ops Q i K a w := by
  refine wpOp_val ho hg ?_ hK
  unfold execOp
  simp only [hop, resolve, invoke, builtin, Sem.run_bind, Sem.run_pure, Result.andThen_ok, List.map_toArray, List.map_cons, List.map_nil, hs, hx, hrun]

/-- A call in a region whose order is open, by its contract. -/
theorem wpOp_call {P : Program} {ops : Array Oper} {Q : Exit → Act → World → Prop} {i : Nat} {o : Oper} {K : Act → World → Prop} {a : Act} {w : World} (ho : ops[i]? = some o) (hg : o.guard = none) {f : FuncId} {args : Array Value}
    (hrun : (execOp a.eval o).run P w = .ok (.enter f args) w) {R : Ending → World → Prop} (hc : Calls P f args w R) (hR : ∀ e w', R e w' → ∃ v, e = .returned v ∧ K (a.put o.dst v) w') : wpOp P ops Q i K a w := by
  unfold wpOp
  rw [ho]
  simp only [Region.wanted, hg, if_true]
  left
  unfold Oper.wp
  rw [hrun]
  refine hc.mono ?_
  intro e w' h
  obtain ⟨v, rfl, hk⟩ := hR e w' h
  exact hk

/-- One operation, its guard says that it runs, its run known. -/
theorem wpOp_valW {P : Program} {ops : Array Oper} {Q : Exit → Act → World → Prop} {i : Nat} {o : Oper} {K : Act → World → Prop} {a : Act} {w w' : World} {v : Value} (ho : ops[i]? = some o) (hg : Region.wanted o (yielded ops a.tmps) = true)
    (hrun : (execOp a.eval o).run P w = .ok (.value v) w') (hK : K (a.put o.dst v) w') : wpOp P ops Q i K a w := by
  unfold wpOp
  rw [ho]
  simp only [hg, if_true]
  left
  unfold Oper.wp
  rw [hrun]
  exact hK

/-- One operation whose guard says that it does not run. -/
theorem wpOp_pass {P : Program} {ops : Array Oper} {Q : Exit → Act → World → Prop} {i : Nat} {o : Oper} {K : Act → World → Prop} {a : Act} {w : World} (ho : ops[i]? = some o) (hg : Region.wanted o (yielded ops a.tmps) = false)
    (hK : K (a.put o.dst undef) w) : wpOp P ops Q i K a w := by
  unfold wpOp
  rw [ho]
  simp only [hg, Bool.false_eq_true, if_false]
  exact hK

/-- A call, its guard says that it runs, by its contract. -/
theorem wpOp_callW {P : Program} {ops : Array Oper} {Q : Exit → Act → World → Prop} {i : Nat} {o : Oper} {K : Act → World → Prop} {a : Act} {w : World} (ho : ops[i]? = some o) (hg : Region.wanted o (yielded ops a.tmps) = true) {f : FuncId} {args : Array Value}
    (hrun : (execOp a.eval o).run P w = .ok (.enter f args) w) {R : Ending → World → Prop} (hc : Calls P f args w R) (hR : ∀ e w', R e w' → ∃ v, e = .returned v ∧ K (a.put o.dst v) w') : wpOp P ops Q i K a w := by
  unfold wpOp
  rw [ho]
  simp only [hg, if_true]
  left
  unfold Oper.wp
  rw [hrun]
  refine hc.mono ?_
  intro e w' h
  obtain ⟨v, rfl, hk⟩ := hR e w' h
  exact hk

end Go.Ice
end

section
set_option linter.unusedVariables false
namespace Go.Ice

/-- A frame in which some of the table's values are put. -/
def putT (done : Nat → Bool) : List (Nat × Nat × Value) → Act → Act
  | [], a => a
  | (i, d, v) :: r, a => if done i then putT done r (a.put (some d) v) else putT done r a
/-- What a slot holds then. -/
def lookT (done : Nat → Bool) (s : Nat) (x : Value) : List (Nat × Nat × Value) → Value
  | [] => x
  | (i, d, v) :: r => if d = s then (if done i then v else x) else lookT done s x r
/-- All are put. -/
def putAll : List (Nat × Nat × Value) → Act → Act
  | [], a => a
  | (_, d, v) :: r, a => putAll r (a.put (some d) v)
def dstsOf (ops : Array Oper) : List (Nat × Nat) := ops.toList.zipIdx.filterMap fun x => x.1.dst.map fun d => (x.2, d)
def fitsT (tbl : List (Nat × Nat × Value)) (n : Nat) : Bool := tbl.all fun x => decide (x.2.1 < n)
def apartT : List (Nat × Nat × Value) → Bool
  | [] => true
  | x :: r => (r.all fun y => decide (y.2.1 ≠ x.2.1) && decide (y.1 ≠ x.1)) && apartT r

theorem size_put (a : Act) (d : Option Tmp) (v : Value) : (a.put d v).tmps.size = a.tmps.size := by cases d <;> simp [Act.put]
theorem eval_put_self {a : Act} {d : Nat} {v : Value} (h : d < a.tmps.size) : (a.put (some d) v).eval (.tmp d) = v := by simp [Act.eval, Act.put, h]
theorem eval_put_ne {a : Act} {d s : Nat} {v : Value} (h : d ≠ s) : (a.put (some d) v).eval (.tmp s) = a.eval (.tmp s) := Act.eval_put fun d' e => by cases e; intro q; cases q; exact h rfl
theorem tmps_put_self {a : Act} {d : Nat} {v : Value} (h : d < a.tmps.size) : (a.put (some d) v).tmps[d]? = some v := by simp [Act.put, h]
theorem tmps_put_ne {a : Act} {d s : Nat} {v : Value} (h : d ≠ s) : (a.put (some d) v).tmps[s]? = a.tmps[s]? := by simp [Act.put, Array.getElem?_setIfInBounds_ne h]

theorem putT_keep (done : Nat → Bool) (s : Nat) : ∀ (tbl : List (Nat × Nat × Value)) (a : Act), (∀ x ∈ tbl, x.2.1 ≠ s) → (putT done tbl a).eval (.tmp s) = a.eval (.tmp s) ∧ (putT done tbl a).tmps[s]? = a.tmps[s]?
  | [], a, _ => ⟨rfl, rfl⟩
  | (i, d, v) :: r, a, h => by
    have h1 : d ≠ s := h (i, d, v) (by simp)
    unfold putT
    split
    · rw [(putT_keep done s r _ fun x hx => h x (by simp [hx])).1, (putT_keep done s r _ fun x hx => h x (by simp [hx])).2]
      exact ⟨eval_put_ne h1, tmps_put_ne h1⟩
    · exact putT_keep done s r _ fun x hx => h x (by simp [hx])
theorem putT_look (done : Nat → Bool) (s : Nat) : ∀ (tbl : List (Nat × Nat × Value)) (a : Act), apartT tbl = true → fitsT tbl a.tmps.size = true →
    (putT done tbl a).eval (.tmp s) = lookT done s (a.eval (.tmp s)) tbl ∧ (putT done tbl a).tmps[s]? = (a.tmps[s]?).map fun x => lookT done s x tbl
  | [], a, _, _ => ⟨rfl, by simp [putT, lookT]⟩
  | (i, d, v) :: r, a, ha, hf => by
    simp only [apartT, Bool.and_eq_true] at ha
    simp only [fitsT, List.all_cons, Bool.and_eq_true, decide_eq_true_eq] at hf
    have hf' : ∀ b : Act, b.tmps.size = a.tmps.size → fitsT r b.tmps.size = true := fun b hb => by rw [hb]; exact hf.2
    have hne : ∀ x ∈ r, x.2.1 ≠ d := fun x hx => by have := List.all_eq_true.1 ha.1 x hx; simp only [Bool.and_eq_true, decide_eq_true_eq] at this; exact this.1
    unfold putT lookT
    by_cases hs : d = s
    · subst hs
      simp only [if_true]
      split
      · rw [(putT_keep done d r _ hne).1, (putT_keep done d r _ hne).2]
        refine ⟨eval_put_self hf.1, ?_⟩
        rw [tmps_put_self hf.1, Array.getElem?_eq_getElem hf.1]; rfl
      · rw [(putT_keep done d r _ hne).1, (putT_keep done d r _ hne).2]
        exact ⟨rfl, by simp⟩
    · simp only [if_neg hs]
      split
      · rw [(putT_look done s r _ ha.2 (hf' _ (size_put _ _ _))).1, (putT_look done s r _ ha.2 (hf' _ (size_put _ _ _))).2, eval_put_ne hs, tmps_put_ne hs]
        exact ⟨rfl, rfl⟩
      · exact putT_look done s r a ha.2 (hf' _ rfl)
theorem putT_comm (done : Nat → Bool) (s : Nat) (u : Value) : ∀ (tbl : List (Nat × Nat × Value)) (a : Act), (∀ x ∈ tbl, x.2.1 ≠ s) → putT done tbl (a.put (some s) u) = (putT done tbl a).put (some s) u
  | [], a, _ => rfl
  | (i, d, v) :: r, a, h => by
    have h1 : d ≠ s := h (i, d, v) (by simp)
    unfold putT
    split
    · rw [← putT_comm done s u r _ fun x hx => h x (by simp [hx]), Act.put_comm a v u (x := some d) (y := some s) (by intro e he q; cases he; cases q; exact h1 rfl)]
    · exact putT_comm done s u r _ fun x hx => h x (by simp [hx])
theorem putT_congr {f g : Nat → Bool} : ∀ (tbl : List (Nat × Nat × Value)) (a : Act), (∀ x ∈ tbl, f x.1 = g x.1) → putT f tbl a = putT g tbl a
  | [], a, _ => rfl
  | (i, d, v) :: r, a, h => by
    unfold putT
    rw [h (i, d, v) (by simp), putT_congr r _ fun x hx => h x (by simp [hx]), putT_congr r _ fun x hx => h x (by simp [hx])]
theorem putT_step {done : Nat → Bool} {j s : Nat} {u : Value} : ∀ (tbl : List (Nat × Nat × Value)) (a : Act), apartT tbl = true → (j, s, u) ∈ tbl → done j = false →
    (putT done tbl a).put (some s) u = putT (fun k => decide (k = j) || done k) tbl a
  | (i, d, v) :: r, a, ha, hm, hd => by
    simp only [apartT, Bool.and_eq_true] at ha
    have hne : ∀ x ∈ r, x.2.1 ≠ d ∧ x.1 ≠ i := fun x hx => by have := List.all_eq_true.1 ha.1 x hx; simpa only [Bool.and_eq_true, decide_eq_true_eq] using this
    rcases List.mem_cons.1 hm with e | hm
    · cases e
      unfold putT
      simp only [hd, decide_true, Bool.true_or, if_true, Bool.false_eq_true, if_false]
      rw [← putT_comm done s u r a fun x hx => (hne x hx).1]
      exact putT_congr r _ fun x hx => by simp [(hne x hx).2]
    · have hji : i ≠ j := fun e => (hne _ hm).2 e.symm
      unfold putT
      have e2 : (decide (i = j) || done i) = done i := by simp [hji]
      simp only [e2]
      split
      · exact putT_step r _ ha.2 hm hd
      · exact putT_step r _ ha.2 hm hd
theorem putT_none (tbl : List (Nat × Nat × Value)) (a : Act) : putT (fun _ => false) tbl a = a := by
  induction tbl generalizing a with
  | nil => rfl
  | cons x r ih => obtain ⟨i, d, v⟩ := x; unfold putT; simp only [Bool.false_eq_true, if_false]; exact ih a
theorem putT_all {done : Nat → Bool} : ∀ (tbl : List (Nat × Nat × Value)) (a : Act), (∀ x ∈ tbl, done x.1 = true) → putT done tbl a = putAll tbl a
  | [], a, _ => rfl
  | (i, d, v) :: r, a, h => by
    unfold putT putAll
    rw [h (i, d, v) (by simp), if_pos rfl]
    exact putT_all r _ fun x hx => h x (by simp [hx])

theorem dstsOf_mem {ops : Array Oper} {i : Nat} {o : Oper} {d : Nat} (ho : ops[i]? = some o) (hd : o.dst = some d) : (i, d) ∈ dstsOf ops := by
  unfold dstsOf
  refine List.mem_filterMap.2 ⟨(o, i), ?_, by simp [hd]⟩
  rw [List.mem_zipIdx_iff_getElem?]
  simpa using ho
theorem dstsOf_lt {ops : Array Oper} {i d : Nat} (h : (i, d) ∈ dstsOf ops) : i < ops.size := by
  unfold dstsOf at h
  obtain ⟨⟨o, k⟩, hk, he⟩ := List.mem_filterMap.1 h
  rw [List.mem_zipIdx_iff_getElem?] at hk
  cases hdd : o.dst with
  | none => simp [hdd] at he
  | some e =>
    simp [hdd] at he
    obtain ⟨rfl, _⟩ := he
    have := (List.getElem?_eq_some_iff.1 hk).1
    simpa using this

/-- What one operation has to show: its run, in whatever frame that holds what it needs. -/
structure AtT (tbl : List (Nat × Nat × Value)) (done : Nat → Bool) (a b : Act) : Prop where
  ev : ∀ s, b.eval (.tmp s) = lookT done s (a.eval (.tmp s)) tbl
  tm : ∀ s, b.tmps[s]? = (a.tmps[s]?).map fun x => lookT done s x tbl

theorem wp_region_tbl {P : Program} {ops : Array Oper} {Q : Exit → Act → World → Prop} {id : Nat} {a : Act} {w : World} (tbl : List (Nat × Nat × Value)) (J : (Nat → Bool) → World → Prop) (hm : P.follows .mixedOrders = true)
    (hord : ∀ (i : Nat) (o : Oper), ops[i]? = some o → ∀ e ∈ o.after, Region.binds .any e = true → e.on < i) (ht : (tbl.map fun x => (x.1, x.2.1)) = dstsOf ops) (ha : apartT tbl = true) (hf : fitsT tbl a.tmps.size = true) (h0 : J (fun _ => false) w.drew)
    (hstep : ∀ (done : Nat → Bool) (b : Act) (W : World) (i : Nat) (o : Oper), ops[i]? = some o → done i = false → (∀ e ∈ o.after, Region.binds .any e = true → done e.on = true) → Closed ops done → AtT tbl done a b → J done W →
      ∃ v, (∀ d, o.dst = some d → (i, d, v) ∈ tbl) ∧ wpOp P ops Q i (fun a' W' => a' = b.put o.dst v ∧ J (fun k => decide (k = i) || done k) W') b W)
    (hend : ∀ (done : Nat → Bool) (W : World), (∀ i, i < ops.size → done i = true) → J done W → Q .normal (putAll tbl a) W) : (Code.region id ops true).wp P Q a w := by
  refine wp_region_inv2 hm hord (fun done b W => b = putT done tbl a ∧ J done W) ⟨(putT_none tbl a).symm, h0⟩ ?_ ?_
  · rintro done b W i o ho hd hdep hcl ⟨rfl, hJ⟩
    obtain ⟨v, hv, hw⟩ := hstep done _ W i o ho hd hdep hcl ⟨fun s => (putT_look done s tbl a ha hf).1, fun s => (putT_look done s tbl a ha hf).2⟩ hJ
    refine wpOp_mono ?_ hw
    rintro a' W' ⟨rfl, hJ'⟩
    refine ⟨?_, hJ'⟩
    cases hdst : o.dst with
    | none =>
      show putT done tbl a = _
      refine putT_congr tbl a fun x hx => ?_
      have hx' : (x.1, x.2.1) ∈ dstsOf ops := by rw [← ht]; exact List.mem_map.2 ⟨x, hx, rfl⟩
      have : x.1 ≠ i := by
        intro e
        rw [e] at hx'
        unfold dstsOf at hx'
        obtain ⟨⟨o', k⟩, hk, he⟩ := List.mem_filterMap.1 hx'
        rw [List.mem_zipIdx_iff_getElem?] at hk
        cases hdd : o'.dst with
        | none => simp [hdd] at he
        | some e' =>
          simp [hdd] at he
          obtain ⟨rfl, _⟩ := he
          have : o' = o := by
            have h1 : ops[k]? = some o' := by simpa using hk
            rw [ho] at h1; exact (Option.some.inj h1).symm
          rw [this, hdst] at hdd; cases hdd
      simp [this]
    | some d => exact putT_step tbl a ha (hv d hdst) hd
  · rintro done b W hall ⟨rfl, hJ⟩
    have := hend done W hall hJ
    rw [← putT_all (done := done) tbl a fun x hx => hall x.1 (dstsOf_lt (by rw [← ht]; exact List.mem_map.2 ⟨x, hx, rfl⟩))] at this
    exact this

section
variable {P : Program} {ops : Array Oper} {Q : Exit → Act → World → Prop} {i : Nat} {o : Oper} {b : Act} {W : World} {tbl : List (Nat × Nat × Value)} {J : World → Prop}
theorem valT {W' : World} (v : Value) (ho : ops[i]? = some o) (hg : Region.wanted o (yielded ops b.tmps) = true) (hrun : (execOp b.eval o).run P W = .ok (.value v) W') (hm : ∀ d, o.dst = some d → (i, d, v) ∈ tbl) (hJ : J W') :
    ∃ v, (∀ d, o.dst = some d → (i, d, v) ∈ tbl) ∧ wpOp P ops Q i (fun a' W' => a' = b.put o.dst v ∧ J W') b W :=
  ⟨v, hm, wpOp_valW ho hg hrun ⟨rfl, hJ⟩⟩
theorem passT (ho : ops[i]? = some o) (hg : Region.wanted o (yielded ops b.tmps) = false) (hm : ∀ d, o.dst = some d → (i, d, undef) ∈ tbl) (hJ : J W) :
    ∃ v, (∀ d, o.dst = some d → (i, d, v) ∈ tbl) ∧ wpOp P ops Q i (fun a' W' => a' = b.put o.dst v ∧ J W') b W :=
  ⟨undef, hm, wpOp_pass ho hg ⟨rfl, hJ⟩⟩
theorem callT {f : FuncId} {args : Array Value} {R : Ending → World → Prop} (v : Value) (ho : ops[i]? = some o) (hg : Region.wanted o (yielded ops b.tmps) = true) (hrun : (execOp b.eval o).run P W = .ok (.enter f args) W) (hc : Calls P f args W R) (hm : ∀ d, o.dst = some d → (i, d, v) ∈ tbl)
    (hR : ∀ e w', R e w' → e = .returned v ∧ J w') : ∃ v, (∀ d, o.dst = some d → (i, d, v) ∈ tbl) ∧ wpOp P ops Q i (fun a' W' => a' = b.put o.dst v ∧ J W') b W :=
  ⟨v, hm, wpOp_callW ho hg hrun hc fun e w' h => ⟨v, (hR e w' h).1, rfl, (hR e w' h).2⟩⟩
end
/-- An append in a region whose order is open, as an arm of the kit's region tactics: its run known. -/
theorem step_append_eq {P : Program} {ops : Array Oper} {o : Oper} {a : Act} {w : World} {K : Act → World → Prop} {Q : Exit → Act → World → Prop} {E : Prop} (hgd : o.guard = none) (s x : Operand) (t : TypeId)
    (ho : o.op = .call { callee := .builtin .append, args := #[s, x], argTypes := #[t, t] }) {v vx v' : Value} {w' : World} (hs : a.eval s = v) (hx : a.eval x = vx) (hrun : (Builtin.append_ #[t, t] o.type #[v, vx]).run P w = .ok v' w') (hK : K (a.put o.dst v') w') :
    if Region.wanted o (yielded ops a.tmps) = true then Oper.wp P o a w K Q else E := by
  have hw : Region.wanted o (yielded ops a.tmps) = true := by simp [Region.wanted, hgd]
  rw [if_pos hw]
  unfold Oper.wp execOp
  simp only [ho, resolve, invoke, builtin, Sem.run_bind, Sem.run_pure, Result.andThen_ok, List.map_toArray, List.map_cons, List.map_nil, hs, hx, hrun]
  exact hK
end Go.Ice
end

section
set_option linter.unusedVariables false
namespace Go.Ice
open Go.RowKit
section
variable {P : Program} {ops : Array Oper} {Q : Exit → Act → World → Prop} {i : Nat} {o : Oper} {b : Act} {W : World} {tbl : List (Nat × Nat × Value)} {J : World → Prop}
theorem skipT {W' : World} (ho : ops[i]? = some o) (hg : o.guard = none) (hd : o.dst = none) (hrun : (execOp b.eval o).run P W = .ok .skip W') (hJ : J W') :
    ∃ v, (∀ d, o.dst = some d → (i, d, v) ∈ tbl) ∧ wpOp P ops Q i (fun a' W' => a' = b.put o.dst v ∧ J W') b W :=
  ⟨undef, fun d h => (by rw [hd] at h; cases h), wpOp_skip ho hg hrun ⟨rfl, hJ⟩⟩
theorem appT {W' : World} {v vx v' : Value} (ho : ops[i]? = some o) (hg : o.guard = none) (s x : Operand) (t : TypeId) (hop : o.op = .call { callee := .builtin .append, args := #[s, x], argTypes := #[t, t] }) (hs : b.eval s = v) (hx : b.eval x = vx)
    (hrun : (Builtin.append_ #[t, t] o.type #[v, vx]).run P W = .ok v' W') (hm : ∀ d, o.dst = some d → (i, d, v') ∈ tbl) (hJ : J W') :
    ∃ v, (∀ d, o.dst = some d → (i, d, v) ∈ tbl) ∧ wpOp P ops Q i (fun a' W' => a' = b.put o.dst v ∧ J W') b W :=
  ⟨v', hm, wpOp_append ho hg s x t hop hs hx hrun ⟨rfl, hJ⟩⟩
end
end Go.Ice
end
