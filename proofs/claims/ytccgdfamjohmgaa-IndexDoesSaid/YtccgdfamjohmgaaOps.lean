/- The laws' helpers few, kind and same; a list of ops in memory. Conditions: numbers fit their kinds; same: both lists are the same. -/
import Derived.Test.YtccgdfamjohmgaaHelp
import Derived.Test.YtccgdfamjohmgaaOpen
set_option linter.unusedVariables false
namespace Go.Proofs.Ytccgdfamjohmgaa
open Go.RowKit Go.Ice

structure OpV where
  kind : Int
  f : Nat
  a : Adr
instance : Inhabited Adr := ⟨⟨0, 0, 0⟩⟩
instance : Inhabited OpV := ⟨⟨0, 0, default⟩⟩
def OpV.fits (o : OpV) : Prop := (-9223372036854775808 ≤ o.kind ∧ o.kind ≤ 9223372036854775807) ∧ o.f ≤ 4294967295 ∧ o.a.fits
def OpV.cell (o : OpV) : Nat → Value
  | 0 => .int .i64 o.kind
  | 1 => .int .u32 o.f
  | 2 => .int .i64 o.a.seg
  | 3 => .int .u64 o.a.gen
  | _ => .int .i64 o.a.sec
def opV (o : OpV) : Value := .agg #[.int .i64 o.kind, .int .u32 o.f, .int .i64 o.a.seg, .int .u64 o.a.gen, .int .i64 o.a.sec]

/-- The slice v has n elements of c cells each: cell j of element i is X i j. -/
def RowAt (w : World) (c : Nat) (v : Value) (n : Nat) (X : Nat → Nat → Value) : Prop :=
  (n = 0 ∧ (v = .slice none 0 0 ∨ ∃ a cap, v = .slice (some a) 0 cap)) ∨
  (0 < n ∧ ∃ b off cap, v = .slice (some ⟨b, off, none⟩) n cap ∧ n ≤ cap ∧ cap ≤ maxLen ∧ b < w.heap.size ∧ ∀ i, i < n → ∀ j, j < c → w.cell? ⟨b, off + (i * c + j), none⟩ = some (X i j))

theorem RowAt.below {B c n : Nat} {w w' : World} {v : Value} {X : Nat → Nat → Value} (h : RowAt w c v n X) (hb : Below B w w') (hB : w.heap.size ≤ B) : RowAt w' c v n X := by
  rcases h with h | ⟨h0, b, off, cap, hv, h1, h2, h3, h4⟩
  · exact .inl h
  · refine .inr ⟨h0, b, off, cap, hv, h1, h2, by have := hb.size; omega, fun i hi j hj => ?_⟩
    rw [hb.cell (p := ⟨b, off + (i * c + j), none⟩) (by simp; omega)]
    exact h4 i hi j hj
theorem RowAt.form {c n : Nat} {w : World} {v : Value} {X : Nat → Nat → Value} (h : RowAt w c v n X) : ∃ a cap, v = .slice a n cap ∧ n ≤ maxLen := by
  rcases h with ⟨rfl, rfl | ⟨a, cap, rfl⟩⟩ | ⟨h0, b, off, cap, hv, h1, h2, h3, h4⟩
  · exact ⟨_, _, rfl, by decide⟩
  · exact ⟨_, _, rfl, by decide⟩
  · exact ⟨_, _, hv, by omega⟩
theorem RowAt.at {c n : Nat} {w : World} {v : Value} {X : Nat → Nat → Value} (h : RowAt w c v n X) (hn : 0 < n) : ∃ b off cap, v = .slice (some ⟨b, off, none⟩) n cap ∧ n ≤ cap ∧ cap ≤ maxLen ∧ b < w.heap.size ∧ ∀ i, i < n → ∀ j, j < c → w.cell? ⟨b, off + (i * c + j), none⟩ = some (X i j) := by
  rcases h with ⟨rfl, _⟩ | ⟨h0, h⟩
  · omega
  · exact h
theorem IsSlK.rowAt {w : World} {c n : Nat} {v : Value} {cs : List Value} (h : IsSlK w c n v cs) {X : Nat → Nat → Value} (hX : ∀ i, i < n → ∀ j, j < c → cs[i * c + j]? = some (X i j)) : RowAt w c v n X := by
  obtain ⟨hl, h⟩ := h
  rcases h with h | ⟨h0, b, off, cap, hv, h1, h2, h3, h4⟩
  · exact .inl h
  · refine .inr ⟨h0, b, off, cap, hv, h1, h2, h3, fun i hi j hj => ?_⟩
    have : i * c + j < cs.length := by
      rw [hl]
      calc i * c + j < i * c + c := by omega
        _ = (i + 1) * c := by rw [Nat.succ_mul]
        _ ≤ n * c := Nat.mul_le_mul_right c hi
    rw [h4 _ this, hX i hi j hj]
theorem adrCells_get (l : List Adr) (i : Nat) (hi : i < l.length) (j : Nat) (hj : j < 3) : (adrCells l)[i * 3 + j]? = some ((l.getD i default).cell j) := by
  induction l generalizing i with
  | nil => simp at hi
  | cons a l ih =>
    have e : adrCells (a :: l) = [.int .i64 a.seg, .int .u64 a.gen, .int .i64 a.sec] ++ adrCells l := rfl
    rw [e]
    cases i with
    | zero =>
      match j, hj with
      | 0, _ => rfl
      | 1, _ => rfl
      | 2, _ => rfl
    | succ i =>
      rw [List.getElem?_append_right (by simp; omega)]
      simp only [List.length_cons, List.length_nil]
      rw [show (i + 1) * 3 + j - (0 + 1 + 1 + 1) = i * 3 + j from by omega, ih i (by simpa using hi)]
      simp

def fewN (n : Nat) : Nat := min n 200
theorem RowAt.take {c n m : Nat} {w : World} {a : Option Addr} {cap : Nat} {X : Nat → Nat → Value} (h : RowAt w c (.slice a n cap) n X) (hm : m ≤ n) : RowAt w c (.slice a m cap) m X := by
  rcases h with ⟨rfl, h⟩ | ⟨h0, b, off, cap', hv, h1, h2, h3, h4⟩
  · obtain rfl : m = 0 := by omega
    exact .inl ⟨rfl, h⟩
  · cases hv
    rcases Nat.eq_zero_or_pos m with rfl | hm0
    · exact .inl ⟨rfl, .inr ⟨_, _, rfl⟩⟩
    · exact .inr ⟨hm0, b, off, cap, rfl, by omega, h2, h3, fun i hi => h4 i (by omega)⟩

theorem few (a : Option Addr) (n cap : Nat) (w : World) (X : Nat → Nat → Value) (h : RowAt w 5 (.slice a n cap) n X) :
    Calls Try.prog 10 #[.slice a n cap] w fun e w' => e = .returned (.slice a (fewN n) cap) ∧ w = w' := by
  obtain ⟨_, _, hv, hm⟩ := h.form
  have hcap : n ≤ cap := by
    rcases h with ⟨rfl, _⟩ | ⟨_, _, _, _, h1, h2, _⟩
    · omega
    · cases h1; exact h2
  unfold maxLen at hm
  unfold fewN
  clear h hv
  by_cases hn : n ≤ 200
  · rw [show min n 200 = n from by omega]
    go_enter Try.func10, Try.ntmps10
    go_wp2_with fail
    go_ret
    exact ⟨rfl, rfl⟩
  · rw [show min n 200 = 200 from by omega]
    go_enter Try.func10, Try.ntmps10
    go_wp2_with fail
    go_ret
    exact ⟨rfl, rfl⟩

def kindF (k : Int) : Int := let r := (IntKind.u64.wrap k) % 6; if r < 3 then 0 else r - 2

theorem kind (o : OpV) (w : World) : Calls Try.prog 11 #[opV o] w fun e w' => e = .returned (.int .i64 (kindF o.kind)) ∧ Below w.heap.size w w' := by
  have hb : Below w.heap.size w (w.alloc (.cells #[.int .i64 o.kind, .int .u32 o.f, .int .i64 o.a.seg, .int .u64 o.a.gen, .int .i64 o.a.sec] 34)) := (Below.refl _ w).alloc (Nat.le_refl _) _
  have HB := Lib.hid hb
  clear hb
  have h0 : 0 ≤ IntKind.u64.wrap o.kind := by rw [IntKind.wrap_u64]; omega
  have hr : (IntKind.u64.wrap o.kind).tmod 6 = (IntKind.u64.wrap o.kind) % 6 := Int.tmod_eq_emod_of_nonneg h0
  have hk : kindF o.kind = if (IntKind.u64.wrap o.kind) % 6 < 3 then 0 else (IntKind.u64.wrap o.kind) % 6 - 2 := rfl
  have h6 : (IntKind.u64.wrap o.kind) % 6 = 0 ∨ (IntKind.u64.wrap o.kind) % 6 = 1 ∨ (IntKind.u64.wrap o.kind) % 6 = 2 ∨ (IntKind.u64.wrap o.kind) % 6 = 3 ∨ (IntKind.u64.wrap o.kind) % 6 = 4 ∨ (IntKind.u64.wrap o.kind) % 6 = 5 := by omega
  have HK := Lib.hid hk
  clear hk
  unfold opV
  have i0 : ∀ w, (Instr.index 61 (.agg #[.int .i64 0, .int .i64 0, .int .i64 0, .int .i64 1, .int .i64 2, .int .i64 3]) (.int .u64 0)).run Try.prog w = .ok (.int .i64 0) w := fun _ => by kernel_rfl
  have i1 : ∀ w, (Instr.index 61 (.agg #[.int .i64 0, .int .i64 0, .int .i64 0, .int .i64 1, .int .i64 2, .int .i64 3]) (.int .u64 1)).run Try.prog w = .ok (.int .i64 0) w := fun _ => by kernel_rfl
  have i2 : ∀ w, (Instr.index 61 (.agg #[.int .i64 0, .int .i64 0, .int .i64 0, .int .i64 1, .int .i64 2, .int .i64 3]) (.int .u64 2)).run Try.prog w = .ok (.int .i64 0) w := fun _ => by kernel_rfl
  have i3 : ∀ w, (Instr.index 61 (.agg #[.int .i64 0, .int .i64 0, .int .i64 0, .int .i64 1, .int .i64 2, .int .i64 3]) (.int .u64 3)).run Try.prog w = .ok (.int .i64 1) w := fun _ => by kernel_rfl
  have i4 : ∀ w, (Instr.index 61 (.agg #[.int .i64 0, .int .i64 0, .int .i64 0, .int .i64 1, .int .i64 2, .int .i64 3]) (.int .u64 4)).run Try.prog w = .ok (.int .i64 2) w := fun _ => by kernel_rfl
  have i5 : ∀ w, (Instr.index 61 (.agg #[.int .i64 0, .int .i64 0, .int .i64 0, .int .i64 1, .int .i64 2, .int .i64 3]) (.int .u64 5)).run Try.prog w = .ok (.int .i64 3) w := fun _ => by kernel_rfl
  rcases h6 with h | h | h | h | h | h
  all_goals
    rw [h] at hr
    have HH := Lib.hid h
    clear h
    go_enter Try.func11, Try.ntmps11
    go_wp2_with fail
    go_ret
    exact ⟨by rw [HK.out, HH.out]; rfl, HB.out⟩

set_option maxHeartbeats 1000000 in
theorem same (w : World) (v1 v2 : Value) (l : List Adr) (h1 : RowAt w 3 v1 l.length fun i j => (l.getD i default).cell j) (h2 : RowAt w 3 v2 l.length fun i j => (l.getD i default).cell j) :
    Calls Try.prog 15 #[v1, v2] w fun e w' => e = .returned (.bool true) ∧ ∃ n, w' = w.drewN n := by
  rcases Nat.eq_zero_or_pos l.length with h0 | h0
  · have hl : l = [] := List.length_eq_zero_iff.1 h0
    subst hl
    obtain ⟨a, cap, rfl, _⟩ := h1.form
    obtain ⟨a', cap', rfl, _⟩ := h2.form
    have H0 := Lib.hid h0
    clear h0 h1 h2
    go_enter Try.func15, Try.ntmps15
    go_wp2_with fail
    refine wp_loop_rounds 1 ?_
    rw [rounds_succ]
    go_wp2_with fail
    go_ret
    exact ⟨rfl, 0, rfl⟩
  · obtain ⟨b, off, cap, rfl, g1, g2, g3, g4⟩ := h1.at h0
    obtain ⟨b', off', cap', rfl, g1', g2', g3', g4'⟩ := h2.at h0
    have HC := Lib.hid g4
    have HC' := Lib.hid g4'
    unfold maxLen at g2
    clear h1 h2 g4 g4' g2' g3 g3'
    obtain ⟨n, hn⟩ : ∃ n, n = l.length := ⟨_, rfl⟩
    rw [← hn] at g1 g1' h0 HC HC' ⊢
    clear hn
    go_enter Try.func15, Try.ntmps15
    go_wp2_with fail
    go_loopg [13] n (fun g iv wr => ∃ i m : Nat, g = n - i ∧ i ≤ n ∧ iv = .int .i64 i ∧ wr = w.drewN m)
    case atStart => exact ⟨0, 0, rfl, by omega, rfl, rfl⟩
    case round =>
      obtain ⟨i, m, rfl, hi, rfl, rfl⟩ := hrel
      by_cases hlt : i < n
      · have c0 := HC.out i hlt 0 (by decide)
        have c1 := HC.out i hlt 1 (by decide)
        have c2 := HC.out i hlt 2 (by decide)
        have d0 := HC'.out i hlt 0 (by decide)
        have d1 := HC'.out i hlt 1 (by decide)
        have d2 := HC'.out i hlt 2 (by decide)
        generalize l.getD i default = a at c0 c1 c2 d0 d1 d2
        simp only [Adr.cell, Nat.add_zero, ← Nat.add_assoc] at c0 c1 c2 d0 d1 d2
        go_wp2_with fail
        go_quiet (fail)
        go_wp2_with fail
        go_roundg (n - (i + 1))
        case measure => omega
        case rel => exact ⟨i + 1, _, rfl, by omega, by go_num, rfl⟩
      · go_wp2_with fail
        go_ret
        exact ⟨rfl, m, rfl⟩

section
open Go.ChangeShapes Go.WideShapes Go.Deep
variable {H : Type} {enc : TypeId × Value → H} {w : World} {base : Nat} {spare : Nat → Bool} {held : Bool}
theorem op_leaves {C : Nat → Option Value} (h : ∀ (j : Nat) (t' : TypeId), [3, 23, 3, 30, 3][j]? = some t' → ∃ u, C j = some u ∧ LeafAt enc Try.prog w base spare held t' u) :
    ∃ o : OpV, o.fits ∧ ∀ j, j < 5 → C j = some (o.cell j) := by
  obtain ⟨u0, e0, l0⟩ := h 0 3 rfl
  obtain ⟨u1, e1, l1⟩ := h 1 23 rfl
  obtain ⟨u2, e2, l2⟩ := h 2 3 rfl
  obtain ⟨u3, e3, l3⟩ := h 3 30 rfl
  obtain ⟨u4, e4, l4⟩ := h 4 3 rfl
  obtain ⟨n0, rfl, b0⟩ := l0.int Try.underlying3
  obtain ⟨n1, rfl, b1⟩ := l1.int Try.underlying23
  obtain ⟨n2, rfl, b2⟩ := l2.int Try.underlying3
  obtain ⟨n3, rfl, b3⟩ := l3.int Try.underlying30
  obtain ⟨n4, rfl, b4⟩ := l4.int Try.underlying3
  obtain ⟨c1, c1'⟩ := bounds_u32 b1
  obtain ⟨m1, rfl⟩ := Int.eq_ofNat_of_zero_le c1
  exact ⟨⟨n0, m1, ⟨n2, n3, n4⟩⟩, ⟨bounds_i64 b0, by show m1 ≤ _; omega, bounds_i64 b2, bounds_u64 b3, bounds_i64 b4⟩, fun j hj => by
    match j, hj with
    | 0, _ => exact e0
    | 1, _ => exact e1
    | 2, _ => exact e2
    | 3, _ => exact e3
    | 4, _ => exact e4⟩
theorem leaves34 : leavesOf Try.prog 3 34 = some [3, 23, 3, 30, 3] := by kernel_rfl
theorem open_ops {v : Value} {dd : DataW H} {ps : List MemPlace} {b0 : Nat} {r : Reach} (hv : Value.okWide Try.prog w r b0 22 v) (h : DataW.Trod enc Try.prog w base spare held 22 v dd ps) :
    ∃ (a : Option Addr) (n cap : Nat) (ops : Nat → OpV), v = .slice a n cap ∧ RowAt w 5 v n (fun i j => (ops i).cell j) ∧ ∀ i, i < n → (ops i).fits := by
  rcases open_flat_slice Try.underlying22 3 [3, 23, 3, 30, 3] leaves34 (by kernel_rfl) (by decide) hv h (F := Try.f3) (ds := []) with ⟨rfl, _⟩ | ⟨x, len, cap, _, _, rfl, _, _, h1, h2, h3⟩
  · exact ⟨none, 0, 0, fun _ => default, rfl, .inl ⟨rfl, .inl rfl⟩, fun i hi => by omega⟩
  · rcases Nat.eq_zero_or_pos len with rfl | h0
    · exact ⟨_, 0, cap, fun _ => default, rfl, .inl ⟨rfl, .inr ⟨_, _, rfl⟩⟩, fun i hi => by omega⟩
    · obtain ⟨b, off, rfl, hb, hc⟩ := h3 h0
      obtain ⟨ops, ho⟩ := choose_lt (α := OpV) (n := len) (p := fun i o => o.fits ∧ ∀ j, j < 5 → w.cell? ⟨b, off + (i * 5 + j), none⟩ = some (o.cell j)) (fun i hi => op_leaves (C := fun j => w.cell? ⟨b, off + (i * 5 + j), none⟩) (hc i hi))
      exact ⟨_, len, cap, ops, rfl, .inr ⟨h0, b, off, cap, rfl, h1, h2, hb, fun i hi => (ho i hi).2⟩, fun i hi => (ho i hi).1⟩
end
end Go.Proofs.Ytccgdfamjohmgaa
