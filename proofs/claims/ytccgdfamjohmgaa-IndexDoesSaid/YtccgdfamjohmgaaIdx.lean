/- The index in memory: what its blocks hold; the place of a finger's chain. Condition: between 1 and 1024 slots. -/
import Derived.Test.YtccgdfamjohmgaaBase
import Derived.Deep.QuietTactic
import Derived.BigQuiet
import Derived.BigRegion
import Derived.Deep.LoopGhost
import Derived.Outline
set_option linter.unusedVariables false
namespace Go.Proofs.Ytccgdfamjohmgaa
open Go.RowKit Go.Ice

structure Adr where
  seg : Int
  gen : Int
  sec : Int

def Adr.cell (a : Adr) : Nat → Value
  | 0 => .int .i64 a.seg
  | 1 => .int .u64 a.gen
  | _ => .int .i64 a.sec
def adrV (a : Adr) : Value := .agg #[.int .i64 a.seg, .int .u64 a.gen, .int .i64 a.sec]
def Adr.fits (a : Adr) : Prop := (-9223372036854775808 ≤ a.seg ∧ a.seg ≤ 9223372036854775807) ∧ (0 ≤ a.gen ∧ a.gen ≤ 18446744073709551615) ∧ (-9223372036854775808 ≤ a.sec ∧ a.sec ≤ 9223372036854775807)

structure IdxS where
  fng : Nat → Nat
  adr : Nat → Adr
  chain : Nat → Int
  ahead : Nat → Int
  next : Nat → Int
  heads : Nat → Int
  first : Int
  last : Int
  free : Int
  n : Nat

structure Lay where
  bx : Nat
  bf : Nat
  ba : Nat
  bc : Nat
  bh : Nat
  bn : Nat
  bd : Nat

def Lay.owns (L : Lay) (k : Nat) : Prop := k = L.bx ∨ k = L.bf ∨ k = L.ba ∨ k = L.bc ∨ k = L.bh ∨ k = L.bn ∨ k = L.bd

def slV (b N : Nat) : Value := .slice (some ⟨b, 0, none⟩) N N
def xcell (L : Lay) (N : Nat) (S : IdxS) : Nat → Value
  | 0 => slV L.bf N
  | 1 => slV L.ba N
  | 2 => slV L.bc N
  | 3 => slV L.bh N
  | 4 => slV L.bn N
  | 5 => slV L.bd N
  | 6 => .int .i64 S.first
  | 7 => .int .i64 S.last
  | 8 => .int .i64 S.free
  | _ => .int .i64 S.n
def iRow (X : Nat → Int) (k : Nat) : Value := .int .i64 (X k)
def fRow (X : Nat → Nat) (k : Nat) : Value := .int .u32 (X k)
def aRow (X : Nat → Adr) (k : Nat) : Value := (X (k / 3)).cell (k % 3)

structure Rep (w : World) (L : Lay) (N : Nat) (S : IdxS) : Prop where
  hN : 1 ≤ N ∧ N ≤ 1024
  x : Row w L.bx 60 10 (xcell L N S)
  f : Row w L.bf 23 N (fRow S.fng)
  a : Row w L.ba 32 (N * 3) (aRow S.adr)
  c : Row w L.bc 3 N (iRow S.chain)
  h : Row w L.bh 3 N (iRow S.ahead)
  nx : Row w L.bn 3 N (iRow S.next)
  d : Row w L.bd 3 N (iRow S.heads)
  nd : [L.bx, L.bf, L.ba, L.bc, L.bh, L.bn, L.bd].Nodup

theorem Rep.frm {w w' : World} {L : Lay} {N : Nat} {S : IdxS} {T : Nat → Prop} (h : Rep w L N S) (hf : Frm T w w') (ht : ∀ k, L.owns k → ¬ T k) : Rep w' L N S :=
  ⟨h.hN, h.x.frm hf (ht _ (.inl rfl)), h.f.frm hf (ht _ (.inr (.inl rfl))), h.a.frm hf (ht _ (.inr (.inr (.inl rfl)))), h.c.frm hf (ht _ (.inr (.inr (.inr (.inl rfl))))),
   h.h.frm hf (ht _ (.inr (.inr (.inr (.inr (.inl rfl)))))), h.nx.frm hf (ht _ (.inr (.inr (.inr (.inr (.inr (.inl rfl))))))), h.d.frm hf (ht _ (.inr (.inr (.inr (.inr (.inr (.inr rfl))))))), h.nd⟩
theorem Rep.lt {w : World} {L : Lay} {N : Nat} {S : IdxS} (h : Rep w L N S) : ∀ k, L.owns k → k < w.heap.size := by
  rintro k (rfl | rfl | rfl | rfl | rfl | rfl | rfl)
  · exact h.x.lt
  · exact h.f.lt
  · exact h.a.lt
  · exact h.c.lt
  · exact h.h.lt
  · exact h.nx.lt
  · exact h.d.lt
theorem Rep.below {w w' : World} {L : Lay} {N : Nat} {S : IdxS} (h : Rep w L N S) (hb : Below w.heap.size w w') : Rep w' L N S :=
  h.frm (frm_of_below hb) (fun k hk => by have := h.lt k hk; omega)

theorem drewN_below (w : World) (n : Nat) : Below w.heap.size w (w.drewN n) := ⟨rfl, rfl, rfl, Nat.le_refl _, fun _ _ => rfl⟩

theorem head (w : World) (L : Lay) (N : Nat) (S : IdxS) (f : Nat) (hf : f ≤ 4294967295) (h : Rep w L N S) :
    Calls Try.prog 25 #[.pointer (some ⟨L.bx, 0, none⟩), .int .u32 f] w fun e w' => e = .returned (.pointer (some ⟨L.bd, f % N, none⟩)) ∧ ∃ n, w' = w.drewN n := by
  obtain ⟨hN1, hN2⟩ := h.hN
  have hx5 : w.cell? ⟨L.bx, 5, none⟩ = some (.slice (some ⟨L.bd, 0, none⟩) N N) := h.x.cell (k := 5) (by decide)
  clear h
  have ht : IntKind.i64.wrap ((f : Int).tmod N) = ((f % N : Nat) : Int) := by
    rw [Int.tmod_eq_emod_of_nonneg (by omega), IntWalk.i64_in _ (by have := Int.emod_nonneg (f : Int) (show (N : Int) ≠ 0 by omega); have := Int.emod_lt_of_pos (f : Int) (show (0 : Int) < N by omega); omega)]
    rfl
  have hlt : f % N < N := Nat.mod_lt _ (by omega)
  go_enter Try.func25, Try.ntmps25
  go_wp2_with fail
  go_quiet (fail)
  go_wp2_with fail
  go_ret
  exact ⟨rfl, nq, rfl⟩

instance : DecidableEq Adr := fun a b => by
  cases a; cases b
  simp only [Adr.mk.injEq]
  exact inferInstance

/-- A place where the number of an entry stands: a finger's head, or an entry's link. -/
abbrev Loc := Bool × Nat
def Loc.addr (L : Lay) : Loc → Addr
  | (true, h) => ⟨L.bd, h, none⟩
  | (false, k) => ⟨L.bc, k, none⟩
def Loc.val (S : IdxS) : Loc → Int
  | (true, h) => S.heads h
  | (false, k) => S.chain k
def Loc.fits (N : Nat) (l : Loc) : Prop := l.2 < N

/-- The numbers that links lead along. -/
def Links (nx : Nat → Int) : Int → List Nat → Prop
  | s, [] => s = -1
  | s, k :: l => s = k ∧ Links nx (nx k) l

/-- Where the number stands that leads to an entry. -/
def locate (S : IdxS) (f : Nat) (a : Adr) : Loc → List Nat → Loc
  | p, [] => p
  | p, k :: l => if S.fng k = f ∧ S.adr k = a then p else locate S f a (false, k) l

/-- How two addresses agree, field by field, in the walk's own form. -/
def AdrTest (x y : Adr) (r : Bool) : Prop :=
  (r = true ∧ (x.seg == y.seg) = true ∧ (x.gen == y.gen) = true ∧ (x.sec == y.sec) = true) ∨
  (r = false ∧ ((x.seg == y.seg) = false ∨ ((x.seg == y.seg) = true ∧ ((x.gen == y.gen) = false ∨ ((x.gen == y.gen) = true ∧ (x.sec == y.sec) = false)))))
theorem adrTest (x y : Adr) : AdrTest x y (decide (x = y)) := by
  obtain ⟨a, b, c⟩ := x
  obtain ⟨d, e, f⟩ := y
  unfold AdrTest
  by_cases h1 : a = d <;> by_cases h2 : b = e <;> by_cases h3 : c = f <;> simp [h1, h2, h3]

theorem Rep.locCell {w : World} {L : Lay} {N : Nat} {S : IdxS} (h : Rep w L N S) (q : Loc) (hq : q.fits N) : w.cell? (q.addr L) = some (.int .i64 (q.val S)) := by
  obtain ⟨b, k⟩ := q
  cases b
  · exact h.c.cell hq
  · exact h.d.cell hq

theorem find (w : World) (L : Lay) (N : Nat) (S : IdxS) (f : Nat) (a : Adr) (l : List Nat) (hf : f ≤ 4294967295) (h : Rep w L N S) (hl : Links S.chain (S.heads (f % N)) l) (hlN : ∀ k ∈ l, k < N) :
    Calls Try.prog 24 #[.pointer (some ⟨L.bx, 0, none⟩), .int .u32 f, adrV a] w fun e w' => e = .returned (.pointer (some ((locate S f a (true, f % N) l).addr L))) ∧ Below w.heap.size w w' := by
  have hN := h.hN.1
  have hb0 : Below w.heap.size w (w.alloc (.cells #[.int .i64 a.seg, .int .u64 a.gen, .int .i64 a.sec] 32)) := (Below.refl _ w).alloc (Nat.le_refl _) _
  have hr := h.below hb0
  have hh := head _ L N S f hf hr
  have HH := Lib.hid hh
  have HR := Lib.hid hr
  have HB := Lib.hid hb0
  have HL := Lib.hid hl
  have HLN := Lib.hid hlN
  have c0 := World.cell?_alloc_mark w #[.int .i64 a.seg, .int .u64 a.gen, .int .i64 a.sec] 32 (0, 0) 0
  have c1 := World.cell?_alloc_mark w #[.int .i64 a.seg, .int .u64 a.gen, .int .i64 a.sec] 32 (0, 0) 1
  have c2 := World.cell?_alloc_mark w #[.int .i64 a.seg, .int .u64 a.gen, .int .i64 a.sec] 32 (0, 0) 2
  have C0 := Lib.hid c0
  have C1 := Lib.hid c1
  have C2 := Lib.hid c2
  clear h hl hlN hb0 hh c0 c1 c2 hr
  unfold adrV
  go_enter Try.func24, Try.ntmps24
  go_wp2_with fail
  go_step3
  go_wp2_with fail
  refine HH.out.mono ?_
  rintro e w1 ⟨rfl, n0, rfl⟩
  generalize hW : w.alloc (.cells #[.int .i64 a.seg, .int .u64 a.gen, .int .i64 a.sec] 32) = W at *
  have HW := Lib.hid hW
  clear hW HH
  go_wp2_with fail
  go_step3
  go_wp2_with fail
  go_loopg [7] l.length (fun g p wr => ∃ (q : Loc) (l' : List Nat) (n : Nat), g = l'.length ∧ p = .pointer (some (q.addr L)) ∧ q.fits N ∧ Links S.chain (q.val S) l' ∧ (∀ k ∈ l', k < N) ∧ locate S f a q l' = locate S f a (true, f % N) l ∧ wr = W.drewN n)
  case atStart => exact ⟨(true, f % N), l, n0, rfl, rfl, Nat.mod_lt _ (by omega), HL.out, HLN.out, rfl, rfl⟩
  case round =>
    obtain ⟨q, l', n, rfl, rfl, hq, hlk, hlk2, hloc, rfl⟩ := hrel
    have hcq := HR.out.locCell q hq
    have HLoc := Lib.hid hloc
    have HQ := Lib.hid hq
    clear hloc
    cases l' with
    | nil =>
      rw [show q.val S = -1 from hlk] at hcq
      clear hlk hlk2
      go_wp2_with fail
      rw [Exit.noGoto_ret]
      go_ret
      refine ⟨?_, HB.out.trans ⟨rfl, rfl, rfl, Nat.le_refl _, fun _ _ => rfl⟩⟩
      rw [← HLoc.out]
      rfl
    | cons k l' =>
      obtain ⟨hk, hlk⟩ := hlk
      rw [hk] at hcq
      have hkN := hlk2 k (by simp)
      have hlk3 : ∀ j ∈ l', j < N := fun j hj => hlk2 j (by simp [hj])
      have R := HR.out
      have hx0 : W.cell? ⟨L.bx, 0, none⟩ = some (.slice (some ⟨L.bf, 0, none⟩) N N) := R.x.cell (k := 0) (by decide)
      have hx1 : W.cell? ⟨L.bx, 1, none⟩ = some (.slice (some ⟨L.ba, 0, none⟩) N N) := R.x.cell (k := 1) (by decide)
      have hx2 : W.cell? ⟨L.bx, 2, none⟩ = some (.slice (some ⟨L.bc, 0, none⟩) N N) := R.x.cell (k := 2) (by decide)
      have hcf : W.cell? ⟨L.bf, k, none⟩ = some (.int .u32 (S.fng k)) := R.f.cell hkN
      have ha0 : W.cell? ⟨L.ba, k * 3, none⟩ = some (.int .i64 (S.adr k).seg) := by
        have := R.a.cell (k := k * 3) (by omega)
        simpa [aRow, Adr.cell] using this
      have ha1 : W.cell? ⟨L.ba, k * 3 + 1, none⟩ = some (.int .u64 (S.adr k).gen) := by
        have := R.a.cell (k := k * 3 + 1) (by omega)
        simpa [aRow, show (k * 3 + 1) / 3 = k by omega, show (k * 3 + 1) % 3 = 1 by omega, Adr.cell] using this
      have ha2 : W.cell? ⟨L.ba, k * 3 + 2, none⟩ = some (.int .i64 (S.adr k).sec) := by
        have := R.a.cell (k := k * 3 + 2) (by omega)
        simpa [aRow, show (k * 3 + 2) / 3 = k by omega, show (k * 3 + 2) % 3 = 2 by omega, Adr.cell] using this
      have HLK := Lib.hid hlk
      have HLK3 := Lib.hid hlk3
      have HK := Lib.hid hk
      clear hlk hlk2 hlk3 R hk
      by_cases hf1 : S.fng k = f
      · have hfe : ((S.fng k : Int) == (f : Int)) = true := beq_iff_eq.2 (by omega)
        have HF1 := Lib.hid hf1
        have c0 := C0.out
        have c1 := C1.out
        have c2 := C2.out
        simp only [List.getElem?_toArray, List.getElem?_cons_zero, List.getElem?_cons_succ] at c0 c1 c2
        clear hf1
        rcases adrTest (S.adr k) a with ⟨he, e1, e2, e3⟩ | ⟨he, hd⟩
        · have HE := Lib.hid (of_decide_eq_true he)
          clear he
          go_wp2_with fail
          go_quiet (fail)
          go_wp2_with fail
          rw [Exit.noGoto_ret]
          go_ret
          refine ⟨?_, HB.out.trans ⟨rfl, rfl, rfl, Nat.le_refl _, fun _ _ => rfl⟩⟩
          rw [← HLoc.out]
          show _ = Ending.returned (.pointer (some (Loc.addr L (if S.fng k = f ∧ S.adr k = a then q else locate S f a (false, k) l'))))
          rw [if_pos ⟨HF1.out, HE.out⟩]
          rfl
        · have HE := Lib.hid (of_decide_eq_false he)
          clear he
          rcases hd with e1 | ⟨e1, e2 | ⟨e2, e3⟩⟩
          all_goals
            go_wp2_with fail
            go_quiet (fail)
            go_wp2_with fail
            go_quiet (fail)
            go_wp2_with fail
            go_roundg l'.length
            case measure => simp
            case rel =>
              refine ⟨(false, k), l', _, rfl, rfl, hkN, HLK.out, HLK3.out, ?_, by rw [World.drewN_drewN, World.drewN_drewN]⟩
              rw [← HLoc.out]
              show _ = (if S.fng k = f ∧ S.adr k = a then q else locate S f a (false, k) l')
              rw [if_neg (fun h => HE.out h.2)]
      · have hne : ((S.fng k : Int) == (f : Int)) = false := beq_eq_false_iff_ne.2 (by omega)
        have HF1 := Lib.hid hf1
        clear hf1
        go_wp2_with fail
        go_quiet (fail)
        go_wp2_with fail
        go_quiet (fail)
        go_wp2_with fail
        go_roundg l'.length
        case measure => simp
        case rel =>
          refine ⟨(false, k), l', _, rfl, rfl, hkN, HLK.out, HLK3.out, ?_, by rw [World.drewN_drewN, World.drewN_drewN]⟩
          rw [← HLoc.out]
          show _ = (if S.fng k = f ∧ S.adr k = a then q else locate S f a (false, k) l')
          rw [if_neg (fun h => HF1.out h.1)]
end Go.Proofs.Ytccgdfamjohmgaa
