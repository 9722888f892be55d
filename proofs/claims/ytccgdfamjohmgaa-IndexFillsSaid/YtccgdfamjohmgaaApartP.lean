/- Two indexes in one memory, and an op beside them. Condition: they share no block. -/
import Derived.Test.YtccgdfamjohmgaaOps
set_option linter.unusedVariables false
namespace Go.Proofs.Ytccgdfamjohmgaa
open Go.RowKit Go.Ice

/-- The op o in a block of its own. -/
def OpAt (w : World) (q : Nat) (o : OpV) : Prop := q < w.heap.size ∧ ∀ j, j < 5 → w.cell? ⟨q, j, none⟩ = some (o.cell j)
theorem OpAt.frm {w w' : World} {q : Nat} {o : OpV} {T : Nat → Prop} (h : OpAt w q o) (hf : Frm T w w') (hT : ¬ T q) : OpAt w' q o :=
  ⟨by have := hf.size; have := h.1; omega, fun j hj => by rw [hf.cell (p := ⟨q, j, none⟩) h.1 hT]; exact h.2 j hj⟩
theorem OpAt.below {w w' : World} {q : Nat} {o : OpV} (h : OpAt w q o) (hb : Below w.heap.size w w') : OpAt w' q o :=
  ⟨by have := hb.size; have := h.1; omega, fun j hj => by rw [hb.cell (p := ⟨q, j, none⟩) h.1]; exact h.2 j hj⟩
theorem OpAt.new (w : World) (o : OpV) (e : TypeId) : OpAt (w.alloc (.cells #[.int .i64 o.kind, .int .u32 o.f, .int .i64 o.a.seg, .int .u64 o.a.gen, .int .i64 o.a.sec] e)) w.heap.size o :=
  ⟨by simp, fun j hj => by
    rw [World.cell?_alloc_mark]
    match j, hj with
    | 0, _ => rfl
    | 1, _ => rfl
    | 2, _ => rfl
    | 3, _ => rfl
    | 4, _ => rfl⟩

structure Two (w0 w : World) (Lx Ly : Lay) (A B : List (Nat × Adr)) (q : Nat) (o : OpV) : Prop where
  x : Own1 w0 w Lx 1024 A
  y : Own1 w0 w Ly 1024 B
  d : ∀ k, Lx.owns k → ¬ Ly.owns k
  o : OpAt w q o
  qx : ¬ Lx.owns q
  qy : ¬ Ly.owns q

section
variable {w0 w w' : World} {Lx Ly : Lay} {A B A' : List (Nat × Adr)} {q : Nat} {o : OpV}
theorem Two.below (h : Two w0 w Lx Ly A B q o) (hb : Below w.heap.size w w') : Two w0 w' Lx Ly A B q o :=
  ⟨h.x.below hb, h.y.below hb, h.d, h.o.below hb, h.qx, h.qy⟩
theorem Two.stepx (h : Two w0 w Lx Ly A B q o) (hf : Frm Lx.owns w w') (h' : IdxAt w' Lx 1024 A') : Two w0 w' Lx Ly A' B q o :=
  ⟨h.x.step hf h', ⟨h.y.here.frm hf (fun k hk hx => h.d k hx hk), h.y.lo, (h.x.step hf h').bel⟩, h.d, h.o.frm hf h.qx, h.qx, h.qy⟩
theorem Two.stepy (h : Two w0 w Lx Ly A B q o) (hf : Frm Ly.owns w w') (h' : IdxAt w' Ly 1024 A') : Two w0 w' Lx Ly A A' q o :=
  ⟨⟨h.x.here.frm hf (fun k hk hx => h.d k hk hx), h.x.lo, (h.y.step hf h').bel⟩, h.y.step hf h', h.d, h.o.frm hf h.qy, h.qx, h.qy⟩
def AnyInt (R : World → Prop) (e : Ending) (w : World) : Prop := ∃ n : Int, e = .returned (.int .i64 n) ∧ R w
theorem Two.addx (h : Two w0 w Lx Ly A B q o) (hf : o.f ≤ 4294967295) : Calls Try.prog 13 #[.pointer (some ⟨Lx.bx, 0, none⟩), .int .u32 o.f, adrV o.a] w (AnyInt fun w' => Two w0 w' Lx Ly (addA A 1024 o.f o.a).2 B q o) :=
  (add_at w Lx 1024 A o.f o.a hf h.x.here).mono fun e w' ⟨h1, h2, h3⟩ => ⟨_, h1, h.stepx h3 h2⟩
theorem Two.addy (h : Two w0 w Lx Ly A B q o) (hf : o.f ≤ 4294967295) : Calls Try.prog 13 #[.pointer (some ⟨Ly.bx, 0, none⟩), .int .u32 o.f, adrV o.a] w (AnyInt fun w' => Two w0 w' Lx Ly A (addA B 1024 o.f o.a).2 q o) :=
  (add_at w Ly 1024 B o.f o.a hf h.y.here).mono fun e w' ⟨h1, h2, h3⟩ => ⟨_, h1, h.stepy h3 h2⟩
theorem Two.remx (h : Two w0 w Lx Ly A B q o) (hf : o.f ≤ 4294967295) : Calls Try.prog 14 #[.pointer (some ⟨Lx.bx, 0, none⟩), .int .u32 o.f, adrV o.a] w (AnyInt fun w' => Two w0 w' Lx Ly (remA A o.f o.a).2 B q o) :=
  (remove_at w Lx 1024 A o.f o.a hf h.x.here).mono fun e w' ⟨h1, h2, h3⟩ => ⟨_, h1, h.stepx h3 h2⟩
theorem Two.remy (h : Two w0 w Lx Ly A B q o) (hf : o.f ≤ 4294967295) : Calls Try.prog 14 #[.pointer (some ⟨Ly.bx, 0, none⟩), .int .u32 o.f, adrV o.a] w (AnyInt fun w' => Two w0 w' Lx Ly A (remA B o.f o.a).2 q o) :=
  (remove_at w Ly 1024 B o.f o.a hf h.y.here).mono fun e w' ⟨h1, h2, h3⟩ => ⟨_, h1, h.stepy h3 h2⟩
theorem Two.dropx (h : Two w0 w Lx Ly A B q o) : Calls Try.prog 12 #[.pointer (some ⟨Lx.bx, 0, none⟩), .int .u64 o.a.gen] w (AnyInt fun w' => Two w0 w' Lx Ly (A.filter (keepA o.a.gen)) B q o) :=
  (drop_at w Lx 1024 A _ h.x.here).mono fun e w' ⟨h1, h2, h3⟩ => ⟨_, h1, h.stepx h3 h2⟩
theorem Two.dropy (h : Two w0 w Lx Ly A B q o) : Calls Try.prog 12 #[.pointer (some ⟨Ly.bx, 0, none⟩), .int .u64 o.a.gen] w (AnyInt fun w' => Two w0 w' Lx Ly A (B.filter (keepA o.a.gen)) q o) :=
  (drop_at w Ly 1024 B _ h.y.here).mono fun e w' ⟨h1, h2, h3⟩ => ⟨_, h1, h.stepy h3 h2⟩
end

/-- B is what A has of a finger; A has n entries at most. -/
def Apart (A B : List (Nat × Adr)) (F n : Nat) : Prop := B = A.filter (fun e => e.1 == F) ∧ A.length ≤ n

theorem Apart.more {A B : List (Nat × Adr)} {F n : Nat} (h : Apart A B F n) : Apart A B F (n + 1) := ⟨h.1, by have := h.2; omega⟩
theorem Apart.drop {A B : List (Nat × Adr)} {F n : Nat} (h : Apart A B F n) (g : Int) : Apart (A.filter (keepA g)) (B.filter (keepA g)) F (n + 1) := by
  refine ⟨?_, ?_⟩
  · rw [h.1, List.filter_filter, List.filter_filter]
    congr 1; funext e; rw [Bool.and_comm]
  · have := List.length_filter_le (keepA g) A; have := h.2; omega
theorem Apart.add_other {A B : List (Nat × Adr)} {F n f : Nat} {a : Adr} (h : Apart A B F n) (hf : f ≠ F) : Apart (addA A 1024 f a).2 B F (n + 1) := by
  unfold addA
  split
  · exact h.more
  · split
    · exact h.more
    · refine ⟨?_, by have := h.2; simp; omega⟩
      rw [List.filter_append, List.filter_cons_of_neg (by simpa using hf)]
      simp [h.1]
theorem Apart.add_same {A B : List (Nat × Adr)} {F n : Nat} {a : Adr} (h : Apart A B F n) (hn : n < 1024) : Apart (addA A 1024 F a).2 (addA B 1024 F a).2 F (n + 1) := by
  have hB : B.length ≤ A.length := by rw [h.1]; exact List.length_filter_le _ _
  have hm : (F, a) ∈ B ↔ (F, a) ∈ A := by rw [h.1, List.mem_filter]; simp
  have h2 := h.2
  unfold addA
  by_cases hA : (F, a) ∈ A
  · rw [if_pos hA, if_pos (hm.2 hA)]; exact h.more
  · rw [if_neg hA, if_neg (fun hb => hA (hm.1 hb)), if_neg (by omega), if_neg (by omega)]
    refine ⟨?_, by simp; omega⟩
    simp only
    rw [List.filter_append, List.filter_cons_of_pos (by simp), h.1]
    rfl
theorem Apart.rem_other {A B : List (Nat × Adr)} {F n f : Nat} {a : Adr} (h : Apart A B F n) (hf : f ≠ F) : Apart (remA A f a).2 B F (n + 1) := by
  unfold remA
  split
  · refine ⟨?_, by have := h.2; have := List.length_filter_le (fun e => !decide (e = (f, a))) A; simp only; omega⟩
    simp only
    rw [List.filter_filter, h.1]
    refine List.filter_congr fun e he => ?_
    by_cases h1 : e.1 = F
    · have : e ≠ (f, a) := fun h2 => hf (by rw [← h1, h2])
      simp [h1, this]
    · simp [h1]
  · exact h.more
theorem Apart.rem_same {A B : List (Nat × Adr)} {F n : Nat} {a : Adr} (h : Apart A B F n) : Apart (remA A F a).2 (remA B F a).2 F (n + 1) := by
  have hm : (F, a) ∈ B ↔ (F, a) ∈ A := by rw [h.1, List.mem_filter]; simp
  unfold remA
  by_cases hA : (F, a) ∈ A
  · rw [if_pos hA, if_pos (hm.2 hA)]
    refine ⟨?_, by have := h.2; have := List.length_filter_le (fun e => !decide (e = (F, a))) A; simp only; omega⟩
    simp only
    rw [h.1, List.filter_filter, List.filter_filter]
    congr 1; funext e; rw [Bool.and_comm]
  · rw [if_neg hA, if_neg (fun hb => hA (hm.1 hb))]; exact h.more
theorem Apart.find {A B : List (Nat × Adr)} {F n : Nat} (h : Apart A B F n) : findA B F = findA A F ∧ (findA B F).length = B.length := by
  have e : (B.reverse.filter fun e => e.1 == F) = B.reverse := by
    rw [List.filter_eq_self]
    intro x hx
    rw [h.1] at hx
    have := (List.mem_filter.1 (List.mem_reverse.1 hx)).2
    exact this
  constructor
  · unfold findA
    rw [e, h.1, List.filter_reverse]
  · unfold findA
    rw [e]
    simp
end Go.Proofs.Ytccgdfamjohmgaa
