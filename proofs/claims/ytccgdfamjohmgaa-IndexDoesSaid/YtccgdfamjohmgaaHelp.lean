/- The index that a law made for itself: its contracts once more, with what the law knows of memory. No condition. -/
import Derived.Test.YtccgdfamjohmgaaDrop
set_option linter.unusedVariables false
namespace Go.Proofs.Ytccgdfamjohmgaa
open Go.RowKit Go.Ice

/-- An index made since w0, and nothing that was there in w0 has turned. -/
structure Own1 (w0 w : World) (L : Lay) (N : Nat) (A : List (Nat × Adr)) : Prop where
  here : IdxAt w L N A
  lo : ∀ k, L.owns k → w0.heap.size ≤ k
  bel : Below w0.heap.size w0 w

section
variable {w0 w w' : World} {L : Lay} {N : Nat} {A A' : List (Nat × Adr)}
theorem Own1.step (h : Own1 w0 w L N A) (hf : Frm L.owns w w') (h' : IdxAt w' L N A') : Own1 w0 w' L N A' :=
  ⟨h', h.lo, h.bel.trans (hf.below (fun k hk ho => by have := h.lo k ho; omega) h.bel.size)⟩
theorem Own1.below (h : Own1 w0 w L N A) (hb : Below w.heap.size w w') : Own1 w0 w' L N A :=
  ⟨h.here.below hb, h.lo, h.bel.trans (hb.mono h.bel.size)⟩
theorem Own1.drewN (h : Own1 w0 w L N A) (n : Nat) : Own1 w0 (w.drewN n) L N A := h.below (drewN_below w n)
theorem Own1.alloc (h : Own1 w0 w L N A) (o : Obj) : Own1 w0 (w.alloc o) L N A := h.below ((Below.refl _ _).alloc (Nat.le_refl _) o)
theorem Own1.add (h : Own1 w0 w L N A) (f : Nat) (a : Adr) (hf : f ≤ 4294967295) :
    Calls Try.prog 13 #[.pointer (some ⟨L.bx, 0, none⟩), .int .u32 f, adrV a] w fun e w' => e = .returned (.int .i64 (addA A N f a).1) ∧ Own1 w0 w' L N (addA A N f a).2 :=
  (add_at w L N A f a hf h.here).mono fun e w' ⟨h1, h2, h3⟩ => ⟨h1, h.step h3 h2⟩
theorem Own1.remove (h : Own1 w0 w L N A) (f : Nat) (a : Adr) (hf : f ≤ 4294967295) :
    Calls Try.prog 14 #[.pointer (some ⟨L.bx, 0, none⟩), .int .u32 f, adrV a] w fun e w' => e = .returned (.int .i64 (remA A f a).1) ∧ Own1 w0 w' L N (remA A f a).2 :=
  (remove_at w L N A f a hf h.here).mono fun e w' ⟨h1, h2, h3⟩ => ⟨h1, h.step h3 h2⟩
theorem Own1.drop (h : Own1 w0 w L N A) (g : Int) :
    Calls Try.prog 12 #[.pointer (some ⟨L.bx, 0, none⟩), .int .u64 g] w fun e w' => e = .returned (.int .i64 ((A.length - (A.filter (keepA g)).length : Nat) : Int)) ∧ Own1 w0 w' L N (A.filter (keepA g)) :=
  (drop_at w L N A g h.here).mono fun e w' ⟨h1, h2, h3⟩ => ⟨h1, h.step h3 h2⟩
theorem Own1.find (h : Own1 w0 w L N A) (f : Nat) (hf : f ≤ 4294967295) :
    Calls Try.prog 16 #[.pointer (some ⟨L.bx, 0, none⟩), .int .u32 f] w fun e w' => ∃ v, e = .returned v ∧ w'.ownsRow w.heap.size 32 3 v (findA A f).length (adrCells (findA A f)) ∧ Own1 w0 w' L N A ∧ Below w.heap.size w w' :=
  (find_at w L N A f hf h.here).mono fun e w' ⟨v, h1, h2, h3⟩ => ⟨v, h1, h2, h.below h3, h3⟩
theorem Own1.len (h : Own1 w0 w L N A) : Calls Try.prog 17 #[.pointer (some ⟨L.bx, 0, none⟩)] w fun e w' => e = .returned (.int .i64 A.length) ∧ w = w' := len_at w L N A h.here
theorem Own1.left (h : Own1 w0 w L N A) : Calls Try.prog 18 #[.pointer (some ⟨L.bx, 0, none⟩)] w fun e w' => e = .returned (.int .i64 ((N - A.length : Nat) : Int)) ∧ ∃ m, w' = w.drewN m := left_at w L N A h.here
theorem Own1.new (w0 w : World) (N : Nat) (h1 : 1 ≤ N) (h2 : N ≤ 1024) (hb : Below w0.heap.size w0 w) :
    Calls Try.prog 9 #[.int .i64 N] w fun e w' => ∃ L, e = .returned (.tuple #[.pointer (some ⟨L.bx, 0, none⟩), .int .i64 0]) ∧ Own1 w0 w' L N [] ∧ (∀ k, L.owns k → w.heap.size ≤ k) ∧ Below w.heap.size w w' :=
  (new_at w N h1 h2).mono fun e w' ⟨L, h3, h4, h5, h6⟩ => ⟨L, h3, ⟨h4, fun k hk => by have := h5 k hk; have := hb.size; omega, hb.trans (h6.mono hb.size)⟩, h5, h6⟩
end
end Go.Proofs.Ytccgdfamjohmgaa
