/- script.Check: its closure, slices.IndexFunc and ContainsFunc at events, Check. Condition: the events lie in memory. -/
import Derived.Test.YtelaijogjgcloaaDoorRgt
set_option linter.unusedVariables false
set_option linter.unusedSimpArgs false
namespace Go.Proofs.YtelaijogjgcloaaDoor
open Go.RowKit Go.Ice Go.Scr

/-- Events in memory. -/
def EvsAt (w : World) (v : Value) (l : List Ev) : Prop := ∃ X, RowAt w 5 v l.length X ∧ ∀ i x, l[i]? = some x → EvAt w (.agg #[X i 0, X i 1, X i 2, X i 3, X i 4]) x
theorem EvsAt.below {B : Nat} {w w' : World} {v : Value} {l : List Ev} (h : EvsAt w v l) (hb : Below B w w') (hB : w.heap.size ≤ B) : EvsAt w' v l := by
  obtain ⟨X, h1, h2⟩ := h
  exact ⟨X, h1.below hb hB, fun i x hi => (h2 i x hi).below hb hB⟩
theorem EvsAt.form {w : World} {v : Value} {l : List Ev} (h : EvsAt w v l) : ∃ a cap, v = .slice a l.length cap ∧ l.length ≤ maxLen := by
  obtain ⟨X, h1, h2⟩ := h
  exact h1.form
/-- The i-th event of a row. -/
theorem EvsAt.at {w : World} {v : Value} {l : List Ev} (h : EvsAt w v l) {i : Nat} {x : Ev} (hi : l[i]? = some x) : ∃ b off cap vb vk, v = .slice (some ⟨b, off, none⟩) l.length cap ∧ l.length ≤ cap ∧ cap ≤ maxLen ∧ b < w.heap.size ∧
    w.cell? ⟨b, off + i * 5, none⟩ = some (.int .i64 x.kind) ∧ w.cell? ⟨b, off + i * 5 + 1, none⟩ = some (.int .i64 x.conn) ∧ w.cell? ⟨b, off + i * 5 + 2, none⟩ = some (.int .i64 x.n) ∧
    w.cell? ⟨b, off + i * 5 + 3, none⟩ = some vb ∧ w.cell? ⟨b, off + i * 5 + 4, none⟩ = some vk ∧ BytesAt w vb x.bytes ∧ BoolsAt w vk x.keep := by
  obtain ⟨X, h1, h2⟩ := h
  have hlt : i < l.length := (List.getElem?_eq_some_iff.1 hi).1
  obtain ⟨b, off, cap, e1, e2, e3, e4, e5⟩ := h1.at (by omega)
  obtain ⟨vb, vk, f1, f2, f3⟩ := h2 i x hi
  unfold evV at f1
  injection f1 with f1
  have g : X i 0 = .int .i64 x.kind ∧ X i 1 = .int .i64 x.conn ∧ X i 2 = .int .i64 x.n ∧ X i 3 = vb ∧ X i 4 = vk := by simpa using f1
  refine ⟨b, off, cap, vb, vk, e1, e2, e3, e4, ?_, ?_, ?_, ?_, ?_, f2, f3⟩
  · have := e5 i hlt 0 (by omega)
    rw [Nat.add_zero] at this
    rw [this, g.1]
  · rw [Nat.add_assoc, e5 i hlt 1 (by omega), g.2.1]
  · rw [Nat.add_assoc, e5 i hlt 2 (by omega), g.2.2.1]
  · rw [Nat.add_assoc, e5 i hlt 3 (by omega), g.2.2.2.1]
  · rw [Nat.add_assoc, e5 i hlt 4 (by omega), g.2.2.2.2]

/-- A script's block. -/
def scrO (p : Plan) (v : Value) : Obj := .cells #[.int .i64 p.g, .int .i64 p.s, .int .i64 p.l, .int .i64 p.p, .int .i64 p.c, v] 26
set_option maxHeartbeats 8000000 in
set_option maxRecDepth 20000 in
theorem wrong29 (w : World) (S : Nat) (p : Plan) (v sv : Value) (x : Ev) (hS : w.heap[S]? = some (scrO p sv)) (hx : EvAt w v x) :
    Calls Tryd.prog 29 #[v, .pointer (some ⟨S, 0, none⟩)] w fun e w' => e = .returned (.bool (!rightE p x)) ∧ Below w.heap.size w w' := by
  obtain ⟨rr, hrr⟩ : ∃ rr, rr = rightE p x := ⟨_, rfl⟩
  rw [← hrr]
  have HX := Lib.hid hx
  have HXV := Lib.hid hx
  obtain ⟨vb, vk, rfl, hb, hk⟩ := hx
  obtain ⟨ab, cb, rfl, hmb⟩ := hb.form
  obtain ⟨ak, ck, rfl, hmk⟩ := hk.form
  clear hb hk hmb hmk
  obtain ⟨B, W0, HB, HW, HK, HZ⟩ := boxed1 w #[.int .i64 x.kind, .int .i64 x.conn, .int .i64 x.n, .slice ab x.bytes.length cb, .slice ak x.keep.length ck] 41
  have HR := Lib.hid (right30 W0 p _ x (HXV.out.below HK.out.below (Nat.le_refl _)))
  rw [← hrr] at HR
  clear hrr
  obtain ⟨g, s, l, q, pc⟩ := p
  have hS0 : W0.heap[S]? = some (scrO ⟨g, s, l, q, pc⟩ sv) := (HK.out.below.block S (blk_lt hS)).trans hS
  unfold scrO at hS0
  dsimp only at hS0
  have HS := Lib.hid hS0
  have s0 : W0.cell? ⟨S, 0, none⟩ = some (.int .i64 g) := blk_cell hS0 0
  have s1 : W0.cell? ⟨S, 1, none⟩ = some (.int .i64 s) := blk_cell hS0 1
  have s2 : W0.cell? ⟨S, 2, none⟩ = some (.int .i64 l) := blk_cell hS0 2
  have s3 : W0.cell? ⟨S, 3, none⟩ = some (.int .i64 q) := blk_cell hS0 3
  have s4 : W0.cell? ⟨S, 4, none⟩ = some (.int .i64 pc) := blk_cell hS0 4
  obtain ⟨kind, conn, n, bytes, keep⟩ := x
  dsimp only at HR HK HW ⊢
  generalize bytes.length = nb at *
  generalize keep.length = nk at *
  have c0 : W0.cell? ⟨B, 0, none⟩ = some (.int .i64 kind) := blk_cell HK.out.b0 0
  have c1 : W0.cell? ⟨B, 1, none⟩ = some (.int .i64 conn) := blk_cell HK.out.b0 1
  have c2 : W0.cell? ⟨B, 2, none⟩ = some (.int .i64 n) := blk_cell HK.out.b0 2
  have c3 : W0.cell? ⟨B, 3, none⟩ = some (.slice ab nb cb) := blk_cell HK.out.b0 3
  have c4 : W0.cell? ⟨B, 4, none⟩ = some (.slice ak nk ck) := blk_cell HK.out.b0 4
  clear hS0 hS
  unfold planV evV at HR
  unfold evV
  dsimp only at HR
  go_enter Tryd.func29, Tryd.ntmps29
  go_upto_region 1 with fail
  rw [HB.out, HW.out]
  clear HB HW
  go_wp2_with fail
  refine HR.out.mono ?_
  rintro e w1 ⟨rfl, hb⟩
  have HK1 := Lib.hid (HK.out.step hb)
  clear hb HR
  go_wp2_with fail
  go_ret
  exact ⟨rfl, HK1.out.below⟩
end Go.Proofs.YtelaijogjgcloaaDoor
