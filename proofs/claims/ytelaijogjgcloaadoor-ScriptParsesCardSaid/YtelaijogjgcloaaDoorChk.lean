/- script.Check: its closure, slices.IndexFunc and ContainsFunc at events, Check. Condition: the events lie in memory. slices.IndexFunc and ContainsFunc at events, script.Check. Condition: the events lie in memory. script.Check. Condition: the events lie in memory. -/
import Derived.Test.YtelaijogjgcloaaDoorRgt

section
set_option linter.unusedVariables false
set_option linter.unusedSimpArgs false
namespace Go.Proofs.YtelaijogjgcloaaDoor
open Go.RowKit Go.Ice Go.Scr

/-- Events in memory. -/
def EvsAt (w : World) (v : Value) (l : List Ev) : Prop := ∃ X, RowAt w 5 v l.length X ∧ ∀ i x, l[i]? = some x → EvAt w (.agg #[X i 0, X i 1, X i 2, X i 3, X i 4]) x
theorem EvsAt.below {B : Nat} {w w' : World} {v : Value} {l : List Ev} (h : EvsAt w v l) (hb : Below B w w') (hB : w.heap.size ≤ B) : EvsAt w' v l := by
  obtain ⟨X, h1, h2⟩ := h
  exact ⟨X, h1.below hb hB, fun i x hi => (h2 i x hi).below hb hB⟩
theorem EvsAt.form {w : World} {v : Value} {l : List Ev} (h : EvsAt w v l) : ∃ a cap, v = .slice a l.length cap ∧ l.length ≤ maxLen := by
  obtain ⟨X, h1, h2⟩ := h
  exact h1.form
/-- The i-th event of a row. -/
theorem EvsAt.at {w : World} {v : Value} {l : List Ev} (h : EvsAt w v l) {i : Nat} {x : Ev} (hi : l[i]? = some x) : ∃ b off cap vb vk, v = .slice (some ⟨b, off, none⟩) l.length cap ∧ l.length ≤ cap ∧ cap ≤ maxLen ∧ b < w.heap.size ∧
    w.cell? ⟨b, off + i * 5, none⟩ = some (.int .i64 x.kind) ∧ w.cell? ⟨b, off + i * 5 + 1, none⟩ = some (.int .i64 x.conn) ∧ w.cell? ⟨b, off + i * 5 + 2, none⟩ = some (.int .i64 x.n) ∧
    w.cell? ⟨b, off + i * 5 + 3, none⟩ = some vb ∧ w.cell? ⟨b, off + i * 5 + 4, none⟩ = some vk ∧ BytesAt w vb x.bytes ∧ BoolsAt w vk x.keep := by
  obtain ⟨X, h1, h2⟩ := h
  have hlt : i < l.length := (List.getElem?_eq_some_iff.1 hi).1
  obtain ⟨b, off, cap, e1, e2, e3, e4, e5⟩ := h1.at (by omega)
  obtain ⟨vb, vk, f1, f2, f3⟩ := h2 i x hi
  unfold evV at f1
  injection f1 with f1
  have g : X i 0 = .int .i64 x.kind ∧ X i 1 = .int .i64 x.conn ∧ X i 2 = .int .i64 x.n ∧ X i 3 = vb ∧ X i 4 = vk := by simpa using f1
  refine ⟨b, off, cap, vb, vk, e1, e2, e3, e4, ?_, ?_, ?_, ?_, ?_, f2, f3⟩
  · have := e5 i hlt 0 (by omega)
    rw [Nat.add_zero] at this
    rw [this, g.1]
  · rw [Nat.add_assoc, e5 i hlt 1 (by omega), g.2.1]
  · rw [Nat.add_assoc, e5 i hlt 2 (by omega), g.2.2.1]
  · rw [Nat.add_assoc, e5 i hlt 3 (by omega), g.2.2.2.1]
  · rw [Nat.add_assoc, e5 i hlt 4 (by omega), g.2.2.2.2]

/-- A script's block. -/
def scrO (p : Plan) (v : Value) : Obj := .cells #[.int .i64 p.g, .int .i64 p.s, .int .i64 p.l, .int .i64 p.p, .int .i64 p.c, v] 26
set_option maxHeartbeats 8000000 in
set_option maxRecDepth 20000 in
theorem wrong29 (w : World) (S : Nat) (p : Plan) (v sv : Value) (x : Ev) (hS : w.heap[S]? = some (scrO p sv)) (hx : EvAt w v x) :
    Calls Tryd.prog 29 #[v, .pointer (some ⟨S, 0, none⟩)] w fun e w' => e = .returned (.bool (!rightE p x)) ∧ Below w.heap.size w w' := by
  obtain ⟨rr, hrr⟩ : ∃ rr, rr = rightE p x := ⟨_, rfl⟩
  rw [← hrr]
  have HX := Lib.hid hx
  have HXV := Lib.hid hx
  obtain ⟨vb, vk, rfl, hb, hk⟩ := hx
  obtain ⟨ab, cb, rfl, hmb⟩ := hb.form
  obtain ⟨ak, ck, rfl, hmk⟩ := hk.form
  clear hb hk hmb hmk
  obtain ⟨B, W0, HB, HW, HK, HZ⟩ := boxed1 w #[.int .i64 x.kind, .int .i64 x.conn, .int .i64 x.n, .slice ab x.bytes.length cb, .slice ak x.keep.length ck] 41
  have HR := Lib.hid (right30 W0 p _ x (HXV.out.below HK.out.below (Nat.le_refl _)))
  rw [← hrr] at HR
  clear hrr
  obtain ⟨g, s, l, q, pc⟩ := p
  have hS0 : W0.heap[S]? = some (scrO ⟨g, s, l, q, pc⟩ sv) := (HK.out.below.block S (blk_lt hS)).trans hS
  unfold scrO at hS0
  dsimp only at hS0
  have HS := Lib.hid hS0
  have s0 : W0.cell? ⟨S, 0, none⟩ = some (.int .i64 g) := blk_cell hS0 0
  have s1 : W0.cell? ⟨S, 1, none⟩ = some (.int .i64 s) := blk_cell hS0 1
  have s2 : W0.cell? ⟨S, 2, none⟩ = some (.int .i64 l) := blk_cell hS0 2
  have s3 : W0.cell? ⟨S, 3, none⟩ = some (.int .i64 q) := blk_cell hS0 3
  have s4 : W0.cell? ⟨S, 4, none⟩ = some (.int .i64 pc) := blk_cell hS0 4
  obtain ⟨kind, conn, n, bytes, keep⟩ := x
  dsimp only at HR HK HW ⊢
  generalize bytes.length = nb at *
  generalize keep.length = nk at *
  have c0 : W0.cell? ⟨B, 0, none⟩ = some (.int .i64 kind) := blk_cell HK.out.b0 0
  have c1 : W0.cell? ⟨B, 1, none⟩ = some (.int .i64 conn) := blk_cell HK.out.b0 1
  have c2 : W0.cell? ⟨B, 2, none⟩ = some (.int .i64 n) := blk_cell HK.out.b0 2
  have c3 : W0.cell? ⟨B, 3, none⟩ = some (.slice ab nb cb) := blk_cell HK.out.b0 3
  have c4 : W0.cell? ⟨B, 4, none⟩ = some (.slice ak nk ck) := blk_cell HK.out.b0 4
  clear hS0 hS
  unfold planV evV at HR
  unfold evV
  dsimp only at HR
  go_enter Tryd.func29, Tryd.ntmps29
  go_upto_region 1 with fail
  rw [HB.out, HW.out]
  clear HB HW
  go_wp2_with fail
  refine HR.out.mono ?_
  rintro e w1 ⟨rfl, hb⟩
  have HK1 := Lib.hid (HK.out.step hb)
  clear hb HR
  go_wp2_with fail
  go_ret
  exact ⟨rfl, HK1.out.below⟩
end Go.Proofs.YtelaijogjgcloaaDoor
end

section
set_option linter.unusedVariables false
set_option linter.unusedSimpArgs false
namespace Go.Proofs.YtelaijogjgcloaaDoor
open Go.RowKit Go.Ice Go.Scr

set_option maxHeartbeats 8000000 in
set_option maxRecDepth 20000 in
theorem indexFunc51 (w : World) (S : Nat) (p : Plan) (v sv : Value) (l : List Ev) (hS : w.heap[S]? = some (scrO p sv)) (hl : EvsAt w v l) :
    Calls Tryd.prog 51 #[v, .func (.func 29) #[] #[.pointer (some ⟨S, 0, none⟩)]] w fun e w' => (∃ r : Int, e = .returned (.int .i64 r) ∧ decide (0 ≤ r) = l.any (fun x => !rightE p x)) ∧ Below w.heap.size w w' := by
  have HL := Lib.hid hl
  have HS := Lib.hid hS
  obtain ⟨a, cap, rfl, hm⟩ := hl.form
  unfold maxLen at hm
  obtain ⟨n, hn⟩ : ∃ n, n = l.length := ⟨_, rfl⟩
  rw [← hn] at hm ⊢
  have HN := Lib.hid hn
  clear hn hl hS
  go_enter Tryd.func51, Tryd.ntmps51
  go_wp2_with fail
  go_loopg [5, 8] n (fun g _ kv wr => ∃ k : Nat, g = n - k ∧ k ≤ n ∧ kv = .int .i64 k ∧ Hid (Below w.heap.size w wr ∧ ∀ i x, i < k → l[i]? = some x → rightE p x = true))
  case atStart => exact ⟨0, rfl, by omega, rfl, Below.refl _ _, fun i x hi => by omega⟩
  case round =>
    obtain ⟨k, rfl, hk, rfl, HJ⟩ := hrel
    by_cases hlt : k < n
    · have hkl : k < l.length := by rw [← HN.out]; exact hlt
      obtain ⟨x, hx⟩ : ∃ x, l[k]? = some x := ⟨l[k], List.getElem?_eq_getElem hkl⟩
      have HX := Lib.hid hx
      obtain ⟨b, off, cap', vb, vk, e1, e2, e3, e4, q0, q1, q2, q3, q4, hb, hk'⟩ := HL.out.at hx
      rw [← HN.out] at e1
      injection e1 with x1 x2 x3
      subst x1 x3
      rw [← HJ.out.1.cell (p := ⟨b, _, none⟩) e4] at q0 q1 q2 q3 q4
      obtain ⟨bb, cb, rfl, hmb⟩ := hb.form
      obtain ⟨bk, ck, rfl, hmk⟩ := hk'.form
      have HR := Lib.hid (wrong29 wr S p _ sv x ((HJ.out.1.block S (blk_lt HS.out)).trans HS.out) ⟨_, _, rfl, hb.below HJ.out.1 (Nat.le_refl _), hk'.below HJ.out.1 (Nat.le_refl _)⟩)
      have HJB : Hid (Below w.heap.size w wr) := HJ.out.1
      rw [← HN.out] at e2
      clear hx hb hk' hmb hmk e4 hkl x2
      unfold maxLen at e3
      unfold evV at HR
      obtain ⟨rr, hrr⟩ : ∃ rr, rr = rightE p x := ⟨_, rfl⟩
      rw [← hrr] at HR
      have HRR := Lib.hid hrr
      clear hrr
      obtain ⟨kind, conn, nn, bytes, keep⟩ := x
      dsimp only at HR q0 q1 q2
      generalize bytes.length = nb at HR q0 q1 q2 q3 q4
      generalize keep.length = nk at HR q0 q1 q2 q3 q4
      cases rr with
      | false =>
        go_wp2_with fail
        refine HR.out.mono ?_
        rintro e w1 ⟨rfl, hb1⟩
        have HB1 := Lib.hid hb1
        clear hb1 HR q0 q1 q2 q3 q4
        go_wp2_with fail
        go_ret
        refine ⟨⟨(k : Int), rfl, ?_⟩, HJB.out.trans (HB1.out.mono HJB.out.size)⟩
        have : l.any (fun x => !rightE p x) = true := List.any_eq_true.2 ⟨_, List.mem_of_getElem? HX.out, by rw [← HRR.out]; rfl⟩
        rw [this]
        simp
      | true =>
        go_wp2_with fail
        refine HR.out.mono ?_
        rintro e w1 ⟨rfl, hb1⟩
        have HB1 := Lib.hid hb1
        clear hb1 HR q0 q1 q2 q3 q4
        go_wp2_with fail
        go_roundg (n - (k + 1))
        case measure => omega
        case rel =>
          refine ⟨k + 1, rfl, by omega, by go_num, HJB.out.trans (HB1.out.mono HJB.out.size), fun i y hi hy => ?_⟩
          rcases Nat.lt_succ_iff_lt_or_eq.1 hi with h | rfl
          · exact HJ.out.2 i y h hy
          · have := HX.out.symm.trans hy
            injection this with this
            rw [← this]; exact HRR.out.symm
    · obtain rfl : k = n := by omega
      have HK : Hid (l.any (fun x => !rightE p x) = false) := by
        show _ = _
        rw [List.any_eq_false]
        intro y hy
        obtain ⟨i, hi⟩ := List.getElem?_of_mem hy
        rw [HJ.out.2 i y (by rw [HN.out]; exact (List.getElem?_eq_some_iff.1 hi).1) hi]
        simp
      have HJB : Hid (Below w.heap.size w wr) := HJ.out.1
      go_wp2_with fail
      go_ret
      exact ⟨⟨-1, rfl, by rw [HK.out]; simp⟩, HJB.out⟩

set_option maxHeartbeats 8000000 in
set_option maxRecDepth 20000 in
theorem contains32 (w : World) (S : Nat) (p : Plan) (v sv : Value) (l : List Ev) (hS : w.heap[S]? = some (scrO p sv)) (hl : EvsAt w v l) :
    Calls Tryd.prog 32 #[v, .func (.func 29) #[] #[.pointer (some ⟨S, 0, none⟩)]] w fun e w' => e = .returned (.bool (l.any (fun x => !rightE p x))) ∧ Below w.heap.size w w' := by
  have HI := Lib.hid (indexFunc51 w S p v sv l hS hl)
  obtain ⟨a, cap, rfl, hm⟩ := hl.form
  generalize l.any (fun x => !rightE p x) = z at *
  generalize l.length = n at *
  clear hl hS hm
  go_enter Tryd.func32, Tryd.ntmps32
  go_wp2_with fail
  refine HI.out.mono ?_
  rintro e w1 ⟨⟨r, rfl, hr⟩, hb⟩
  have HB := Lib.hid hb
  have HR := Lib.hid hr
  clear hb hr HI
  go_wp2_with fail
  go_ret
  exact ⟨by rw [← HR.out]; rfl, HB.out⟩
end Go.Proofs.YtelaijogjgcloaaDoor
end

section
set_option linter.unusedVariables false
set_option linter.unusedSimpArgs false
namespace Go.Proofs.YtelaijogjgcloaaDoor
open Go.RowKit Go.Ice Go.Scr

def scrV (p : Plan) (v : Value) : Value := .agg #[.int .i64 p.g, .int .i64 p.s, .int .i64 p.l, .int .i64 p.p, .int .i64 p.c, v]
/-- A script in memory. -/
def ScrAt (w : World) (u : Value) (s : Scr) : Prop := ∃ v, u = scrV s.plan v ∧ EvsAt w v s.evs
theorem ScrAt.below {B : Nat} {w w' : World} {v : Value} {s : Scr} (h : ScrAt w v s) (hb : Below B w w') (hB : w.heap.size ≤ B) : ScrAt w' v s := by
  obtain ⟨u, h1, h2⟩ := h
  exact ⟨u, h1, h2.below hb hB⟩

set_option maxHeartbeats 8000000 in
set_option maxRecDepth 20000 in
theorem check12 (w : World) (u : Value) (sc : Scr) (hs : ScrAt w u sc) :
    Calls Tryd.prog 12 #[u] w fun e w' => e = .returned (.int .i64 (if checkS sc then 0 else 2)) ∧ Below w.heap.size w w' := by
  obtain ⟨v, rfl, hv⟩ := hs
  obtain ⟨rr, hrr⟩ : ∃ rr : Int, rr = (if checkS sc then 0 else 2) := ⟨_, rfl⟩
  rw [← hrr]
  unfold checkS at hrr
  have HRR := Lib.hid hrr
  clear hrr
  have HV := Lib.hid hv
  obtain ⟨a, cap, rfl, hm⟩ := hv.form
  obtain ⟨S, W0, HB, HW, HK, HZ⟩ := boxed1 w #[.int .i64 sc.plan.g, .int .i64 sc.plan.s, .int .i64 sc.plan.l, .int .i64 sc.plan.p, .int .i64 sc.plan.c, .slice a sc.evs.length cap] 26
  have HC := Lib.hid (checkPlan W0 sc.plan)
  have HS : Hid (∀ W, Below W0.heap.size W0 W → Calls Tryd.prog 32 #[.slice a sc.evs.length cap, .func (.func 29) #[] #[.pointer (some ⟨S, 0, none⟩)]] W fun e w' => e = .returned (.bool (sc.evs.any (fun x => !rightE sc.plan x))) ∧ Below W.heap.size W w') := fun W hW =>
    contains32 W S sc.plan _ _ sc.evs (HK.out.step hW).b0 (hv.below (HK.out.below.trans (hW.mono HK.out.below.size)) (Nat.le_refl _))
  have hany : sc.evs.any (fun x => !rightE sc.plan x) = !sc.evs.all (rightE sc.plan) := by rw [List.any_eq_not_all_not]; simp
  rw [hany] at HS
  clear hany hv
  obtain ⟨pb, hpb⟩ : ∃ pb, pb = planB sc.plan := ⟨_, rfl⟩
  obtain ⟨ab, hab⟩ : ∃ ab, ab = sc.evs.all (rightE sc.plan) := ⟨_, rfl⟩
  rw [← hpb] at HC
  rw [← hab] at HS
  rw [← hpb, ← hab] at HRR
  clear hpb hab
  generalize sc.evs.length = n at *
  obtain ⟨⟨g, s, l, q, pc⟩, evs⟩ := sc
  unfold maxLen at hm
  unfold planV at HC
  unfold scrV
  dsimp only at HC HK HW ⊢
  have b0 : W0.cell? ⟨S, 0, none⟩ = some (.int .i64 g) := blk_cell HK.out.b0 0
  have b1 : W0.cell? ⟨S, 1, none⟩ = some (.int .i64 s) := blk_cell HK.out.b0 1
  have b2 : W0.cell? ⟨S, 2, none⟩ = some (.int .i64 l) := blk_cell HK.out.b0 2
  have b3 : W0.cell? ⟨S, 3, none⟩ = some (.int .i64 q) := blk_cell HK.out.b0 3
  have b4 : W0.cell? ⟨S, 4, none⟩ = some (.int .i64 pc) := blk_cell HK.out.b0 4
  clear HV
  go_enter Tryd.func12, Tryd.ntmps12
  go_upto_region 1 with fail
  rw [HB.out, HW.out]
  clear HB HW
  go_upto_region 2 with fail
  go_wp2_with fail
  refine HC.out.mono ?_
  rintro e w1 ⟨rfl, hb⟩
  have HK1 := Lib.hid (HK.out.step hb)
  have HS1 := Lib.hid (HS.out w1 hb)
  clear hb HC HS b0 b1 b2 b3 b4
  have b5 : w1.cell? ⟨S, 5, none⟩ = some (.slice a n cap) := blk_cell HK1.out.b0 5
  cases pb with
  | false =>
    have HX : Hid (rr = 2) := by
      show _ = _
      rw [HRR.out]; simp
    go_wp2_with fail
    go_ret
    exact ⟨by rw [HX.out]; rfl, HK1.out.below⟩
  | true =>
    by_cases hn : n ≤ 200
    · have hn' : (n : Int) ≤ 200 := by omega
      have HX : Hid (rr = if ab then 0 else 2) := by
        show _ = _
        rw [HRR.out]; simp [hn]
      clear HRR
      go_wp2_with fail
      refine HS1.out.mono ?_
      rintro e w2 ⟨rfl, hb⟩
      have HK2 := Lib.hid (HK1.out.step hb)
      clear hb HS1
      cases ab with
      | false =>
        have HX2 : Hid (rr = 2) := HX.out
        go_wp2_with fail
        go_ret
        exact ⟨by rw [HX2.out]; rfl, HK2.out.below⟩
      | true =>
        have HX2 : Hid (rr = 0) := HX.out
        go_wp2_with fail
        go_ret
        exact ⟨by rw [HX2.out]; rfl, HK2.out.below⟩
    · have hn' : ¬ (n : Int) ≤ 200 := by omega
      have HX : Hid (rr = 2) := by
        show _ = _
        rw [HRR.out]; simp [hn]
      clear HRR
      go_wp2_with fail
      go_ret
      exact ⟨by rw [HX.out]; rfl, HK1.out.below⟩
end Go.Proofs.YtelaijogjgcloaaDoor
end
