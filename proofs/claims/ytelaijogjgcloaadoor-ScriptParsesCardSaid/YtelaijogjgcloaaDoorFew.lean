/- The law's few: a script that can be played in time. Condition: the script lies in memory. -/
import Derived.Test.YtelaijogjgcloaaDoorPrs
set_option linter.unusedVariables false
set_option linter.unusedSimpArgs false
namespace Go.Proofs.YtelaijogjgcloaaDoor
open Go.RowKit Go.Ice Go.Scr

def fewE (x : Ev) : Ev := ⟨x.kind, x.conn, x.n, x.bytes.take 4097, x.keep.take 4097⟩
def fewS (s : Scr) : Scr := ⟨s.plan, (s.evs.take 201).map fewE⟩
theorem isSl_cut {w : World} {a : Option Addr} {n c m : Nat} {cs : List Value} (h : IsSl w (.slice a n c) cs) (hn : n = cs.length) (hm : m ≤ n) : IsSl w (.slice a m c) (cs.take m) := by
  rcases h with ⟨rfl, hv⟩ | ⟨h0, b, off, cap, hv, h1, h2, h3, h4⟩
  · obtain rfl : m = 0 := by simp at hn; omega
    rcases hv with hv | ⟨a', c', hv⟩
    · injection hv with e1 e2 e3; subst e1 e3; exact .inl ⟨rfl, .inl rfl⟩
    · injection hv with e1 e2 e3; subst e1 e3; exact .inl ⟨rfl, .inr ⟨_, _, rfl⟩⟩
  · injection hv with e1 e2 e3
    subst e1 e3
    rcases Nat.eq_zero_or_pos m with rfl | hp
    · exact .inl ⟨by simp, .inr ⟨_, _, rfl⟩⟩
    · have hl : (cs.take m).length = m := by rw [List.length_take]; omega
      refine .inr ⟨by rw [hl]; exact hp, b, off, c, by rw [hl], by rw [hl]; omega, h2, h3, fun j hj => ?_⟩
      rw [hl] at hj
      rw [List.getElem?_take_of_lt hj]
      exact h4 j (by omega)
theorem isSl_cap {w : World} {a : Option Addr} {n c : Nat} {cs : List Value} (h : IsSl w (.slice a n c) cs) : n ≤ c := by
  rcases h with ⟨rfl, hv⟩ | ⟨h0, b, off, cap, hv, h1, h2, h3, h4⟩
  · rcases hv with hv | ⟨a', c', hv⟩ <;> injection hv with e1 e2 e3 <;> omega
  · injection hv with e1 e2 e3; omega
/-- A row of events of one's own behind B, its bytes and bools as they lay in w. -/
def EvsR (B : Nat) (w W : World) (v : Value) (l : List Ev) : Prop := ∃ X : Nat → Nat → Value, W.ownsRow B 41 5 v l.length (flat l.length 5 X) ∧ ∀ i x, l[i]? = some x → EvAt w (.agg #[X i 0, X i 1, X i 2, X i 3, X i 4]) x
theorem EvsR.nil (B : Nat) (w W : World) : EvsR B w W (.slice none 0 0) [] := ⟨fun _ _ => .int .i64 0, World.ownsRow_nil _ _ _ _, fun i x h => by simp at h⟩
theorem EvsR.form {B : Nat} {w W : World} {v : Value} {l : List Ev} (h : EvsR B w W v l) : ∃ a cap, v = .slice a l.length cap := by
  obtain ⟨X, h1, h2⟩ := h
  exact own_slice h1
theorem EvsR.at {B : Nat} {w W : World} {v : Value} {l : List Ev} (h : EvsR B w W v l) (hb : Below w.heap.size w W) : EvsAt W v l := by
  obtain ⟨X, h1, h2⟩ := h
  exact ⟨X, own_rowAt h1, fun i x hi => (h2 i x hi).below hb (Nat.le_refl _)⟩
theorem EvsR.below {B : Nat} {w W W' : World} {v : Value} {l : List Ev} (h : EvsR B w W v l) (hb : Below W.heap.size W W') : EvsR B w W' v l := by
  obtain ⟨X, h1, h2⟩ := h
  exact ⟨X, own_below h1 hb, h2⟩
theorem EvsR.keep {B S : Nat} {w W W' : World} {v : Value} {l : List Ev} (h : EvsR B w W v l) (hS : S < B) (hf : Frm (fun k => k = S) W W') : EvsR B w W' v l := by
  obtain ⟨X, h1, h2⟩ := h
  exact ⟨X, own_frm h1 hf (fun k hk => by omega), h2⟩
/-- What stands behind it does not touch it. -/
theorem EvsR.behind {B : Nat} {w W W1 W2 : World} {v : Value} {l : List Ev} (h : EvsR B w W v l) (hb : Below W.heap.size W W1) (hf : Frm (fun k => k = W.heap.size) W1 W2) : EvsR B w W2 v l :=
  h.below (hb.trans (hf.below (fun k hk e => by omega) hb.size))
theorem EvsR.lo {B k : Nat} {w W : World} {v : Value} {l : List Ev} (h : EvsR B w W v l) (hk : v.ownBlock = some k) : B ≤ k ∧ k < W.heap.size := by
  obtain ⟨X, h1, h2⟩ := h
  exact h1.lt k hk
theorem EvsR.append {B : Nat} {w W : World} {v sx : Value} {l : List Ev} {x : Ev} {c : Nat → Value} (h : EvsR B w W v l) (hx : EvAt w (.agg #[c 0, c 1, c 2, c 3, c 4]) x) (hs : IsSlK W 5 1 sx [c 0, c 1, c 2, c 3, c 4]) (h1c : ∀ j, j < 5 → (c j).oneCell' = true) (hB : B ≤ W.heap.size) (hl : l.length ≤ 10000000) :
    ∃ v' w', (Builtin.append_ #[24, 24] 24 #[v, sx]).run Tryd.prog W = .ok v' w' ∧ EvsR B w w' v' (l ++ [x]) ∧ Frm (fun k => v.ownBlock = some k) W w' := by
  obtain ⟨X, h1, h2⟩ := h
  obtain ⟨v', w', hr, ho, hg, _⟩ := app_at (P := Tryd.prog) (ty := 24) elemEv h1 hs (fun u hu => by
    simp only [List.mem_cons, List.mem_nil_iff, or_false] at hu
    rcases hu with rfl | rfl | rfl | rfl | rfl
    · exact h1c 0 (by omega)
    · exact h1c 1 (by omega)
    · exact h1c 2 (by omega)
    · exact h1c 3 (by omega)
    · exact h1c 4 (by omega)) (by omega) (by unfold maxLen; omega) hB
  refine ⟨v', w', hr, ⟨fun i j => if i < l.length then X i j else c j, ?_, fun i y hi => ?_⟩, ⟨hg.os, hg.tape, hg.output, hg.size, fun k hk hs => hg.block k hk (fun e => hs e.symm)⟩⟩
  · have e : flat l.length 5 X ++ [c 0, c 1, c 2, c 3, c 4] = flat (l.length + 1) 5 (fun i j => if i < l.length then X i j else c j) := by
      rw [show [c 0, c 1, c 2, c 3, c 4] = flat 1 5 (fun _ j => c j) from rfl, flat_append]
    rw [e] at ho
    rw [List.length_append]
    exact ho
  · rcases Nat.lt_or_ge i l.length with hlt | hge
    · rw [List.getElem?_append_left hlt] at hi
      have := h2 i y hi
      simpa [hlt] using this
    · have hi0 : i = l.length := by
        have := (List.getElem?_eq_some_iff.1 hi).1
        rw [List.length_append] at this; simp at this; omega
      subst hi0
      rw [List.getElem?_append_right (Nat.le_refl _), Nat.sub_self] at hi
      simp at hi
      subst hi
      simpa using hx

theorem isSl_keepS {w w' : World} {S : Nat} {v : Value} {cs : List Value} {so : Array Value} {t : TypeId} (h : IsSl w v cs) (hS : w.heap[S]? = some (.cells so t (0, 0))) (hno : ∀ c ∈ cs, ∀ i : Nat, so[i]? ≠ some c) (hf : Frm (fun k => k = S) w w') : IsSl w' v cs := by
  rcases h with h | ⟨h0, b, off, cap, rfl, g1, g2, g3, g4⟩
  · exact .inl h
  · have hb : b ≠ S := fun e => by
      subst e
      have := g4 0 h0
      rw [Nat.add_zero, blk_cell hS, List.getElem?_eq_getElem h0] at this
      exact hno _ (List.getElem_mem h0) off this
    exact .inr ⟨h0, b, off, cap, rfl, g1, g2, Nat.lt_of_lt_of_le g3 hf.size, fun j hj => by rw [hf.cell (p := ⟨b, off + j, none⟩) g3 hb]; exact g4 j hj⟩
/-- A script's block holds neither bytes nor bools. -/
theorem scr_no {p : Plan} {a : Option Addr} {n c : Nat} (u : Value) (hu : (∃ k, u = .int .u8 k) ∨ (∃ k, u = .bool k) ∨ ∃ k, u = .string k) (i : Nat) : (#[.int .i64 p.g, .int .i64 p.s, .int .i64 p.l, .int .i64 p.p, .int .i64 p.c, .slice a n c] : Array Value)[i]? ≠ some u := by
  intro h
  obtain rfl | rfl | rfl | rfl | rfl | rfl | hge : i = 0 ∨ i = 1 ∨ i = 2 ∨ i = 3 ∨ i = 4 ∨ i = 5 ∨ 6 ≤ i := by omega
  case inr.inr.inr.inr.inr.inr => rw [Array.getElem?_eq_none (by simp; omega)] at h; cases h
  all_goals
    rcases hu with ⟨k, rfl⟩ | ⟨k, rfl⟩ | ⟨k, rfl⟩ <;> simp at h
theorem EvAt.keepS {w w' : World} {S : Nat} {v : Value} {x : Ev} {p : Plan} {a : Option Addr} {n c : Nat} (h : EvAt w v x) (hS : w.heap[S]? = some (.cells #[.int .i64 p.g, .int .i64 p.s, .int .i64 p.l, .int .i64 p.p, .int .i64 p.c, .slice a n c] 26 (0, 0))) (hf : Frm (fun k => k = S) w w') : EvAt w' v x := by
  obtain ⟨vb, vk, h1, h2, h3⟩ := h
  refine ⟨vb, vk, h1, isSl_keepS h2 hS (fun u hu i => scr_no u ?_ i) hf, isSl_keepS h3 hS (fun u hu i => scr_no u ?_ i) hf⟩
  · obtain ⟨y, _, rfl⟩ := List.mem_map.1 hu; exact .inl ⟨_, rfl⟩
  · obtain ⟨y, _, rfl⟩ := List.mem_map.1 hu; exact .inr (.inl ⟨_, rfl⟩)
/-- A new script's events stay where the script is stored. -/
theorem EvsR.store {w w1 w2 : World} {S : Nat} {v : Value} {l : List Ev} {p : Plan} {a : Option Addr} {n c : Nat} (h : EvsR w.heap.size w w1 v l) (hb : Below w.heap.size w w1) (hS : w.heap[S]? = some (.cells #[.int .i64 p.g, .int .i64 p.s, .int .i64 p.l, .int .i64 p.p, .int .i64 p.c, .slice a n c] 26 (0, 0))) (hf : Frm (fun k => k = S) w1 w2) : EvsAt w2 v l := by
  obtain ⟨X, h1, h2⟩ := h.keep (blk_lt hS) hf
  exact ⟨X, own_rowAt h1, fun i x hi => (h2 i x hi).keepS hS ((frm_below hb).trans hf)⟩
/-- While a script is made anew: the argument's block, the result's, the new events. -/
structure FwS (w : World) (S A : Nat) (so : Array Value) (v : Value) (l : List Ev) (W : World) : Prop where
  bel : Below w.heap.size w W
  s : W.heap[S]? = some (.cells so 26 (0, 0))
  a : W.heap[A]? = some (.cells #[.int .i64 0, .int .i64 0, .int .i64 0, .int .i64 0, .int .i64 0, .slice none 0 0] 26 (0, 0))
  r : EvsR (A + 1) w W v l
  hS : S = w.heap.size
  hA : A = w.heap.size + 1
theorem FwS.step {w : World} {S A : Nat} {so : Array Value} {v : Value} {l : List Ev} {W W' : World} (h : FwS w S A so v l W) (hb : Below W.heap.size W W') : FwS w S A so v l W' :=
  ⟨h.bel.trans (hb.mono h.bel.size), (hb.block S (blk_lt h.s)).trans h.s, (hb.block A (blk_lt h.a)).trans h.a, h.r.below hb, h.hS, h.hA⟩
theorem FwS.app {w : World} {S A : Nat} {so : Array Value} {v v' : Value} {l l' : List Ev} {W W' : World} (h : FwS w S A so v l W) (hr : EvsR (A + 1) w W' v' l') (hf : Frm (fun k => v.ownBlock = some k) W W') : FwS w S A so v' l' W' := by
  have h1 := h.hS
  have h2 := h.hA
  have hlo : ∀ k, v.ownBlock = some k → A + 1 ≤ k := fun k hk => (h.r.lo hk).1
  exact ⟨h.bel.trans (hf.below (fun k hk e => by have := hlo k e; omega) h.bel.size), (hf.block S (blk_lt h.s) (fun e => by have := hlo S e; omega)).trans h.s, (hf.block A (blk_lt h.a) (fun e => by have := hlo A e; omega)).trans h.a, hr, h.hS, h.hA⟩

theorem take_min' {α : Type} {l : List α} {m n : Nat} (h : m = min l.length n) : l.take m = l.take n := by
  rw [h]
  rcases Nat.le_total l.length n with h1 | h1
  · rw [Nat.min_eq_left h1, List.take_length, List.take_of_length_le h1]
  · rw [Nat.min_eq_right h1]
theorem FwS.fin {w : World} {S A : Nat} {so : Array Value} {v : Value} {l l' : List Ev} {W W1 W2 : World} (h : FwS w S A so v l W) (he : l = l') (h1 : Frm (fun k => k = S) W W1) (h2 : Frm (fun k => k = A) W1 W2) : EvsR w.heap.size w W2 v l' ∧ Below w.heap.size w W2 := by
  subst he
  have e1 := h.hS
  have e2 := h.hA
  obtain ⟨X, g1, g2⟩ := (h.r.keep (by omega) h1).keep (Nat.lt_succ_self A) h2
  exact ⟨⟨X, own_base g1 (by omega), g2⟩, (h.bel.trans (h1.below (fun k hk e => by omega) h.bel.size)).trans (h2.below (fun k hk e => by omega) (Nat.le_trans h.bel.size h1.size))⟩

set_option maxHeartbeats 16000000 in
set_option maxRecDepth 100000 in
theorem few9 (w : World) (u : Value) (sc : Scr) (hs : ScrAt w u sc) :
    Calls Tryd.prog 9 #[u] w fun e w' => ∃ v', e = .returned (scrV sc.plan v') ∧ EvsR w.heap.size w w' v' (fewS sc).evs ∧ Below w.heap.size w w' := by
  obtain ⟨v, rfl, hv⟩ := hs
  obtain ⟨p, evs⟩ := sc
  dsimp only at hv
  have HV := Lib.hid hv
  obtain ⟨a, cap, rfl, hm⟩ := hv.form
  unfold maxLen at hm
  obtain ⟨ne, hne⟩ : ∃ ne, ne = evs.length := ⟨_, rfl⟩
  rw [← hne] at HV hm ⊢
  have HNE := Lib.hid hne
  clear hv hne
  unfold scrV
  dsimp only
  obtain ⟨S, A, W0, HS, HA, HW, HK, HZ⟩ := boxed2 w #[.int .i64 p.g, .int .i64 p.s, .int .i64 p.l, .int .i64 p.p, .int .i64 p.c, .slice a ne cap] 26 #[.int .i64 0, .int .i64 0, .int .i64 0, .int .i64 0, .int .i64 0, .slice none 0 0] 26
  have HF : Hid (FwS w S A #[.int .i64 p.g, .int .i64 p.s, .int .i64 p.l, .int .i64 p.p, .int .i64 p.c, .slice a ne cap] (.slice none 0 0) (((evs.take 0).map fewE)) W0) := ⟨HK.out.below, HK.out.b0, HK.out.b1, EvsR.nil _ _ _, HS.out.symm, HA.out.symm⟩
  have b5 : W0.cell? ⟨S, 5, none⟩ = some (.slice a ne cap) := blk_cell HK.out.b0 5
  go_enter Tryd.func9, Tryd.ntmps9
  go_upto_region 2 with fail
  rw [HW.out, HA.out, HS.out]
  clear HW HA HS HK HZ
  go_wp2_with fail
  go_loopg [3, 9] ne (fun g lv kv wr => ∃ (k : Nat) (va : Option Addr) (vn vc : Nat), g = ne - k ∧ k ≤ ne ∧ k ≤ 201 ∧ lv = .slice va vn vc ∧ kv = .int .i64 k ∧ Hid (FwS w S A #[.int .i64 p.g, .int .i64 p.s, .int .i64 p.l, .int .i64 p.p, .int .i64 p.c, .slice a ne cap] (.slice va vn vc) ((evs.take k).map fewE) wr))
  case atStart => exact ⟨0, none, 0, 0, rfl, by omega, by omega, rfl, rfl, HF.out⟩
  case round =>
    clear b5
    obtain ⟨k, va, vn, vc, rfl, hk, hk2, rfl, rfl, HJ⟩ := hrel
    by_cases hlt : k < ne
    · have hkl : k < evs.length := by rw [← HNE.out]; exact hlt
      obtain ⟨x, hx⟩ : ∃ x, evs[k]? = some x := ⟨evs[k], List.getElem?_eq_getElem hkl⟩
      have HX := Lib.hid hx
      obtain ⟨bs, off, cap', vb, vk, e1, e2, e3, e4, q0, q1, q2, q3, q4, hb, hk'⟩ := HV.out.at hx
      rw [← HJ.out.bel.cell (p := ⟨bs, _, none⟩) e4] at q0 q1 q2 q3 q4
      rw [← HNE.out] at e1 e2
      injection e1 with x1 x2 x3
      subst x1 x3
      obtain ⟨ab, cb, rfl, hmb⟩ := hb.form
      obtain ⟨ak, ck, rfl, hmk⟩ := hk'.form
      have HBY := Lib.hid hb
      have HKE := Lib.hid hk'
      clear hx hb hk' x2 e4
      unfold maxLen at e3 hmb hmk
      obtain ⟨kind, conn, n, bytes, keep⟩ := x
      dsimp only at HBY HKE q0 q1 q2 q3 q4 hmb hmk
      obtain ⟨nb, hnb⟩ : ∃ nb, nb = bytes.length := ⟨_, rfl⟩
      obtain ⟨nk, hnk⟩ : ∃ nk, nk = keep.length := ⟨_, rfl⟩
      rw [← hnb] at HBY q3 hmb
      rw [← hnk] at HKE q4 hmk
      have HNB := Lib.hid hnb
      have HNK := Lib.hid hnk
      clear hnb hnk
      obtain ⟨X, W6, HXE, HW6, HK6, _⟩ := boxed1 wr #[.int .i64 kind, .int .i64 conn, .int .i64 n, .slice ab nb cb, .slice ak nk ck] 41
      by_cases h201 : k = 201
      · have hkt : ((k : Int) == 201) = true := by simp [h201]
        subst h201
        replace q0 : wr.cell? ⟨bs, off + 1005, none⟩ = _ := q0
        replace q1 : wr.cell? ⟨bs, off + 1006, none⟩ = _ := q1
        replace q2 : wr.cell? ⟨bs, off + 1007, none⟩ = _ := q2
        replace q3 : wr.cell? ⟨bs, off + 1008, none⟩ = _ := q3
        replace q4 : wr.cell? ⟨bs, off + 1009, none⟩ = _ := q4
        have HFN : Hid (FwS w S A #[.int .i64 p.g, .int .i64 p.s, .int .i64 p.l, .int .i64 p.p, .int .i64 p.c, .slice (some ⟨bs, off, none⟩) ne cap] (.slice va vn vc) ((evs.take 201).map fewE) W6) := HJ.out.step HK6.out.below
        have HEQ : Hid ((evs.take 201).map fewE = (fewS ⟨p, evs⟩).evs) := rfl
        go_upto_region 9 with fail
        rw [HW6.out, HXE.out]
        have s5 : W6.cell? ⟨S, 5, none⟩ = some (.slice (some ⟨bs, off, none⟩) ne cap) := blk_cell HFN.out.s 5
        have s0 : W6.cell? ⟨S, 0, none⟩ = some (.int .i64 p.g) := blk_cell HFN.out.s 0
        have s1 : W6.cell? ⟨S, 1, none⟩ = some (.int .i64 p.s) := blk_cell HFN.out.s 1
        have s2 : W6.cell? ⟨S, 2, none⟩ = some (.int .i64 p.l) := blk_cell HFN.out.s 2
        have s3 : W6.cell? ⟨S, 3, none⟩ = some (.int .i64 p.p) := blk_cell HFN.out.s 3
        have s4 : W6.cell? ⟨S, 4, none⟩ = some (.int .i64 p.c) := blk_cell HFN.out.s 4
        have a0 : W6.cell? ⟨A, 0, none⟩ = some (.int .i64 0) := blk_cell HFN.out.a 0
        have a1 : W6.cell? ⟨A, 1, none⟩ = some (.int .i64 0) := blk_cell HFN.out.a 1
        have a2 : W6.cell? ⟨A, 2, none⟩ = some (.int .i64 0) := blk_cell HFN.out.a 2
        have a3 : W6.cell? ⟨A, 3, none⟩ = some (.int .i64 0) := blk_cell HFN.out.a 3
        have a4 : W6.cell? ⟨A, 4, none⟩ = some (.int .i64 0) := blk_cell HFN.out.a 4
        have a5 : W6.cell? ⟨A, 5, none⟩ = some (.slice none 0 0) := blk_cell HFN.out.a 5
        have fs := fun r => blk_frozen HFN.out.s r
        have fa := fun r => blk_frozen HFN.out.a r
        have hSA : S ≠ A := by have := HFN.out.hS; have := HFN.out.hA; omega
        have hAS : A ≠ S := fun e => hSA e.symm
        go_wp2_with fail
        have e6 := set6 (v0 := .int .i64 p.g) (v1 := .int .i64 p.s) (v2 := .int .i64 p.l) (v3 := .int .i64 p.p) (v4 := .int .i64 p.c) (v5 := .slice va vn vc) (blk_set HFN.out.a (p := ⟨S, 5, none⟩) hAS (.slice va vn vc))
        have r0 := blk_cell e6 0
        have r1 := blk_cell e6 1
        have r2 := blk_cell e6 2
        have r3 := blk_cell e6 3
        have r4 := blk_cell e6 4
        have r5 := blk_cell e6 5
        refine bodyPost_ret (v := scrV p (.slice va vn vc)) (by simp [results, Tryd.f9, go_sem, r0, r1, r2, r3, r4, r5, scrV]) rfl ?_
        exact ⟨_, rfl, HFN.out.fin HEQ.out (frm_set S 5 _) (frm_set6 A _ _ _ _ _ _)⟩
      · have hkf : ((k : Int) == 201) = false := beq_eq_false_iff_ne.2 (by omega)
        go_upto_region 6 with fail
        rw [HW6.out, HXE.out]
        obtain ⟨mb, hmb2⟩ : ∃ mb, mb = min nb 4097 := ⟨_, rfl⟩
        obtain ⟨mk, hmk2⟩ : ∃ mk, mk = min nk 4097 := ⟨_, rfl⟩
        have HMB : Hid (min ((nb : Nat) : Int) 4097 = (mb : Nat)) := (by rw [hmb2]; omega : min ((nb : Nat) : Int) 4097 = (mb : Nat))
        have HMK : Hid (min ((nk : Nat) : Int) 4097 = (mk : Nat)) := (by rw [hmk2]; omega : min ((nk : Nat) : Int) 4097 = (mk : Nat))
        have hcb := isSl_cap HBY.out
        have hck := isSl_cap HKE.out
        have HSB : Hid (∀ W : World, (Instr.sliceAt 38 (.slice ab nb cb) none (some (.int .i64 (mb : Nat))) none).run Tryd.prog W = .ok (.slice ab mb cb) W) := fun W => run_slice_to (P := Tryd.prog) (w := W) Tryd.underlying38 (by obtain ⟨i, a, b, c, d⟩ := elemByte.hi; exact ⟨_, run_sizeOf _ a⟩) ab nb cb mb (by omega)
        have HSK : Hid (∀ W : World, (Instr.sliceAt 39 (.slice ak nk ck) none (some (.int .i64 (mk : Nat))) none).run Tryd.prog W = .ok (.slice ak mk ck) W) := fun W => run_slice_to (P := Tryd.prog) (w := W) Tryd.underlying39 (by obtain ⟨i, a, b, c, d⟩ := elemBool.hi; exact ⟨_, run_sizeOf _ a⟩) ak nk ck mk (by omega)
        have HM2 := Lib.hid (And.intro hmb2 hmk2)
        clear hmb2 hmk2 hcb hck q0 q1 q2 q3 q4 HW6
        -- REGION
        refine wp_region_inv2 (by kernel_rfl) (hord_of2 (by kernel_rfl)) (fun done ac W => ∃ (u : Unit), ac = { tmps := #[.agg #[.int .i64 p.g, .int .i64 p.s, .int .i64 p.l, .int .i64 p.p, .int .i64 p.c, .slice (some ⟨bs, off, none⟩) ne cap], (.pointer (some ⟨S, 0, none⟩)), (.pointer (some ⟨A, 0, none⟩)), .slice va vn vc, .int .i64 (k : Nat), (.pointer (some ⟨X, 0, none⟩)), (.pointer (some ⟨S, 5, none⟩)), .slice (some ⟨bs, off, none⟩) ne cap, .int .i64 (ne : Nat), .int .i64 (k : Nat), .bool true, .int .i64 (k : Nat), .pointer (some ⟨bs, off + k * 5, none⟩), .agg #[.int .i64 kind, .int .i64 conn, .int .i64 n, .slice ab nb cb, .slice ak nk ck], .int .i64 (k : Nat), .bool false, if done 0 then (.pointer (some ⟨X, 3, none⟩)) else u16, if done 1 then (.slice ab nb cb) else u17, if done 2 then (.pointer (some ⟨X, 3, none⟩)) else u18, if done 3 then (.slice ab nb cb) else u19, if done 4 then (.int .i64 (nb : Nat)) else u20, if done 5 then (.int .i64 (mb : Nat)) else u21, if done 6 then (.slice ab mb cb) else u22, if done 7 then (.pointer (some ⟨X, 4, none⟩)) else u23, if done 8 then (.slice ak nk ck) else u24, if done 9 then (.pointer (some ⟨X, 4, none⟩)) else u25, if done 10 then (.slice ak nk ck) else u26, if done 11 then (.int .i64 (nk : Nat)) else u27, if done 12 then (.int .i64 (mk : Nat)) else u28, if done 13 then (.slice ak mk ck) else u29, if done 14 then (.pointer (some ⟨X, 3, none⟩)) else u30, if done 16 then (.pointer (some ⟨X, 4, none⟩)) else u31, u32, u33, u34, u35, u36, undef, undef, undef], defers := [] } ∧ Frm (fun k => k = X) W6 W ∧ W.heap[X]? = some (.cells #[.int .i64 kind, .int .i64 conn, .int .i64 n, if done 15 then .slice ab mb cb else .slice ab nb cb, if done 17 then .slice ak mk ck else .slice ak nk ck] 41 (0, 0))) ?_ ?_ ?_
        · exact ⟨(), by simp, ⟨rfl, rfl, rfl, Nat.le_refl _, fun _ _ _ => rfl⟩, HK6.out.b0⟩
        · intro done ac W j oq ho hd hdep hcl ⟨u, hlit, hI⟩
          have hj : j < 18 := (Array.getElem?_eq_some_iff.1 ho).1
          subst hlit
          obtain rfl | rfl | rfl | rfl | rfl | rfl | rfl | rfl | rfl | rfl | rfl | rfl | rfl | rfl | rfl | rfl | rfl | rfl : j = 0 ∨ j = 1 ∨ j = 2 ∨ j = 3 ∨ j = 4 ∨ j = 5 ∨ j = 6 ∨ j = 7 ∨ j = 8 ∨ j = 9 ∨ j = 10 ∨ j = 11 ∨ j = 12 ∨ j = 13 ∨ j = 14 ∨ j = 15 ∨ j = 16 ∨ j = 17 := by omega
          · refine wpOp_val ho (by cases ho; rfl) (w' := W) (v := (.pointer (some ⟨X, 3, none⟩))) (by cases ho; simp [execOp, go_sem]) ?_
            cases ho
            exact ⟨u, by simp [Act.put], by simpa using hI⟩
          · have p0 : done 0 = true := by cases ho; exact hdep ⟨0, .data⟩ (by simp) rfl
            have q15 : done 15 = false := by
              cases h : done 15 with
              | false => rfl
              | true =>
                have h0 := hcl 15 _ rfl h ⟨1, .phase⟩ (by simp) rfl
                rw [hd] at h0; cases h0
            have hx := blk_cell hI.2 3
            simp [q15] at hx
            refine wpOp_val ho (by cases ho; rfl) (w' := W) (v := (.slice ab nb cb)) (by cases ho; simp [execOp, go_sem, p0, hx]) ?_
            cases ho
            exact ⟨(), by simp [Act.put], by simpa using hI⟩
          · refine wpOp_val ho (by cases ho; rfl) (w' := W) (v := (.pointer (some ⟨X, 3, none⟩))) (by cases ho; simp [execOp, go_sem]) ?_
            cases ho
            exact ⟨u, by simp [Act.put], by simpa using hI⟩
          · have p2 : done 2 = true := by cases ho; exact hdep ⟨2, .data⟩ (by simp) rfl
            have q15 : done 15 = false := by
              cases h : done 15 with
              | false => rfl
              | true =>
                have h0 := hcl 15 _ rfl h ⟨3, .phase⟩ (by simp) rfl
                rw [hd] at h0; cases h0
            have hx := blk_cell hI.2 3
            simp [q15] at hx
            refine wpOp_val ho (by cases ho; rfl) (w' := W) (v := (.slice ab nb cb)) (by cases ho; simp [execOp, go_sem, p2, hx]) ?_
            cases ho
            exact ⟨(), by simp [Act.put], by simpa using hI⟩
          · have p3 : done 3 = true := by cases ho; exact hdep ⟨3, .data⟩ (by simp) rfl
            refine wpOp_val ho (by cases ho; rfl) (w' := W) (v := (.int .i64 (nb : Nat))) (by cases ho; simp [execOp, go_sem, p3]) ?_
            cases ho
            exact ⟨u, by simp [Act.put], by simpa using hI⟩
          · have p4 : done 4 = true := by cases ho; exact hdep ⟨4, .data⟩ (by simp) rfl
            refine wpOp_val ho (by cases ho; rfl) (w' := W) (v := (.int .i64 (mb : Nat))) (by cases ho; simp [execOp, go_sem, p4]; exact HMB.out) ?_
            cases ho
            exact ⟨(), by simp [Act.put], by simpa using hI⟩
          · have p1 : done 1 = true := by cases ho; exact hdep ⟨1, .data⟩ (by simp) rfl
            have p5 : done 5 = true := by cases ho; exact hdep ⟨5, .data⟩ (by simp) rfl
            refine wpOp_val ho (by cases ho; rfl) (w' := W) (v := (.slice ab mb cb)) (by cases ho; simp [execOp, go_sem, p1, p5, HSB.out W]) ?_
            cases ho
            exact ⟨(), by simp [Act.put], by simpa using hI⟩
          · refine wpOp_val ho (by cases ho; rfl) (w' := W) (v := (.pointer (some ⟨X, 4, none⟩))) (by cases ho; simp [execOp, go_sem]) ?_
            cases ho
            exact ⟨u, by simp [Act.put], by simpa using hI⟩
          · have p7 : done 7 = true := by cases ho; exact hdep ⟨7, .data⟩ (by simp) rfl
            have q17 : done 17 = false := by
              cases h : done 17 with
              | false => rfl
              | true =>
                have h0 := hcl 17 _ rfl h ⟨8, .phase⟩ (by simp) rfl
                rw [hd] at h0; cases h0
            have hx := blk_cell hI.2 4
            simp [q17] at hx
            refine wpOp_val ho (by cases ho; rfl) (w' := W) (v := (.slice ak nk ck)) (by cases ho; simp [execOp, go_sem, p7, hx]) ?_
            cases ho
            exact ⟨(), by simp [Act.put], by simpa using hI⟩
          · refine wpOp_val ho (by cases ho; rfl) (w' := W) (v := (.pointer (some ⟨X, 4, none⟩))) (by cases ho; simp [execOp, go_sem]) ?_
            cases ho
            exact ⟨u, by simp [Act.put], by simpa using hI⟩
          · have p9 : done 9 = true := by cases ho; exact hdep ⟨9, .data⟩ (by simp) rfl
            have q17 : done 17 = false := by
              cases h : done 17 with
              | false => rfl
              | true =>
                have h0 := hcl 17 _ rfl h ⟨10, .phase⟩ (by simp) rfl
                rw [hd] at h0; cases h0
            have hx := blk_cell hI.2 4
            simp [q17] at hx
            refine wpOp_val ho (by cases ho; rfl) (w' := W) (v := (.slice ak nk ck)) (by cases ho; simp [execOp, go_sem, p9, hx]) ?_
            cases ho
            exact ⟨(), by simp [Act.put], by simpa using hI⟩
          · have p10 : done 10 = true := by cases ho; exact hdep ⟨10, .data⟩ (by simp) rfl
            refine wpOp_val ho (by cases ho; rfl) (w' := W) (v := (.int .i64 (nk : Nat))) (by cases ho; simp [execOp, go_sem, p10]) ?_
            cases ho
            exact ⟨u, by simp [Act.put], by simpa using hI⟩
          · have p11 : done 11 = true := by cases ho; exact hdep ⟨11, .data⟩ (by simp) rfl
            refine wpOp_val ho (by cases ho; rfl) (w' := W) (v := (.int .i64 (mk : Nat))) (by cases ho; simp [execOp, go_sem, p11]; exact HMK.out) ?_
            cases ho
            exact ⟨(), by simp [Act.put], by simpa using hI⟩
          · have p8 : done 8 = true := by cases ho; exact hdep ⟨8, .data⟩ (by simp) rfl
            have p12 : done 12 = true := by cases ho; exact hdep ⟨12, .data⟩ (by simp) rfl
            refine wpOp_val ho (by cases ho; rfl) (w' := W) (v := (.slice ak mk ck)) (by cases ho; simp [execOp, go_sem, p8, p12, HSK.out W]) ?_
            cases ho
            exact ⟨(), by simp [Act.put], by simpa using hI⟩
          · refine wpOp_val ho (by cases ho; rfl) (w' := W) (v := (.pointer (some ⟨X, 3, none⟩))) (by cases ho; simp [execOp, go_sem]) ?_
            cases ho
            exact ⟨u, by simp [Act.put], by simpa using hI⟩
          · have p6 : done 6 = true := by cases ho; exact hdep ⟨6, .data⟩ (by simp) rfl
            have p14 : done 14 = true := by cases ho; exact hdep ⟨14, .data⟩ (by simp) rfl
            obtain ⟨x0, hx0⟩ : ∃ x0, W.cell? ⟨X, 3, none⟩ = some x0 := ⟨_, blk_cell hI.2 3⟩
            have h2 := blk_frozen hI.2 3
            refine wpOp_skip ho (by cases ho; rfl) (w' := W.setCell ⟨X, 3, none⟩ (.slice ab mb cb)) (by cases ho; simp [execOp, go_sem, p6, p14, hx0, h2]) ?_
            cases ho
            exact ⟨(), by simp [Act.put], hI.1.trans (frm_set X 3 _), by simpa using set_at (k := 3) hI.2 (.slice ab mb cb)⟩
          · refine wpOp_val ho (by cases ho; rfl) (w' := W) (v := (.pointer (some ⟨X, 4, none⟩))) (by cases ho; simp [execOp, go_sem]) ?_
            cases ho
            exact ⟨u, by simp [Act.put], by simpa using hI⟩
          · have p13 : done 13 = true := by cases ho; exact hdep ⟨13, .data⟩ (by simp) rfl
            have p16 : done 16 = true := by cases ho; exact hdep ⟨16, .data⟩ (by simp) rfl
            obtain ⟨x0, hx0⟩ : ∃ x0, W.cell? ⟨X, 4, none⟩ = some x0 := ⟨_, blk_cell hI.2 4⟩
            have h2 := blk_frozen hI.2 4
            refine wpOp_skip ho (by cases ho; rfl) (w' := W.setCell ⟨X, 4, none⟩ (.slice ak mk ck)) (by cases ho; simp [execOp, go_sem, p13, p16, hx0, h2]) ?_
            cases ho
            exact ⟨(), by simp [Act.put], hI.1.trans (frm_set X 4 _), by simpa using set_at (k := 4) hI.2 (.slice ak mk ck)⟩
        · rintro done ac W hall ⟨u, rfl, hI⟩
          have hl := hall
          clear hall
          have e0 := hl 0 (by decide)
          have e1 := hl 1 (by decide)
          have e2 := hl 2 (by decide)
          have e3 := hl 3 (by decide)
          have e4 := hl 4 (by decide)
          have e5 := hl 5 (by decide)
          have e6 := hl 6 (by decide)
          have e7 := hl 7 (by decide)
          have e8 := hl 8 (by decide)
          have e9 := hl 9 (by decide)
          have e10 := hl 10 (by decide)
          have e11 := hl 11 (by decide)
          have e12 := hl 12 (by decide)
          have e13 := hl 13 (by decide)
          have e14 := hl 14 (by decide)
          have e15 := hl 15 (by decide)
          have e16 := hl 16 (by decide)
          have e17 := hl 17 (by decide)
          have hI2 := hI.2
          simp only [e15, e17, if_true] at hI2
          have HXB := Lib.hid hI2
          have HFX := Lib.hid hI.1
          simp only [e0, e1, e2, e3, e4, e5, e6, e7, e8, e9, e10, e11, e12, e13, e14, e16, if_true]
          clear e0 e1 e2 e3 e4 e5 e6 e7 e8 e9 e10 e11 e12 e13 e14 e15 e16 e17 hl hI hI2
          have HF7 : Hid (FwS w S A #[.int .i64 p.g, .int .i64 p.s, .int .i64 p.l, .int .i64 p.p, .int .i64 p.c, .slice (some ⟨bs, off, none⟩) ne cap] (.slice va vn vc) ((evs.take k).map fewE) W) := HJ.out.step (HK6.out.below.trans (HFX.out.below (fun k hk e => by have := HXE.out; omega) HK6.out.below.size))
          have y0 : W.cell? ⟨X, 0, none⟩ = some (.int .i64 kind) := blk_cell HXB.out 0
          have y1 : W.cell? ⟨X, 1, none⟩ = some (.int .i64 conn) := blk_cell HXB.out 1
          have y2 : W.cell? ⟨X, 2, none⟩ = some (.int .i64 n) := blk_cell HXB.out 2
          have y3 : W.cell? ⟨X, 3, none⟩ = some (.slice ab mb cb) := blk_cell HXB.out 3
          have y4 : W.cell? ⟨X, 4, none⟩ = some (.slice ak mk ck) := blk_cell HXB.out 4
          have hb8 : Below W.heap.size W (W.alloc (.cells #[.int .i64 kind, .int .i64 conn, .int .i64 n, .slice ab mb cb, .slice ak mk ck] 41)) := (Below.refl _ W).alloc (Nat.le_refl _) _
          have hnew := heap_alloc_new W (.cells #[.int .i64 kind, .int .i64 conn, .int .i64 n, .slice ab mb cb, .slice ak mk ck] 41)
          have hmb3 : mb ≤ nb := by have := HM2.out.1; omega
          have hmk3 : mk ≤ nk := by have := HM2.out.2; omega
          have hEA : EvAt w (.agg #[.int .i64 kind, .int .i64 conn, .int .i64 n, .slice ab mb cb, .slice ak mk ck]) (fewE ⟨kind, conn, n, bytes, keep⟩) := by
            refine ⟨_, _, rfl, ?_, ?_⟩
            · have h := isSl_cut HBY.out (by rw [List.length_map]; exact HNB.out) hmb3
              rw [← List.map_take, take_min' (HM2.out.1.trans (by rw [HNB.out]))] at h
              exact h
            · have h := isSl_cut HKE.out (by rw [List.length_map]; exact HNK.out) hmk3
              rw [← List.map_take, take_min' (HM2.out.2.trans (by rw [HNK.out]))] at h
              exact h
          obtain ⟨v', w9, hrun, hown, hfr⟩ := EvsR.append (sx := .slice (some ⟨W.heap.size, 0, none⟩) 1 1) (c := fun j => [Value.int .i64 kind, .int .i64 conn, .int .i64 n, .slice ab mb cb, .slice ak mk ck].getD j undef) (HF7.out.r.below hb8) hEA (⟨rfl, .inr ⟨by decide, W.heap.size, 0, 1, rfl, by decide, by decide, blk_lt hnew, fun j hj => by
            rw [Nat.zero_add, blk_cell hnew]
            obtain rfl | rfl | rfl | rfl | rfl : j = 0 ∨ j = 1 ∨ j = 2 ∨ j = 3 ∨ j = 4 := by simp at hj; omega
            all_goals rfl⟩⟩) (fun j hj => by
            obtain rfl | rfl | rfl | rfl | rfl : j = 0 ∨ j = 1 ∨ j = 2 ∨ j = 3 ∨ j = 4 := by omega
            all_goals rfl) (by have := blk_lt HF7.out.a; have := hb8.size; omega) (by rw [List.length_map, List.length_take]; omega)
          obtain ⟨va', vc', rfl⟩ := hown.form
          have HF9 := Lib.hid ((HF7.out.step hb8).app hown hfr)
          have HTK : Hid ((evs.take k).map fewE ++ [fewE ⟨kind, conn, n, bytes, keep⟩] = (evs.take (k + 1)).map fewE) := by show _ = _; rw [List.take_add_one, HX.out]; simp
          rw [HTK.out] at HF9 hrun
          have HRUN := Lib.hid hrun
          generalize ((evs.take (k + 1)).map fewE).length = ne1 at HRUN HF9
          clear hrun hown hfr hnew hb8 hEA
          go_wp2_with (refine wpList_append_eq rfl _ _ 24 rfl (by first | rfl | simp [go_sem]) (by first | rfl | simp [go_sem]) HRUN.out ?_)
          go_roundg (ne - (k + 1))
          case measure => omega
          case rel => exact ⟨k + 1, va', ne1, vc', rfl, by omega, by omega, rfl, by go_num, HF9⟩
        -- END
    · obtain rfl : k = ne := by omega
      have HFN : Hid (FwS w S A #[.int .i64 p.g, .int .i64 p.s, .int .i64 p.l, .int .i64 p.p, .int .i64 p.c, .slice a k cap] (.slice va vn vc) ((evs.take k).map fewE) wr) := HJ.out
      have HEQ : Hid ((evs.take k).map fewE = (fewS ⟨p, evs⟩).evs) := by
        show _ = (evs.take 201).map fewE
        rw [List.take_of_length_le (by have := HNE.out; omega), List.take_of_length_le (by have := HNE.out; omega)]
      clear HJ HF
      have s5 : wr.cell? ⟨S, 5, none⟩ = some (.slice a k cap) := blk_cell HFN.out.s 5
      have s0 : wr.cell? ⟨S, 0, none⟩ = some (.int .i64 p.g) := blk_cell HFN.out.s 0
      have s1 : wr.cell? ⟨S, 1, none⟩ = some (.int .i64 p.s) := blk_cell HFN.out.s 1
      have s2 : wr.cell? ⟨S, 2, none⟩ = some (.int .i64 p.l) := blk_cell HFN.out.s 2
      have s3 : wr.cell? ⟨S, 3, none⟩ = some (.int .i64 p.p) := blk_cell HFN.out.s 3
      have s4 : wr.cell? ⟨S, 4, none⟩ = some (.int .i64 p.c) := blk_cell HFN.out.s 4
      have a0 : wr.cell? ⟨A, 0, none⟩ = some (.int .i64 0) := blk_cell HFN.out.a 0
      have a1 : wr.cell? ⟨A, 1, none⟩ = some (.int .i64 0) := blk_cell HFN.out.a 1
      have a2 : wr.cell? ⟨A, 2, none⟩ = some (.int .i64 0) := blk_cell HFN.out.a 2
      have a3 : wr.cell? ⟨A, 3, none⟩ = some (.int .i64 0) := blk_cell HFN.out.a 3
      have a4 : wr.cell? ⟨A, 4, none⟩ = some (.int .i64 0) := blk_cell HFN.out.a 4
      have a5 : wr.cell? ⟨A, 5, none⟩ = some (.slice none 0 0) := blk_cell HFN.out.a 5
      have fs := fun r => blk_frozen HFN.out.s r
      have fa := fun r => blk_frozen HFN.out.a r
      have hSA : S ≠ A := by have := HFN.out.hS; have := HFN.out.hA; omega
      have hAS : A ≠ S := fun e => hSA e.symm
      go_wp2_with fail
      have e6 := set6 (v0 := .int .i64 p.g) (v1 := .int .i64 p.s) (v2 := .int .i64 p.l) (v3 := .int .i64 p.p) (v4 := .int .i64 p.c) (v5 := .slice va vn vc) (blk_set HFN.out.a (p := ⟨S, 5, none⟩) hAS (.slice va vn vc))
      have r0 := blk_cell e6 0
      have r1 := blk_cell e6 1
      have r2 := blk_cell e6 2
      have r3 := blk_cell e6 3
      have r4 := blk_cell e6 4
      have r5 := blk_cell e6 5
      refine bodyPost_ret (v := scrV p (.slice va vn vc)) (by simp [results, Tryd.f9, go_sem, r0, r1, r2, r3, r4, r5, scrV]) rfl ?_
      exact ⟨_, rfl, HFN.out.fin HEQ.out (frm_set S 5 _) (frm_set6 A _ _ _ _ _ _)⟩
end Go.Proofs.YtelaijogjgcloaaDoor
