/- The disk: Read, where it succeeds. Conditions: the disk is there. The superblocks' store: room. Conditions: what is known may be; the disk is there. The superblocks' store: Get, Disk, Base. Conditions: what is known may be. The superblocks' store: Format. Conditions: the disk is there, not much is pending. The superblocks' store: Open. Conditions: the disk is there. -/
import Derived.Test.YtjmocjcjiiopnaaGreatLogScans12
import Derived.Test.YtjmocjcjiiopnaaGreatLogScans13

section
set_option linter.unusedVariables false
set_option linter.unusedSimpArgs false
namespace Go.Proofs.YtjmocjcjiiopnaaGreat
open Go.RowKit Go.Ice Go.Oct Go.Dsk Go.Shelf
attribute [local go_sem] Oper.semAt_some
theorem backward (w : World) (a : Option Addr) (n c : Nat) : Calls Tryz.prog 80 #[.slice a n c] w fun e w' => e = .returned (.func (.func 119) #[] #[.pointer (some ⟨w.heap.size, 0, none⟩)]) ∧ w' = w.alloc (.cells #[.slice a n c] 104) := by
  go_enter Tryz.func80, Tryz.ntmps80
  go_wp2_with fail
  go_ret
  exact ⟨rfl, rfl⟩
/-- The round that finds the write. -/
structure RdHit (D1 : Dk) (s q : Value) (p e5 t4 i : Nat) (V0 : World) (pre : List (Nat × (Nat × List UInt8))) (W : World) : Prop where
  frm : Frm (fun b => b = e5 ∨ b = t4 ∨ b = p) V0 W
  lst : ∃ pre' x, pre = pre' ++ [x] ∧ (∀ y ∈ pre', y.2.1 ≠ i) ∧ x.2.1 = i ∧ W.heap[t4]? = some (.cells ((fix64 x.2.2).map u8v).toArray 38 (0, 0))
  hp : ∃ o', W.heap[p]? = some (.cells (dskC s q D1 o').toArray 106 (0, 0))
  he : W.heap[e5]? = some (.cells [Value.int .i64 0].toArray 32 (0, 0))
theorem RdHit.own {D1 : Dk} {s q : Value} {p e5 t4 i : Nat} {V0 : World} (h1 : p < V0.heap.size) (h2 : e5 < V0.heap.size) (h3 : t4 < V0.heap.size) (c : Code) : OwnFrom V0.heap.size (fun pre W => c = .ret ∧ RdHit D1 s q p e5 t4 i V0 pre W) := by
  rintro pre W W' row ⟨e, h⟩ hg hr
  have hz := h.frm.size
  have hb : ∀ (b : Nat) (o : Obj), b < V0.heap.size → W.heap[b]? = some o → W'.heap[b]? = some o := fun b o hb ho => (hg.block b (by omega) fun e => by have := (hr b e.symm).1; omega).trans ho
  obtain ⟨pre', x, l1, l2, l3, l4⟩ := h.lst
  obtain ⟨o', ho'⟩ := h.hp
  exact ⟨e, h.frm.on (grown_frm hg) (fun b hb => .inr (hr b hb).1), ⟨pre', x, l1, l2, l3, hb _ _ h3 l4⟩, ⟨o', hb _ _ h1 ho'⟩, hb _ _ h2 h.he⟩
theorem bwAt_of {w0 : World} {B : Nat → Prop} {M S : List Asn} {w : World} {qa : Option Addr} {qc bq : Nat} {D : Dk} (ok : D.ok) (h : St w0 B M S w) (i j : Nat) (hi : M[i]? = some (blkA bq [.slice qa D.pend.length qc] 104)) (hj : M[j]? = some (ownA 108 65 (.slice qa D.pend.length qc) D.pend.length (flatW D.pend))) : BwAt w.heap.size w bq D.pend := by
  refine ⟨h.lt i hi, fun x hx => (ok.p64 x hx).1, ok.plen, ?_⟩
  have hc := (h.cells i hi).1 0
  rcases Nat.eq_zero_or_pos D.pend.length with h0 | h0
  · refine .inl ⟨List.length_eq_zero_iff.1 h0, qa, qc, ?_⟩
    rw [hc, h0]; rfl
  · have ho := h.own j hj
    obtain ⟨g, rfl, hg1, hg2⟩ := own_pos ho h0
    exact .inr ⟨h0, g, qc, hc, (ho.lt g rfl).2, own_range ho⟩
set_option maxRecDepth 100000 in
set_option maxHeartbeats 16000000 in
theorem dread_ok (p : Nat) (D : Dk) (i : Nat) (h0 : (D.ready (i : Int)).2 = 0) : Meets Tryz.prog 42 #[.pointer (some ⟨p, 0, none⟩), .int .i64 i] [dskA p D] [] fun v L => v = .tuple #[blkV (D.at i), .int .i64 0] ∧ L = [dskA p (D.ready i).1] := by
  intro w B H
  have hbx := (((H.alloc [.pointer (some ⟨p, 0, none⟩)] 29).alloc [.int .i64 i] 3).alloc zL64 38).alloc [.int .i64 0] 32
  simp only [World.size_alloc] at hbx
  refine (callsIn_wide (n := 5)).1 ?_
  refine callsIn_of_wp_marks Tryz.func42 rfl trivial ?_ rfl
  simp only [Tryz.ntmps42, List.size_toArray, List.length_cons, List.length_nil, Nat.reduceAdd, Nat.reduceSub, Array.replicate_succ, Array.replicate_zero, List.push_toArray, List.append_toArray, List.nil_append, List.cons_append]
  refine wpIn_wide.2 ?_
  go_wp2_with fail
  refine ((ready p D i).call (M := [blkA _ _ _, blkA _ _ _, blkA _ _ _, blkA _ _ _]) (St.pick hbx [4, 0, 1, 2, 3]) (by simp)).mono ?_
  rintro e w1 ⟨v, L, rfl, ⟨rfl, rfl⟩, H1⟩
  obtain ⟨r1, r2, r3, r4⟩ := Dk.ready_zero h0
  have HR4 := Lib.hid r4
  have HR3 := Lib.hid r3
  rw [h0]
  clear h0 r3 r4
  generalize hD1 : (D.ready i).1 = D1 at *
  have HD1 := Lib.hid hD1
  clear hD1
  obtain ⟨s, q, o, ok, H2⟩ := dskA.open H1
  obtain ⟨qa, qc, rfl, hqm⟩ := own_form (St.own H2 2)
  obtain ⟨hc2, hf2⟩ := St.cells H2 6
  obtain ⟨hcp, hfp⟩ := St.cells H2 0
  unfold dskC at hcp
  go_wp2_with fail
  refine (backward w1 _ _ _).mono ?_
  rintro e V0 ⟨rfl, hV0⟩
  have HV := St.alloc H2 [.slice qa D1.pend.length qc] 104
  rw [← hV0] at HV
  have hBW : BwAt V0.heap.size V0 w1.heap.size D1.pend := bwAt_of ok HV 0 3 rfl rfl
  have hsz : V0.heap.size = w1.heap.size + 1 := by rw [hV0]; simp
  clear hV0 hc2 hf2 hcp hfp H1 H2
  go_wp2_with fail
  have lp := St.lt HV 1
  have le5 := St.lt HV 4
  have lt4 := St.lt HV 5
  have HV' := HV
  refine (wpIn_wide (n := 5)).1 ?_
  refine wpIn_rangeFunc_ownH rfl (by omega) (gf := 119) (lb := #[.pointer (some ⟨w1.heap.size, 0, none⟩)]) rfl trivial (enters_of Tryz.func119 (by kernel_rfl) rfl)
    (bwd_stops Fence.wide _ trivial rfl (by omega) w1.heap.size V0.heap.size D1.pend V0 (Nat.le_refl _) hBW) belowK_t (belowK_b (Nat.le_refl _)) (Below.refl _ _) (fun _ => rfl)
    (fun pre W => Below V0.heap.size V0 W ∧ ∀ y ∈ pre, y.2.1 ≠ i)
    (fun c pre W => c = .ret ∧ RdHit D1 s (.slice qa D1.pend.length qc) p (w.heap.size + 1 + 1 + 1) (w.heap.size + 1 + 1) i V0 pre W)
    (OwnFrom.and (ownFrom_below (Nat.le_refl _) (Nat.le_refl _)) (ownFrom_pure _ (fun (pre : List (Nat × (Nat × List UInt8))) => ∀ y ∈ pre, y.2.1 ≠ i)))
    (fun c => RdHit.own lp le5 lt4 c) ⟨Below.refl _ _, fun y hy => by cases hy⟩
    (fun x a' W => ∃ Bx, V0.heap.size ≤ Bx ∧ W.heap[Bx]? = some (.cells (wrF x.2).toArray 108 (0, 0)) ∧ a' = { tmps := #[.pointer (some ⟨p, 0, none⟩), .int .i64 i, .pointer (some ⟨w.heap.size, 0, none⟩), .pointer (some ⟨w.heap.size + 1, 0, none⟩), .pointer (some ⟨w.heap.size + 1 + 1, 0, none⟩), .pointer (some ⟨w.heap.size + 1 + 1 + 1, 0, none⟩), .int .i64 0, undef, .pointer (some ⟨Bx, 0, none⟩), .pointer (some ⟨p, 0, none⟩), .int .i64 i, .int .i64 0, .int .i64 0, .bool false, undef, undef, .pointer (some ⟨p, 0, none⟩), .pointer (some ⟨p, 0, none⟩), .pointer (some ⟨p, 1, none⟩), .slice qa D1.pend.length qc, .func (.func 119) #[] #[.pointer (some ⟨w1.heap.size, 0, none⟩)], .int .i64 x.1, .agg (wrF x.2).toArray, undef, undef, undef, undef, undef, undef, undef, undef, undef, undef, undef, undef, undef, undef, undef, undef, undef, undef, undef, undef, undef, undef, undef, undef, undef, undef, undef], defers := [] })
    (fun x a' _ X Y row hs hg hr => by
      obtain ⟨Bx, h1, h2, h3⟩ := hs
      refine ⟨Bx, h1, (hg.block Bx (Array.getElem?_eq_some_iff.1 h2).1 (fun e => ?_)).trans h2, h3⟩
      obtain ⟨_, o, ho, hc⟩ := hr Bx e.symm
      rw [h2] at ho; injection ho with ho; rw [← ho] at hc; cases hc)
    ?assign0 ?body0 ?done0 ?stop0
  case assign0 =>
    rintro l pre x W K ⟨hI1, hI2⟩ hK
    unfold encW
    have hbw := blk_whole (w := W) (zs := Tryz.zeroCells108) (e := 108) (vs := wrF x.2) (by rw [wrF_len]; rfl)
    gi_wp2_with (refine wpli_store rfl _ _ _ rfl W.heap.size 0 (by rfl) (cs := wrF x.2) (by rfl) (wrF_len _) (there_whole _ _ _ _ (by decide)) bigWrote (wrC_one _) ?_)
    have hs := hI1.size
    exact hK _ _ ⟨hbw.2.size, fun k o _ hk _ => (hbw.2.block k (blk_lt hk)).trans hk⟩ (hbw.2.mono (by omega)) ⟨hI1.trans (hbw.2.mono (by omega)), hI2⟩ ⟨W.heap.size, by omega, hbw.1, rfl⟩
  case body0 =>
    rintro l pre x a' W hl _ ⟨hI1, hI2⟩ ⟨Bx, hBx, hbx, rfl⟩ hlt
    have HW := HV.below hI1
    obtain ⟨hcp, hfp⟩ := St.cells HW 1
    obtain ⟨hc3, hf3⟩ := St.cells HW 6
    obtain ⟨hc2, hf2⟩ := St.cells HW 7
    unfold dskC at hcp
    have hx0 : W.cell? ⟨Bx, 0, none⟩ = some (.int .i64 x.2.1) := by rw [blk_cell hbx]; rfl
    have hbl : Bx < W.heap.size := blk_lt hbx
    have HHI := Lib.hid hI1
    have HHJ := Lib.hid hI2
    clear hI1 hI2
    by_cases heq : x.2.1 = i
    · have H5 := St.set_ HW 1 6 (.int .i64 (wrap64 (o + 1))) rfl
      have hfr : Frm (fun b => b = p) W (W.setCell ⟨p, 6, none⟩ (.int .i64 (wrap64 (o + 1)))) := setCell_frm1 _ _ _ _
      have hbx2 : (W.setCell ⟨p, 6, none⟩ (.int .i64 (wrap64 (o + 1)))).heap[Bx]? = some (.cells (wrF x.2).toArray 108 (0, 0)) := (hfr.block Bx hbl (by omega)).trans hbx
      have h64 : ((fix64 x.2.2).map u8v).length = 64 := by rw [List.length_map, fix64_len]
      have HX := Lib.hid heq
      rw [heq] at hx0
      have HR1 : (W.setCell ⟨p, 6, none⟩ (.int .i64 (wrap64 (o + 1)))).rangeAt Bx 1 ((fix64 x.2.2).map u8v) := ((rangeAt_append (l := [.int .i64 x.2.1])).1 (rangeAt_blk hbx2)).2
      have HT1 : (W.setCell ⟨p, 6, none⟩ (.int .i64 (wrap64 (o + 1)))).there (w.heap.size + 1 + 1) 0 64 := St.there H5 5 64
      have H6 := St.setAllAt H5 5 (vs := (fix64 x.2.2).map u8v) rfl (by rw [h64]; rfl)
      obtain ⟨fv, hfv⟩ : ∃ fv, fv = (fix64 x.2.2).map u8v := ⟨_, rfl⟩
      rw [← hfv] at h64 HR1 H6
      have hf1 : ∀ u ∈ fv, u.oneCell' = true := by rw [hfv]; exact u8v_one _
      have HFV := Lib.hid hfv
      clear hbx heq hbx2 hfv
      gi_wp2_with (first | (refine wpli_load rfl _ _ rfl Bx 1 (by rfl) h64 HR1 bigBlock ?_) | ((refine wpli_store rfl _ _ _ rfl (w.heap.size + 1 + 1) 0 (by rfl) (cs := fv) (by rfl) h64 HT1 bigBlock hf1 ?_); (refine wpli_world (fun W2 => St w B _ _ W2 ∧ Frm (fun b => b = p ∨ b = w.heap.size + 1 + 1) W W2) ⟨H6, (hfr.mono fun _ _ h => .inl h).trans ((frm_setCells _ _ _ _).mono fun _ _ h => .inr h)⟩ ?_); intro W2 hW2; (obtain ⟨H7, hF7⟩ := hW2); (obtain ⟨hc7, hf7⟩ := St.cells H7 4)))
      have H8 := St.set_ H7 4 0 (.int .i64 0) rfl
      have hfull : Frm (fun b => b = w.heap.size + 1 + 1 + 1 ∨ b = w.heap.size + 1 + 1 ∨ b = p) W (W2.setCell ⟨w.heap.size + 1 + 1 + 1, 0, none⟩ (.int .i64 0)) := (hF7.mono fun _ _ h => by rcases h with h | h; exact .inr (.inr h); exact .inr (.inl h)).trans ((setCell_frm1 _ _ _ _).mono fun _ _ h => .inl h)
      have k4 := St.heap H8 5
      rw [HFV.out] at k4
      exact ⟨keepsFrom_frm hfull (by rintro b (rfl | rfl | rfl) <;> assumption), rfl, ⟨(frm_below HHI.out).trans hfull, ⟨pre, x, rfl, HHJ.out, HX.out, k4⟩, ⟨_, St.heap H8 1⟩, St.heap H8 4⟩⟩
    · have HX := Lib.hid heq
      have hne : ((x.2.1 : Int) == (i : Int)) = false := by simp; omega
      clear heq hbx
      gi_wp2
      refine ⟨KeepsFrom.refl _ _, Below.refl _ _, HHI.out, fun y hy => ?_⟩
      rcases List.mem_append.1 hy with hy | hy
      · exact HHJ.out y hy
      · rw [List.mem_singleton.1 hy]; exact HX.out
  case stop0 =>
    rintro Dd c pre W hD hp ⟨rfl, hh⟩ hK
    obtain ⟨pre', x, rfl, l2, l3, l4⟩ := hh.lst
    obtain ⟨o', ho'⟩ := hh.hp
    have hx64 : fix64 x.2.2 = x.2.2 := fix64_eq (ok.p64 _ (bwd_mem (hp.subset (by simp)))).1
    have hat : D.at i = x.2.2 := by rw [show D.at i = D1.at i by unfold Dk.at; rw [HR4.out, HR3.out]]; exact Dk.at_hit hp l2 l3
    rw [hx64, ← hat] at l4
    have hpf := putObj_frm W Dd (.deferred none)
    have hz := hh.frm.size
    have H9 := St.re3 (St.pick HV [4, 5, 1, 2, 3]) (hh.frm.on hpf fun b e => .inr (by rw [e]; exact hD)) ((hpf.block _ (by omega) (by omega)).trans hh.he) ((hpf.block _ (by omega) (by omega)).trans l4) ((hpf.block _ (by omega) (by omega)).trans ho')
    obtain ⟨hc4, hf4⟩ := St.cells H9 0
    have h64 : ((D.at i).map u8v).length = 64 := by rw [List.length_map, hat, ← hx64, fix64_len]
    refine wpIn_wide.2 ?_
    go_wp2_with fail
    refine ⟨by simp, .inl ⟨_, _, rfl, run_takeDeferred hK, ?_⟩⟩
    refine ⟨_, results2 (n := 64) rfl rfl rfl h64 bigBlock (St.range H9 1) (v := .int .i64 0) (by simp [loadVar, go_sem, hc4]), ?_⟩
    exact Back.mk ⟨rfl, by rw [HD1.out]; rfl⟩ (dskA.close ok (St.pick H9 [2, 3, 4]))
  case done0 =>
    rintro Dd ys W hD hys ⟨hI1, hI2⟩ hK
    have HW := HV.newObj hI1 hD hK
    obtain ⟨hcp, hfp⟩ := St.cells HW 2
    obtain ⟨hc2, hf2⟩ := St.cells HW 8
    unfold dskC at hcp
    subst hys
    have hat : D.at i = D1.safe.getD i [] := by rw [show D.at i = D1.at i by unfold Dk.at; rw [HR4.out, HR3.out]]; exact Dk.at_miss hI2
    have HAT := Lib.hid hat
    clear hat hI2
    go_wp2_with fail
    have H5 := St.set_ HW 2 6 (.int .i64 (wrap64 (o + 1))) rfl
    clear hcp hfp hc2 hf2
    have hlt : i < D1.safe.length := by rw [HR3.out]; omega
    have hmem : D1.safe[i]? = some (D1.safe.getD i []) := by rw [List.getD_eq_getElem?_getD, List.getElem?_eq_getElem hlt]; rfl
    have h64 : ((D1.safe.getD i []).map u8v).length = 64 := by rw [List.length_map]; exact ok.s64 _ (List.mem_of_getElem? hmem)
    obtain ⟨sa, sc, rfl, hsm⟩ := own_form (St.own H5 3)
    obtain ⟨g, rfl, hg1, hg2⟩ := own_pos (St.own H5 3) (by omega)
    refine wp_tail (fun W => St w B _ _ W) 7 (St.drew H5) (by kernel_rfl) (by kernel_rfl) ?_
    intro w2 H6
    clear H5 HW
    obtain ⟨hcp, hfp⟩ := St.cells H6 2
    obtain ⟨hc3, hf3⟩ := St.cells H6 7
    obtain ⟨hc2, hf2⟩ := St.cells H6 8
    have hi0 : (0 : Int) ≤ (i : Int) := by omega
    have hi1 : (i : Int) < (D1.safe.length : Int) := by omega
    have HR : w2.rangeAt g (i * 64) ((D1.safe.getD i []).map u8v) := rangeAt_flat (f := fun b => b.map u8v) (own_range (St.own H6 3)) (fun y hy => by rw [List.length_map]; exact ok.s64 y hy) hmem
    have HT : w2.there (w.heap.size + 1 + 1) 0 64 := St.there H6 6 64
    unfold dskC at hcp
    obtain ⟨fv, hfv⟩ : ∃ fv, fv = (D1.safe.getD i []).map u8v := ⟨_, rfl⟩
    have hf1 : ∀ u ∈ fv, u.oneCell' = true := by rw [hfv]; exact u8v_one _
    have H7 := St.setAllAt H6 6 (vs := fv) rfl (by rw [hfv, h64]; rfl)
    rw [← hfv] at h64 HR
    have HFV := Lib.hid hfv
    clear hfv
    simp only [List.take_succ_cons, List.take_zero, List.drop_succ_cons, List.drop_zero]
    repeat still_step
    refine wps_load rfl _ _ rfl g (i * 64) (by rfl) h64 HR bigBlock ?_
    refine wpStill_nil ?_
    clear hcp hfp hc3 hf3 hc2 hf2
    simp only [Act.put, List.setIfInBounds_toArray, List.set_cons_succ, List.set_cons_zero]
    refine wpl_store rfl _ _ _ rfl (w.heap.size + 1 + 1) 0 (by rfl) fv (by rfl) 64 h64 HT bigBlock hf1 ?_
    refine wpl_world (fun W => St w B _ _ W) H7 ?_
    intro w3 H8
    obtain ⟨hc5, hf5⟩ := St.cells H8 5
    go_wp2_with fail
    have H9 := St.pick (St.set_ H8 5 0 (.int .i64 0) rfl) [0, 5, 6, 2, 3, 4]
    have H10 := St.putObj (o' := .deferred none) H9
    obtain ⟨hc10, hf10⟩ := St.cells H10 1
    refine ⟨by simp, .inl ⟨_, _, rfl, run_takeDeferred (St.obj H9 0), ?_⟩⟩
    refine ⟨_, results2 (n := 64) rfl rfl rfl h64 bigBlock (St.range H10 2) (v := .int .i64 0) (by simp [loadVar, go_sem, hc10]), ?_⟩
    rw [HFV.out, ← HAT.out]
    exact Back.mk ⟨rfl, by rw [HD1.out]; rfl⟩ (dskA.close ok (St.pick H10 [3, 4, 5]))
/-- Read, whatever it is asked. -/
theorem dread (p : Nat) (D : Dk) (i : Int) : Meets Tryz.prog 42 #[.pointer (some ⟨p, 0, none⟩), .int .i64 i] [dskA p D] [] fun v L => v = .tuple #[blkV (D.read i).2.1, .int .i64 (D.read i).2.2] ∧ L = [dskA p (D.read i).1] := by
  unfold Dk.read
  by_cases h0 : (D.ready i).2 = 0
  · obtain ⟨r1, r2, _⟩ := Dk.ready_zero h0
    obtain ⟨n, rfl⟩ : ∃ n : Nat, i = n := ⟨i.toNat, by omega⟩
    have := dread_ok p D n h0
    simp only [h0, if_true]
    exact this
  · simp only [if_neg h0]
    exact dread_err p D i h0
end Go.Proofs.YtjmocjcjiiopnaaGreat
end

section
set_option linter.unusedVariables false
set_option linter.unusedSimpArgs false
namespace Go.Oct
open Go.Dsk
def roomB (D : Dk) (x : Sp) : Bool := decide (2 + x.seg * x.sec ≤ (D.safe.length : Int))
end Go.Oct
namespace Go.Proofs.YtjmocjcjiiopnaaGreat
open Go.RowKit Go.Ice Go.Oct Go.Dsk
/-- A store: what is known, how often it was said, its disk. -/
def stoC (x : Sp) (t p : Nat) : List Value := [.int .i64 x.seg, .int .i64 x.sec, .int .u64 x.gen, .int .u64 x.ret, .int .u64 x.resv, .int .u64 x.flush, .int .u64 t, .pointer (some ⟨p, 0, none⟩)]
set_option maxHeartbeats 8000000 in
set_option maxRecDepth 20000 in
theorem room (p : Nat) (D : Dk) (x : Sp) (hx : x.may = true) : Meets Tryz.prog 77 #[.pointer (some ⟨p, 0, none⟩), supV x] [dskA p D] [] fun v L => v = .bool (roomB D x) ∧ L = [dskA p D] := by
  intro w B H
  have HL := len p D
  have hmay := of_decide_eq_true hx
  have HX : Hid (roomB D x = decide (2 + x.seg * x.sec ≤ (D.safe.length : Int))) := Lib.hid rfl
  obtain ⟨q, hq⟩ : ∃ q, q = roomB D x := ⟨_, rfl⟩
  rw [← hq] at HX ⊢
  obtain ⟨seg, sec, gen, ret, resv, flush⟩ := x
  dsimp only at hmay HX
  have H1 := H.alloc (supC ⟨seg, sec, gen, ret, resv, flush⟩) 51
  unfold supV supC at *
  obtain ⟨pr, hpr⟩ : ∃ pr, pr = seg * sec := ⟨_, rfl⟩
  have h1 : 0 ≤ pr ∧ pr ≤ 1024 := by
    rw [hpr]
    have a1 := Int.mul_nonneg (show 0 ≤ seg by omega) (show 0 ≤ sec by omega)
    have a2 := Int.mul_le_mul (show seg ≤ 16 by omega) (show sec ≤ 64 by omega) (show 0 ≤ sec by omega) (by decide)
    omega
  rw [← hpr] at HX
  have hw1 : IntKind.i64.wrap (seg * sec) = pr := by rw [← hpr, IntKind.wrap_i64]; omega
  have hw2 : IntKind.i64.wrap (2 + pr) = 2 + pr := by rw [IntKind.wrap_i64]; omega
  have hb : decide ((D.safe.length : Int) ≥ 2 + pr) = q := HX.out.symm
  clear hq hpr
  generalize D.safe.length = n at *
  obtain ⟨xb, hxb⟩ : ∃ xb, xb = w.heap.size := ⟨_, rfl⟩
  rw [← hxb] at H1
  go_enter Tryz.func77, Tryz.ntmps77
  go_upto_region 1 with fail
  rw [← hxb]
  have HXB := Lib.hid hxb
  clear hxb
  refine wp_world (fun W => St w B _ _ W) H1 ?_
  intro w1 H2
  clear H1
  refine wp_region_gh (Θ := Unit) (fun _ => [(0, 5, (.pointer (some ⟨p, 0, none⟩))), (1, 6, (.int .i64 (n : Int))), (2, 7, (.pointer (some ⟨xb, 0, none⟩))), (3, 8, (.int .i64 seg)), (4, 9, (.pointer (some ⟨xb, 1, none⟩))), (5, 10, (.int .i64 sec)), (6, 11, (.int .i64 pr)), (7, 12, (.int .i64 (2 + pr))), (8, 13, (.bool q)), (9, 4, (.bool q))]) (fun _ done WW => St w B (bif done 1 then [dskA p D, blkA xb [.int .i64 seg, .int .i64 sec, .int .u64 gen, .int .u64 ret, .int .u64 resv, .int .u64 flush] 51] else ([dskA p D, blkA xb [.int .i64 seg, .int .i64 sec, .int .u64 gen, .int .u64 ret, .int .u64 resv, .int .u64 flush] 51])) [] WW) (by kernel_rfl) (hord_of2 (by kernel_rfl)) (fun _ => by kernel_rfl) (fun _ => by kernel_rfl) (fun _ => by kernel_rfl) ⟨(), (St.swap H2).drew⟩ ?_ ?_
  · intro _ done zb WW j oq ho hd hdep hcl HA HJ
    have hj : j < 10 := (Array.getElem?_eq_some_iff.1 ho).1
    obtain rfl | rfl | rfl | rfl | rfl | rfl | rfl | rfl | rfl | rfl : j = 0 ∨ j = 1 ∨ j = 2 ∨ j = 3 ∨ j = 4 ∨ j = 5 ∨ j = 6 ∨ j = 7 ∨ j = 8 ∨ j = 9 := by omega
    · exact valG (θ := _) (.pointer (some ⟨p, 0, none⟩)) ho (by cases ho; rfl) (by cases ho; simp [execOp, go_sem, HA.tm, lookT]) (by cases ho; exact fun d hd => by cases hd; simp) HJ
    · have p0 : done 0 = true := by cases ho; exact hdep ⟨0, .data⟩ (by simp) rfl
      have HS : St w B [dskA p D, blkA xb [.int .i64 seg, .int .i64 sec, .int .u64 gen, .int .u64 ret, .int .u64 resv, .int .u64 flush] 51] [] WW := St.cast (by simp only [hd, cond_true, cond_false]) HJ
      exact callG (θ := _) (f := 118) (args := #[.pointer (some ⟨p, 0, none⟩)]) ho (by cases ho; rfl) (by cases ho; simp [execOp, go_sem, HA.tm, lookT, p0]) (HL.call (L := [_]) HS (by simp)) (by
        rintro e w' ⟨_, _, rfl, ⟨rfl, rfl⟩, HS'⟩
        exact ⟨_, (), rfl, by cases ho; exact fun d hd => by cases hd; simp, (.inl rfl), (St.cast (by simp [] <;> rfl) HS')⟩)
    · exact valG (θ := _) (.pointer (some ⟨xb, 0, none⟩)) ho (by cases ho; rfl) (by cases ho; simp [execOp, go_sem, HA.tm, lookT]) (by cases ho; exact fun d hd => by cases hd; simp) HJ
    · have p2 : done 2 = true := by cases ho; exact hdep ⟨2, .data⟩ (by simp) rfl
      have hcl_ : ∀ k, WW.cell? ⟨xb, k, none⟩ = ([.int .i64 seg, .int .i64 sec, .int .u64 gen, .int .u64 ret, .int .u64 resv, .int .u64 flush])[k]? := by
        have HQ := HJ
        cases g1 : done 1 <;> simp only [g1, hd, cond_true, cond_false] at HQ <;> first | exact (St.cells HQ 0).1 | exact (St.cells HQ 1).1 | exact (St.cells HQ 2).1 | exact (St.cells HQ 3).1 | exact (St.cells HQ 4).1 | exact (St.cells HQ 5).1 | exact (St.cells HQ 6).1 | exact (St.cells HQ 7).1
      exact valG (θ := _) (.int .i64 seg) ho (by cases ho; rfl) (by cases ho; simp [execOp, go_sem, HA.tm, lookT, p2, hcl_]) (by cases ho; exact fun d hd => by cases hd; simp) HJ
    · exact valG (θ := _) (.pointer (some ⟨xb, 1, none⟩)) ho (by cases ho; rfl) (by cases ho; simp [execOp, go_sem, HA.tm, lookT]) (by cases ho; exact fun d hd => by cases hd; simp) HJ
    · have p4 : done 4 = true := by cases ho; exact hdep ⟨4, .data⟩ (by simp) rfl
      have hcl_ : ∀ k, WW.cell? ⟨xb, k, none⟩ = ([.int .i64 seg, .int .i64 sec, .int .u64 gen, .int .u64 ret, .int .u64 resv, .int .u64 flush])[k]? := by
        have HQ := HJ
        cases g1 : done 1 <;> simp only [g1, hd, cond_true, cond_false] at HQ <;> first | exact (St.cells HQ 0).1 | exact (St.cells HQ 1).1 | exact (St.cells HQ 2).1 | exact (St.cells HQ 3).1 | exact (St.cells HQ 4).1 | exact (St.cells HQ 5).1 | exact (St.cells HQ 6).1 | exact (St.cells HQ 7).1
      exact valG (θ := _) (.int .i64 sec) ho (by cases ho; rfl) (by cases ho; simp [execOp, go_sem, HA.tm, lookT, p4, hcl_]) (by cases ho; exact fun d hd => by cases hd; simp) HJ
    · have p3 : done 3 = true := by cases ho; exact hdep ⟨3, .data⟩ (by simp) rfl
      have p5 : done 5 = true := by cases ho; exact hdep ⟨5, .data⟩ (by simp) rfl
      exact valG (θ := _) (.int .i64 pr) ho (by cases ho; rfl) (by cases ho; simp [execOp, go_sem, HA.tm, lookT, p3, p5, hw1]) (by cases ho; exact fun d hd => by cases hd; simp) HJ
    · have p6 : done 6 = true := by cases ho; exact hdep ⟨6, .data⟩ (by simp) rfl
      exact valG (θ := _) (.int .i64 (2 + pr)) ho (by cases ho; rfl) (by cases ho; simp [execOp, go_sem, HA.tm, lookT, p6, hw2]) (by cases ho; exact fun d hd => by cases hd; simp) HJ
    · have p1 : done 1 = true := by cases ho; exact hdep ⟨1, .data⟩ (by simp) rfl
      have p7 : done 7 = true := by cases ho; exact hdep ⟨7, .data⟩ (by simp) rfl
      exact valG (θ := _) (.bool q) ho (by cases ho; rfl) (by cases ho; simp [execOp, go_sem, HA.tm, lookT, p1, p7, hb]) (by cases ho; exact fun d hd => by cases hd; simp) HJ
    · have p8 : done 8 = true := by cases ho; exact hdep ⟨8, .data⟩ (by simp) rfl
      exact valG (θ := _) (.bool q) ho (by cases ho; rfl) (by cases ho; simp [execOp, go_sem, HA.tm, lookT, p8]) (by cases ho; exact fun d hd => by cases hd; simp) HJ
  · intro _ done WW hall HJ
    have z1 := hall 1 (by decide)
    have HE : St w B [dskA p D, blkA xb [.int .i64 seg, .int .i64 sec, .int .u64 gen, .int .u64 ret, .int .u64 resv, .int .u64 flush] 51] [] WW := St.cast (by simp [z1]) HJ
    clear HJ hall z1
    simp only [putAll, Act.put, List.setIfInBounds_toArray, List.set_cons_succ, List.set_cons_zero]
    go_wp2_with fail
    exact bodyPost_ret (results_tmp rfl _ _ _) rfl (Back.mk ⟨rfl, rfl⟩ (St.pick HE [0]))
end Go.Proofs.YtjmocjcjiiopnaaGreat
end

section
set_option linter.unusedVariables false
set_option linter.unusedSimpArgs false
namespace Go.Proofs.YtjmocjcjiiopnaaGreat
open Go.RowKit Go.Ice Go.Oct Go.Dsk
set_option maxHeartbeats 8000000 in
set_option maxRecDepth 20000 in
theorem sget (s : Nat) (x : Sp) (t p : Nat) : Meets Tryz.prog 27 #[.pointer (some ⟨s, 0, none⟩)] [blkA s (stoC x t p) 102] [] fun v L => v = supV x ∧ L = [blkA s (stoC x t p) 102] := by
  intro w B H
  have H1 := H.alloc [.int .i64 0, .int .i64 0, .int .u64 0, .int .u64 0, .int .u64 0, .int .u64 0] 51
  obtain ⟨seg, sec, gen, ret, resv, flush⟩ := x
  obtain ⟨rb, hrb⟩ : ∃ rb, rb = w.heap.size := ⟨_, rfl⟩
  rw [← hrb] at H1
  unfold stoC at H1
  go_enter Tryz.func27, Tryz.ntmps27
  go_upto_region 1 with fail
  rw [← hrb]
  clear hrb
  refine wp_world (fun W => St w B _ _ W) H1 ?_
  intro w1 H2
  clear H1
  obtain ⟨hc, hf⟩ := St.cells H2 0
  obtain ⟨hc2, hf2⟩ := St.cells H2 1
  go_wp2_with fail
  have H3 := (((((H2.set0 0 (.int .i64 seg)).set0 1 (.int .i64 sec)).set0 2 (.int .u64 gen)).set0 3 (.int .u64 ret)).set0 4 (.int .u64 resv)).set0 5 (.int .u64 flush)
  exact bodyPost_ret (results_c rfl rfl bigSup (St.range H3 0)) rfl (Back.mk ⟨rfl, rfl⟩ (St.pick H3 [1]))
set_option maxHeartbeats 8000000 in
set_option maxRecDepth 20000 in
theorem sdisk (s : Nat) (x : Sp) (t p : Nat) : Meets Tryz.prog 41 #[.pointer (some ⟨s, 0, none⟩)] [blkA s (stoC x t p) 102] [] fun v L => v = .pointer (some ⟨p, 0, none⟩) ∧ L = [blkA s (stoC x t p) 102] := by
  intro w B H
  obtain ⟨seg, sec, gen, ret, resv, flush⟩ := x
  unfold stoC at *
  obtain ⟨hc, hf⟩ := St.cells H 0
  go_enter Tryz.func41, Tryz.ntmps41
  go_wp2_with fail
  exact bodyPost_ret (results_tmp rfl _ _ _) rfl (Back.mk ⟨rfl, rfl⟩ H)
/-- Where a segment begins. -/
def baseV (x : Sp) (i : Int) : Value := if 0 ≤ i ∧ i < x.seg then .tuple #[.int .i64 (2 + i * x.sec), .int .i64 0] else .tuple #[.int .i64 0, .int .i64 2]
set_option maxHeartbeats 8000000 in
set_option maxRecDepth 20000 in
theorem sbase (s : Nat) (x : Sp) (t p : Nat) (i : Int) (hx : x.may = true) : Meets Tryz.prog 10 #[.pointer (some ⟨s, 0, none⟩), .int .i64 i] [blkA s (stoC x t p) 102] [] fun v L => v = baseV x i ∧ L = [blkA s (stoC x t p) 102] := by
  intro w B H
  have hmay := of_decide_eq_true hx
  have HV : Hid (baseV x i = if 0 ≤ i ∧ i < x.seg then .tuple #[.int .i64 (2 + i * x.sec), .int .i64 0] else .tuple #[.int .i64 0, .int .i64 2]) := Lib.hid rfl
  obtain ⟨vv, hvv⟩ : ∃ vv, vv = baseV x i := ⟨_, rfl⟩
  rw [← hvv] at HV ⊢
  clear hvv
  obtain ⟨seg, sec, gen, ret, resv, flush⟩ := x
  dsimp only at hmay HV
  unfold stoC at *
  obtain ⟨hc, hf⟩ := St.cells H 0
  by_cases h0 : i < 0
  · have e1 : decide (i < 0) = true := decide_eq_true h0
    have HV2 : Hid (vv = .tuple #[.int .i64 0, .int .i64 2]) := Lib.hid (by rw [HV.out, if_neg (by omega)])
    clear hmay h0
    go_enter Tryz.func10, Tryz.ntmps10
    go_wp2_with fail
    exact bodyPost_ret (results_tmp2 rfl _ _ _) rfl (Back.mk ⟨by rw [HV2.out]; rfl, rfl⟩ H)
  · have e1 : decide (i < 0) = false := decide_eq_false h0
    by_cases h1 : i < seg
    · have e2 : decide (i ≥ seg) = false := decide_eq_false (by omega)
      obtain ⟨pr, hpr⟩ : ∃ pr, pr = i * sec := ⟨_, rfl⟩
      have h2 : 0 ≤ pr ∧ pr ≤ 1024 := by
        rw [hpr]
        have a1 := Int.mul_nonneg (show 0 ≤ i by omega) (show 0 ≤ sec by omega)
        have a2 := Int.mul_le_mul (show i ≤ 16 by omega) (show sec ≤ 64 by omega) (show 0 ≤ sec by omega) (by decide)
        omega
      have hw1 : IntKind.i64.wrap (i * sec) = pr := by rw [← hpr, IntKind.wrap_i64]; omega
      have hw2 : IntKind.i64.wrap (2 + pr) = 2 + pr := by rw [IntKind.wrap_i64]; omega
      have HV2 : Hid (vv = .tuple #[.int .i64 (2 + pr), .int .i64 0]) := Lib.hid (by rw [HV.out, if_pos (by omega), hpr])
      clear hmay h0 h1 h2 hpr
      go_enter Tryz.func10, Tryz.ntmps10
      go_wp2_with fail
      exact bodyPost_ret (results_tmp2 rfl _ _ _) rfl (Back.mk ⟨by rw [HV2.out]; rfl, rfl⟩ H)
    · have e2 : decide (i ≥ seg) = true := decide_eq_true (by omega)
      have HV2 : Hid (vv = .tuple #[.int .i64 0, .int .i64 2]) := Lib.hid (by rw [HV.out, if_neg (by omega)])
      clear hmay h0 h1
      go_enter Tryz.func10, Tryz.ntmps10
      go_wp2_with fail
      exact bodyPost_ret (results_tmp2 rfl _ _ _) rfl (Back.mk ⟨by rw [HV2.out]; rfl, rfl⟩ H)
end Go.Proofs.YtjmocjcjiiopnaaGreat
end

section
set_option linter.unusedVariables false
set_option linter.unusedSimpArgs false
namespace Go.Dsk
theorem Dk.out_pend (D : Dk) : D.out.pend = D.pend := rfl
theorem Dk.write_pend (D : Dk) (i : Int) (b : List UInt8) : (D.write i b).1.pend.length ≤ D.pend.length + 1 := by
  unfold Dk.write
  rcases D.op_cases i fun D => { D with pend := D.pend ++ [(i.toNat, b)] } with ⟨_, e⟩ | ⟨_, _, e⟩ | ⟨D2, _, h, e⟩ <;> rw [e]
  · rw [(D.ready_same i).2.1]; omega
  · rw [Dk.out_pend, (D.ready_same i).2.1]; omega
  · show (D2.pend ++ [(i.toNat, b)]).length ≤ _
    rw [(Dk.go_same h).2.1, (D.ready_same i).2.1]; simp
theorem Dk.write_len (D : Dk) (i : Int) (b : List UInt8) : (D.write i b).1.safe.length = D.safe.length := by
  unfold Dk.write
  rcases D.op_cases i fun D => { D with pend := D.pend ++ [(i.toNat, b)] } with ⟨_, e⟩ | ⟨_, _, e⟩ | ⟨D2, _, h, e⟩ <;> rw [e]
  · rw [(D.ready_same i).1]
  · show (D.ready i).1.safe.length = _; rw [(D.ready_same i).1]
  · show D2.safe.length = _
    rw [(Dk.go_same h).1, (D.ready_same i).1]
end Go.Dsk
namespace Go.Oct
open Go.Dsk
def zB : List UInt8 := List.replicate 64 0
/-- What becomes of a disk that is divided. -/
def fmtF (D : Dk) (x : Sp) : Dk × Nat := if x.may = false then (D, 2) else if roomB D x = false then (D, 170) else if (D.write 0 (supB x 0)).2 ≠ 0 then D.write 0 (supB x 0)
  else if ((D.write 0 (supB x 0)).1.write 1 zB).2 ≠ 0 then (D.write 0 (supB x 0)).1.write 1 zB else ((D.write 0 (supB x 0)).1.write 1 zB).1.sync
end Go.Oct
namespace Go.Proofs.YtjmocjcjiiopnaaGreat
open Go.RowKit Go.Ice Go.Oct Go.Dsk
/-- A store, if all went well. -/
def stoQ (p : Nat) (x : Sp) (t : Nat) (r : Dk × Nat) (v : Value) (L : List Asn) : Prop :=
  if r.2 = 0 then ∃ s, v = .tuple #[.pointer (some ⟨s, 0, none⟩), .int .i64 0] ∧ L = [blkA s (stoC x t p) 102, dskA p r.1] else v = .tuple #[.pointer none, .int .i64 r.2] ∧ L = [dskA p r.1]
theorem stoQ.err {p : Nat} {x : Sp} {t : Nat} {r : Dk × Nat} {D : Dk} {e : Nat} (h : r = (D, e)) (he : e ≠ 0) : stoQ p x t r (.tuple #[.pointer none, .int .i64 e]) [dskA p D] := by
  subst h; unfold stoQ; rw [if_neg he]; exact ⟨rfl, rfl⟩
theorem stoQ.good {p : Nat} {x : Sp} {t : Nat} {r : Dk × Nat} {D : Dk} (h : r = (D, 0)) (s : Nat) : stoQ p x t r (.tuple #[.pointer (some ⟨s, 0, none⟩), .int .i64 0]) [blkA s (stoC x t p) 102, dskA p D] := by
  subst h; unfold stoQ; rw [if_pos rfl]; exact ⟨s, rfl, rfl⟩
set_option maxHeartbeats 16000000 in
set_option maxRecDepth 20000 in
theorem sformat (p : Nat) (D : Dk) (seg sec : Int) (hpl : D.pend.length < 999990) : Meets Tryz.prog 36 #[.pointer (some ⟨p, 0, none⟩), .int .i64 seg, .int .i64 sec] [dskA p D] [] fun v L => stoQ p ⟨seg, sec, 0, 0, 0, 0⟩ 0 (fmtF D ⟨seg, sec, 0, 0, 0, 0⟩) v L := by
  intro w B H
  have HSE : Meets Tryz.prog 76 #[.agg #[.int .i64 seg, .int .i64 sec, .int .u64 0, .int .u64 0, .int .u64 0, .int .u64 0], .int .u64 0] [] [] (fun v L => v = supE ⟨seg, sec, 0, 0, 0, 0⟩ 0 ∧ L = []) := sencode ⟨seg, sec, 0, 0, 0, 0⟩ (by unfold Sp.fits; simp) 0 (by decide)
  have H1 := H.alloc [.int .i64 seg, .int .i64 sec, .int .u64 0, .int .u64 0, .int .u64 0, .int .u64 0, .int .u64 0, .pointer (some ⟨p, 0, none⟩)] 102
  have HSL := supB_len ⟨seg, sec, 0, 0, 0, 0⟩ 0
  unfold supE at HSE
  cases hm : Sp.may ⟨seg, sec, 0, 0, 0, 0⟩
  · rw [hm, if_neg (by decide)] at HSE
    have HQ : Hid (fmtF D ⟨seg, sec, 0, 0, 0, 0⟩ = (D, 2)) := Lib.hid (by unfold fmtF; rw [if_pos hm])
    clear hm
    obtain ⟨r, hr⟩ : ∃ r, r = fmtF D ⟨seg, sec, 0, 0, 0, 0⟩ := ⟨_, rfl⟩
    rw [← hr] at HQ ⊢
    clear hr
    go_enter Tryz.func36, Tryz.ntmps36
    go_upto_region 4 with fail
    refine wp_world (fun W => St w B _ _ W) H1 ?_
    intro w1 H2
    clear H1
    obtain ⟨hc, hf⟩ := St.cells H2 0
    go_wp2_with fail
    refine (HSE.call (L := []) (M := [_, _]) H2 (by simp)).mono ?_
    rintro e w3 ⟨v, L, rfl, ⟨rfl, rfl⟩, H4⟩
    obtain ⟨fv, hfv⟩ : ∃ fv, fv = (List.replicate 64 (0 : UInt8)).map u8v := ⟨_, rfl⟩
    have hfl : fv.length = 64 := by rw [hfv]; rfl
    have hf1 : ∀ u ∈ fv, u.oneCell' = true := by rw [hfv]; exact u8v_one _
    have eb : blkV (List.replicate 64 0) = .agg fv.toArray := by rw [hfv]; rfl
    rw [eb]
    clear hfv eb hc hf
    go_wp2_with ((refine wpl_store rfl _ _ _ rfl w3.heap.size 0 (by rfl) fv (by rfl) 64 hfl (there_whole _ _ _ _ (by decide)) bigBlock hf1 ?_); (refine wpl_world _ (H4.whole _ _ fv (by rw [hfl]; rfl)) ?_); intro w5 H5)
    exact bodyPost_ret (results_tmp2 rfl _ _ _) rfl (Back.mk (stoQ.err HQ.out (by decide)) (St.pick H5 [2]))
  · have HR : Meets Tryz.prog 77 #[.pointer (some ⟨p, 0, none⟩), .agg #[.int .i64 seg, .int .i64 sec, .int .u64 0, .int .u64 0, .int .u64 0, .int .u64 0]] [dskA p D] [] (fun v L => v = .bool (roomB D ⟨seg, sec, 0, 0, 0, 0⟩) ∧ L = [dskA p D]) := room p D ⟨seg, sec, 0, 0, 0, 0⟩ hm
    rw [hm, if_pos rfl] at HSE
    have hF : fmtF D ⟨seg, sec, 0, 0, 0, 0⟩ = if roomB D ⟨seg, sec, 0, 0, 0, 0⟩ = false then (D, 170) else if (D.write 0 (supB ⟨seg, sec, 0, 0, 0, 0⟩ 0)).2 ≠ 0 then D.write 0 (supB ⟨seg, sec, 0, 0, 0, 0⟩ 0)
        else if ((D.write 0 (supB ⟨seg, sec, 0, 0, 0, 0⟩ 0)).1.write 1 zB).2 ≠ 0 then (D.write 0 (supB ⟨seg, sec, 0, 0, 0, 0⟩ 0)).1.write 1 zB else ((D.write 0 (supB ⟨seg, sec, 0, 0, 0, 0⟩ 0)).1.write 1 zB).1.sync := by
      show (if Sp.may ⟨seg, sec, 0, 0, 0, 0⟩ = false then _ else _) = _
      rw [hm, if_neg (by decide)]
    clear hm
    obtain ⟨r, hr⟩ : ∃ r, r = fmtF D ⟨seg, sec, 0, 0, 0, 0⟩ := ⟨_, rfl⟩
    rw [← hr] at hF ⊢
    clear hr
    generalize supB ⟨seg, sec, 0, 0, 0, 0⟩ 0 = sb at *
    generalize roomB D ⟨seg, sec, 0, 0, 0, 0⟩ = q at *
    have HW1 := write p D 0 sb HSL (by omega)
    have hp1 := D.write_pend 0 sb
    obtain ⟨fv, hfv⟩ : ∃ fv, fv = sb.map u8v := ⟨_, rfl⟩
    have hfl : fv.length = 64 := by rw [hfv, List.length_map, HSL]
    have hf1 : ∀ u ∈ fv, u.oneCell' = true := by rw [hfv]; exact u8v_one _
    unfold blkV at HSE HW1
    rw [← hfv] at HSE HW1
    have HF := Lib.hid hF
    have HFV := Lib.hid hfv
    have HW := Lib.hid HW1
    clear hF hfv HW1
    have go : ∀ w1, St w B [blkA w.heap.size [.int .i64 seg, .int .i64 sec, .int .u64 0, .int .u64 0, .int .u64 0, .int .u64 0, .int .u64 0, .pointer (some ⟨p, 0, none⟩)] 102, dskA p D] [] w1 → True := fun _ _ => trivial
    cases q
    · have HQ : Hid (r = (D, 170)) := Lib.hid (by rw [HF.out, if_pos rfl])
      go_enter Tryz.func36, Tryz.ntmps36
      go_upto_region 4 with fail
      refine wp_world (fun W => St w B _ _ W) H1 ?_
      intro w1 H2
      clear H1
      obtain ⟨hc, hf⟩ := St.cells H2 0
      go_wp2_with fail
      refine (HSE.call (L := []) (M := [_, _]) H2 (by simp)).mono ?_
      rintro e w3 ⟨v, L, rfl, ⟨rfl, rfl⟩, H4⟩
      clear hc hf
      go_wp2_with ((refine wpl_store rfl _ _ _ rfl w3.heap.size 0 (by rfl) fv (by rfl) 64 hfl (there_whole _ _ _ _ (by decide)) bigBlock hf1 ?_); (refine wpl_world _ (H4.whole _ _ fv (by rw [hfl]; rfl)) ?_); intro w5 H5; (obtain ⟨hc, hf⟩ := St.cells H5 1))
      refine (HR.call (L := [_]) (M := [_, _]) (St.pick H5 [2, 0, 1]) (by simp)).mono ?_
      rintro e w6 ⟨v, L, rfl, ⟨rfl, rfl⟩, H6⟩
      go_wp2_with fail
      exact bodyPost_ret (results_tmp2 rfl _ _ _) rfl (Back.mk (stoQ.err HQ.out (by decide)) (St.pick H6 [0]))
    · have hF2 := HF.out
      rw [if_neg (show ¬ (true = false) by decide)] at hF2
      clear HF
      have ez : blkV zB = .agg zL64.toArray := by unfold blkV zB; rw [zeroBlock]
      generalize hr1 : D.write 0 sb = r1 at *
      obtain ⟨D1, e1⟩ := r1
      dsimp only at hF2 hp1
      have HW2 := write p D1 1 zB (by decide) (by omega)
      rw [ez] at HW2
      generalize hr2 : D1.write 1 zB = r2 at *
      obtain ⟨D2, e2⟩ := r2
      have HS := sync p D2
      generalize hr3 : D2.sync = r3 at *
      obtain ⟨D3, e3⟩ := r3
      dsimp only at hF2 hp1 HW2 HS
      have HFX := Lib.hid hF2
      have HW2 := Lib.hid HW2
      have HS := Lib.hid HS
      clear hF2 hr1 hr2 hr3
      go_enter Tryz.func36, Tryz.ntmps36
      go_upto_region 4 with fail
      refine wp_world (fun W => St w B _ _ W) H1 ?_
      intro w1 H2
      clear H1
      obtain ⟨hc, hf⟩ := St.cells H2 0
      go_wp2_with fail
      refine (HSE.call (L := []) (M := [_, _]) H2 (by simp)).mono ?_
      rintro e w3 ⟨v, L, rfl, ⟨rfl, rfl⟩, H4⟩
      clear hc hf
      go_wp2_with ((refine wpl_store rfl _ _ _ rfl w3.heap.size 0 (by rfl) fv (by rfl) 64 hfl (there_whole _ _ _ _ (by decide)) bigBlock hf1 ?_); (refine wpl_world _ (H4.whole _ _ fv (by rw [hfl]; rfl)) ?_); intro w5 H5; (obtain ⟨hc, hf⟩ := St.cells H5 1))
      refine (HR.call (L := [_]) (M := [_, _]) (St.pick H5 [2, 0, 1]) (by simp)).mono ?_
      rintro e w6 ⟨v, L, rfl, ⟨rfl, rfl⟩, H6⟩
      clear hc hf H5 H4 H2
      have hrg := St.range H6 1
      go_wp2_with (refine wpl_load rfl _ _ rfl w3.heap.size 0 (by rfl) fv 64 hfl hrg bigBlock ?_)
      refine (HW.out.call (L := [_]) (M := [_, _]) H6 (by simp)).mono ?_
      rintro e w7 ⟨v, L, rfl, ⟨rfl, rfl⟩, H7⟩
      clear hrg H6
      by_cases h1 : e1 = 0
      · subst h1
        have hF3 := HFX.out
        rw [if_neg (show ¬ ((0 : Nat) ≠ 0) by decide)] at hF3
        have hbz := build_zeroB w7
        generalize zL64 = zl at *
        clear ez
        go_wp2_with (refine wpl_build rfl _ _ rfl (vals := #[]) (by simp) hbz ?_)
        refine (HW2.out.call (L := [_]) (M := [_, _]) H7 (by simp)).mono ?_
        rintro e w8 ⟨v, L, rfl, ⟨rfl, rfl⟩, H8⟩
        clear H7 hbz
        by_cases h2 : e2 = 0
        · subst h2
          have hF4 := hF3
          rw [if_neg (show ¬ ((0 : Nat) ≠ 0) by decide)] at hF4
          have HQ := Lib.hid hF4
          clear hF3 hF4
          go_wp2_with fail
          refine (HS.out.call (L := [_]) (M := [_, _]) H8 (by simp)).mono ?_
          rintro e w9 ⟨v, L, rfl, ⟨rfl, rfl⟩, H9⟩
          clear H8
          by_cases h3 : e3 = 0
          · subst h3
            go_wp2_with fail
            exact bodyPost_ret (results_tmp2 rfl _ _ _) rfl (Back.mk (stoQ.good HQ.out w.heap.size) (St.pick H9 [2, 0]))
          · have hne : ((e3 : Int) != 0) = true := by simp; omega
            have HN := Lib.hid h3
            clear h3
            go_wp2_with fail
            exact bodyPost_ret (results_tmp2 rfl _ _ _) rfl (Back.mk (stoQ.err HQ.out HN.out) (St.pick H9 [0]))
        · have hne : ((e2 : Int) != 0) = true := by simp; omega
          have HQ : Hid (r = (D2, e2)) := Lib.hid (by rw [hF3, if_pos h2])
          have HN := Lib.hid h2
          clear h2 hF3
          go_wp2_with fail
          exact bodyPost_ret (results_tmp2 rfl _ _ _) rfl (Back.mk (stoQ.err HQ.out HN.out) (St.pick H8 [0]))
      · have hne : ((e1 : Int) != 0) = true := by simp; omega
        have HQ : Hid (r = (D1, e1)) := Lib.hid (by rw [HFX.out, if_pos h1])
        have HN := Lib.hid h1
        clear h1
        go_wp2_with fail
        exact bodyPost_ret (results_tmp2 rfl _ _ _) rfl (Back.mk (stoQ.err HQ.out HN.out) (St.pick H7 [0]))
end Go.Proofs.YtjmocjcjiiopnaaGreat
end

section
set_option linter.unusedVariables false
set_option linter.unusedSimpArgs false
namespace Go.Dsk
theorem Dk.at_len {D : Dk} (h : D.ok) {i : Nat} (hi : i < D.safe.length) : (D.at i).length = 64 := by
  unfold Dk.at
  cases hf : (bwd D.pend).find? (fun y => y.2.1 == i) with
  | none =>
    simp only [List.getD_eq_getElem?_getD]
    rw [List.getElem?_eq_getElem hi]
    exact h.s64 _ (List.getElem_mem hi)
  | some y => exact (h.p64 _ (bwd_mem (List.mem_of_find?_eq_some hf))).1
theorem Dk.read_len {D : Dk} (h : D.ok) (i : Int) : (D.read i).2.1.length = 64 := by
  unfold Dk.read
  by_cases h0 : (D.ready i).2 = 0
  · obtain ⟨r1, r2, _⟩ := Dk.ready_zero h0
    simp only [h0, if_true]
    exact Dk.at_len h (by omega)
  · simp only [if_neg h0]; simp
end Go.Dsk
namespace Go.Oct
open Go.Dsk
/-- Which of two superblocks counts. -/
def pickS (a b : Option (Sp × Nat)) : Option (Sp × Nat) := match a, b with
  | none, b => b
  | some x, none => some x
  | some x, some y => if x.2 < y.2 then some y else some x
def openS (D : Dk) : Option (Sp × Nat) := pickS (supD (D.read 0).2.1) (supD ((D.read 0).1.read 1).2.1)
/-- What becomes of a disk on which the store is looked for. -/
def openR (D : Dk) : Dk × Nat := if D.safe.length < 2 then (D, 170) else if (D.read 0).2.2 ≠ 0 then ((D.read 0).1, (D.read 0).2.2) else if ((D.read 0).1.read 1).2.2 ≠ 0 then (((D.read 0).1.read 1).1, ((D.read 0).1.read 1).2.2)
  else match openS D with
  | none => (((D.read 0).1.read 1).1, 170)
  | some x => if roomB ((D.read 0).1.read 1).1 x.1 then (((D.read 0).1.read 1).1, 0) else (((D.read 0).1.read 1).1, 170)
theorem supD_some {b : List UInt8} (hb : b.length = 64) {x : Sp} {t : Nat} (h : supD b = some (x, t)) : x.may = true ∧ supB x t = b ∧ x.fits ∧ t ≤ 18446744073709551615 := by
  obtain ⟨h1, h2⟩ := supX_fits b hb
  unfold supD at h
  split at h
  · rename_i h3
    cases h
    exact ⟨h3.1, h3.2, h1, h2⟩
  · cases h
end Go.Oct
namespace Go.Proofs.YtjmocjcjiiopnaaGreat
open Go.RowKit Go.Ice Go.Oct Go.Dsk
theorem dskA_ok {w0 : World} {B : Nat → Prop} {M S : List Asn} {w : World} {p : Nat} {D : Dk} (h : St w0 B (dskA p D :: M) S w) : D.ok := by
  obtain ⟨_, _, _, ok, _⟩ := dskA.open h
  exact ok
end Go.Proofs.YtjmocjcjiiopnaaGreat
end
