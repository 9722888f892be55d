/- slices.CompactFunc at versions, in their own row. Conditions: the row is the caller's own, the versions' bytes lie elsewhere. -/
import Derived.Test.YtngpffmgkponfaaCln
import Derived.Lib.SliceRun
import Derived.Laws.IdiomCopy
set_option linter.unusedVariables false
set_option linter.unusedSimpArgs false
namespace Go.Proofs.Ytngpffmgkponfaa
open Go.RowKit Go.Ice Go.Idl

/-- A builtin 'clear' in a walk, its run known. -/
theorem wpList_clear_eq {P : Program} {ops : Array Oper} {rest : List Oper} {o : Oper} {a : Act} {w : World} {Q : Exit → Act → World → Prop} (hgd : o.guard = none) (s : Operand) (t : TypeId)
    (ho : o.op = .call { callee := .builtin .clear, args := #[s], argTypes := #[t] }) {v v' : Value} {w' : World} (hs : a.eval s = v)
    (hrun : (Builtin.clear_ #[t] o.type #[v]).run P w = .ok v' w') (h : wpList P ops Q rest (a.put o.dst v') w') : wpList P ops Q (o :: rest) a w :=
  wpList_plain hgd fun _ hK => by
    unfold Oper.wp execOp
    simp only [ho, resolve, invoke, builtin, Sem.run_bind, Sem.run_pure, Result.andThen_ok, List.map_toArray, List.map_cons, List.map_nil, hs, hrun]
    exact hK _ _ h

theorem run_clear_cells {P : Program} (w : World) (t e ty : TypeId) (z : Value) (ht : P.underlying t = some (.slice e)) (hv : ∀ w, (zeroValue e).run P w = .ok z w) (h1 : ∀ v ∈ z.cells, v.oneCell' = true) (b o n c : Nat) (hn : 0 < n)
    (hc : ∀ j, j < n * z.cells.size → (w.cell? ⟨b, o + j, none⟩).isSome = true) (hf : ∀ j, j < n * z.cells.size → w.frozen? ⟨b, o + j, none⟩ = false) (hz : 0 < z.cells.size) :
    ∃ vs : List Value, (Builtin.clear_ #[t] ty #[.slice (some ⟨b, o, none⟩) n c]).run P w = .ok (.tuple #[]) (w.setCells b o vs) := by
  refine ⟨(Builtin.zeroCells z.cells n).toList, ?_⟩
  have hl : (Builtin.zeroCells z.cells n).toList.length = n * z.cells.size := by simp [Builtin.zeroCells]
  have hst := run_storeCells_cells (P := P) b o (Builtin.zeroCells z.cells n).toList 0 w (by intro j hj; rw [Nat.add_zero]; exact hc j (by omega)) (by intro j hj; rw [Nat.add_zero]; exact hf j (by omega)) (by
    intro v hv'
    simp [Builtin.zeroCells] at hv'
    obtain ⟨i, hi, rfl⟩ := hv'
    refine h1 _ ?_
    have : i % z.cells.size < z.cells.size := Nat.mod_lt _ hz
    rw [getElem!_pos z.cells _ this]
    exact Array.getElem_mem this)
  simp only [Nat.add_zero] at hst
  obtain ⟨m, rfl⟩ : ∃ m, n = m + 1 := ⟨n - 1, by omega⟩
  simp [Builtin.clear_, run_underlying ht, hv, hst]

theorem setCells_frm (b : Nat) : ∀ (vs : List Value) (o : Nat) (w : World), Frm (fun x => x = b) w (w.setCells b o vs)
  | [], _, w => Frm.refl _ _
  | v :: r, o, w => (Frm.setCell (Frm.refl (fun x => x = b) w) (p := ⟨b, o, none⟩) (.inl rfl) v).trans (setCells_frm b r (o + 1) _)
theorem setCells_cell (b : Nat) : ∀ (vs : List Value) (o : Nat) (w : World) (j : Nat), j < o → (w.setCells b o vs).cell? ⟨b, j, none⟩ = w.cell? ⟨b, j, none⟩
  | [], _, w, _, _ => rfl
  | v :: r, o, w, j, h => by
    rw [World.setCells, setCells_cell b r (o + 1) _ j (by omega), World.cell?_setCell_other _ _ _ _ (by intro e; injection e with _ e2 _; omega)]

/-- Element k of a row, written over. -/
def setR (w : World) (b k : Nat) (p : Value × Tv) : World := (((w.setCell ⟨b, k * 4, none⟩ p.1).setCell ⟨b, k * 4 + 1, none⟩ (.int .u32 p.2.fl)).setCell ⟨b, k * 4 + 2, none⟩ (.int .u32 p.2.ex)).setCell ⟨b, k * 4 + 3, none⟩ (.int .u64 p.2.cas)
theorem setR_frm (w : World) (b k : Nat) (p : Value × Tv) : Frm (fun x => x = b) w (setR w b k p) := by
  unfold setR
  have st : ∀ (u : World) (k : Nat) (v : Value), Frm (fun x => x = b) w u → Frm (fun x => x = b) w (u.setCell ⟨b, k, none⟩ v) := fun u k v h => h.setCell (p := ⟨b, k, none⟩) (.inl rfl) v
  exact st _ _ _ (st _ _ _ (st _ _ _ (st _ _ _ (Frm.refl _ w))))
theorem blk_setR {w : World} {b m : Nat} {e : TypeId} (h : Blk w b e m) (k : Nat) (p : Value × Tv) : Blk (setR w b k p) b e m := (((h.set _ _).set _ _).set _ _).set _ _
theorem cell_set_self {w : World} {b m k : Nat} {e : TypeId} (h : Blk w b e m) (hk : k < m) (u : Value) : (w.setCell ⟨b, k, none⟩ u).cell? ⟨b, k, none⟩ = some u := by
  obtain ⟨c, h1, h2⟩ := h
  have : k < c.size := by omega
  simp [World.cell?, World.setCell, Array.getElem?_modify, h1, this]
theorem RowR.set {w : World} {b m k : Nat} {e : TypeId} {X : List (Value × Tv)} (hb : Blk w b e m) (h : RowR w b 0 X) (hm : X.length * 4 ≤ m) (hk : k < X.length) (p : Value × Tv) : RowR (setR w b k p) b 0 (X.set k p) := by
  intro i q hq
  have g1 := hb.set (k * 4) p.1
  have g2 := g1.set (k * 4 + 1) (.int .u32 p.2.fl)
  have g3 := g2.set (k * 4 + 2) (.int .u32 p.2.ex)
  unfold Ytngpffmgkponfaa.setR
  simp only [Nat.zero_add]
  have ne : ∀ (W : World) (x y : Nat) (u : Value), x ≠ y → (W.setCell ⟨b, y, none⟩ u).cell? ⟨b, x, none⟩ = W.cell? ⟨b, x, none⟩ := fun W x y u hxy => World.cell?_setCell_other _ _ _ _ (by intro e; injection e with _ e2 _; omega)
  by_cases hik : i = k
  · subst hik
    rw [List.getElem?_set_self (by omega)] at hq
    cases hq
    refine ⟨?_, ?_, ?_, ?_⟩
    · rw [ne _ _ _ _ (by omega), ne _ _ _ _ (by omega), ne _ _ _ _ (by omega), cell_set_self hb (by omega)]
    · rw [ne _ _ _ _ (by omega), ne _ _ _ _ (by omega), cell_set_self g1 (by omega)]
    · rw [ne _ _ _ _ (by omega), cell_set_self g2 (by omega)]
    · rw [cell_set_self g3 (by omega)]
  · rw [List.getElem?_set_ne (Ne.symm hik)] at hq
    have h1 := h i q hq
    simp only [Nat.zero_add] at h1
    refine ⟨?_, ?_, ?_, ?_⟩ <;> (rw [ne _ _ _ _ (by omega), ne _ _ _ _ (by omega), ne _ _ _ _ (by omega), ne _ _ _ _ (by omega)]; first | exact h1.1 | exact h1.2.1 | exact h1.2.2.1 | exact h1.2.2.2)

/-- What CompactFunc keeps of its row's block. -/
structure Cpt (W : World) (b n : Nat) (X : List (Value × Tv)) (w : World) : Prop where
  frm : Frm (fun x => x = b) W w
  blk : Blk w b 49 (n * 4)
  row : RowR w b 0 X
theorem Cpt.below {W w w' : World} {b n : Nat} {X : List (Value × Tv)} (h : Cpt W b n X w) (hb : Below w.heap.size w w') : Cpt W b n X w' := by
  obtain ⟨c, h1, h2⟩ := h.blk
  have hlt := (Array.getElem?_eq_some_iff.1 h1).1
  exact ⟨h.frm.trans (frm_below hb), ⟨c, (hb.block b hlt).trans h1, h2⟩, h.row.frm (frm_below (T := fun _ => False) hb) hlt (fun h => h)⟩
theorem Cpt.set {W w : World} {b n k : Nat} {X : List (Value × Tv)} (h : Cpt W b n X w) (hn : X.length = n) (hk : k < n) (p : Value × Tv) : Cpt W b n (X.set k p) (setR w b k p) :=
  ⟨h.frm.trans (setR_frm w b k p), blk_setR h.blk k p, h.row.set h.blk (by omega) (by omega) p⟩
theorem Cpt.at {W w : World} {b n k : Nat} {X : List (Value × Tv)} (h : Cpt W b n X w) {p : Value × Tv} (hp : X[k]? = some p) : w.cell? ⟨b, k * 4, none⟩ = some p.1 ∧ w.cell? ⟨b, k * 4 + 1, none⟩ = some (.int .u32 p.2.fl) ∧ w.cell? ⟨b, k * 4 + 2, none⟩ = some (.int .u32 p.2.ex) ∧ w.cell? ⟨b, k * 4 + 3, none⟩ = some (.int .u64 p.2.cas) := by
  have := h.row k p hp
  simpa only [Nat.zero_add] using this

theorem kept_row {rl kept : List (Value × Tv)} {kk i : Nat} (h : kk ≤ i) (hk : kept.length = kk) : (kept ++ rl.drop kk)[i]? = rl[i]? := by
  rw [List.getElem?_append_right (by omega), List.getElem?_drop]; congr 1; omega
theorem kept_set {rl kept : List (Value × Tv)} {kk : Nat} (hk : kept.length = kk) (hl : kk < rl.length) (p : Value × Tv) : (kept ++ rl.drop kk).set kk p = (kept ++ [p]) ++ rl.drop (kk + 1) := by
  have e : (rl.drop kk).set 0 p = p :: rl.drop (kk + 1) := by rw [List.drop_eq_getElem_cons hl]; rfl
  rw [List.set_append_right _ _ (by omega), hk, Nat.sub_self, e]
  simp

set_option maxHeartbeats 4000000 in
set_option maxRecDepth 20000 in
theorem compact39_small (w : World) (a : Option Addr) (n c : Nat) (hn : n < 2) :
    Calls Try.prog 39 #[.slice a n c, .func (.func 40) #[] #[]] w fun e w' => e = .returned (.slice a n c) ∧ w' = w := by
  go_enter Try.func39, Try.ntmps39
  go_wp2_with fail
  go_ret
  exact ⟨rfl, rfl⟩

set_option maxHeartbeats 8000000 in
set_option maxRecDepth 20000 in
theorem compact39 (w : World) (C : Nat → Prop) (b n cap : Nat) (rl : List (Value × Tv)) (hn : rl.length = n) (h2 : 2 ≤ n) (hc : n ≤ cap) (hcap : cap ≤ maxLen) (hblk : Blk w b 49 (n * 4)) (hrow : RowR w b 0 rl)
    (hel : ∀ p ∈ rl, BytesIn w C p.1 p.2.val) (hC : ¬ C b) :
    Calls Try.prog 39 #[.slice (some ⟨b, 0, none⟩) n cap, .func (.func 40) #[] #[]] w fun e w' => e = .returned (.slice (some ⟨b, 0, none⟩) (compF Prod.snd rl).length cap) ∧ Frm (fun x => x = b) w w' ∧ RowR w' b 0 (compF Prod.snd rl) := by
  have HN := Lib.hid hn
  have HEL := Lib.hid hel
  have HC := Lib.hid hC
  unfold maxLen at hcap
  have H0 : Hid (Cpt w b n rl w) := ⟨Frm.refl _ _, hblk, hrow⟩
  clear hn hel hC hblk hrow
  have hd : decide ((n : Int) < 2) = false := by simp; omega
  go_enter Try.func39, Try.ntmps39
  go_wp2_with fail
  go_loopg [5, 6, 7] n (fun g kv x6 x7 wr => ∃ k : Nat, g = n + 1 - k ∧ 1 ≤ k ∧ k ≤ n ∧ kv = .int .i64 k ∧ Hid (Cpt w b n rl wr ∧ ∀ i x y, 0 < i → i < k → rl[i]? = some x → rl[i - 1]? = some y → x.2 ≠ y.2))
  case atStart => exact ⟨1, by omega, by omega, by omega, rfl, H0.out, fun i x y h1 h2 => by omega⟩
  case round =>
    obtain ⟨k, rfl, hk1, hk, rfl, HJ⟩ := hrel
    by_cases hlt : k < n
    · obtain ⟨m, hm⟩ : ∃ m, m = k - 1 := ⟨_, rfl⟩
      obtain ⟨x, hx⟩ : ∃ x, rl[k]? = some x := ⟨_, List.getElem?_eq_getElem (by have := HN.out; omega)⟩
      obtain ⟨y, hy⟩ : ∃ y, rl[m]? = some y := ⟨_, List.getElem?_eq_getElem (by have := HN.out; omega)⟩
      obtain ⟨x0, x1, x2, x3⟩ := HJ.out.1.at hx
      obtain ⟨y0, y1, y2, y3⟩ := HJ.out.1.at hy
      have HX := Lib.hid hx
      have HY := Lib.hid hy
      clear hx hy
      have K : ∀ W, Below wr.heap.size wr W → Calls Try.prog 40 #[tvV x.1 x.2, tvV y.1 y.2] W fun e w' => e = .returned (.bool (decide (x.2 = y.2))) ∧ Below W.heap.size W w' := fun W hW =>
        same40 W x.1 y.1 x.2 y.2 (((HEL.out x (List.mem_of_getElem? HX.out)).frm HJ.out.1.frm (fun b' h e => HC.out (e ▸ h))).1.below hW (Nat.le_refl _)) (((HEL.out y (List.mem_of_getElem? HY.out)).frm HJ.out.1.frm (fun b' h e => HC.out (e ▸ h))).1.below hW (Nat.le_refl _))
      unfold tvV at K
      have HK := Lib.hid K
      clear K
      have hmn : m < n := by omega
      have hw : IntKind.i64.wrap ((k : Int) - 1) = (m : Int) := by rw [IntKind.wrap_i64]; omega
      have HM := Lib.hid hm
      clear hm
      go_upto_region 6 with fail
      go_still_tail 10, (by kernel_rfl)
      change wpList _ _ _ _ _ wr.drew
      go_wp2_with fail
      refine (HK.out _ (Below.refl _ _).drew).mono ?_
      rintro e w1 ⟨rfl, hb1⟩
      have HJ1 : Hid (Cpt w b n rl w1) := HJ.out.1.below ((drewN_below wr 1).trans hb1)
      have HJ2 : Hid (∀ i x y, 0 < i → i < k → rl[i]? = some x → rl[i - 1]? = some y → x.2 ≠ y.2) := HJ.out.2
      clear HJ HK hb1 x0 x1 x2 x3 y0 y1 y2 y3 hw
      by_cases hxy : x.2 = y.2
      · rw [decide_eq_true hxy]
        have HE := Lib.hid hxy
        have hkc : ((cap : Int) == (k : Int)) = false := by simp; omega
        have hkc2 : (cap == k) = false := by simp; omega
        clear hxy
        have HA : Hid (compF Prod.snd (rl.take (k + 1)) = rl.take k) := by
          show _ = _
          rw [compF_take Prod.snd hk1 HX.out (by rw [← HM.out]; exact HY.out), if_pos HE.out, List.append_nil, compF_all Prod.snd rl k (by have := HN.out; omega) HJ2.out]
        go_upto_region 8 with fail
        go_wp2_with fail
        obtain ⟨q, hq⟩ : ∃ q, q = n - k := ⟨_, rfl⟩
        rw [← hq]
        have hq1 : q + k ≤ n := by omega
        have hq2 : n ≤ q + k := by omega
        clear hq
        go_loopg [5, 7] q (fun g kv jv w2 => ∃ j kk : Nat, g = q + 1 - j ∧ 1 ≤ j ∧ j ≤ q ∧ kk < k + j ∧ kv = .int .i64 kk ∧ jv = .int .i64 j ∧ Hid ((compF Prod.snd (rl.take (k + j))).length = kk ∧ Cpt w b n (compF Prod.snd (rl.take (k + j)) ++ rl.drop kk) w2))
        case atStart =>
          refine ⟨1, k, by omega, by omega, by omega, by omega, rfl, rfl, ?_, ?_⟩
          · rw [HA.out, List.length_take]; have := HN.out; omega
          · rw [HA.out, List.take_append_drop]; exact HJ1.out
        case round =>
          obtain ⟨j, kk, rfl, hj1, hj, hkj, rfl, rfl, HI⟩ := hrel
          by_cases hjl : j < q
          · obtain ⟨m', hm'⟩ : ∃ m', m' = j - 1 := ⟨_, rfl⟩
            have HI1 : Hid ((compF Prod.snd (rl.take (k + j))).length = kk) := HI.out.1
            have HI2 : Hid (Cpt w b n (compF Prod.snd (rl.take (k + j)) ++ rl.drop kk) wr) := HI.out.2
            obtain ⟨x', hx'⟩ : ∃ x, rl[k + j]? = some x := ⟨_, List.getElem?_eq_getElem (by have := HN.out; omega)⟩
            obtain ⟨xv, xt⟩ := x'
            obtain ⟨xa, xc, hxv, _⟩ := (HEL.out _ (List.mem_of_getElem? hx')).1.form
            generalize xt.val.length = xn at hxv
            subst hxv
            obtain ⟨y', hy'⟩ : ∃ y, rl[k + m']? = some y := ⟨_, List.getElem?_eq_getElem (by have := HN.out; omega)⟩
            obtain ⟨x0, x1, x2, x3⟩ := HI2.out.at (k := k + j) (p := (.slice xa xn xc, xt)) (by rw [kept_row (by omega) HI1.out]; exact hx')
            obtain ⟨y0, y1, y2, y3⟩ := HI2.out.at (k := k + m') (p := y') (by rw [kept_row (by omega) HI1.out]; exact hy')
            rw [Nat.add_mul] at x0 x1 x2 x3 y0 y1 y2 y3
            have HX' := Lib.hid hx'
            have HY' := Lib.hid hy'
            have hmq : m' < q := by omega
            have hw : IntKind.i64.wrap ((j : Int) - 1) = (m' : Int) := by rw [IntKind.wrap_i64]; omega
            have HM' := Lib.hid hm'
            have K : ∀ W, Below wr.heap.size wr W → Calls Try.prog 40 #[tvV (.slice xa xn xc) xt, tvV y'.1 y'.2] W fun e w' => e = .returned (.bool (decide (xt = y'.2))) ∧ Below W.heap.size W w' := fun W hW =>
              same40 W (.slice xa xn xc) y'.1 xt y'.2 (((HEL.out _ (List.mem_of_getElem? HX'.out)).frm HI2.out.frm (fun b' h e => HC.out (e ▸ h))).1.below hW (Nat.le_refl _)) (((HEL.out y' (List.mem_of_getElem? HY'.out)).frm HI2.out.frm (fun b' h e => HC.out (e ▸ h))).1.below hW (Nat.le_refl _))
            unfold tvV at K
            have HK := Lib.hid K
            clear K hx' hy' hm' HI
            go_upto_region 11 with fail
            go_still_tail 10, (by kernel_rfl)
            change wpList _ _ _ _ _ wr.drew
            go_wp2_with fail
            refine (HK.out _ (Below.refl _ _).drew).mono ?_
            rintro e w2 ⟨rfl, hb1⟩
            have HI3 : Hid (Cpt w b n (compF Prod.snd (rl.take (k + j)) ++ rl.drop kk) w2) := HI2.out.below ((drewN_below wr 1).trans hb1)
            clear hw hb1 x0 x1 x2 x3 y0 y1 y2 y3 HK HI2
            have HT : Hid (compF Prod.snd (rl.take (k + (j + 1))) = compF Prod.snd (rl.take (k + j)) ++ (if xt = y'.2 then [] else [(.slice xa xn xc, xt)])) := by
              have := HM'.out
              exact compF_take (l := rl) (j := k + j) Prod.snd (by omega) HX'.out (by rw [show k + j - 1 = k + m' by omega]; exact HY'.out)
            by_cases hxy' : xt = y'.2
            · rw [decide_eq_true hxy']
              have HT2 : Hid (compF Prod.snd (rl.take (k + (j + 1))) = compF Prod.snd (rl.take (k + j))) := by have := HT.out; rwa [if_pos hxy', List.append_nil] at this
              clear hxy' HT
              go_wp2_with fail
              go_roundg (q - j)
              case measure => omega
              case rel => exact ⟨j + 1, kk, by omega, by omega, by omega, by omega, rfl, by go_num, by rw [HT2.out]; exact HI1.out, by rw [HT2.out]; exact HI3.out⟩
            · rw [decide_eq_false hxy']
              have HT2 : Hid (compF Prod.snd (rl.take (k + (j + 1))) = compF Prod.snd (rl.take (k + j)) ++ [(.slice xa xn xc, xt)]) := by have := HT.out; rwa [if_neg hxy'] at this
              clear hxy' HT
              obtain ⟨x0, x1, x2, x3⟩ := HI3.out.at (k := k + j) (p := (.slice xa xn xc, xt)) (by rw [kept_row (by omega) HI1.out]; exact HX'.out)
              rw [Nat.add_mul] at x0 x1 x2 x3
              obtain ⟨⟨z0, hz0⟩, f0⟩ := HI3.out.blk.cell (kk * 4) (by omega)
              obtain ⟨⟨z1, hz1⟩, f1⟩ := HI3.out.blk.cell (kk * 4 + 1) (by omega)
              obtain ⟨⟨z2, hz2⟩, f2⟩ := HI3.out.blk.cell (kk * 4 + 2) (by omega)
              obtain ⟨⟨z3, hz3⟩, f3⟩ := HI3.out.blk.cell (kk * 4 + 3) (by omega)
              have HS : Hid (Cpt w b n (compF Prod.snd (rl.take (k + (j + 1))) ++ rl.drop (kk + 1)) (setR w2 b kk (.slice xa xn xc, xt))) := by
                have h := HI3.out.set (k := kk) (by rw [List.length_append, List.length_drop, HI1.out]; have := HN.out; omega) (by omega) (.slice xa xn xc, xt)
                rw [kept_set HI1.out (by have := HN.out; omega), ← HT2.out] at h
                exact h
              have HL : Hid ((compF Prod.snd (rl.take (k + (j + 1)))).length = kk + 1) := by show _ = _; rw [HT2.out, List.length_append, HI1.out]; rfl
              have hkn : kk < n := by omega
              clear HI3 HT2
              go_wp2_with fail
              go_roundg (q - j)
              case measure => omega
              case rel => exact ⟨j + 1, kk + 1, by omega, by omega, by omega, by omega, by go_num, by go_num, HL.out, HS.out⟩
          · obtain rfl : j = q := by omega
            have HI1 : Hid ((compF Prod.snd rl).length = kk) := by
              have h := HI.out.1
              rwa [List.take_of_length_le (by have := HN.out; omega)] at h
            have HI2 : Hid (Cpt w b n (compF Prod.snd rl ++ rl.drop kk) wr) := by
              have h := HI.out.2
              rwa [List.take_of_length_le (by have := HN.out; omega)] at h
            clear HI
            have hkn : kk < n := by omega
            have hkc3 : (cap == kk) = false := by simp; omega
            obtain ⟨vs, hclr⟩ := run_clear_cells (P := Try.prog) wr 54 49 0 (.agg #[.slice none 0 0, .int .u32 0, .int .u32 0, .int .u64 0]) Try.underlying54 (fun _ => by kernel_rfl) (by intro v hv; simp [Value.cells] at hv; rcases hv with rfl | rfl | rfl <;> rfl) b (kk * 4) (n - kk) (cap - kk) (by omega)
              (fun i hi => by
                have hi : i < (n - kk) * 4 := hi
                obtain ⟨⟨u, hu⟩, _⟩ := HI2.out.blk.cell (kk * 4 + i) (by omega)
                rw [hu]; rfl)
              (fun i hi => by
                have hi : i < (n - kk) * 4 := hi
                exact (HI2.out.blk.cell (kk * 4 + i) (by omega)).2) (by decide)
            have HCL := Lib.hid hclr
            clear hclr
            have HR : Hid (RowR (wr.setCells b (kk * 4) vs) b 0 (compF Prod.snd rl)) := by
              intro i p hp
              have hi : i < kk := by rw [← HI1.out]; exact (List.getElem?_eq_some_iff.1 hp).1
              have h := HI2.out.row i p (by rw [List.getElem?_append_left (by rw [HI1.out]; exact hi)]; exact hp)
              rw [setCells_cell b vs _ _ _ (by omega), setCells_cell b vs _ _ _ (by omega), setCells_cell b vs _ _ _ (by omega), setCells_cell b vs _ _ _ (by omega)]
              exact h
            have HF : Hid (Frm (fun x => x = b) w (wr.setCells b (kk * 4) vs)) := HI2.out.frm.trans (setCells_frm b vs _ _)
            go_upto_region 14 with fail
            have hclr2 := HCL.out
            go_wp2_with fail
            go_ret
            exact ⟨by rw [HI1.out]; rfl, HF.out, HR.out⟩
      · rw [decide_eq_false hxy]
        have HE : Hid (∀ i x y, 0 < i → i < k + 1 → rl[i]? = some x → rl[i - 1]? = some y → x.2 ≠ y.2) := fun i x' y' h1 h2 h3 h4 => by
          rcases Nat.lt_succ_iff_lt_or_eq.1 h2 with h | rfl
          · exact HJ2.out i x' y' h1 h h3 h4
          · rw [HX.out] at h3; rw [← HM.out, HY.out] at h4
            cases h3; cases h4; exact hxy
        clear hxy
        go_wp2_with fail
        go_roundg (n - k)
        case measure => omega
        case rel => exact ⟨k + 1, by omega, by omega, by omega, by go_num, HJ1.out, HE.out⟩
    · obtain rfl : k = n := by omega
      have HE : Hid (compF Prod.snd rl = rl) := by
        have := compF_all Prod.snd rl k (by have := HN.out; omega) HJ.out.2
        rwa [← HN.out, List.take_length] at this
      have HJ1 : Hid (Cpt w b k rl wr) := HJ.out.1
      go_wp2_with fail
      go_ret
      exact ⟨by rw [HE.out, HN.out]; rfl, HJ1.out.frm, by rw [HE.out]; exact HJ1.out.row⟩
end Go.Proofs.Ytngpffmgkponfaa
