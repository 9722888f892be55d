/- script.kept: a keep's digits. Condition: the bools lie in memory, not more than a million. -/
import Derived.Test.YtelaijogjgcloaaDoorSme
set_option linter.unusedVariables false
set_option linter.unusedSimpArgs false
namespace Go.Proofs.YtelaijogjgcloaaDoor
open Go.RowKit Go.Ice Go.Scr

theorem elemByte : Elem Tryd.prog 38 5 1 1 (.int .u8 0) :=
  ⟨Tryd.underlying38, by
    obtain ⟨i0, hi, hz0, hz1, hz2⟩ := info_parts (show (Tryd.prog.info? 5).map (fun i => (i.zero, i.size, i.bytes)) = some (some (.int .u8 0), 1, 1) by kernel_rfl)
    exact ⟨i0, hi, hz0, hz1, hz2⟩, rfl, by decide⟩
def keepD (x : Bool) : UInt8 := if x then 49 else 48
/-- What stands in the digits' row when k are written. -/
def keepX (l : List Bool) (k : Nat) : List Value := ((l.take k).map fun x => u8v (keepD x)) ++ List.replicate (l.length - k) (.int .u8 0)
theorem keepX_set {l : List Bool} {k : Nat} (hk : k < l.length) (u : Value) : (keepX l k).set k u = ((l.take k).map fun x => u8v (keepD x)) ++ u :: List.replicate (l.length - (k + 1)) (.int .u8 0) := by
  unfold keepX
  obtain ⟨m, hm⟩ : ∃ m, l.length - k = m + 1 := ⟨l.length - k - 1, by omega⟩
  rw [hm, show l.length - (k + 1) = m by omega, List.replicate_succ, List.set_append_right _ _ (by simp; omega)]
  simp [Nat.min_eq_left (Nat.le_of_lt hk)]
theorem keepX_succ {l : List Bool} {k : Nat} {x : Bool} (hx : l[k]? = some x) : ((l.take k).map fun x => u8v (keepD x)) ++ u8v (keepD x) :: List.replicate (l.length - (k + 1)) (.int .u8 0) = keepX l (k + 1) := by
  unfold keepX
  rw [List.take_add_one, hx]
  simp
theorem keepX_set2 {l : List Bool} {k : Nat} (hk : k < l.length) (u u' : Value) : ((keepX l k).set k u).set k u' = (keepX l k).set k u' := by rw [List.set_set]
theorem keepX_all (l : List Bool) : keepX l l.length = (l.map keepD).map u8v := by unfold keepX; simp

set_option maxHeartbeats 8000000 in
set_option maxRecDepth 20000 in
theorem kept25 (w : World) (v : Value) (l : List Bool) (hl : BoolsAt w v l) (hm : l.length ≤ 1000000) :
    Calls Tryd.prog 25 #[v] w fun e w' => e = .returned (.string ⟨(keepT l).toArray⟩) ∧ Below w.heap.size w w' := by
  obtain ⟨i0, hi0, hz0, hz1, hz2⟩ := elemByte.hi
  have HL := Lib.hid hl
  obtain ⟨a, ca, rfl, hma⟩ := hl.form
  obtain ⟨tt, htt⟩ : ∃ tt, tt = keepT l := ⟨_, rfl⟩
  rw [← htt]
  have HT := Lib.hid htt
  clear hl hma htt
  cases hll : l with
  | nil =>
    have HX : Hid (tt = [45]) := by show _ = _; rw [HT.out, hll]; rfl
    clear hll HL HT
    dsimp only [List.length_nil]
    go_enter Tryd.func25, Tryd.ntmps25
    go_wp2_with fail
    go_ret
    exact ⟨by rw [HX.out]; rfl, Below.refl _ _⟩
  | cons x0 l0 =>
    rw [← hll]
    have HX : Hid (tt = l.map keepD) := by
      show _ = _
      rw [HT.out]; unfold keepT; rw [if_neg (by rw [hll]; simp)]; rfl
    have hn0 : 0 < l.length := by rw [hll]; simp
    clear hll
    obtain ⟨n, hn⟩ : ∃ n, n = l.length := ⟨_, rfl⟩
    rw [← hn] at hm hn0 ⊢
    have HN := Lib.hid hn
    clear hn
    have hne : ((n : Int) == 0) = false := by simp; omega
    obtain ⟨w', hrun, ho, hg⟩ := run_make_full (P := Tryd.prog) w (w.heap.size) 38 5 i0 (.int .u8 0) 1 Tryd.underlying38 hi0 hz0 hz1 .i64 .i64 n (by rw [hz2]; omega) (by unfold maxLen; omega) (Nat.le_refl _)
    have HRUN := Lib.hid hrun
    have HBW : Hid (Below w.heap.size w w') := (Below.refl _ w).grown hg (Nat.le_refl _) (fun k hk => by cases hk)
    have HO : Hid (w'.ownsRow w.heap.size 5 1 (.slice (some ⟨w.heap.size, 0, none⟩) n n) n (keepX l 0)) := by
      show World.ownsRow _ _ _ _ _ _ _
      have e : (madeCells (Value.int .u8 0).cells (n * 1)).toList = keepX l 0 := by
        show (madeCells #[.int .u8 0] (n * 1)).toList = _
        rw [toList_madeCells_one]; unfold keepX; rw [← HN.out]; simp
      rw [← e]; exact ho
    clear hrun ho hg
    obtain ⟨G, hG⟩ : ∃ G, G = w.heap.size := ⟨_, rfl⟩
    rw [← hG] at HRUN HO
    have HG := Lib.hid hG
    clear hG
    go_enter Tryd.func25, Tryd.ntmps25
    go_upto_region 3 with fail
    go_wp2_with (refine wpList_make_eq rfl _ _ _ rfl rfl rfl HRUN.out ?_)
    go_loopg [4, 5, 14] n (fun g iv xv kv wr => ∃ k : Nat, g = n - k ∧ k ≤ n ∧ kv = .int .i64 k ∧ Hid (Below w.heap.size w wr ∧ wr.ownsRow G 5 1 (.slice (some ⟨G, 0, none⟩) n n) n (keepX l k)))
    case atStart => exact ⟨0, rfl, by omega, rfl, HBW.out, HO.out⟩
    case round =>
      obtain ⟨k, rfl, hk, rfl, HJ⟩ := hrel
      by_cases hlt : k < n
      · obtain ⟨bs, off, cap, e1, h1, h2, h3, h4⟩ := HL.out.at (by have := HN.out; omega)
        have q0 := h4 k (by have := HN.out; omega)
        rw [← HJ.out.1.cell (p := ⟨bs, _, none⟩) h3] at q0
        rw [← HN.out] at e1 h1
        injection e1 with x1 x2 x3
        subst x1 x3
        unfold maxLen at h2
        have hkl : k < l.length := by rw [← HN.out]; exact hlt
        have hgx : l[k]? = some (l.getD k false) := by rw [List.getD_eq_getElem?_getD, List.getElem?_eq_getElem hkl]; rfl
        have HGX := Lib.hid hgx
        have HKL := Lib.hid hkl
        obtain ⟨xb, hxb⟩ : ∃ s, s = l.getD k false := ⟨_, rfl⟩
        rw [← hxb] at q0 HGX
        clear h4 x2 hgx hkl hxb h3
        have HJB : Hid (Below w.heap.size w wr) := HJ.out.1
        have HJO : Hid (wr.ownsRow G 5 1 (.slice (some ⟨G, 0, none⟩) n n) n (keepX l k)) := HJ.out.2
        obtain ⟨z0, hz0'⟩ : ∃ z, wr.cell? ⟨G, k, none⟩ = some z := by
          rw [HJO.out.cellAt k (by omega)]
          exact ⟨_, List.getElem?_eq_getElem (by unfold keepX; have := HKL.out; simp; omega)⟩
        have hf0 := HJO.out.frozenAt k
        go_upto_region 8 with fail
        refine wp_world (R := fun W => Below w.heap.size w W ∧ W.ownsRow G 5 1 (.slice (some ⟨G, 0, none⟩) n n) n ((keepX l k).set k (u8v 48))) ⟨HJB.out.setCell (Nat.le_of_eq HG.out.symm) _, (HJO.out.stored k _).1⟩ ?_
        intro w1 ⟨hb1, ho1⟩
        have HB1 := Lib.hid hb1
        have HO1 := Lib.hid ho1
        obtain ⟨z1, hz1'⟩ : ∃ z, w1.cell? ⟨G, k, none⟩ = some z := by
          rw [ho1.cellAt k (by omega)]
          exact ⟨_, List.getElem?_eq_getElem (by unfold keepX; have := HKL.out; simp; omega)⟩
        have hf1 := ho1.frozenAt k
        clear hb1 ho1 hz0' hf0 q0
        cases xb with
        | false =>
          have HE : Hid (w1.ownsRow G 5 1 (.slice (some ⟨G, 0, none⟩) n n) n (keepX l (k + 1))) := by
            have h := HO1.out
            rw [keepX_set HKL.out] at h
            have e := keepX_succ HGX.out
            have e2 : u8v (keepD false) = u8v 48 := rfl
            rw [e2] at e
            rw [e] at h
            exact h
          go_wp2_with fail
          go_roundg (n - (k + 1))
          case measure => omega
          case rel => exact ⟨k + 1, rfl, by omega, by go_num, HB1.out, HE.out⟩
        | true =>
          have HE : Hid ((w1.setCell ⟨G, k, none⟩ (u8v 49)).ownsRow G 5 1 (.slice (some ⟨G, 0, none⟩) n n) n (keepX l (k + 1))) := by
            have h := (HO1.out.stored k (u8v 49)).1
            rw [keepX_set2 HKL.out, keepX_set HKL.out] at h
            have e := keepX_succ HGX.out
            have e2 : u8v (keepD true) = u8v 49 := rfl
            rw [e2] at e
            rw [e] at h
            exact h
          go_wp2_with fail
          go_roundg (n - (k + 1))
          case measure => omega
          case rel => exact ⟨k + 1, rfl, by omega, by go_num, HB1.out.setCell (Nat.le_of_eq HG.out.symm) _, HE.out⟩
      · obtain rfl : k = n := by omega
        have hc := convert_sl (P := Tryd.prog) 38 5 Tryd.underlying38 Tryd.underlying5 (w := wr) (v := .slice (some ⟨G, 0, none⟩) k k) (bs := tt) (by
          have h := own_isSl HJ.out.2
          rw [HX.out]
          have e := keepX_all l
          rw [← HN.out] at e
          rw [e] at h
          exact h) 9 Tryd.underlying9
        have HJB : Hid (Below w.heap.size w wr) := HJ.out.1
        go_wp2_with fail
        go_ret
        exact ⟨rfl, HJB.out⟩
end Go.Proofs.YtelaijogjgcloaaDoor
