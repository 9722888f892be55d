/- The document's Keep. Condition: the bools lie in memory, not more than a million. -/
import Derived.Test.YtelaijogjgcloaaDoorFew
set_option linter.unusedVariables false
set_option linter.unusedSimpArgs false
namespace Go.Proofs.YtelaijogjgcloaaDoor
open Go.RowKit Go.Ice Go.Scr

set_option maxHeartbeats 8000000 in
set_option maxRecDepth 20000 in
theorem keep52 (w : World) (v : Value) (l : List Bool) (hl : BoolsAt w v l) (hm : l.length ≤ 1000000) :
    Calls Tryd.prog 52 #[v] w fun e w' => e = .returned (.string ⟨(keepT l).toArray⟩) ∧ Below w.heap.size w w' := by
  have HL := Lib.hid hl
  obtain ⟨a, ca, rfl, hma⟩ := hl.form
  obtain ⟨tt, htt⟩ : ∃ tt, tt = keepT l := ⟨_, rfl⟩
  rw [← htt]
  have HT := Lib.hid htt
  clear hl hma htt
  cases hll : l with
  | nil =>
    have HX : Hid (tt = [45]) := by show _ = _; rw [HT.out, hll]; rfl
    clear hll HL HT
    dsimp only [List.length_nil]
    go_enter Tryd.func52, Tryd.ntmps52
    go_wp2_with fail
    go_ret
    exact ⟨by rw [HX.out]; rfl, Below.refl _ _⟩
  | cons x0 l0 =>
    rw [← hll]
    have HX : Hid (tt = l.map keepD) := by
      show _ = _
      rw [HT.out]; unfold keepT; rw [if_neg (by rw [hll]; simp)]; rfl
    have hn0 : 0 < l.length := by rw [hll]; simp
    clear hll
    obtain ⟨n, hn⟩ : ∃ n, n = l.length := ⟨_, rfl⟩
    rw [← hn] at hm hn0 ⊢
    have HN := Lib.hid hn
    clear hn
    have hne : ((n : Int) == 0) = false := by simp; omega
    go_enter Tryd.func52, Tryd.ntmps52
    go_wp2_with fail
    go_loopg [3, 5, 6, 12] n (fun g ov xv dv kv wr => ∃ (k : Nat) (oa : Option Addr) (oc : Nat), g = n - k ∧ k ≤ n ∧ ov = .slice oa k oc ∧ kv = .int .i64 k ∧ Hid (Below w.heap.size w wr ∧ wr.ownsRow w.heap.size 5 1 (.slice oa k oc) k (((l.take k).map keepD).map u8v)))
    case atStart => exact ⟨0, none, 0, rfl, by omega, rfl, rfl, Below.refl _ _, World.ownsRow_nil _ _ _ _⟩
    case round =>
      obtain ⟨k, oa, oc, rfl, hk, rfl, rfl, HJ⟩ := hrel
      by_cases hlt : k < n
      · obtain ⟨bs, off, cap, e1, h1, h2, h3, h4⟩ := HL.out.at (by have := HN.out; omega)
        have q0 := h4 k (by have := HN.out; omega)
        rw [← HJ.out.1.cell (p := ⟨bs, _, none⟩) h3] at q0
        rw [← HN.out] at e1 h1
        injection e1 with x1 x2 x3
        subst x1 x3
        unfold maxLen at h2
        have hkl : k < l.length := by rw [← HN.out]; exact hlt
        have hgx : l[k]? = some (l.getD k false) := by rw [List.getD_eq_getElem?_getD, List.getElem?_eq_getElem hkl]; rfl
        have HGX := Lib.hid hgx
        obtain ⟨xb, hxb⟩ : ∃ s, s = l.getD k false := ⟨_, rfl⟩
        rw [← hxb] at q0 HGX
        have HJB : Hid (Below w.heap.size w wr) := HJ.out.1
        have hb8 : Below wr.heap.size wr (wr.alloc (.cells #[u8v (keepD xb)] 5)) := (Below.refl _ wr).alloc (Nat.le_refl _) _
        have hnew := heap_alloc_new wr (.cells #[u8v (keepD xb)] 5)
        obtain ⟨v', w9, hrun, hown, hg, _⟩ := app_at (P := Tryd.prog) (ty := 38) elemByte (own_below HJ.out.2 hb8) (x := .slice (some ⟨wr.heap.size, 0, none⟩) 1 1) (m := 1) (news := [u8v (keepD xb)]) ⟨rfl, .inr ⟨by decide, wr.heap.size, 0, 1, rfl, by decide, by decide, blk_lt hnew, fun j hj => by
          rw [Nat.zero_add, blk_cell hnew]
          obtain rfl : j = 0 := by simp at hj; omega
          rfl⟩⟩ (fun u hu => by simp at hu; subst hu; rfl) (by omega) (by unfold maxLen; omega) (by have := HJB.out.size; have := hb8.size; omega)
        have HTK : Hid (((l.take k).map keepD).map u8v ++ [u8v (keepD xb)] = ((l.take (k + 1)).map keepD).map u8v) := by show _ = _; rw [List.take_add_one, HGX.out]; simp
        rw [HTK.out] at hown
        obtain ⟨va', vc', rfl⟩ := own_slice hown
        have HB9 := Lib.hid ((HJB.out.trans (hb8.mono HJB.out.size)).grown hg (by have := HJB.out.size; have := hb8.size; omega) (fun i hi => ((own_below HJ.out.2 hb8).lt i hi).1))
        have HO9 := Lib.hid hown
        have HRUN := Lib.hid hrun
        clear h4 x2 hgx hkl hxb h3 hrun hown hg hnew hb8
        cases xb with
        | false =>
          go_wp2_with (refine wpList_append_eq rfl _ _ 38 rfl (by first | rfl | simp [go_sem]) (by first | rfl | simp [go_sem]) HRUN.out ?_)
          go_roundg (n - (k + 1))
          case measure => omega
          case rel => exact ⟨k + 1, va', vc', rfl, by omega, rfl, by go_num, HB9.out, HO9.out⟩
        | true =>
          go_wp2_with (refine wpList_append_eq rfl _ _ 38 rfl (by first | rfl | simp [go_sem]) (by first | rfl | simp [go_sem]) HRUN.out ?_)
          go_roundg (n - (k + 1))
          case measure => omega
          case rel => exact ⟨k + 1, va', vc', rfl, by omega, rfl, by go_num, HB9.out, HO9.out⟩
      · obtain rfl : k = n := by omega
        have hc := convert_sl (P := Tryd.prog) 38 5 Tryd.underlying38 Tryd.underlying5 (w := wr) (v := .slice oa k oc) (bs := tt) (by
          have h := own_isSl HJ.out.2
          rw [HX.out]
          rw [HN.out, List.take_length] at h
          rw [HN.out]
          exact h) 9 Tryd.underlying9
        have HJB : Hid (Below w.heap.size w wr) := HJ.out.1
        go_wp2_with fail
        go_ret
        exact ⟨rfl, HJB.out⟩
end Go.Proofs.YtelaijogjgcloaaDoor
