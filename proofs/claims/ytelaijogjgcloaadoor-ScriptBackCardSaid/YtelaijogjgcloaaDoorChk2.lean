/- slices.IndexFunc and ContainsFunc at events, script.Check. Condition: the events lie in memory. -/
import Derived.Test.YtelaijogjgcloaaDoorChk
set_option linter.unusedVariables false
set_option linter.unusedSimpArgs false
namespace Go.Proofs.YtelaijogjgcloaaDoor
open Go.RowKit Go.Ice Go.Scr

set_option maxHeartbeats 8000000 in
set_option maxRecDepth 20000 in
theorem indexFunc51 (w : World) (S : Nat) (p : Plan) (v sv : Value) (l : List Ev) (hS : w.heap[S]? = some (scrO p sv)) (hl : EvsAt w v l) :
    Calls Tryd.prog 51 #[v, .func (.func 29) #[] #[.pointer (some ⟨S, 0, none⟩)]] w fun e w' => (∃ r : Int, e = .returned (.int .i64 r) ∧ decide (0 ≤ r) = l.any (fun x => !rightE p x)) ∧ Below w.heap.size w w' := by
  have HL := Lib.hid hl
  have HS := Lib.hid hS
  obtain ⟨a, cap, rfl, hm⟩ := hl.form
  unfold maxLen at hm
  obtain ⟨n, hn⟩ : ∃ n, n = l.length := ⟨_, rfl⟩
  rw [← hn] at hm ⊢
  have HN := Lib.hid hn
  clear hn hl hS
  go_enter Tryd.func51, Tryd.ntmps51
  go_wp2_with fail
  go_loopg [5, 8] n (fun g _ kv wr => ∃ k : Nat, g = n - k ∧ k ≤ n ∧ kv = .int .i64 k ∧ Hid (Below w.heap.size w wr ∧ ∀ i x, i < k → l[i]? = some x → rightE p x = true))
  case atStart => exact ⟨0, rfl, by omega, rfl, Below.refl _ _, fun i x hi => by omega⟩
  case round =>
    obtain ⟨k, rfl, hk, rfl, HJ⟩ := hrel
    by_cases hlt : k < n
    · have hkl : k < l.length := by rw [← HN.out]; exact hlt
      obtain ⟨x, hx⟩ : ∃ x, l[k]? = some x := ⟨l[k], List.getElem?_eq_getElem hkl⟩
      have HX := Lib.hid hx
      obtain ⟨b, off, cap', vb, vk, e1, e2, e3, e4, q0, q1, q2, q3, q4, hb, hk'⟩ := HL.out.at hx
      rw [← HN.out] at e1
      injection e1 with x1 x2 x3
      subst x1 x3
      rw [← HJ.out.1.cell (p := ⟨b, _, none⟩) e4] at q0 q1 q2 q3 q4
      obtain ⟨bb, cb, rfl, hmb⟩ := hb.form
      obtain ⟨bk, ck, rfl, hmk⟩ := hk'.form
      have HR := Lib.hid (wrong29 wr S p _ sv x ((HJ.out.1.block S (blk_lt HS.out)).trans HS.out) ⟨_, _, rfl, hb.below HJ.out.1 (Nat.le_refl _), hk'.below HJ.out.1 (Nat.le_refl _)⟩)
      have HJB : Hid (Below w.heap.size w wr) := HJ.out.1
      rw [← HN.out] at e2
      clear hx hb hk' hmb hmk e4 hkl x2
      unfold maxLen at e3
      unfold evV at HR
      obtain ⟨rr, hrr⟩ : ∃ rr, rr = rightE p x := ⟨_, rfl⟩
      rw [← hrr] at HR
      have HRR := Lib.hid hrr
      clear hrr
      obtain ⟨kind, conn, nn, bytes, keep⟩ := x
      dsimp only at HR q0 q1 q2
      generalize bytes.length = nb at HR q0 q1 q2 q3 q4
      generalize keep.length = nk at HR q0 q1 q2 q3 q4
      cases rr with
      | false =>
        go_wp2_with fail
        refine HR.out.mono ?_
        rintro e w1 ⟨rfl, hb1⟩
        have HB1 := Lib.hid hb1
        clear hb1 HR q0 q1 q2 q3 q4
        go_wp2_with fail
        go_ret
        refine ⟨⟨(k : Int), rfl, ?_⟩, HJB.out.trans (HB1.out.mono HJB.out.size)⟩
        have : l.any (fun x => !rightE p x) = true := List.any_eq_true.2 ⟨_, List.mem_of_getElem? HX.out, by rw [← HRR.out]; rfl⟩
        rw [this]
        simp
      | true =>
        go_wp2_with fail
        refine HR.out.mono ?_
        rintro e w1 ⟨rfl, hb1⟩
        have HB1 := Lib.hid hb1
        clear hb1 HR q0 q1 q2 q3 q4
        go_wp2_with fail
        go_roundg (n - (k + 1))
        case measure => omega
        case rel =>
          refine ⟨k + 1, rfl, by omega, by go_num, HJB.out.trans (HB1.out.mono HJB.out.size), fun i y hi hy => ?_⟩
          rcases Nat.lt_succ_iff_lt_or_eq.1 hi with h | rfl
          · exact HJ.out.2 i y h hy
          · have := HX.out.symm.trans hy
            injection this with this
            rw [← this]; exact HRR.out.symm
    · obtain rfl : k = n := by omega
      have HK : Hid (l.any (fun x => !rightE p x) = false) := by
        show _ = _
        rw [List.any_eq_false]
        intro y hy
        obtain ⟨i, hi⟩ := List.getElem?_of_mem hy
        rw [HJ.out.2 i y (by rw [HN.out]; exact (List.getElem?_eq_some_iff.1 hi).1) hi]
        simp
      have HJB : Hid (Below w.heap.size w wr) := HJ.out.1
      go_wp2_with fail
      go_ret
      exact ⟨⟨-1, rfl, by rw [HK.out]; simp⟩, HJB.out⟩

set_option maxHeartbeats 8000000 in
set_option maxRecDepth 20000 in
theorem contains32 (w : World) (S : Nat) (p : Plan) (v sv : Value) (l : List Ev) (hS : w.heap[S]? = some (scrO p sv)) (hl : EvsAt w v l) :
    Calls Tryd.prog 32 #[v, .func (.func 29) #[] #[.pointer (some ⟨S, 0, none⟩)]] w fun e w' => e = .returned (.bool (l.any (fun x => !rightE p x))) ∧ Below w.heap.size w w' := by
  have HI := Lib.hid (indexFunc51 w S p v sv l hS hl)
  obtain ⟨a, cap, rfl, hm⟩ := hl.form
  generalize l.any (fun x => !rightE p x) = z at *
  generalize l.length = n at *
  clear hl hS hm
  go_enter Tryd.func32, Tryd.ntmps32
  go_wp2_with fail
  refine HI.out.mono ?_
  rintro e w1 ⟨⟨r, rfl, hr⟩, hb⟩
  have HB := Lib.hid hb
  have HR := Lib.hid hr
  clear hb hr HI
  go_wp2_with fail
  go_ret
  exact ⟨by rw [← HR.out]; rfl, HB.out⟩
end Go.Proofs.YtelaijogjgcloaaDoor
