/- A ring's order: the numbers that are not free, sorted by their counts. Conditions: the segments lie in memory; at most sixteen. -/
import Derived.Test.YtlcdadnfcdjglaaSta
set_option linter.unusedVariables false
set_option linter.unusedSimpArgs false
namespace Go.Proofs.Ytlcdadnfcdjglaa
open Go.RowKit Go.Ice Go.Ring

theorem elemInt : Elem Try.prog 42 3 1 8 (.int .i64 0) :=
  ⟨Try.underlying42, by
    obtain ⟨i0, hi, hz0, hz1, hz2⟩ := info_parts (show (Try.prog.info? 3).map (fun i => (i.zero, i.size, i.bytes)) = some (some (.int .i64 0), 1, 8) by kernel_rfl)
    exact ⟨i0, hi, hz0, hz1, hz2⟩, rfl, by decide⟩

def ringV (sec : Int) (v : Value) : Value := .agg #[.int .i64 sec, v]
def intV (x : Nat) : Value := .int .i64 x
def nfTo (l : List Seg) (i : Nat) : List Nat := (List.range i).filter fun i => !decide ((at' l i).st = 0)
theorem nfTo_succ (l : List Seg) (i : Nat) : nfTo l (i + 1) = if (at' l i).st = 0 then nfTo l i else nfTo l i ++ [i] := by
  unfold nfTo
  rw [List.range_succ, List.filter_append]
  by_cases h : (at' l i).st = 0 <;> simp [h]
theorem nfTo_len (l : List Seg) (i : Nat) : (nfTo l i).length ≤ i := by
  have := List.length_filter_le (fun i => !decide ((at' l i).st = 0)) (List.range i)
  simpa [nfTo] using this

theorem own_ints {w : World} {base g cap n : Nat} {ds : List Nat} (h : w.ownsRow base 3 1 (.slice (some ⟨g, 0, none⟩) n cap) n (ds.map intV)) : IntsAt w g ds ∧ n = ds.length ∧ base ≤ g ∧ n ≤ cap ∧ cap ≤ maxLen := by
  obtain ⟨c, hc⟩ := own_block h (g := g) rfl
  have hI := own_isSl h
  obtain ⟨hl, h⟩ := h
  have hn : n = ds.length := by simpa using hl.symm
  rcases h with ⟨h, _⟩ | ⟨g', cap', cur, h1, h2, h3, h4, h5, h6, h7⟩
  · cases h
  · injection h1 with e1 e2 e3
    obtain rfl : g = g' := by injection e1 with e1; injection e1
    subst e3
    rw [h3] at hc
    refine ⟨⟨cur, h3, fun k hk => ?_⟩, hn, h2, h4, h5⟩
    have e : (ds.map intV)[k]? = (cur.toList.take (n * 1))[k]? := by rw [h7]
    rw [List.getElem?_take_of_lt (by omega)] at e
    rw [← Array.getElem?_toList, ← e, List.getElem?_map, List.getElem?_eq_getElem hk, List.getD_eq_getElem?_getD, List.getElem?_eq_getElem hk]
    rfl

theorem ints_sl {w : World} {g cap : Nat} {ds : List Nat} (h : IntsAt w g ds) (h1 : ds.length ≤ cap) (h2 : cap ≤ maxLen) : IsSl w (.slice (some ⟨g, 0, none⟩) ds.length cap) (ds.map intV) := by
  have := isSl_mk (w := w) (cs := ds.map intV) (b := g) (off := 0) (cap := cap) (by simpa using h1) h2 (by obtain ⟨c, h, _⟩ := h; exact (Array.getElem?_eq_some_iff.1 h).1) (fun j hj => by
    rw [List.length_map] at hj
    rw [Nat.zero_add, h.cell hj, List.getElem?_map, List.getElem?_eq_getElem hj, List.getD_eq_getElem?_getD, List.getElem?_eq_getElem hj]
    rfl)
  rwa [List.length_map] at this

set_option maxHeartbeats 4000000 in
theorem ordr (w : World) (sec : Int) (v : Value) (l : List Seg) (h : SegsAt w v l) (hl : 0 < l.length) (hn : l.length ≤ 16) :
    Calls Try.prog 43 #[ringV sec v] w fun e w' => ∃ u, e = .returned u ∧ IsSl w' u ((order l).map intV) ∧ Below w.heap.size w w' := by
  obtain ⟨bs, off, cap, rfl, h1, h2, h3, h4⟩ := h.cell hl
  have HR := Lib.hid h
  have H4 := Lib.hid h4
  obtain ⟨n, hnn⟩ : ∃ n, n = l.length := ⟨_, rfl⟩
  rw [← hnn] at hn hl h1 ⊢
  have HN := Lib.hid hnn
  have HL := Lib.hid hl
  unfold maxLen at h2
  clear h h4 hnn hl
  unfold ringV
  obtain ⟨B, hB⟩ : ∃ B, B = w.heap.size := ⟨_, rfl⟩
  rw [← hB] at h3
  obtain ⟨W0, hW0⟩ : ∃ W0, W0 = w.alloc (.cells #[.int .i64 sec, .slice (some ⟨bs, off, none⟩) n cap] 25) := ⟨_, rfl⟩
  have HBX : Hid (W0.heap[B]? = some (.cells #[.int .i64 sec, .slice (some ⟨bs, off, none⟩) n cap] 25 (0, 0))) := by show _ = _; rw [hW0, hB]; exact heap_alloc_new w _
  have HBL : Hid (Below B w W0) := by show Below _ _ _; rw [hW0]; exact (Below.refl B w).alloc (by omega) _
  have b1 : W0.cell? ⟨B, 1, none⟩ = some (.slice (some ⟨bs, off, none⟩) n cap) := blk_cell HBX.out 1
  go_enter Try.func43, Try.ntmps43
  go_upto_region 1 with fail
  rw [← hB, ← hW0]
  have HB := Lib.hid hB
  clear hW0 hB
  go_wp2_with fail
  clear b1
  go_loopg [3, 4, 5, 9] n (fun g vv kv pv iv wr => ∃ i : Nat, g = n - i ∧ i ≤ n ∧ iv = .int .i64 i ∧ Hid (Below B w wr ∧ wr.heap[B]? = some (.cells #[.int .i64 sec, .slice (some ⟨bs, off, none⟩) n cap] 25 (0, 0)) ∧ wr.ownsRow (B + 1) 3 1 vv (nfTo l i).length ((nfTo l i).map intV)))
  case atStart => exact ⟨0, rfl, by omega, rfl, HBL.out, HBX.out, World.ownsRow_nil _ _ _ _⟩
  case round =>
    clear HBL HBX
    obtain ⟨i, rfl, hi, rfl, HS⟩ := hrel
    have b1 : wr.cell? ⟨B, 1, none⟩ = some (.slice (some ⟨bs, off, none⟩) n cap) := blk_cell HS.out.2.1 1
    by_cases hlt : i < n
    · have hil : i < l.length := by rw [← HN.out]; exact hlt
      have hbB : bs < wr.heap.size := by have := HS.out.1.size; have := HB.out; omega
      obtain ⟨q0, q1, q2⟩ := H4.out i hil
      have hbx : ∀ k, wr.cell? ⟨bs, k, none⟩ = w.cell? ⟨bs, k, none⟩ := fun k => (Frm.cell (frm_of_below HS.out.1) (p := ⟨bs, k, none⟩) (by have := HB.out; show bs < _; omega) (by show ¬ B ≤ bs; omega))
      rw [← hbx] at q0 q1 q2
      go_upto_region 5 with fail
      obtain ⟨Wa, hWa⟩ : ∃ Wa, Wa = wr.alloc (.cells #[.int .i64 (at' l i).st, .int .u64 (at' l i).gen, .int .i64 (at' l i).used] 46) := ⟨_, rfl⟩
      rw [← hWa]
      have HBa : Hid (Below B w Wa) := by show Below _ _ _; rw [hWa]; exact HS.out.1.alloc (by have := HS.out.1.size; have := HB.out; omega) _
      have hsz : B + 1 ≤ wr.heap.size := (Array.getElem?_eq_some_iff.1 HS.out.2.1).1
      have HXa : Hid (Wa.heap[B]? = some (.cells #[.int .i64 sec, .slice (some ⟨bs, off, none⟩) n cap] 25 (0, 0))) := by show _ = _; rw [hWa, Below.heap_alloc _ _ _ hsz]; exact HS.out.2.1
      have HOa : Hid (Wa.ownsRow (B + 1) 3 1 u3 (nfTo l i).length ((nfTo l i).map intV)) := by show World.ownsRow _ _ _ _ _ _ _; rw [hWa]; exact HS.out.2.2.alloc _
      have hAa : Wa.heap[wr.heap.size]? = some (.cells #[.int .i64 (at' l i).st, .int .u64 (at' l i).gen, .int .i64 (at' l i).used] 46 (0, 0)) := by rw [hWa]; exact heap_alloc_new wr _
      have a0 : Wa.cell? ⟨wr.heap.size, 0, none⟩ = some (.int .i64 (at' l i).st) := blk_cell hAa 0
      have HSZ : Hid (B + 1 ≤ Wa.heap.size) := by show _ ≤ _; rw [hWa]; simp; omega
      clear hWa hAa q0 q1 q2 hbx b1
      have HSU := nfTo_succ l i
      have hnl := nfTo_len l i
      by_cases hst : (at' l i).st = 0
      · rw [if_pos hst] at HSU
        have HSU := Lib.hid HSU
        rw [hst] at a0 ⊢
        go_wp2_with fail
        go_roundg (n - (i + 1))
        case measure => omega
        case rel => exact ⟨i + 1, rfl, by omega, by go_num, HBa.out, HXa.out, by rw [HSU.out]; exact HOa.out⟩
      · rw [if_neg hst] at HSU
        have HSU := Lib.hid HSU
        generalize (at' l i).st = st at *
        have s1 : (st != 0) = true := by simpa using hst
        have hsl : IsSlK (Wa.alloc (.cells #[.int .i64 i] 3)) 1 1 (.slice (some ⟨Wa.heap.size, 0, none⟩) 1 1) [intV i] :=
          ⟨rfl, .inr ⟨by decide, Wa.heap.size, 0, 1, rfl, by decide, by decide, by simp, fun j hj => by rw [Nat.zero_add, World.cell?_alloc_mark]; simp [intV]⟩⟩
        obtain ⟨v', Wc, hrun, hoc, hgc, _⟩ := app_at (P := Try.prog) (ty := 42) elemInt (HOa.out.alloc _) hsl (fun u hu => by
          simp only [List.mem_cons, List.mem_nil_iff, or_false] at hu
          subst hu; rfl) (by omega) (by unfold maxLen; omega) (by have := HSZ.out; simp; omega)
        have hbc : Below (B + 1) Wa Wc := (((Below.refl (B + 1) Wa).alloc HSZ.out _)).grown hgc (by have := HSZ.out; simp; omega) (fun k hk => (HOa.out.lt k hk).1)
        have HRUN := Lib.hid hrun
        have HOC : Hid (Wc.ownsRow (B + 1) 3 1 v' (nfTo l (i + 1)).length ((nfTo l (i + 1)).map intV)) := by
          show World.ownsRow _ _ _ _ _ _ _
          rw [HSU.out]
          simpa using hoc
        have HXc : Hid (Wc.heap[B]? = some (.cells #[.int .i64 sec, .slice (some ⟨bs, off, none⟩) n cap] 25 (0, 0))) := (hbc.block B (by omega)).trans HXa.out
        have HBc : Hid (Below B w Wc) := HBa.out.trans (hbc.mono (by omega))
        obtain ⟨a', c', rfl, _⟩ := own_form hoc
        obtain ⟨a, c, rfl, _⟩ := own_form HOa.out
        clear hsl hrun hoc hgc hbc
        go_wp2_with (at_builtin; refine wpList_append_eq rfl _ _ 42 rfl rfl rfl HRUN.out ?_)
        go_roundg (n - (i + 1))
        case measure => omega
        case rel => exact ⟨i + 1, rfl, by omega, by go_num, HBc.out, HXc.out, HOC.out⟩
    · obtain rfl : i = n := by omega
      clear hlt
      have hnf : nfTo l i = nonfree l := by unfold nfTo nonfree; rw [HN.out]
      have HOr : Hid (wr.ownsRow (B + 1) 3 1 u3 (nonfree l).length ((nonfree l).map intV)) := by show World.ownsRow _ _ _ _ _ _ _; rw [← hnf]; exact HS.out.2.2
      have hle : (nonfree l).length ≤ 16 := by rw [← hnf]; have := nfTo_len l i; omega
      have HRr : Hid (RingAt wr B sec (.slice (some ⟨bs, off, none⟩) i cap) l) := by
        refine ⟨HS.out.2.1, RowAt.frm (show SegsAt w (.slice (some ⟨bs, off, none⟩) i cap) l from by rw [HN.out]; exact HR.out) (frm_of_below HS.out.1) fun k hk => ?_⟩
        simp [Value.ownBlock] at hk
        omega
      have HD : Hid (∀ x ∈ nonfree l, x < l.length) := fun x hx => (mem_nonfree.1 hx).1
      have hcall : ∃ b0 c0, u3 = .slice b0 (nonfree l).length c0 ∧ Calls Try.prog 58 #[u3, .func (.func 59) #[] #[.pointer (some ⟨B, 0, none⟩)]] wr fun e w' => e = .returned (.tuple #[]) ∧ IsSl w' u3 ((order l).map intV) ∧ Below B wr w' := by
        obtain ⟨b0, c0, hu, _⟩ := own_form HOr.out
        refine ⟨b0, c0, hu, ?_⟩
        have hown := HOr.out
        rcases Nat.eq_zero_or_pos (nonfree l).length with h0 | h0
        · have hz : nonfree l = [] := List.length_eq_zero_iff.1 h0
          have ho : order l = [] := by unfold order; rw [hz]; rfl
          have := sorted wr u3 (.func (.func 59) #[] #[.pointer (some ⟨B, 0, none⟩)]) b0 0 c0 (by rw [hu, h0]) (by omega) (Q := fun w' => w' = wr) (insertion0 wr u3 _)
          refine this.mono ?_
          rintro e w' ⟨rfl, rfl⟩
          refine ⟨rfl, ?_, Below.refl _ _⟩
          rw [ho]
          have := own_isSl hown
          rw [hz] at this
          exact this
        · rcases hown.2 with ⟨_, h1⟩ | ⟨g, cap', cur, h1, _⟩
          · omega
          · rw [h1] at hown
            obtain ⟨hi1, hi2, hi3, hi4, hi5⟩ := own_ints hown
            rw [h1]
            refine (sorted wr _ _ (some ⟨g, 0, none⟩) (nonfree l).length cap' rfl hle (insertion wr g cap' (nonfree l) B sec _ l hi1 hle HRr.out HD.out (by omega) (fun k hk => by
              simp [Value.ownBlock] at hk; omega))).mono ?_
            rintro e w' ⟨rfl, q1, q2⟩
            have hlen : (order l).length = (nonfree l).length := (sortR_perm _ _).length_eq
            refine ⟨rfl, ?_, q2.below (fun k hk e => by omega) (by have := HS.out.1.size; have := HB.out; omega)⟩
            have := ints_sl (show IntsAt w' g (order l) from q1) (cap := cap') (by omega) hi5
            rwa [hlen] at this
      obtain ⟨b0, c0, rfl, hc⟩ := hcall
      have HC := Lib.hid hc
      have HBr : Hid (Below B w wr) := HS.out.1
      clear hc HOr HRr HD hnf HS b1
      generalize (nonfree l).length = m at *
      go_wp2_with fail
      refine HC.out.mono ?_
      rintro e w1 ⟨rfl, q1, q2⟩
      have HQ := Lib.hid (And.intro q1 (HBr.out.trans q2))
      clear q1 q2
      go_wp2_with fail
      go_ret
      exact ⟨_, rfl, HQ.out.1, by rw [← HB.out]; exact HQ.out.2⟩
end Go.Proofs.Ytlcdadnfcdjglaa
