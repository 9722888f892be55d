/- index.Drop: all entries of a generation go. Condition: the index is laid out in its blocks. -/
import Derived.Test.YtccgdfamjohmgaaAt
import Derived.Deep.RegionWith
set_option linter.unusedVariables false
namespace Go.Proofs.Ytccgdfamjohmgaa
open Go.RowKit Go.Ice

def keepA (g : Int) (e : Nat × Adr) : Bool := !decide (e.2.gen = g)

theorem ents_append (S : IdxS) (l1 l2 : List Nat) : ents S (l1 ++ l2) = ents S l1 ++ ents S l2 := by unfold ents; rw [List.map_append]

/-- Behind a take the rest of the row leads on as it did. -/
theorem take_rest {S : IdxS} {N : Nat} {E1 E2 F : List Nat} {i : Nat} (p : Loc) (h : Inv S N (E1 ++ i :: E2) F) : Links (takeS S p i).next (S.next i) E2 := by
  have hE := h.disj.1
  have hb := h.back
  rw [List.reverse_append, List.reverse_cons, List.append_assoc, List.singleton_append] at hb
  have hA := (links_cut hb).1
  refine links_congr (links_cut h.row).1 fun k hk => ?_
  show (if S.ahead i = -1 then S.next else upd S.next (S.ahead i).toNat (S.next i)) k = S.next k
  rcases links_lt hA with e | ⟨j, e, hj⟩
  · rw [if_pos e]
  · rw [if_neg (by rw [e]; omega), e, show ((j : Int)).toNat = j from rfl]
    have : k ≠ j := fun h' => by
      have h3 := (List.nodup_append.1 hE).2.2 j (List.mem_reverse.1 hj) k (by simp [hk])
      exact h3 h'.symm
    unfold upd; rw [if_neg this]

set_option maxHeartbeats 8000000 in
theorem drop_at (w : World) (L : Lay) (N : Nat) (A : List (Nat × Adr)) (g : Int) (h : IdxAt w L N A) :
    Calls Try.prog 12 #[.pointer (some ⟨L.bx, 0, none⟩), .int .u64 g] w fun e w' => e = .returned (.int .i64 ((A.length - (A.filter (keepA g)).length : Nat) : Int)) ∧ IdxAt w' L N (A.filter (keepA g)) ∧ Frm L.owns w w' := by
  have hle := h.le
  have hlen : (A.filter (keepA g)).length ≤ A.length := List.length_filter_le _ _
  obtain ⟨S0, E0, F0, hR0, hI0, hA, hnd⟩ := h
  have hn0 : S0.n = A.length := by rw [hI0.n, ← hA]; unfold ents; rw [List.length_map]
  have f1 : w.cell? ⟨L.bx, 9, none⟩ = some (.int .i64 S0.n) := hR0.x.cell (k := 9) (by decide)
  rw [hn0] at f1
  have f2 : w.cell? ⟨L.bx, 6, none⟩ = some (.int .i64 S0.first) := hR0.x.cell (k := 6) (by decide)
  have HR0 := Lib.hid hR0
  have HI0 := Lib.hid hI0
  have HA := Lib.hid hA
  have HND := Lib.hid hnd
  have HLT := Lib.hid hR0.lt
  clear hR0 hI0 hA hnd hn0
  have hsub : ((A.length : Int) - ((A.filter (keepA g)).length : Int)) = ((A.length - (A.filter (keepA g)).length : Nat) : Int) := by omega
  have HSUB := Lib.hid hsub
  clear hsub
  go_enter Try.func12, Try.ntmps12
  go_wp2_with fail
  clear f1 f2
  go_loopg [6] E0.length (fun m sv wr => ∃ (S : IdxS) (Ed Er F : List Nat) (Ad : List (Nat × Adr)) (s : Int), m = Er.length ∧ sv = .int .i64 s ∧ Rep wr L N S ∧ Frm L.owns w wr ∧ Hid (Inv S N (Ed ++ Er) F ∧ Links S.next s Er ∧ ents S Ed = Ad.filter (keepA g) ∧ A = Ad ++ ents S Er))
  case atStart => exact ⟨S0, [], E0, F0, [], _, rfl, rfl, HR0.out, Frm.refl _ _, HI0.out, HI0.out.row, rfl, by rw [HA.out]; rfl⟩
  case round =>
    obtain ⟨S, Ed, Er, F, Ad, s, rfl, rfl, hR, hF, hI⟩ := hrel
    cases Er with
    | nil =>
      obtain rfl : s = -1 := hI.out.2.1
      have hfin : ents S Ed = A.filter (keepA g) := by
        obtain ⟨_, _, h3, h4⟩ := hI.out
        rw [h3, h4]; simp [ents]
      have hn : S.n = (A.filter (keepA g)).length := by
        rw [← hfin, hI.out.1.n, List.append_nil]; unfold ents; rw [List.length_map]
      have f1 : wr.cell? ⟨L.bx, 9, none⟩ = some (.int .i64 S.n) := hR.x.cell (k := 9) (by decide)
      rw [hn] at f1
      have HR := Lib.hid hR
      have HF := Lib.hid hF
      have HFIN := Lib.hid hfin
      clear hR hF hfin hn
      generalize hk1 : (A.filter (keepA g)).length = k1 at *
      generalize hk2 : A.length = k2 at *
      go_wp2_with fail
      go_ret
      refine ⟨ret_int (by rw [HSUB.out, hk1, hk2]), ⟨S, Ed, F, HR.out, ?_, HFIN.out, ?_⟩, HF.out⟩
      · have := hI.out.1; rw [List.append_nil] at this; exact this
      · exact List.Nodup.sublist List.filter_sublist HND.out
    | cons i Er =>
      obtain ⟨hInv, ⟨rfl, hlk⟩, hEd, hAeq⟩ := hI.out
      have hiN : i < N := hInv.lt i (by simp)
      have hndE : (ents S (Ed ++ i :: Er)).Nodup := by
        have h1 := HND.out
        rw [hAeq] at h1
        rw [ents_append, hEd]
        exact List.Nodup.sublist (List.Sublist.append List.filter_sublist (List.Sublist.refl _)) h1
      have hfit := hInv.fits i (by simp)
      obtain ⟨E1, i', E2, he1, he2, he3, hno, _⟩ := split_ents (f := S.fng i) (a := S.adr i) hndE (mem_ents.2 ⟨i, by simp, rfl, rfl⟩)
      have hno' : ∀ k ∈ Ed ++ Er, ¬ hit S (S.fng i) (S.adr i) k := by
        intro k hk hh
        have hd := hInv.disj.1
        have hi' : i' = i := by
          have hi2 : i ∈ E1 ++ i' :: E2 := by rw [← he1]; simp
          rcases List.mem_append.1 hi2 with h | h
          · exact absurd ⟨rfl, rfl⟩ (hno i (List.mem_append_left _ h))
          · rcases List.mem_cons.1 h with h | h
            · exact h.symm
            · exact absurd ⟨rfl, rfl⟩ (hno i (List.mem_append_right _ h))
        have hk2 : k ∈ E1 ++ i' :: E2 := by
          rw [← he1]
          rcases List.mem_append.1 hk with h | h
          · simp [h]
          · simp [h]
        have hki : k ≠ i := by
          intro e
          subst e
          have h3 := List.nodup_append.1 hd
          rcases List.mem_append.1 hk with h | h
          · exact h3.2.2 k h k (by simp) rfl
          · exact (List.nodup_cons.1 h3.2.1).1 h
        rcases List.mem_append.1 hk2 with h | h
        · exact hno k (List.mem_append_left _ h) hh
        · rcases List.mem_cons.1 h with h | h
          · exact hki (h.trans hi')
          · exact hno k (List.mem_append_right _ h) hh
      have ht := hInv.take hno' rfl
      have hrest := take_rest (locate S (S.fng i) (S.adr i) (true, S.fng i % N) (bucket S.fng N (S.fng i % N) (Ed ++ i :: Er))) hInv
      have hch := hInv.chains (S.fng i % N) (Nat.mod_lt _ (by have := hInv.hN.1; omega))
      have HF1 : Hid (∀ w, Rep w L N S → Calls Try.prog 24 #[.pointer (some ⟨L.bx, 0, none⟩), .int .u32 (S.fng i), adrV (S.adr i)] w fun e w' => e = .returned (.pointer (some ((locate S (S.fng i) (S.adr i) (true, S.fng i % N) (bucket S.fng N (S.fng i % N) (Ed ++ i :: Er))).addr L))) ∧ Below w.heap.size w w') :=
        fun w hw => find w L N S _ _ _ hfit hw hch hInv.bucket_lt
      generalize hp : locate S (S.fng i) (S.adr i) (true, S.fng i % N) (bucket S.fng N (S.fng i % N) (Ed ++ i :: Er)) = p at *
      obtain ⟨⟨t1, t2, t3, t4, t5, t6, t7⟩, hI', hents⟩ := ht
      have HT1 : Hid (∀ w, Rep w L N S → Calls Try.prog 23 #[.pointer (some ⟨L.bx, 0, none⟩), .pointer (some (p.addr L))] w fun e w' => e = .returned (.tuple #[]) ∧ Rep w' L N (takeS S p i) ∧ Frm L.owns w w') :=
        fun w hw => take w L N S p i hw t1 t2 t3 t4 t5 t6 t7 (by rw [hInv.n]; have := hInv.len; have := hInv.hN; omega)
      have f1 : wr.cell? ⟨L.bx, 4, none⟩ = some (.slice (some ⟨L.bn, 0, none⟩) N N) := hR.x.cell (k := 4) (by decide)
      have f2 : wr.cell? ⟨L.bn, i, none⟩ = some (.int .i64 (S.next i)) := hR.nx.cell hiN
      have f3 : wr.cell? ⟨L.bx, 1, none⟩ = some (.slice (some ⟨L.ba, 0, none⟩) N N) := hR.x.cell (k := 1) (by decide)
      have f0 : wr.cell? ⟨L.bx, 0, none⟩ = some (.slice (some ⟨L.bf, 0, none⟩) N N) := hR.x.cell (k := 0) (by decide)
      have fa0 : wr.cell? ⟨L.ba, i * 3, none⟩ = some (.int .i64 (S.adr i).seg) := by
        have := hR.a.cell (k := i * 3) (by omega)
        simpa [aRow, Adr.cell] using this
      have fa1 : wr.cell? ⟨L.ba, i * 3 + 1, none⟩ = some (.int .u64 (S.adr i).gen) := by
        have := hR.a.cell (k := i * 3 + 1) (by omega)
        simpa [aRow, show (i * 3 + 1) / 3 = i by omega, show (i * 3 + 1) % 3 = 1 by omega, Adr.cell] using this
      have fa2 : wr.cell? ⟨L.ba, i * 3 + 2, none⟩ = some (.int .i64 (S.adr i).sec) := by
        have := hR.a.cell (k := i * 3 + 2) (by omega)
        simpa [aRow, show (i * 3 + 2) / 3 = i by omega, show (i * 3 + 2) % 3 = 2 by omega, Adr.cell] using this
      have ff : wr.cell? ⟨L.bf, i, none⟩ = some (.int .u32 (S.fng i)) := hR.f.cell hiN
      have HR := Lib.hid hR
      have HRd := Lib.hid hR.drew
      have HF := Lib.hid hF
      have HInv := Lib.hid hInv
      have HLK := Lib.hid hlk
      have HED := Lib.hid hEd
      have HAE := Lib.hid hAeq
      have HI' := Lib.hid hI'
      have HEN := Lib.hid hents
      have HRST := Lib.hid hrest
      clear hR hF hInv hlk hEd hAeq hI hI' hents hrest hndE hno hno' he1 he2 he3 hch hp t1 t2 t4 t5 t6 t7 hfit
      by_cases hg : (S.adr i).gen = g
      · have hge : ((S.adr i).gen == g) = true := beq_iff_eq.2 hg
        have HG := Lib.hid hg
        clear hg
        go_upto_region 9 with fail
        go_region_with (first
          | (go_at_call 24; refine (HF1.out _ HRd.out).mono ?_; rintro e wx ⟨rfl, hbx⟩; have HRx := Lib.hid (HRd.out.below hbx); have HBx := Lib.hid hbx; clear hbx)
          | (go_at_call 23; refine (HT1.out _ HRx.out).mono ?_; rintro e wy ⟨rfl, hry, hfy⟩; have HRY := Lib.hid hry; have HFY := Lib.hid hfy; clear hry hfy))
        all_goals
          go_wp2_with fail
          go_roundg Er.length
          case measure => simp
          case rel =>
            refine ⟨takeS S p i, Ed, Er, i :: F, Ad ++ [(S.fng i, S.adr i)], S.next i, rfl, rfl, HRY.out, ?_, HI'.out, HRST.out, ?_, ?_⟩
            · exact (HF.out.drew.trans (frm_below HBx.out)).trans HFY.out
            · rw [show ents (takeS S p i) Ed = ents S Ed from rfl, HED.out, List.filter_append]
              rw [show [(S.fng i, S.adr i)].filter (keepA g) = [] from by rw [List.filter_cons_of_neg (by simp [keepA, HG.out])]; rfl, List.append_nil]
            · rw [HAE.out, List.append_assoc]; rfl
      · have hge : ((S.adr i).gen == g) = false := beq_eq_false_iff_ne.2 hg
        have HG := Lib.hid hg
        clear hg
        go_wp2_with fail
        go_roundg Er.length
        case measure => simp
        case rel =>
          refine ⟨S, Ed ++ [i], Er, F, Ad ++ [(S.fng i, S.adr i)], S.next i, rfl, rfl, HR.out, HF.out, ?_, HLK.out, ?_, ?_⟩
          · have := HInv.out; rw [List.append_assoc]; exact this
          · rw [ents_append, HED.out, List.filter_append]
            congr 1
            show [(S.fng i, S.adr i)] = _
            rw [List.filter_cons_of_pos (by simp [keepA, HG.out])]; rfl
          · rw [HAE.out, List.append_assoc]; rfl
end Go.Proofs.Ytccgdfamjohmgaa
