/- The document's Join: the bytes of sectors. Condition: a sector has 64 bytes; at most 20000 sectors. -/
import Derived.Test.YtjmocjcjiiopnaaGreatLogScans35
import Derived.Test.YtjmocjcjiiopnaaGreatLogScans06
import Derived.Test.YtjmocjcjiiopnaaGreatLogScans09
import Derived.Deep.CutRange

section
set_option linter.unusedVariables false
set_option linter.unusedSimpArgs false
namespace Go.Oct
/-- Sectors read one behind the other, by the document. -/
def docGo (g p : Nat) : Nat → List (List UInt8) → List UInt8 → Option (List UInt8)
  | _, [], out => some out
  | j, b :: l, out => match readB b with
    | none => none
    | some (g', p', pl) => if g' ≠ g ∨ p' ≠ p + j ∨ (l ≠ [] ∧ pl.length < 48) then none else docGo g p (j + 1) l (out ++ pl)
theorem docGo_cons {g p j : Nat} {b : List UInt8} {l : List (List UInt8)} {out : List UInt8} : docGo g p j (b :: l) out = match readB b with
    | none => none
    | some (g', p', pl) => if g' ≠ g ∨ p' ≠ p + j ∨ (l ≠ [] ∧ pl.length < 48) then none else docGo g p (j + 1) l (out ++ pl) := by rw [docGo]
theorem docGo_over {g p : Nat} : ∀ {j : Nat} (l : List (List UInt8)) (out : List UInt8), (∀ x ∈ l, x.length = 64) → 4294967295 < p + j → l ≠ [] → docGo g p j l out = none
  | j, b :: l, out, hl, hj, _ => by
    rw [docGo_cons]
    cases h : readB b with
    | none => rfl
    | some x =>
      obtain ⟨g', p', pl⟩ := x
      have := readB_bound (hl b (by simp)) h
      exact if_pos (.inr (.inl (by omega)))
theorem docGo_join {g p : Nat} : ∀ {j : Nat} (l : List (List UInt8)) (out : List UInt8), (∀ x ∈ l, x.length = 64) → p + j ≤ 4294967295 → docGo g p j l out = joinGo (some (g, p + j)) l out
  | j, [], out, _, _ => by rw [docGo, joinGo]
  | j, b :: l, out, hl, hj => by
    rw [docGo_cons, joinGo]
    cases h : readB b with
    | none => rfl
    | some x =>
      obtain ⟨g', p', pl⟩ := x
      have hb := readB_bound (hl b (by simp)) h
      dsimp only
      by_cases h1 : l ≠ [] ∧ pl.length < 48
      · rw [if_pos (.inr (.inr h1)), if_pos h1]
      · rw [if_neg h1]
        by_cases h2 : g' = g ∧ p' = p + j
        · obtain ⟨rfl, rfl⟩ := h2
          rw [if_neg (by rintro (h | h | h); exact h rfl; exact h rfl; exact h1 h), if_neg (by rintro ⟨x, hx, hn⟩; cases hx; exact hn rfl)]
          by_cases h3 : p + j = 4294967295
          · by_cases h4 : l = []
            · rw [if_neg (by simp [h4]), h4, docGo, joinGo]
            · rw [if_pos ⟨h3, h4⟩]
              exact docGo_over l _ (fun x hx => hl x (by simp [hx])) (by omega) h4
          · rw [if_neg (fun h => h3 h.1), docGo_join l _ (fun x hx => hl x (by simp [hx])) (by omega), Nat.mod_eq_of_lt (by omega)]
            rfl
        · rw [if_pos (by by_cases hg : g' = g; exact .inr (.inl fun hp => h2 ⟨hg, hp⟩); exact .inl hg), if_pos ⟨_, rfl, fun e => h2 (by injection e with e1 e2; exact ⟨e1.symm, e2.symm⟩)⟩]
/-- The bytes of sectors, by the document. -/
theorem joinB_doc {b : List UInt8} {l : List (List UInt8)} (hl : ∀ x ∈ b :: l, x.length = 64) : joinB (b :: l) = match readB b with
    | none => none
    | some (g, p, _) => docGo g p 0 (b :: l) [] := by
  unfold joinB
  rw [if_neg (by simp)]
  cases h : readB b with
  | none => rw [joinGo, h]
  | some x =>
    obtain ⟨g, p, pl⟩ := x
    have hb := readB_bound (hl b (by simp)) h
    dsimp only
    rw [docGo_join _ _ hl (by omega), joinGo, joinGo, h]
    dsimp only
    rw [if_neg (show ¬ ∃ x, (none : Option (Nat × Nat)) = some x ∧ x ≠ (g, p) by rintro ⟨x, hx, _⟩; cases hx), if_neg (show ¬ ∃ x, some (g, p + 0) = some x ∧ x ≠ (g, p) by rintro ⟨x, hx, hn⟩; cases hx; exact hn rfl)]
end Go.Oct
namespace Go.Proofs.YtjmocjcjiiopnaaGreat
open Go.RowKit Go.Ice Go.Oct Go.Lg
/-- What the document's Join tells. -/
def rjoinQ (r : Option (List UInt8)) (u : Value) (L : List Asn) : Prop := match r with
    | none => u = .tuple #[.slice none 0 0, .bool false] ∧ L = []
    | some out => ∃ a c, u = .tuple #[.slice a out.length c, .bool true] ∧ L = [ownA 5 1 (.slice a out.length c) out.length (out.map u8v)]
set_option maxHeartbeats 8000000 in
set_option maxRecDepth 20000 in
theorem rjoin (v : Value) (bs : List (List UInt8)) (hb : ∀ x ∈ bs, x.length = 64) (hm : bs.length ≤ 20000) : Meets Tryz.prog 96 #[v] [] [slA 64 v bs.length (bs.flatMap fun x => x.map u8v)] fun u L => rjoinQ (joinB bs) u L := by
  intro w B H
  obtain ⟨n, hn⟩ : ∃ n, n = bs.length := ⟨_, rfl⟩
  have HN := Lib.hid hn
  have hsl := St.sl H 0
  have hform : ∃ a c, v = .slice a n c := by
    rcases hsl.2 with ⟨h0, h | ⟨x, c, h⟩⟩ | ⟨h0, b', off, cap, h, _⟩
    · exact ⟨_, _, by rw [hn, h0]; exact h⟩
    · exact ⟨_, _, by rw [hn, h0]; exact h⟩
    · exact ⟨_, _, by rw [hn]; exact h⟩
  obtain ⟨a, c, rfl⟩ := hform
  rw [← hn] at H hm ⊢
  clear hsl hn
  have HST := Lib.hid (show Hid (bs.drop 0 = bs) from Lib.hid (List.drop_zero ..))
  obtain ⟨fb, hfb⟩ : ∃ fb, fb = w.heap.size := ⟨_, rfl⟩
  have H1 := (H.newNil 5 1).alloc [.int .u64 0, .int .u32 0, .int .i64 0] 113
  rw [← hfb] at H1
  have HFB := Lib.hid hfb
  clear hfb
  generalize hSS : [slA 64 (.slice a n c) n (bs.flatMap fun x => x.map u8v)] = S at *
  have HSS := Lib.hid hSS
  clear hSS
  go_enter Tryz.func96, Tryz.ntmps96
  go_upto_region 3 with fail
  rw [← HFB.out]
  refine wp_world (fun W => St w B _ _ W) H1 ?_
  intro w1 H2
  clear H1 H
  go_wp2_with fail
  go_loopg [4, 6] n (fun gg b4 b6 wr => ∃ (j g p f : Nat) (out : List UInt8) (a' : Option Addr) (c' : Nat), j ≤ n ∧ gg = n - j ∧ b6 = .int .i64 j ∧ b4 = .slice a' out.length c' ∧ St w B [blkA fb [.int .u64 g, .int .u32 p, .int .i64 f] 113, ownA 5 1 (.slice a' out.length c') out.length (out.map u8v)] S wr ∧ Hid (if j = 0 then out = [] ∧ a' = none ∧ c' = 0 else joinB bs = docGo g p j (bs.drop j) out) ∧ Hid (g ≤ 18446744073709551615 ∧ p ≤ 4294967295 ∧ out.length ≤ 48 * j))
  case atStart => exact ⟨0, 0, 0, 0, [], none, 0, Nat.zero_le _, rfl, rfl, rfl, H2, Lib.hid ⟨rfl, rfl, rfl⟩, Lib.hid (by simp)⟩
  case round =>
  clear H2 HFB
  obtain ⟨j, g, p, f, out, a', c', hj, rfl, rfl, rfl, H, HJB, HB⟩ := hrel
  by_cases hlt : j < n
  · obtain ⟨x, hx⟩ : ∃ x, bs[j]? = some x := ⟨_, List.getElem?_eq_getElem (by rw [← HN.out]; exact hlt)⟩
    have hx64 : x.length = 64 := hb x (List.mem_of_getElem? hx)
    have hslw : IsSlK wr 64 n (.slice a n c) (bs.flatMap fun x => x.map u8v) := by
      obtain ⟨F, hF⟩ := H.getS (A := slA 64 (.slice a n c) n (bs.flatMap fun x => x.map u8v)) (by rw [← HSS.out]; exact List.mem_singleton.2 rfl)
      exact hF.2.2
    obtain ⟨b', off, cap, e, _, _, _, _⟩ := hslw.at (by omega)
    cases e
    have hr1 := hslw.elem (f := fun x : List UInt8 => x.map u8v) (by omega) (fun y hy => by rw [List.length_map]; exact hb y hy) hx
    obtain ⟨fv, hfv⟩ : ∃ fv, fv = x.map u8v := ⟨_, rfl⟩
    have hfl : fv.length = 64 := by rw [hfv, List.length_map, hx64]
    simp only [← hfv] at hr1
    have hargs : blkV x = .agg fv.toArray := by rw [hfv]; rfl
    have hrd := rread x hx64
    rw [hargs] at hrd
    clear hfv hargs hslw
    have hd : bs.drop j = x :: bs.drop (j + 1) := by
      obtain ⟨hlj, hxj⟩ := List.getElem?_eq_some_iff.1 hx
      rw [← hxj]; exact List.drop_eq_getElem_cons hlj
    have hall : ∀ y ∈ bs.drop j, y.length = 64 := fun y hy => hb y (List.mem_of_mem_drop hy)
    have hne : bs.drop (j + 1) ≠ [] ↔ j + 1 < n := by rw [ne_eq, List.drop_eq_nil_iff, ← HN.out]; omega
    rw [hd] at hall HJB
    have HX := Lib.hid hx
    have HJN := Lib.hid hlt
    have hlt' : (j : Int) < n := by omega
    have HRD := Lib.hid hrd
    have HHD := Lib.hid (show j = 0 → bs = x :: bs.drop (j + 1) from fun h => by rw [← hd, h, List.drop_zero])
    clear hrd hx hd
    cases hrx : readB x with
    | none =>
      have HNO : joinB bs = none := by
        by_cases h0 : j = 0
        · rw [HHD.out h0, joinB_doc hall, hrx]
        · have := HJB.out
          rw [if_neg h0] at this
          rw [this, docGo_cons, hrx]
      have HNO := Lib.hid HNO
      have hrd := HRD.out
      rw [hrx] at hrd
      have HRD := Lib.hid hrd
      clear hrd hrx hall hne
      go_wp2_with (first | (refine wpl_load rfl _ _ rfl b' (off + j * 64) (by rfl) fv 64 hfl hr1 bigBlock ?_) | fail)
      refine (HRD.out.call (L := []) (M := [_, _]) H (by simp)).mono ?_
      rintro e w3 ⟨v, L, rfl, ⟨rfl, rfl⟩, H4⟩
      have H5 := H4.alloc [.int .u64 0, .int .u32 0, .int .i64 0] 113
      go_upto_region 7 with fail
      refine wp_world (fun W => St w B _ _ W) H5 ?_
      intro w5 H6
      clear H5 H4 hr1
      obtain ⟨hc1, hf1⟩ := St.cells H6 0
      obtain ⟨hc2, hf2⟩ := St.cells H6 1
      have hj0 : j = 0 ∨ 0 < (j : Int) := by omega
      rcases hj0 with rfl | hj0
      · have H7 := ((St.set_ H6 1 0 (.int .u64 0)).set_ 1 1 (.int .u32 0)).set_ 1 2 (.int .i64 0)
        go_wp2_with fail
        exact bodyPost_ret (results_tmp2 rfl _ _ _) rfl (Back.mk (L' := []) (by first | (rw [HNO.out]; exact ⟨rfl, rfl⟩) | exact ⟨rfl, rfl⟩) (St.pick H7 []))
      · have hjz : ((j : Int) == 0) = false := by simp; omega
        go_wp2_with fail
        exact bodyPost_ret (results_tmp2 rfl _ _ _) rfl (Back.mk (L' := []) (by first | (rw [HNO.out]; exact ⟨rfl, rfl⟩) | exact ⟨rfl, rfl⟩) (St.pick H6 []))
    | some y =>
      obtain ⟨g', p', pl⟩ := y
      obtain ⟨k1, k2, k3, k4⟩ := readB_bound hx64 hrx
      obtain ⟨G, P, F, hG⟩ : ∃ G P F : Nat, (j = 0 ∧ G = g' ∧ P = p' ∧ F = pl.length) ∨ (0 < j ∧ G = g ∧ P = p ∧ F = f) := by
        by_cases h0 : j = 0
        · exact ⟨_, _, _, .inl ⟨h0, rfl, rfl, rfl⟩⟩
        · exact ⟨_, _, _, .inr ⟨by omega, rfl, rfl, rfl⟩⟩
      have HJD : joinB bs = if g' ≠ G ∨ p' ≠ P + j ∨ (j + 1 < n ∧ pl.length < 48) then none else docGo G P (j + 1) (bs.drop (j + 1)) (out ++ pl) := by
        rcases hG with ⟨h0, rfl, rfl, rfl⟩ | ⟨h0, rfl, rfl, rfl⟩
        · have ho := HJB.out
          rw [if_pos h0] at ho
          rw [HHD.out h0, joinB_doc hall, hrx]
          dsimp only
          rw [docGo_cons, hrx, ho.1, h0]
          dsimp only
          rw [h0] at hne
          simp only [hne]
          rfl
        · have := HJB.out
          rw [if_neg (by omega)] at this
          rw [this, docGo_cons, hrx]
          dsimp only
          simp only [hne]
      have HJD := Lib.hid HJD
      have HPG : G ≤ 18446744073709551615 ∧ P ≤ 4294967295 := by have := HB.out; omega
      have HOL := Lib.hid (show out.length + pl.length ≤ 48 * (j + 1) by have := HB.out; omega)
      have HB2 := Lib.hid HB.out
      have hrd := HRD.out
      rw [hrx] at hrd
      unfold refQ at hrd
      dsimp only at hrd
      have HRD := Lib.hid hrd
      have HGG := Lib.hid hG
      clear hrd hrx hall hne HJB HHD hG
      go_wp2_with (first | (refine wpl_load rfl _ _ rfl b' (off + j * 64) (by rfl) fv 64 hfl hr1 bigBlock ?_) | fail)
      refine (HRD.out.call (L := []) (M := [_, _]) H (by simp)).mono ?_
      rintro e w3 ⟨v, L, rfl, ⟨ax, cx, rfl, rfl⟩, H4⟩
      have H5 := H4.alloc [.int .u64 g', .int .u32 p', .int .i64 pl.length] 113
      obtain ⟨sb, hsb⟩ : ∃ sb, sb = w3.heap.size := ⟨_, rfl⟩
      rw [← hsb] at H5
      go_upto_region 7 with fail
      rw [← hsb]
      clear hsb
      refine wp_world (fun W => St w B _ _ W) H5 ?_
      intro w5 H6
      simp only [List.cons_append, List.nil_append] at H6
      clear H5 H4 hr1 H
      obtain ⟨hc1, hf1⟩ := St.cells H6 0
      obtain ⟨hc2, hf2⟩ := St.cells H6 2
      go_upto_if 27 with fail
      go_cut [] from 11 to 64 (fun wr => Hid (St w B [blkA sb [.int .u64 g', .int .u32 p', .int .i64 pl.length] 113, ownA 5 1 (.slice ax pl.length cx) pl.length (pl.map u8v), blkA fb [.int .u64 G, .int .u32 P, .int .i64 F] 113, ownA 5 1 (.slice a' out.length c') out.length (out.map u8v)] S wr))
      case first =>
        rcases HGG.out with ⟨rfl, rfl, rfl, rfl⟩ | ⟨h0, rfl, rfl, rfl⟩
        · have H7 := ((St.set_ H6 2 0 (.int .u64 G)).set_ 2 1 (.int .u32 P)).set_ 2 2 (.int .i64 pl.length)
          have H8 := Lib.hid (St.pick H7 [0, 1, 2, 3])
          try go_wp2_with fail
          go_meet
          case rel => exact H8
        · have hjz : ((j : Int) == 0) = false := by simp; omega
          try go_wp2_with fail
          go_meet
          case rel => exact Lib.hid H6
      case rest =>
        have H7 := hcut.out
        clear H6 hc1 hf1 hc2 hf2
        obtain ⟨hc1, hf1⟩ := St.cells H7 0
        obtain ⟨hc2, hf2⟩ := St.cells H7 2
        have hw1 : IntKind.u64.wrap (p' : Int) = p' := by rw [IntKind.wrap_u64]; omega
        have hw2 : IntKind.u64.wrap (P : Int) = P := by rw [IntKind.wrap_u64]; omega
        have hw3 : IntKind.u64.wrap (j : Int) = j := by rw [IntKind.wrap_u64]; omega
        have hw4 : IntKind.u64.wrap ((P : Int) + (j : Int)) = P + j := by rw [IntKind.wrap_u64]; omega
        by_cases hg : g' = G
        · subst hg
          by_cases hp : p' = P + j
          · have hpe : ((p' : Int) == (P : Int) + (j : Int)) = true := by simp; omega
            have hpe2 : (p' : Int) = (P : Int) + (j : Int) := by omega
            have hnj : (j : Int) + 1 < n ∧ (pl.length : Int) < 48 ∨ (¬ (j : Int) + 1 < n ∨ (j : Int) + 1 < n ∧ ¬ (pl.length : Int) < 48) := by omega
            rcases hnj with ⟨hn1, hn2⟩ | hnj
            · have HNO := Lib.hid (show joinB bs = none by rw [HJD.out, if_pos (.inr (.inr (by omega)))])
              go_wp2_with fail
              exact bodyPost_ret (results_tmp2 rfl _ _ _) rfl (Back.mk (L' := []) (by first | (rw [HNO.out]; exact ⟨rfl, rfl⟩) | exact ⟨rfl, rfl⟩) (St.pick H7 []))
            · have HYE := Lib.hid (show joinB bs = docGo g' P (j + 1) (bs.drop (j + 1)) (out ++ pl) by rw [HJD.out, if_neg (by omega)])
              clear hp
              rcases hnj with hnj | ⟨hn1, hn2⟩
              all_goals
                go_wp2_with fail
                refine (rbothH _ _ out.length pl.length _ _ out pl rfl rfl (by have := HOL.out; omega) (by omega) H7 ⟨ownA 5 1 (.slice a' out.length c') out.length (out.map u8v), List.mem_append_right _ (by simp), own_imp_byt _ out⟩ ⟨ownA 5 1 (.slice ax pl.length cx) pl.length (pl.map u8v), List.mem_append_right _ (by simp), own_imp_byt _ pl⟩).mono ?_
                rintro e w8 ⟨x9, y9, rfl, H8⟩
                go_wp2_with fail
                go_roundg (n - (j + 1))
                case measure => omega
                case rel => exact ⟨j + 1, g', P, F, out ++ pl, x9, y9, by omega, rfl, by go_num, by rw [List.length_append], by rw [List.length_append]; exact St.pick H8 [3, 0], by rw [if_neg (by omega)]; exact HYE, Lib.hid ⟨HPG.1, HPG.2, by rw [List.length_append]; exact HOL.out⟩⟩
          · have hpe : ((p' : Int) == (P : Int) + (j : Int)) = false := by simp; omega
            have hpe2 : ¬ (p' : Int) = (P : Int) + (j : Int) := by omega
            have HNO := Lib.hid (show joinB bs = none by rw [HJD.out, if_pos (.inr (.inl hp))])
            clear hp
            go_wp2_with fail
            exact bodyPost_ret (results_tmp2 rfl _ _ _) rfl (Back.mk (L' := []) (by first | (rw [HNO.out]; exact ⟨rfl, rfl⟩) | exact ⟨rfl, rfl⟩) (St.pick H7 []))
        · have hge : ((g' : Int) == (G : Int)) = false := by simp; omega
          have hge2 : ¬ (g' : Int) = (G : Int) := by omega
          have HNO := Lib.hid (show joinB bs = none by rw [HJD.out, if_pos (.inl hg)])
          clear hg
          go_wp2_with fail
          exact bodyPost_ret (results_tmp2 rfl _ _ _) rfl (Back.mk (L' := []) (by first | (rw [HNO.out]; exact ⟨rfl, rfl⟩) | exact ⟨rfl, rfl⟩) (St.pick H7 []))
  · obtain rfl : j = n := by omega
    have h9 : ¬ (j : Int) < (j : Int) := by omega
    by_cases h0 : j = 0
    · have HRS : joinB bs = none := by
        have : bs = [] := List.length_eq_zero_iff.1 (by rw [← HN.out]; exact h0)
        rw [this]; rfl
      have ho := HJB.out
      rw [if_pos h0] at ho
      obtain ⟨rfl, rfl, rfl⟩ := ho
      have HRS := Lib.hid (And.intro HRS h0)
      clear h0
      go_wp2_with fail
      exact bodyPost_ret (results_tmp2 rfl _ _ _) rfl (Back.mk (L' := []) (show rjoinQ none _ _ from ⟨by simp [HRS.out.2], rfl⟩) (St.pick H []))
    · have HRS : joinB bs = some out := by
        have := HJB.out
        rw [if_neg h0] at this
        rw [this, List.drop_of_length_le (by rw [← HN.out]; exact Nat.le_refl _), docGo]
      have HRS := Lib.hid (And.intro HRS (show 0 < j by omega))
      go_wp2_with fail
      exact bodyPost_ret (results_tmp2 rfl _ _ _) rfl (Back.mk (L' := [_]) (show rjoinQ (some out) _ _ from ⟨_, _, by simp [HRS.out.2], rfl⟩) (St.pick H [1]))
end Go.Proofs.YtjmocjcjiiopnaaGreat
end
