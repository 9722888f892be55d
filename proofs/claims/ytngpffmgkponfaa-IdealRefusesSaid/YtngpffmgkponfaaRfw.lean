/- ideal.step.refuses. Conditions: the step lies in memory. -/
import Derived.Test.YtngpffmgkponfaaRfs
import Derived.Deep.CutRange
import Derived.Deep.CutBlock
set_option linter.unusedVariables false
set_option linter.unusedSimpArgs false
namespace Go.Idl
open Go.Proofs.Ytngpffmgkponfaa
/-- What an answer without success leads to. -/
def refusesF (Y : St) (q : Rq) (a : An) (hs : List Tv) : Option St :=
  if anBare a = false then none
  else if missedB q a.st then some ⟨fun k => if k = q.key then [] else Y.now k, Y.safe, Y.tok⟩
  else if hs.filterMap (refHow q a.st) = [] then none
  else some ⟨fun k => if k = q.key then sortT (hs.filterMap (refHow q a.st)) else Y.now k, Y.safe, Y.tok⟩
end Go.Idl
namespace Go.Proofs.Ytngpffmgkponfaa
open Go.RowKit Go.Ice Go.Idl

/-- What a method that takes an answer leaves. -/
def TakeR (w : World) (C : Nat → Prop) (sb mb kb : Nat) (r : Option St) (e : Ending) (w' : World) : Prop :=
  e = .returned (.bool r.isSome) ∧ match r with
    | none => Frm (fun b => b = sb) w w'
    | some Y' => Done w w' C sb mb kb Y'
theorem takeR_none {w w' : World} {C : Nat → Prop} {sb mb kb : Nat} {r : Option St} {e : Ending} (he : e = .returned (.bool false)) (hr : r = none) (hf : Frm (fun b => b = sb) w w') : TakeR w C sb mb kb r e w' := by subst hr; exact ⟨he, hf⟩
theorem takeR_some {w w' : World} {C : Nat → Prop} {sb mb kb : Nat} {r : Option St} {e : Ending} {Y' : St} (he : e = .returned (.bool true)) (hr : r = some Y') (hf : Done w w' C sb mb kb Y') : TakeR w C sb mb kb r e w' := by subst hr; exact ⟨he, hf⟩
theorem MapRep.mono {C D : Nat → Prop} {w : World} {mb kb : Nat} {Y : St} {F : List UInt8 → Option Value} (h : MapRep w C mb kb Y F) (hS : ∀ b, b < w.heap.size → C b → D b) (h1 : ¬ D mb) (h2 : ¬ D kb) : MapRep w D mb kb Y F :=
  ⟨h.blk, h.map, fun k => by
    obtain ⟨a1, n1, c1, a2, n2, c2, e, g1, g2⟩ := h.at_ k
    exact ⟨a1, n1, c1, a2, n2, c2, e, g1.mono hS, g2.mono hS⟩, h.tok, h1, h2, h.ne⟩
theorem Done.of {w w1 w' : World} {C : Nat → Prop} {sb mb kb : Nat} {q : Rq} {a : An} {now : Int} {r : Raw} {hs : List Tv} {Y Y' : St} {F : List UInt8 → Option Value} (h : SW w C sb mb kb q a now r hs Y F) (hb : Frm (fun b => b = sb) w w1) (hd : Done w1 w' C sb mb kb Y') : Done w w' C sb mb kb Y' := by
  obtain ⟨h1, F', h2⟩ := hd
  refine ⟨(hb.mono fun _ _ e => .inl e).trans h1, F', h2.mono (fun b _ hb' => ?_) ?_ ?_⟩
  · rcases hb' with h | h
    · exact .inl h
    · exact .inr (Nat.le_trans hb.size h)
  · rintro (e | e)
    · exact h.map.cm e
    · have := blk_lt h.map.blk; omega
  · rintro (e | e)
    · exact h.map.ck e
    · have := h.map.map.lt; omega
theorem filterMap_len {α β : Type} (f : α → Option β) (l : List α) : (l.filterMap f).length ≤ l.length := List.length_filterMap_le f l

theorem two_new (w : World) (x y : Obj) : Below w.heap.size w ((w.alloc x).alloc y).drew ∧ ((w.alloc x).alloc y).drew.heap[w.heap.size]? = some x ∧ ((w.alloc x).alloc y).drew.heap[w.heap.size + 1]? = some y := by
  refine ⟨(((Below.refl _ w).alloc (Nat.le_refl _) _).alloc (by simp) _).drew, ?_, ?_⟩
  · show ((w.alloc x).alloc y).heap[w.heap.size]? = _
    rw [Below.heap_alloc _ _ _ (by simp)]
    exact heap_alloc_new w x
  · show ((w.alloc x).alloc y).heap[w.heap.size + 1]? = _
    have := heap_alloc_new (w.alloc x) y
    rwa [World.size_alloc] at this
theorem refuses_keep {w w1 W7 w8 : World} {C : Nat → Prop} {sb mb kb B : Nat} {Y' : St} {v : Value} (hd : Done W7 w8 C sb mb kb Y') (h0 : W7.cell? ⟨B, 0, none⟩ = some v) (hB : B ≠ sb ∧ B ≠ mb ∧ B ≠ kb) : w8.cell? ⟨B, 0, none⟩ = some v :=
  (hd.frm.cell (p := ⟨B, 0, none⟩) (World.block_lt_of_cell? _ _ h0) (by rintro (h | h | h); exact hB.1 h; exact hB.2.1 h; exact hB.2.2 h)).trans h0

set_option maxHeartbeats 8000000 in
set_option maxRecDepth 20000 in
theorem refuses45 (w : World) (C : Nat → Prop) (sb mb kb : Nat) (q : Rq) (a : An) (now : Int) (r : Raw) (hs : List Tv) (Y : St) (F : List UInt8 → Option Value) (h : SW w C sb mb kb q a now r hs Y F) (hm : hs.length ≤ 100000) :
    Calls Try.prog 45 #[.pointer (some ⟨sb, 0, none⟩)] w (TakeR w C sb mb kb (refusesF Y q a hs)) := by
  obtain ⟨res, hres⟩ : ∃ res, res = refusesF Y q a hs := ⟨_, rfl⟩
  rw [← hres]
  have HRES := Lib.hid hres
  clear hres
  have H := Lib.hid h
  obtain ⟨B, W, HB, HW, HK, HZ⟩ := boxed1 w #[.pointer (some ⟨sb, 0, none⟩)] 77
  have HW1 := Lib.hid (h.below HK.out.below)
  have b0 : W.cell? ⟨B, 0, none⟩ = some (.pointer (some ⟨sb, 0, none⟩)) := blk_cell HK.out.b0 0
  have q13 : W.cell? ⟨sb, 13, none⟩ = some (.int .i64 a.st) := HW1.out.cell 13
  have q14 : W.cell? ⟨sb, 14, none⟩ = some (.slice r.aa a.val.length r.ac) := HW1.out.cell 14
  have q15 : W.cell? ⟨sb, 15, none⟩ = some (.int .u32 a.fl) := HW1.out.cell 15
  have q16 : W.cell? ⟨sb, 16, none⟩ = some (.int .u64 a.cas) := HW1.out.cell 16
  have q17 : W.cell? ⟨sb, 17, none⟩ = some (.int .u64 a.num) := HW1.out.cell 17
  have q18 : W.cell? ⟨sb, 18, none⟩ = some (.slice r.sa a.stats.length r.sc) := HW1.out.cell 18
  have q19 : W.cell? ⟨sb, 19, none⟩ = some (.bool a.cl) := HW1.out.cell 19
  have hb := fun W => bare43 W a.st a.fl a.cas a.num r.aa r.sa a.val.length r.ac a.stats.length r.sc a.cl
  unfold ansV at hb
  obtain ⟨bb, hbb⟩ : ∃ bb, bb = anBare a := ⟨_, rfl⟩
  have hb' : bareB a.val.length a.fl a.cas a.num a.stats.length a.cl = bb := by rw [hbb]; rfl
  rw [hb'] at hb
  have HBB := Lib.hid hbb
  have HBR := Lib.hid hb
  clear hb hb' hbb h
  go_enter Try.func45, Try.ntmps45
  go_upto_region 1 with fail
  rw [HB.out, HW.out]
  go_wp2_with fail
  refine (HBR.out _).mono ?_
  rintro e w1 ⟨rfl, hb1⟩
  have b0' := cellB hb1 b0
  have HB1 : Hid (Below w.heap.size w w1) := HK.out.below.trans (hb1.mono HK.out.below.size)
  have HBK : Hid (w1.heap[B]? = some (.cells #[.pointer (some ⟨sb, 0, none⟩)] 77 (0, 0))) := (hb1.block B (blk_lt HK.out.b0)).trans HK.out.b0
  clear hb1 b0 q13 q14 q15 q16 q17 q18 q19 HW1
  cases bb with
  | false =>
    go_wp2_with fail
    go_ret
    exact takeR_none rfl (by rw [HRES.out]; unfold refusesF; rw [if_pos HBB.out.symm]) (frm_below HB1.out)
  | true =>
    have hms := missed59 w1 C sb mb kb q a now r hs Y F (H.out.below HB1.out)
    obtain ⟨ms, hmm⟩ : ∃ ms, ms = missedB q a.st := ⟨_, rfl⟩
    rw [← hmm] at hms
    have HMM := Lib.hid hmm
    have HMS := Lib.hid hms
    clear hms hmm
    go_wp2_with fail
    refine HMS.out.mono ?_
    rintro e w2 ⟨rfl, rfl⟩
    cases ms with
    | true =>
      have c0 := (H.out.below HB1.out).cells
      obtain ⟨c0, c21, m0⟩ := c0
      obtain ⟨a1, n1, c1, a2, n2, c2, hlk, hf0, hf1, hv1, hv2⟩ := (H.out.below HB1.out).look
      have q3 := hlk w2.drew rfl
      have HV2 := Lib.hid hv2
      obtain ⟨w5, hup, HM5, HF5, _⟩ := H.out.upd (w1 := w2.drew) (HB1.out.drew) (.agg #[.slice none 0 0, .slice a2 n2 c2])
      clear hlk hv1 hv2 HMS HBR
      go_upto_region 4 with fail
      go_still_tail 25, (by kernel_rfl)
      change wpList _ _ _ _ _ w2.drew
      go_wp2_with fail
      go_ret
      have hput := H.out.put (w1 := w2.drew) (l1 := []) (Y' := ⟨fun k => if k = q.key then [] else Y.now k, Y.safe, Y.tok⟩) HB1.out.drew HF5.out ⟨_, _, _, _, _, _, rfl, rfl⟩ HM5.out (VersAt.nil _ _) (((HV2.out.below (hbelow_drew w2)).mono fun b _ hb => .inl hb)) rfl (by funext k; split <;> simp_all) rfl
      exact takeR_some rfl (by rw [HRES.out]; unfold refusesF; rw [if_neg (by rw [← HBB.out]; simp), if_pos HMM.out.symm]) hput
    | false =>
      clear HMS HBR
      have HSW := Lib.hid (H.out.below HB1.out)
      have c1 : w2.cell? ⟨sb, 1, none⟩ = some (.int .i64 q.op) := HSW.out.cell 1
      have c13 : w2.cell? ⟨sb, 13, none⟩ = some (.int .i64 a.st) := HSW.out.cell 13
      have hne := HSW.out.cs
      go_upto_region 6 with fail
      go_cut [3, 4] from 38 to 47 (fun s3 s4 W6 => ∃ bo bs : Nat, s3 = .pointer (some ⟨bo, 0, none⟩) ∧ s4 = .pointer (some ⟨bs, 0, none⟩) ∧ Hid (Below w2.heap.size w2 W6 ∧ W6.heap[bo]? = some (.cells #[.int .i64 q.op] 3 (0, 0)) ∧ W6.heap[bs]? = some (.cells #[.int .i64 a.st] 3 (0, 0))))
      case first =>
        have hsz2 := HSW.out.map.map.lt
        go_region_held3 (fun w' => w'.cell? ⟨sb, 1, none⟩ = some (.int .i64 q.op) ∧ w'.cell? ⟨sb, 13, none⟩ = some (.int .i64 a.st) ∧ w'.cell? ⟨B, 0, none⟩ = some (.pointer (some ⟨sb, 0, none⟩))) (go_keep) (first | fail)
        all_goals
          go_wp2_with fail
          go_meet
          case rel =>
            first
              | exact ⟨_, _, rfl, rfl, two_new w2 _ _⟩
              | exact ⟨_, _, rfl, rfl, (two_new w2 _ _).1, (two_new w2 _ _).2.2, (two_new w2 _ _).2.1⟩
      case rest =>
        obtain ⟨bo, bs, rfl, rfl, HC⟩ := hcut
        have hf1 : Below w2.heap.size w2 wc.drew := HC.out.1.drew
        have HS7 := Lib.hid (HSW.out.below hf1)
        have hB7 : wc.drew.heap[B]? = some (.cells #[.pointer (some ⟨sb, 0, none⟩)] 77 (0, 0)) := (hf1.block B (blk_lt HBK.out)).trans HBK.out
        have B0 : wc.cell? ⟨B, 0, none⟩ = some (.pointer (some ⟨sb, 0, none⟩)) := blk_cell hB7 0
        have hE := each61 wc.drew C sb mb kb q a now r hs Y F HS7.out hm 62 #[.pointer (some ⟨bo, 0, none⟩), .pointer (some ⟨bs, 0, none⟩), .pointer (some ⟨B, 0, none⟩)] (enters_of Try.func62 (by kernel_rfl) rfl) (refHow q a.st)
          (how62 wc.drew C sb mb kb q a now r hs Y F HS7.out bo bs B HC.out.2.1 HC.out.2.2 hB7)
        have HE := Lib.hid hE
        have HBX : Hid (Below w.heap.size w wc.drew) := HB1.out.trans (hf1.mono HB1.out.size)
        clear hE hB7 hf1 hne c1 c13 b0'
        have hfl := filterMap_len (refHow q a.st) hs
        by_cases hnil : hs.filterMap (refHow q a.st) = []
        · have HNIL := Lib.hid hnil
          go_wp2_with fail
          go_region_held3 (fun w' => w'.cell? ⟨B, 0, none⟩ = some (.pointer (some ⟨sb, 0, none⟩))) (first | exact B0 | exact B1 | exact B2) (first | (go_at_call 61; refine HE.out.mono ?_; rintro e w7 ⟨v7, rfl, hv7, hb7⟩; rw [HNIL.out] at hv7; obtain ⟨a7, c7, rfl, _⟩ := hv7.form; have B1 := cellB hb7 B0; have HB7 := Lib.hid hb7; clear hb7 hv7) | (go_at_call 60; refine (seen60_nil w7 sb (.slice a7 0 c7) a7 c7).mono ?_; rintro e w8 ⟨rfl, rfl⟩; have B2 := B1))
          all_goals
            go_wp2_with fail
            go_ret
            exact takeR_none rfl (by rw [HRES.out]; unfold refusesF; rw [if_neg (by rw [← HBB.out]; simp), if_neg (by rw [← HMM.out]; simp), if_pos HNIL.out]) (frm_below (HBX.out.trans (HB7.out.mono HBX.out.size)))
        · have HNIL := Lib.hid hnil
          go_wp2_with fail
          go_region_held3 (fun w' => w'.cell? ⟨B, 0, none⟩ = some (.pointer (some ⟨sb, 0, none⟩))) (first | exact B0 | exact B1 | exact B2) (first | (go_at_call 61; refine HE.out.mono ?_; rintro e w7 ⟨v7, rfl, hv7, hb7⟩; obtain ⟨a7, c7, rfl, _⟩ := hv7.form; have B1 := cellB hb7 B0; have HB7 := Lib.hid hb7; have HV7 := Lib.hid hv7; clear hb7 hv7) | (go_at_call 60; refine (seen60 w7 C sb mb kb q a now r hs Y F (HS7.out.below HB7.out) _ _ _ HV7.out (by omega) HNIL.out).mono ?_; rintro e w8 ⟨rfl, hd8⟩; have B2 := refuses_keep (w := w) (w1 := w) hd8 B1 ⟨by have := blk_lt H.out.blk; have := HB.out; omega, by have := blk_lt H.out.map.blk; have := HB.out; omega, by have := H.out.map.map.lt; have := HB.out; omega⟩; have HD8 := Lib.hid hd8; clear hd8))
          all_goals
            go_wp2_with fail
            go_ret
            exact takeR_some rfl (by rw [HRES.out]; unfold refusesF; rw [if_neg (by rw [← HBB.out]; simp), if_neg (by rw [← HMM.out]; simp), if_neg HNIL.out]) (Done.of H.out (frm_below (HBX.out.trans (HB7.out.mono HBX.out.size))) HD8.out)
end Go.Proofs.Ytngpffmgkponfaa
