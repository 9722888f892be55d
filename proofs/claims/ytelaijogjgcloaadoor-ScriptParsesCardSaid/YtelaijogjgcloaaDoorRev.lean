/- reader.event, its plain part. No condition. reader.event, its walk. Conditions: the reader's parts lie in memory, beside it; the parts are not too long; the three variables are as laid. -/
import Derived.Test.YtelaijogjgcloaaDoorRby
import Derived.Lib.SlicesS

section
set_option linter.unusedVariables false
set_option linter.unusedSimpArgs false
namespace Go.Proofs.YtelaijogjgcloaaDoor
open Go.RowKit Go.Ice Go.Scr

/-- A word's kind, as the program finds it. -/
def kindOf (s : Txt) : Int :=
  if s = [] then 0 else if s = word 1 then 1 else if s = word 2 then 2 else if s = word 3 then 3 else if s = word 4 then 4 else if s = word 5 then 5 else if s = word 6 then 6 else if s = word 7 then 7 else if s = word 8 then 8 else -1
def wordsB : List ByteArray := [⟨([] : Txt).toArray⟩, ⟨(word 1).toArray⟩, ⟨(word 2).toArray⟩, ⟨(word 3).toArray⟩, ⟨(word 4).toArray⟩, ⟨(word 5).toArray⟩, ⟨(word 6).toArray⟩, ⟨(word 7).toArray⟩, ⟨(word 8).toArray⟩]
theorem ba_eq (a s : Txt) : ((⟨a.toArray⟩ : ByteArray) = ⟨s.toArray⟩) ↔ s = a := by
  constructor
  · intro h
    injection h with h
    simpa using (congrArg Array.toList h).symm
  · rintro rfl; rfl
theorem idx_words (s : Txt) : Lib.idxOfS (wordsB.take 9) ⟨s.toArray⟩ = kindOf s := by
  show Lib.idxOfS wordsB _ = _
  unfold Lib.idxOfS wordsB
  simp only [Lib.idxFromS, ba_eq]
  rfl
theorem kindOf_cases (s : Txt) : (kindOf s = 1 ∧ s = word 1) ∨ (kindOf s = 2 ∧ s = word 2) ∨ (kindOf s = 3 ∧ s = word 3) ∨ (kindOf s = 4 ∧ s = word 4) ∨ (kindOf s = 5 ∧ s = word 5) ∨ (kindOf s = 6 ∧ s = word 6) ∨ (kindOf s = 7 ∧ s = word 7) ∨ (kindOf s = 8 ∧ s = word 8) ∨
    ((kindOf s = 0 ∨ kindOf s = -1) ∧ s ≠ word 1 ∧ s ≠ word 2 ∧ s ≠ word 3 ∧ s ≠ word 4 ∧ s ≠ word 5 ∧ s ≠ word 6 ∧ s ≠ word 7 ∧ s ≠ word 8) := by
  unfold kindOf
  split
  · rename_i h; subst h; right; right; right; right; right; right; right; right; refine ⟨.inl rfl, ?_⟩; decide
  · repeat' split
    all_goals simp_all
/-- What a reader makes of an event's line. -/
def EvOut (L : List Txt) (x : Ev) (bad : Bool) (rest : List Txt) : Prop :=
  (evP L = some x ∧ bad = false ∧ rest = []) ∨ (evP L = none ∧ (bad = true ∨ rest ≠ [] ∨ ¬ (1 ≤ x.kind ∧ x.kind ≤ 8)))
theorem numP_nil : numP [] = none := by decide
theorem rawP_nil : rawP [] = none := by decide
theorem keepP_nil : keepP [] = none := by decide
theorem evOut1 (l : List Txt) (b : List UInt8) (hb : ∀ r, rawP (l.tail.headD []) = some r → b = r) : EvOut (word 1 :: l) ⟨1, (numP (l.headD [])).getD 0, 0, b, []⟩ ((numP (l.headD [])).isNone || (rawP (l.tail.headD [])).isNone) l.tail.tail := by
  cases l with
  | nil => right; exact ⟨by decide, .inl (by decide)⟩
  | cons a l => cases l with
    | nil => right; exact ⟨by unfold evP; simp [word], .inl (by simp [rawP_nil])⟩
    | cons c l => cases l with
      | nil =>
        simp only [List.headD_cons, List.tail_cons] at hb ⊢
        unfold EvOut
        simp only [evP, if_true]
        cases numP a with
        | none => right; simp
        | some n => cases h : rawP c with
          | none => right; simp
          | some r => left; rw [hb r h]; simp
      | cons d l => right; exact ⟨rfl, .inr (.inl (by simp))⟩
theorem evOutN (k : Int) (hk : k = 2 ∨ k = 5 ∨ k = 6) (l : List Txt) : EvOut (word k :: l) ⟨k, 0, (numP (l.headD [])).getD 0, [], []⟩ (numP (l.headD [])).isNone l.tail := by
  cases l with
  | nil => right; rcases hk with rfl | rfl | rfl <;> exact ⟨by decide, .inl (by decide)⟩
  | cons a l => cases l with
    | nil =>
      simp only [List.headD_cons, List.tail_cons]
      unfold EvOut
      rcases hk with rfl | rfl | rfl
      all_goals
        simp only [evP, word]
        cases numP a with
        | none => right; simp
        | some n => left; simp
    | cons d l => right; refine ⟨?_, .inr (.inl (by simp))⟩; cases l with
      | nil => unfold evP; rcases hk with rfl | rfl | rfl <;> simp [word]
      | cons e l => rfl
theorem evOut7 (l : List Txt) (kp : List Bool) (hb : ∀ r, keepP (l.headD []) = some r → kp = r) : EvOut (word 7 :: l) ⟨7, 0, 0, [], kp⟩ (keepP (l.headD [])).isNone l.tail := by
  cases l with
  | nil => right; exact ⟨by decide, .inl (by decide)⟩
  | cons a l => cases l with
    | nil =>
      simp only [List.headD_cons, List.tail_cons] at hb ⊢
      unfold EvOut
      simp only [evP, word]
      cases h : keepP a with
      | none => right; simp
      | some n => left; rw [hb n h]; simp
    | cons d l => right; refine ⟨?_, .inr (.inl (by simp))⟩; cases l with
      | nil => unfold evP; simp [word]
      | cons e l => rfl
theorem evOut8 (l : List Txt) : EvOut (word 8 :: l) ⟨8, (numP (l.headD [])).getD 0, 0, [], []⟩ (numP (l.headD [])).isNone l.tail := by
  cases l with
  | nil => right; exact ⟨by decide, .inl (by decide)⟩
  | cons a l => cases l with
    | nil =>
      simp only [List.headD_cons, List.tail_cons]
      unfold EvOut
      simp only [evP, word]
      cases h : numP a with
      | none => right; simp
      | some n => left; simp
    | cons d l => right; refine ⟨?_, .inr (.inl (by simp))⟩; cases l with
      | nil => unfold evP; simp [word]
      | cons e l => rfl
theorem evOut0 (k : Int) (hk : k = 3 ∨ k = 4) (l : List Txt) : EvOut (word k :: l) ⟨k, 0, 0, [], []⟩ false l := by
  cases l with
  | nil => left; rcases hk with rfl | rfl <;> exact ⟨by decide, rfl, rfl⟩
  | cons a l => right; refine ⟨?_, .inr (.inl (by simp))⟩; cases l with
    | nil => unfold evP; rcases hk with rfl | rfl <;> simp [word]
    | cons e l => cases l with
      | nil => unfold evP; rcases hk with rfl | rfl <;> simp [word]
      | cons _ _ => rfl
theorem evOutX (s : Txt) (k : Int) (hk : k = 0 ∨ k = -1) (l : List Txt) (h : s ≠ word 1 ∧ s ≠ word 2 ∧ s ≠ word 3 ∧ s ≠ word 4 ∧ s ≠ word 5 ∧ s ≠ word 6 ∧ s ≠ word 7 ∧ s ≠ word 8) : EvOut (s :: l) ⟨k, 0, 0, [], []⟩ false l := by
  obtain ⟨h1, h2, h3, h4, h5, h6, h7, h8⟩ := h
  right
  refine ⟨?_, .inr (.inr (by rcases hk with rfl | rfl <;> decide))⟩
  cases l with
  | nil => simp [evP, h3, h4]
  | cons a l => cases l with
    | nil => simp [evP, h2, h5, h6, h7, h8]
    | cons b l => cases l with
      | nil => simp [evP, h1]
      | cons _ _ => rfl
/-- What a reader makes of a plan's line. -/
def PlOut (L : List Txt) (p : Plan) (bad : Bool) (rest : List Txt) : Prop :=
  (planP L = some p ∧ bad = false ∧ rest = []) ∨ (planP L = none ∧ (bad = true ∨ rest ≠ []))
def numO (l : List Txt) : Option Int := numP (l.headD [])
def numV (l : List Txt) : Int := (numO l).getD 0
theorem plOut (L : List Txt) (hL : L ≠ []) : PlOut L ⟨numV L.tail, numV L.tail.tail, numV L.tail.tail.tail, numV L.tail.tail.tail.tail, numV L.tail.tail.tail.tail.tail⟩
    (decide (L.headD [] ≠ wPlan) || (numO L.tail).isNone || (numO L.tail.tail).isNone || (numO L.tail.tail.tail).isNone || (numO L.tail.tail.tail.tail).isNone || (numO L.tail.tail.tail.tail.tail).isNone) L.tail.tail.tail.tail.tail.tail := by
  have hn : ∀ (A B C D E : Bool), (A || B || C || D || E || true) = true := fun A B C D E => by simp
  match L, hL with
  | [w], _ => right; exact ⟨rfl, .inl (hn ..)⟩
  | [w, a], _ => right; exact ⟨rfl, .inl (hn ..)⟩
  | [w, a, b], _ => right; exact ⟨rfl, .inl (hn ..)⟩
  | [w, a, b, c], _ => right; exact ⟨rfl, .inl (hn ..)⟩
  | [w, a, b, c, d], _ => right; exact ⟨rfl, .inl (hn ..)⟩
  | w :: a :: b :: c :: d :: e :: f :: l, _ => right; exact ⟨rfl, .inr (by simp)⟩
  | [w, a, b, c, d, e], _ =>
    unfold PlOut
    simp only [planP, numV, numO, List.headD_cons, List.tail_cons]
    by_cases hw : w = wPlan
    · rw [if_pos hw]
      cases numP a <;> cases numP b <;> cases numP c <;> cases numP d <;> cases numP e <;> simp [hw]
    · rw [if_neg hw]
      right; exact ⟨rfl, .inl (by simp [hw])⟩
end Go.Proofs.YtelaijogjgcloaaDoor
end

section
set_option linter.unusedVariables false
set_option linter.unusedSimpArgs false
namespace Go.Proofs.YtelaijogjgcloaaDoor
open Go.RowKit Go.Ice Go.Scr

theorem isSl_ne {w w' : World} {B : Nat} {v : Value} {cs : List Value} (h2 : IsSl w v cs) (h3 : ∀ a n c, v = .slice (some a) n c → a.block ≠ B) (hf : Frm (fun k => k = B) w w') : IsSl w' v cs := by
  rcases h2 with h2 | ⟨h0, b, off, cap, rfl, g1, g2, g3, g4⟩
  · exact .inl h2
  · have hbR : b ≠ B := h3 _ _ _ rfl
    exact .inr ⟨h0, b, off, cap, rfl, g1, g2, Nat.lt_of_lt_of_le g3 hf.size, fun j hj => by rw [hf.cell (p := ⟨b, _, none⟩) g3 hbR]; exact g4 j hj⟩
theorem Fresh.ne {B B' : Nat} {w : World} {v : Value} {e : TypeId} (h : Fresh B' w v e) (hB : B < B') : ∀ a n c, v = .slice (some a) n c → a.block ≠ B := fun a n c hv => by
  have := (h a n c hv).1; omega
/-- What reader.event leaves. -/
def EvPost (w : World) (R : Nat) (L : List Txt) (e : Ending) (w' : World) : Prop :=
  ∃ x vb vk bad rest, e = .returned (evV x.kind x.conn x.n vb vk) ∧ BytesAt w' vb x.bytes ∧ BoolsAt w' vk x.keep ∧ Fresh w.heap.size w' vb 5 ∧ Fresh w.heap.size w' vk 4 ∧ RdAt w' R rest bad ∧ EvOut L x bad rest ∧ Frm (fun k => k = R) w w'
/-- While an event is read: the reader, the result's block, the event's block. -/
structure EvS (w : World) (R B X : Nat) (xc : Array Value) (l : List Txt) (bad : Bool) (W : World) : Prop where
  frm : Frm (fun k => k = R) w W
  rd : RdAt W R l bad
  b : W.heap[B]? = some (.cells #[.int .i64 0, .int .i64 0, .int .i64 0, .slice none 0 0, .slice none 0 0] 41 (0, 0))
  x : W.heap[X]? = some (.cells xc 41 (0, 0))
  hB : B = w.heap.size
  hR : R < B
  hX : B < X
theorem EvS.call {w : World} {R B X : Nat} {xc : Array Value} {l l' : List Txt} {bad bad' : Bool} {W W' : World} (h : EvS w R B X xc l bad W) (hr : RdAt W' R l' bad') (hf : Frm (fun k => k = R) W W') : EvS w R B X xc l' bad' W' := by
  have h1 := h.hR
  have h2 := h.hX
  exact ⟨h.frm.trans hf, hr, (hf.block B (blk_lt h.b) (by omega)).trans h.b, (hf.block X (blk_lt h.x) (by omega)).trans h.x, h.hB, h.hR, h.hX⟩
theorem EvS.set {w : World} {R B X : Nat} {xc : Array Value} {l : List Txt} {bad : Bool} {W : World} (h : EvS w R B X xc l bad W) (k : Nat) (v : Value) : EvS w R B X (xc.setIfInBounds k v) l bad (W.setCell ⟨X, k, none⟩ v) := by
  have h1 := h.hR
  have h2 := h.hX
  have h3 := h.hB
  refine ⟨h.frm.setCell (p := ⟨X, k, none⟩) (.inr (by show w.heap.size ≤ X; omega)) _, h.rd.behind ((Below.refl (R + 1) W).setCell (by show R + 1 ≤ X; omega) _), blk_set h.b (p := ⟨X, k, none⟩) (by show B ≠ X; omega) _, set_at h.x _, h.hB, h.hR, h.hX⟩
theorem frm_set {w : World} (b k : Nat) (v : Value) : Frm (fun k => k = b) w (w.setCell ⟨b, k, none⟩ v) := (Frm.refl (fun k => k = b) w).setCell (p := ⟨b, k, none⟩) (.inl rfl) _
theorem frm_set5 {w : World} (b : Nat) (v0 v1 v2 v3 v4 : Value) : Frm (fun k => k = b) w (((((w.setCell ⟨b, 0, none⟩ v0).setCell ⟨b, 1, none⟩ v1).setCell ⟨b, 2, none⟩ v2).setCell ⟨b, 3, none⟩ v3).setCell ⟨b, 4, none⟩ v4) :=
  ((((frm_set b 0 v0).trans (frm_set b 1 v1)).trans (frm_set b 2 v2)).trans (frm_set b 3 v3)).trans (frm_set b 4 v4)
theorem EvS.fin {w : World} {R B X : Nat} {xc : Array Value} {rest L : List Txt} {bad : Bool} {W : World} (h : EvS w R B X xc rest bad W) {x : Ev} {vb vk : Value} (hb : BytesAt W vb x.bytes) (hk : BoolsAt W vk x.keep) (fb : Fresh (B + 1) W vb 5) (fk : Fresh (B + 1) W vk 4) (ho : EvOut L x bad rest) {wz : World} (hz : Frm (fun k => k = B) W wz) :
    EvPost w R L (.returned (evV x.kind x.conn x.n vb vk)) wz := by
  have h1 := h.hR
  have h3 := h.hB
  refine ⟨x, vb, vk, bad, rest, rfl, isSl_ne hb (fb.ne (by omega)) hz, isSl_ne hk (fk.ne (by omega)) hz, (fb.frm (by omega) hz).mono (by omega), (fk.frm (by omega) hz).mono (by omega), ?_, ho, ?_⟩
  · obtain ⟨v, g1, g2, g3⟩ := h.rd
    exact ⟨v, (hz.block R (blk_lt g1) (by omega)).trans g1, isSl_ne g2 (fun a n c hv => by have := g3 a n c hv; omega) hz, g3⟩
  · have f := h.frm
    exact ⟨hz.os.trans f.os, hz.tape.trans f.tape, hz.output.trans f.output, Nat.le_trans f.size hz.size, fun k hk hs => (hz.block k (Nat.lt_of_lt_of_le hk f.size) (by omega)).trans (f.block k hk hs)⟩

set_option maxHeartbeats 16000000 in
set_option maxRecDepth 100000 in
theorem event43 (w0 w : World) (R : Nat) (s : Txt) (l : List Txt) (hl : Laid w0) (hb : Below w0.heap.size w0 w) (hR : w0.heap.size ≤ R) (h : RdAt w R (s :: l) false) (hs : ∀ a ∈ s :: l, a.length ≤ 1000000) :
    Calls Tryd.prog 43 #[.pointer (some ⟨R, 0, none⟩)] w fun e w' => EvPost w R (s :: l) e w' := by
  have HL := Lib.hid hl
  have HB0 := Lib.hid hb
  have HR0 := Lib.hid hR
  have HLN : Hid (∀ a ∈ l, a.length ≤ 1000000) := fun a ha => hs a (.tail _ ha)
  have HRL := Lib.hid h.lt
  obtain ⟨B, W0, hB, hW, HB, HBZ, HBW, HBS⟩ := boxed w #[.int .i64 0, .int .i64 0, .int .i64 0, .slice none 0 0, .slice none 0 0] 41
  have HW := Lib.hid hW
  have HH0 := Lib.hid (h.below (HB.out ▸ HBW.out))
  have HF0 : Hid (Frm (fun k => k = R) w W0) := frm_below (HB.out ▸ HBW.out)
  clear hB hW hl hb hR h hs
  go_enter Tryd.func43, Tryd.ntmps43
  go_upto_region 1 with fail
  rw [← HB.out, ← HW.out]
  go_wp2_with fail
  refine (words23 W0).mono ?_
  rintro e w2 ⟨rfl, hg2, hb2⟩
  obtain ⟨G, hG⟩ : ∃ G, G = W0.heap.size := ⟨_, rfl⟩
  rw [← hG] at hg2 ⊢
  have HG := Lib.hid hG
  have HG2 := Lib.hid hg2
  have HH2 := Lib.hid (HH0.out.below hb2)
  have HF2 := Lib.hid (HF0.out.trans (frm_below (T := fun k => k = R) hb2))
  have HBZ2 : Hid (w2.heap[B]? = some (.cells #[.int .i64 0, .int .i64 0, .int .i64 0, .slice none 0 0, .slice none 0 0] 41 (0, 0))) := (hb2.block B (blk_lt HBZ.out)).trans HBZ.out
  clear hG hg2 hb2
  have HN := Lib.hid (next62 w2 R (s :: l) false HH2.out)
  simp only [List.headD_cons, List.tail_cons, List.isEmpty_cons, Bool.or_false] at HN
  unfold strV at HN
  go_wp2_with fail
  refine HN.out.mono ?_
  rintro e w3 ⟨rfl, h3, f3⟩
  have HH3 := Lib.hid h3
  have HF3 := Lib.hid (HF2.out.trans f3)
  have HRB := Lib.hid (show R < B by have := HRL.out; have := HB.out; omega)
  have HBG := Lib.hid (show B < G by have := HG.out; have := HBS.out; omega)
  have HBZ3 : Hid (w3.heap[B]? = some (.cells #[.int .i64 0, .int .i64 0, .int .i64 0, .slice none 0 0, .slice none 0 0] 41 (0, 0))) := (f3.block B (blk_lt HBZ2.out) (by have := HRB.out; omega)).trans HBZ2.out
  have HG3 : Hid (w3.heap[G]? = some wordsO) := (f3.block G (blk_lt HG2.out) (by have := HRB.out; have := HBG.out; omega)).trans HG2.out
  have HI : Hid (Calls Tryd.prog 64 #[.slice (some ⟨G, 0, none⟩) 9 9, .string ⟨s.toArray⟩] w3 fun e w' => e = .returned (.int .i64 (kindOf s)) ∧ w' = w3) := by
    show Calls _ _ _ _ _
    have hi := Tryd.slices_Index_string G 0 9 9 wordsB ⟨s.toArray⟩ w3 (by decide) (by decide) (fun j hj => by
      have h9 : j < 9 := hj
      have hc := HG3.out
      unfold wordsO at hc
      rw [Nat.zero_add, blk_cell hc]
      obtain rfl | rfl | rfl | rfl | rfl | rfl | rfl | rfl | rfl : j = 0 ∨ j = 1 ∨ j = 2 ∨ j = 3 ∨ j = 4 ∨ j = 5 ∨ j = 6 ∨ j = 7 ∨ j = 8 := by omega
      all_goals rfl)
    rw [idx_words] at hi
    exact hi
  clear h3 f3 HN HH2 HF2 HBZ2 HG2 HH0 HF0 HBZ
  go_wp2_with fail
  refine HI.out.mono ?_
  rintro e w4 ⟨rfl, rfl⟩
  clear HI

  rcases kindOf_cases s with ⟨hk, rfl⟩ | ⟨hk, rfl⟩ | ⟨hk, rfl⟩ | ⟨hk, rfl⟩ | ⟨hk, rfl⟩ | ⟨hk, rfl⟩ | ⟨hk, rfl⟩ | ⟨hk, rfl⟩ | ⟨hk, hsx⟩
  · rw [hk]
    clear hk
    obtain ⟨X, W4, hX, hW4, HXe, HX4, HBX, HSX⟩ := boxed w4 #[.int .i64 1, .int .i64 0, .int .i64 0, .slice none 0 0, .slice none 0 0] 41
    have HW4 := Lib.hid hW4
    have HS4 : Hid (EvS w R B X #[.int .i64 1, .int .i64 0, .int .i64 0, .slice none 0 0, .slice none 0 0] l false W4) := ⟨HF3.out.trans (frm_below (HXe.out ▸ HBX.out)), HH3.out.below (HXe.out ▸ HBX.out), ((HXe.out ▸ HBX.out : Below w4.heap.size w4 W4).block B (blk_lt HBZ3.out)).trans HBZ3.out, HX4.out, HB.out, HRB.out, by have := HBG.out; have := blk_lt HG3.out; have := HXe.out; omega⟩
    have HXS := Lib.hid (show w.heap.size ≤ W4.heap.size from HS4.out.frm.size)
    clear hX hW4 HX4 HBX HSX HBZ3 HG3 HH3 HF3
    go_wp2_with fail
    rw [← HXe.out, ← HW4.out]
    obtain ⟨n1, hn1⟩ : ∃ n, n = (numP (l.headD [])).getD 0 := ⟨_, rfl⟩
    obtain ⟨b1, hb1⟩ : ∃ b, b = (false || (numP (l.headD [])).isNone) := ⟨_, rfl⟩
    have HC1 := number63 w0 W4 R l false HL.out (HB0.out.trans (HS4.out.frm.below (fun k hk e => by have := HR0.out; omega) HB0.out.size)) HR0.out HS4.out.rd (fun a ha => Nat.le_trans (HLN.out a ha) (by decide))
    rw [← hn1, ← hb1] at HC1
    have HN1 := Lib.hid hn1
    have HBB1 := Lib.hid hb1
    clear hn1 hb1
    refine HC1.mono ?_
    rintro e w5 ⟨rfl, h5, f5⟩
    have HS5 := Lib.hid (HS4.out.call h5 f5)
    clear h5 f5 HC1
    have x50 : w5.cell? ⟨X, 0, none⟩ = some (.int .i64 1) := blk_cell HS5.out.x 0
    have x51 : w5.cell? ⟨X, 1, none⟩ = some (.int .i64 0) := blk_cell HS5.out.x 1
    have x52 : w5.cell? ⟨X, 2, none⟩ = some (.int .i64 0) := blk_cell HS5.out.x 2
    have x53 : w5.cell? ⟨X, 3, none⟩ = some (.slice none 0 0) := blk_cell HS5.out.x 3
    have x54 : w5.cell? ⟨X, 4, none⟩ = some (.slice none 0 0) := blk_cell HS5.out.x 4
    have fx5 := fun r => blk_frozen HS5.out.x r
    have HT5 := Lib.hid (HS5.out.set 1 (.int .i64 n1))
    go_wp2_with fail
    obtain ⟨V5, hV5⟩ : ∃ V, V = w5.setCell ⟨X, 1, none⟩ (.int .i64 n1) := ⟨_, rfl⟩
    rw [← hV5] at HT5 ⊢
    have HS6 : Hid (EvS w R B X #[.int .i64 1, .int .i64 n1, .int .i64 0, .slice none 0 0, .slice none 0 0] l.tail b1 V5) := HT5.out
    clear hV5 x50 x51 x52 x53 x54 fx5 HS5 HT5
    obtain ⟨b2, hb2⟩ : ∃ b, b = (b1 || (rawP (l.tail.headD [])).isNone) := ⟨_, rfl⟩
    have HC2 := bytes65 V5 R l.tail b1 HS6.out.rd (fun a ha => HLN.out a (List.mem_of_mem_tail ha))
    rw [← hb2] at HC2
    have HBB2 := Lib.hid hb2
    clear hb2
    refine HC2.mono ?_
    rintro e w7 ⟨⟨u, bs, rfl, hu, hfu, hru⟩, h7, f7⟩
    obtain ⟨ua, uc, rfl, _⟩ := hu.form
    have HU := Lib.hid hu
    have HFU := Lib.hid (hfu.mono (show X + 1 ≤ _ from by have := HS6.out.hX; have := blk_lt HS6.out.x; omega))
    have HRU := Lib.hid hru
    obtain ⟨un, hun⟩ : ∃ un, un = bs.length := ⟨_, rfl⟩
    rw [← hun] at HU HFU ⊢
    clear hu hfu hru hun
    have HS7 := Lib.hid (HS6.out.call h7 f7)
    clear h7 f7 HC2
    have x70 : w7.cell? ⟨X, 0, none⟩ = some (.int .i64 1) := blk_cell HS7.out.x 0
    have x71 : w7.cell? ⟨X, 1, none⟩ = some (.int .i64 n1) := blk_cell HS7.out.x 1
    have x72 : w7.cell? ⟨X, 2, none⟩ = some (.int .i64 0) := blk_cell HS7.out.x 2
    have x73 : w7.cell? ⟨X, 3, none⟩ = some (.slice none 0 0) := blk_cell HS7.out.x 3
    have x74 : w7.cell? ⟨X, 4, none⟩ = some (.slice none 0 0) := blk_cell HS7.out.x 4
    have fx7 := fun r => blk_frozen HS7.out.x r
    have HT7 := Lib.hid (HS7.out.set 3 (.slice ua un uc))
    have hXB : X ≠ B := by have := HS7.out.hX; omega
    have hBX : B ≠ X := fun e => hXB e.symm
    have z0 : w7.cell? ⟨B, 0, none⟩ = some (.int .i64 0) := blk_cell HS7.out.b 0
    have z1 : w7.cell? ⟨B, 1, none⟩ = some (.int .i64 0) := blk_cell HS7.out.b 1
    have z2 : w7.cell? ⟨B, 2, none⟩ = some (.int .i64 0) := blk_cell HS7.out.b 2
    have z3 : w7.cell? ⟨B, 3, none⟩ = some (.slice none 0 0) := blk_cell HS7.out.b 3
    have z4 : w7.cell? ⟨B, 4, none⟩ = some (.slice none 0 0) := blk_cell HS7.out.b 4
    have fz := fun r => blk_frozen HS7.out.b r
    go_wp2_with fail
    have hz := set5 (v0 := .int .i64 1) (v1 := .int .i64 n1) (v2 := .int .i64 0) (v3 := .slice ua un uc) (v4 := .slice none 0 0) HT7.out.b
    have r0 := blk_cell hz 0
    have r1 := blk_cell hz 1
    have r2 := blk_cell hz 2
    have r3 := blk_cell hz 3
    have r4 := blk_cell hz 4
    have HFX : Hid (Fresh (X + 1) w7 (.slice ua un uc) 5) := HFU.out
    refine bodyPost_ret (v := .agg #[.int .i64 1, .int .i64 n1, .int .i64 0, .slice ua un uc, .slice none 0 0]) (by simp [results, Tryd.f43, go_sem, r0, r1, r2, r3, r4]) rfl ?_
    exact EvS.fin (x := ⟨1, n1, 0, bs, []⟩) (vb := .slice ua un uc) (vk := .slice none 0 0) HT7.out (isSl_ne HU.out (HFX.out.ne (Nat.lt_succ_self X)) (frm_set X 3 _)) (boolsNil _) ((HFX.out.frm (Nat.lt_succ_self X) (frm_set X 3 _)).mono (by have := HS7.out.hX; omega)) (Fresh.nil _ _ _) (by rw [HBB2.out, HBB1.out, HN1.out, Bool.false_or]; exact evOut1 l bs HRU.out) (frm_set5 B _ _ _ _ _)
  · rw [hk]
    clear hk
    obtain ⟨X, W4, hX, hW4, HXe, HX4, HBX, HSX⟩ := boxed w4 #[.int .i64 2, .int .i64 0, .int .i64 0, .slice none 0 0, .slice none 0 0] 41
    have HW4 := Lib.hid hW4
    have HS4 : Hid (EvS w R B X #[.int .i64 2, .int .i64 0, .int .i64 0, .slice none 0 0, .slice none 0 0] l false W4) := ⟨HF3.out.trans (frm_below (HXe.out ▸ HBX.out)), HH3.out.below (HXe.out ▸ HBX.out), ((HXe.out ▸ HBX.out : Below w4.heap.size w4 W4).block B (blk_lt HBZ3.out)).trans HBZ3.out, HX4.out, HB.out, HRB.out, by have := HBG.out; have := blk_lt HG3.out; have := HXe.out; omega⟩
    have HXS := Lib.hid (show w.heap.size ≤ W4.heap.size from HS4.out.frm.size)
    clear hX hW4 HX4 HBX HSX HBZ3 HG3 HH3 HF3
    go_wp2_with fail
    rw [← HXe.out, ← HW4.out]
    obtain ⟨n1, hn1⟩ : ∃ n, n = (numP (l.headD [])).getD 0 := ⟨_, rfl⟩
    obtain ⟨b1, hb1⟩ : ∃ b, b = (false || (numP (l.headD [])).isNone) := ⟨_, rfl⟩
    have HC1 := number63 w0 W4 R l false HL.out (HB0.out.trans (HS4.out.frm.below (fun k hk e => by have := HR0.out; omega) HB0.out.size)) HR0.out HS4.out.rd (fun a ha => Nat.le_trans (HLN.out a ha) (by decide))
    rw [← hn1, ← hb1] at HC1
    have HN1 := Lib.hid hn1
    have HBB1 := Lib.hid hb1
    clear hn1 hb1
    refine HC1.mono ?_
    rintro e w5 ⟨rfl, h5, f5⟩
    have HS5 := Lib.hid (HS4.out.call h5 f5)
    clear h5 f5 HC1
    have x50 : w5.cell? ⟨X, 0, none⟩ = some (.int .i64 2) := blk_cell HS5.out.x 0
    have x51 : w5.cell? ⟨X, 1, none⟩ = some (.int .i64 0) := blk_cell HS5.out.x 1
    have x52 : w5.cell? ⟨X, 2, none⟩ = some (.int .i64 0) := blk_cell HS5.out.x 2
    have x53 : w5.cell? ⟨X, 3, none⟩ = some (.slice none 0 0) := blk_cell HS5.out.x 3
    have x54 : w5.cell? ⟨X, 4, none⟩ = some (.slice none 0 0) := blk_cell HS5.out.x 4
    have fx5 := fun r => blk_frozen HS5.out.x r
    have HT5 := Lib.hid (HS5.out.set 2 (.int .i64 n1))
    have hXB : X ≠ B := by have := HS5.out.hX; omega
    have hBX : B ≠ X := fun e => hXB e.symm
    have z0 : w5.cell? ⟨B, 0, none⟩ = some (.int .i64 0) := blk_cell HS5.out.b 0
    have z1 : w5.cell? ⟨B, 1, none⟩ = some (.int .i64 0) := blk_cell HS5.out.b 1
    have z2 : w5.cell? ⟨B, 2, none⟩ = some (.int .i64 0) := blk_cell HS5.out.b 2
    have z3 : w5.cell? ⟨B, 3, none⟩ = some (.slice none 0 0) := blk_cell HS5.out.b 3
    have z4 : w5.cell? ⟨B, 4, none⟩ = some (.slice none 0 0) := blk_cell HS5.out.b 4
    have fz := fun r => blk_frozen HS5.out.b r
    go_wp2_with fail
    have hz := set5 (v0 := .int .i64 2) (v1 := .int .i64 0) (v2 := .int .i64 n1) (v3 := .slice none 0 0) (v4 := .slice none 0 0) HT5.out.b
    have r0 := blk_cell hz 0
    have r1 := blk_cell hz 1
    have r2 := blk_cell hz 2
    have r3 := blk_cell hz 3
    have r4 := blk_cell hz 4
    refine bodyPost_ret (v := .agg #[.int .i64 2, .int .i64 0, .int .i64 n1, .slice none 0 0, .slice none 0 0]) (by simp [results, Tryd.f43, go_sem, r0, r1, r2, r3, r4]) rfl ?_
    exact EvS.fin (x := ⟨2, 0, n1, [], []⟩) (vb := .slice none 0 0) (vk := .slice none 0 0) HT5.out (bytesNil _) (boolsNil _) (Fresh.nil _ _ _) (Fresh.nil _ _ _) (by rw [HBB1.out, HN1.out, Bool.false_or]; exact evOutN 2 (by decide) l) (frm_set5 B _ _ _ _ _)
  · rw [hk]
    clear hk
    obtain ⟨X, W4, hX, hW4, HXe, HX4, HBX, HSX⟩ := boxed w4 #[.int .i64 3, .int .i64 0, .int .i64 0, .slice none 0 0, .slice none 0 0] 41
    have HW4 := Lib.hid hW4
    have HS4 : Hid (EvS w R B X #[.int .i64 3, .int .i64 0, .int .i64 0, .slice none 0 0, .slice none 0 0] l false W4) := ⟨HF3.out.trans (frm_below (HXe.out ▸ HBX.out)), HH3.out.below (HXe.out ▸ HBX.out), ((HXe.out ▸ HBX.out : Below w4.heap.size w4 W4).block B (blk_lt HBZ3.out)).trans HBZ3.out, HX4.out, HB.out, HRB.out, by have := HBG.out; have := blk_lt HG3.out; have := HXe.out; omega⟩
    have HXS := Lib.hid (show w.heap.size ≤ W4.heap.size from HS4.out.frm.size)
    clear hX hW4 HX4 HBX HSX HBZ3 HG3 HH3 HF3
    go_upto_region 14 with fail
    rw [← HXe.out, ← HW4.out]
    have x40 : W4.cell? ⟨X, 0, none⟩ = some (.int .i64 3) := blk_cell HS4.out.x 0
    have x41 : W4.cell? ⟨X, 1, none⟩ = some (.int .i64 0) := blk_cell HS4.out.x 1
    have x42 : W4.cell? ⟨X, 2, none⟩ = some (.int .i64 0) := blk_cell HS4.out.x 2
    have x43 : W4.cell? ⟨X, 3, none⟩ = some (.slice none 0 0) := blk_cell HS4.out.x 3
    have x44 : W4.cell? ⟨X, 4, none⟩ = some (.slice none 0 0) := blk_cell HS4.out.x 4
    have hXB : X ≠ B := by have := HS4.out.hX; omega
    have hBX : B ≠ X := fun e => hXB e.symm
    have z0 : W4.cell? ⟨B, 0, none⟩ = some (.int .i64 0) := blk_cell HS4.out.b 0
    have z1 : W4.cell? ⟨B, 1, none⟩ = some (.int .i64 0) := blk_cell HS4.out.b 1
    have z2 : W4.cell? ⟨B, 2, none⟩ = some (.int .i64 0) := blk_cell HS4.out.b 2
    have z3 : W4.cell? ⟨B, 3, none⟩ = some (.slice none 0 0) := blk_cell HS4.out.b 3
    have z4 : W4.cell? ⟨B, 4, none⟩ = some (.slice none 0 0) := blk_cell HS4.out.b 4
    have fz := fun r => blk_frozen HS4.out.b r
    go_wp2_with fail
    have hz := set5 (v0 := .int .i64 3) (v1 := .int .i64 0) (v2 := .int .i64 0) (v3 := .slice none 0 0) (v4 := .slice none 0 0) HS4.out.b
    have r0 := blk_cell hz 0
    have r1 := blk_cell hz 1
    have r2 := blk_cell hz 2
    have r3 := blk_cell hz 3
    have r4 := blk_cell hz 4
    refine bodyPost_ret (v := .agg #[.int .i64 3, .int .i64 0, .int .i64 0, .slice none 0 0, .slice none 0 0]) (by simp [results, Tryd.f43, go_sem, r0, r1, r2, r3, r4]) rfl ?_
    exact EvS.fin (x := ⟨3, 0, 0, [], []⟩) (vb := .slice none 0 0) (vk := .slice none 0 0) HS4.out (bytesNil _) (boolsNil _) (Fresh.nil _ _ _) (Fresh.nil _ _ _) (evOut0 3 (by decide) l) (frm_set5 B _ _ _ _ _)
  · rw [hk]
    clear hk
    obtain ⟨X, W4, hX, hW4, HXe, HX4, HBX, HSX⟩ := boxed w4 #[.int .i64 4, .int .i64 0, .int .i64 0, .slice none 0 0, .slice none 0 0] 41
    have HW4 := Lib.hid hW4
    have HS4 : Hid (EvS w R B X #[.int .i64 4, .int .i64 0, .int .i64 0, .slice none 0 0, .slice none 0 0] l false W4) := ⟨HF3.out.trans (frm_below (HXe.out ▸ HBX.out)), HH3.out.below (HXe.out ▸ HBX.out), ((HXe.out ▸ HBX.out : Below w4.heap.size w4 W4).block B (blk_lt HBZ3.out)).trans HBZ3.out, HX4.out, HB.out, HRB.out, by have := HBG.out; have := blk_lt HG3.out; have := HXe.out; omega⟩
    have HXS := Lib.hid (show w.heap.size ≤ W4.heap.size from HS4.out.frm.size)
    clear hX hW4 HX4 HBX HSX HBZ3 HG3 HH3 HF3
    go_upto_region 14 with fail
    rw [← HXe.out, ← HW4.out]
    have x40 : W4.cell? ⟨X, 0, none⟩ = some (.int .i64 4) := blk_cell HS4.out.x 0
    have x41 : W4.cell? ⟨X, 1, none⟩ = some (.int .i64 0) := blk_cell HS4.out.x 1
    have x42 : W4.cell? ⟨X, 2, none⟩ = some (.int .i64 0) := blk_cell HS4.out.x 2
    have x43 : W4.cell? ⟨X, 3, none⟩ = some (.slice none 0 0) := blk_cell HS4.out.x 3
    have x44 : W4.cell? ⟨X, 4, none⟩ = some (.slice none 0 0) := blk_cell HS4.out.x 4
    have hXB : X ≠ B := by have := HS4.out.hX; omega
    have hBX : B ≠ X := fun e => hXB e.symm
    have z0 : W4.cell? ⟨B, 0, none⟩ = some (.int .i64 0) := blk_cell HS4.out.b 0
    have z1 : W4.cell? ⟨B, 1, none⟩ = some (.int .i64 0) := blk_cell HS4.out.b 1
    have z2 : W4.cell? ⟨B, 2, none⟩ = some (.int .i64 0) := blk_cell HS4.out.b 2
    have z3 : W4.cell? ⟨B, 3, none⟩ = some (.slice none 0 0) := blk_cell HS4.out.b 3
    have z4 : W4.cell? ⟨B, 4, none⟩ = some (.slice none 0 0) := blk_cell HS4.out.b 4
    have fz := fun r => blk_frozen HS4.out.b r
    go_wp2_with fail
    have hz := set5 (v0 := .int .i64 4) (v1 := .int .i64 0) (v2 := .int .i64 0) (v3 := .slice none 0 0) (v4 := .slice none 0 0) HS4.out.b
    have r0 := blk_cell hz 0
    have r1 := blk_cell hz 1
    have r2 := blk_cell hz 2
    have r3 := blk_cell hz 3
    have r4 := blk_cell hz 4
    refine bodyPost_ret (v := .agg #[.int .i64 4, .int .i64 0, .int .i64 0, .slice none 0 0, .slice none 0 0]) (by simp [results, Tryd.f43, go_sem, r0, r1, r2, r3, r4]) rfl ?_
    exact EvS.fin (x := ⟨4, 0, 0, [], []⟩) (vb := .slice none 0 0) (vk := .slice none 0 0) HS4.out (bytesNil _) (boolsNil _) (Fresh.nil _ _ _) (Fresh.nil _ _ _) (evOut0 4 (by decide) l) (frm_set5 B _ _ _ _ _)
  · rw [hk]
    clear hk
    obtain ⟨X, W4, hX, hW4, HXe, HX4, HBX, HSX⟩ := boxed w4 #[.int .i64 5, .int .i64 0, .int .i64 0, .slice none 0 0, .slice none 0 0] 41
    have HW4 := Lib.hid hW4
    have HS4 : Hid (EvS w R B X #[.int .i64 5, .int .i64 0, .int .i64 0, .slice none 0 0, .slice none 0 0] l false W4) := ⟨HF3.out.trans (frm_below (HXe.out ▸ HBX.out)), HH3.out.below (HXe.out ▸ HBX.out), ((HXe.out ▸ HBX.out : Below w4.heap.size w4 W4).block B (blk_lt HBZ3.out)).trans HBZ3.out, HX4.out, HB.out, HRB.out, by have := HBG.out; have := blk_lt HG3.out; have := HXe.out; omega⟩
    have HXS := Lib.hid (show w.heap.size ≤ W4.heap.size from HS4.out.frm.size)
    clear hX hW4 HX4 HBX HSX HBZ3 HG3 HH3 HF3
    go_wp2_with fail
    rw [← HXe.out, ← HW4.out]
    obtain ⟨n1, hn1⟩ : ∃ n, n = (numP (l.headD [])).getD 0 := ⟨_, rfl⟩
    obtain ⟨b1, hb1⟩ : ∃ b, b = (false || (numP (l.headD [])).isNone) := ⟨_, rfl⟩
    have HC1 := number63 w0 W4 R l false HL.out (HB0.out.trans (HS4.out.frm.below (fun k hk e => by have := HR0.out; omega) HB0.out.size)) HR0.out HS4.out.rd (fun a ha => Nat.le_trans (HLN.out a ha) (by decide))
    rw [← hn1, ← hb1] at HC1
    have HN1 := Lib.hid hn1
    have HBB1 := Lib.hid hb1
    clear hn1 hb1
    refine HC1.mono ?_
    rintro e w5 ⟨rfl, h5, f5⟩
    have HS5 := Lib.hid (HS4.out.call h5 f5)
    clear h5 f5 HC1
    have x50 : w5.cell? ⟨X, 0, none⟩ = some (.int .i64 5) := blk_cell HS5.out.x 0
    have x51 : w5.cell? ⟨X, 1, none⟩ = some (.int .i64 0) := blk_cell HS5.out.x 1
    have x52 : w5.cell? ⟨X, 2, none⟩ = some (.int .i64 0) := blk_cell HS5.out.x 2
    have x53 : w5.cell? ⟨X, 3, none⟩ = some (.slice none 0 0) := blk_cell HS5.out.x 3
    have x54 : w5.cell? ⟨X, 4, none⟩ = some (.slice none 0 0) := blk_cell HS5.out.x 4
    have fx5 := fun r => blk_frozen HS5.out.x r
    have HT5 := Lib.hid (HS5.out.set 2 (.int .i64 n1))
    have hXB : X ≠ B := by have := HS5.out.hX; omega
    have hBX : B ≠ X := fun e => hXB e.symm
    have z0 : w5.cell? ⟨B, 0, none⟩ = some (.int .i64 0) := blk_cell HS5.out.b 0
    have z1 : w5.cell? ⟨B, 1, none⟩ = some (.int .i64 0) := blk_cell HS5.out.b 1
    have z2 : w5.cell? ⟨B, 2, none⟩ = some (.int .i64 0) := blk_cell HS5.out.b 2
    have z3 : w5.cell? ⟨B, 3, none⟩ = some (.slice none 0 0) := blk_cell HS5.out.b 3
    have z4 : w5.cell? ⟨B, 4, none⟩ = some (.slice none 0 0) := blk_cell HS5.out.b 4
    have fz := fun r => blk_frozen HS5.out.b r
    go_wp2_with fail
    have hz := set5 (v0 := .int .i64 5) (v1 := .int .i64 0) (v2 := .int .i64 n1) (v3 := .slice none 0 0) (v4 := .slice none 0 0) HT5.out.b
    have r0 := blk_cell hz 0
    have r1 := blk_cell hz 1
    have r2 := blk_cell hz 2
    have r3 := blk_cell hz 3
    have r4 := blk_cell hz 4
    refine bodyPost_ret (v := .agg #[.int .i64 5, .int .i64 0, .int .i64 n1, .slice none 0 0, .slice none 0 0]) (by simp [results, Tryd.f43, go_sem, r0, r1, r2, r3, r4]) rfl ?_
    exact EvS.fin (x := ⟨5, 0, n1, [], []⟩) (vb := .slice none 0 0) (vk := .slice none 0 0) HT5.out (bytesNil _) (boolsNil _) (Fresh.nil _ _ _) (Fresh.nil _ _ _) (by rw [HBB1.out, HN1.out, Bool.false_or]; exact evOutN 5 (by decide) l) (frm_set5 B _ _ _ _ _)
  · rw [hk]
    clear hk
    obtain ⟨X, W4, hX, hW4, HXe, HX4, HBX, HSX⟩ := boxed w4 #[.int .i64 6, .int .i64 0, .int .i64 0, .slice none 0 0, .slice none 0 0] 41
    have HW4 := Lib.hid hW4
    have HS4 : Hid (EvS w R B X #[.int .i64 6, .int .i64 0, .int .i64 0, .slice none 0 0, .slice none 0 0] l false W4) := ⟨HF3.out.trans (frm_below (HXe.out ▸ HBX.out)), HH3.out.below (HXe.out ▸ HBX.out), ((HXe.out ▸ HBX.out : Below w4.heap.size w4 W4).block B (blk_lt HBZ3.out)).trans HBZ3.out, HX4.out, HB.out, HRB.out, by have := HBG.out; have := blk_lt HG3.out; have := HXe.out; omega⟩
    have HXS := Lib.hid (show w.heap.size ≤ W4.heap.size from HS4.out.frm.size)
    clear hX hW4 HX4 HBX HSX HBZ3 HG3 HH3 HF3
    go_wp2_with fail
    rw [← HXe.out, ← HW4.out]
    obtain ⟨n1, hn1⟩ : ∃ n, n = (numP (l.headD [])).getD 0 := ⟨_, rfl⟩
    obtain ⟨b1, hb1⟩ : ∃ b, b = (false || (numP (l.headD [])).isNone) := ⟨_, rfl⟩
    have HC1 := number63 w0 W4 R l false HL.out (HB0.out.trans (HS4.out.frm.below (fun k hk e => by have := HR0.out; omega) HB0.out.size)) HR0.out HS4.out.rd (fun a ha => Nat.le_trans (HLN.out a ha) (by decide))
    rw [← hn1, ← hb1] at HC1
    have HN1 := Lib.hid hn1
    have HBB1 := Lib.hid hb1
    clear hn1 hb1
    refine HC1.mono ?_
    rintro e w5 ⟨rfl, h5, f5⟩
    have HS5 := Lib.hid (HS4.out.call h5 f5)
    clear h5 f5 HC1
    have x50 : w5.cell? ⟨X, 0, none⟩ = some (.int .i64 6) := blk_cell HS5.out.x 0
    have x51 : w5.cell? ⟨X, 1, none⟩ = some (.int .i64 0) := blk_cell HS5.out.x 1
    have x52 : w5.cell? ⟨X, 2, none⟩ = some (.int .i64 0) := blk_cell HS5.out.x 2
    have x53 : w5.cell? ⟨X, 3, none⟩ = some (.slice none 0 0) := blk_cell HS5.out.x 3
    have x54 : w5.cell? ⟨X, 4, none⟩ = some (.slice none 0 0) := blk_cell HS5.out.x 4
    have fx5 := fun r => blk_frozen HS5.out.x r
    have HT5 := Lib.hid (HS5.out.set 2 (.int .i64 n1))
    have hXB : X ≠ B := by have := HS5.out.hX; omega
    have hBX : B ≠ X := fun e => hXB e.symm
    have z0 : w5.cell? ⟨B, 0, none⟩ = some (.int .i64 0) := blk_cell HS5.out.b 0
    have z1 : w5.cell? ⟨B, 1, none⟩ = some (.int .i64 0) := blk_cell HS5.out.b 1
    have z2 : w5.cell? ⟨B, 2, none⟩ = some (.int .i64 0) := blk_cell HS5.out.b 2
    have z3 : w5.cell? ⟨B, 3, none⟩ = some (.slice none 0 0) := blk_cell HS5.out.b 3
    have z4 : w5.cell? ⟨B, 4, none⟩ = some (.slice none 0 0) := blk_cell HS5.out.b 4
    have fz := fun r => blk_frozen HS5.out.b r
    go_wp2_with fail
    have hz := set5 (v0 := .int .i64 6) (v1 := .int .i64 0) (v2 := .int .i64 n1) (v3 := .slice none 0 0) (v4 := .slice none 0 0) HT5.out.b
    have r0 := blk_cell hz 0
    have r1 := blk_cell hz 1
    have r2 := blk_cell hz 2
    have r3 := blk_cell hz 3
    have r4 := blk_cell hz 4
    refine bodyPost_ret (v := .agg #[.int .i64 6, .int .i64 0, .int .i64 n1, .slice none 0 0, .slice none 0 0]) (by simp [results, Tryd.f43, go_sem, r0, r1, r2, r3, r4]) rfl ?_
    exact EvS.fin (x := ⟨6, 0, n1, [], []⟩) (vb := .slice none 0 0) (vk := .slice none 0 0) HT5.out (bytesNil _) (boolsNil _) (Fresh.nil _ _ _) (Fresh.nil _ _ _) (by rw [HBB1.out, HN1.out, Bool.false_or]; exact evOutN 6 (by decide) l) (frm_set5 B _ _ _ _ _)
  · rw [hk]
    clear hk
    obtain ⟨X, W4, hX, hW4, HXe, HX4, HBX, HSX⟩ := boxed w4 #[.int .i64 7, .int .i64 0, .int .i64 0, .slice none 0 0, .slice none 0 0] 41
    have HW4 := Lib.hid hW4
    have HS4 : Hid (EvS w R B X #[.int .i64 7, .int .i64 0, .int .i64 0, .slice none 0 0, .slice none 0 0] l false W4) := ⟨HF3.out.trans (frm_below (HXe.out ▸ HBX.out)), HH3.out.below (HXe.out ▸ HBX.out), ((HXe.out ▸ HBX.out : Below w4.heap.size w4 W4).block B (blk_lt HBZ3.out)).trans HBZ3.out, HX4.out, HB.out, HRB.out, by have := HBG.out; have := blk_lt HG3.out; have := HXe.out; omega⟩
    have HXS := Lib.hid (show w.heap.size ≤ W4.heap.size from HS4.out.frm.size)
    clear hX hW4 HX4 HBX HSX HBZ3 HG3 HH3 HF3
    go_wp2_with fail
    rw [← HXe.out, ← HW4.out]
    obtain ⟨b1, hb1⟩ : ∃ b, b = (false || (keepP (l.headD [])).isNone) := ⟨_, rfl⟩
    have HC1 := keep66 W4 R l false HS4.out.rd (fun a ha => HLN.out a ha)
    rw [← hb1] at HC1
    have HBB1 := Lib.hid hb1
    clear hb1
    refine HC1.mono ?_
    rintro e w5 ⟨⟨u, bs, rfl, hu, hfu, hru⟩, h5, f5⟩
    obtain ⟨ua, uc, rfl, _⟩ := hu.form
    have HU := Lib.hid hu
    have HFU := Lib.hid (hfu.mono (show X + 1 ≤ _ from by have := HS4.out.hX; have := blk_lt HS4.out.x; omega))
    have HRU := Lib.hid hru
    obtain ⟨un, hun⟩ : ∃ un, un = bs.length := ⟨_, rfl⟩
    rw [← hun] at HU HFU ⊢
    clear hu hfu hru hun
    have HS5 := Lib.hid (HS4.out.call h5 f5)
    clear h5 f5 HC1
    have x50 : w5.cell? ⟨X, 0, none⟩ = some (.int .i64 7) := blk_cell HS5.out.x 0
    have x51 : w5.cell? ⟨X, 1, none⟩ = some (.int .i64 0) := blk_cell HS5.out.x 1
    have x52 : w5.cell? ⟨X, 2, none⟩ = some (.int .i64 0) := blk_cell HS5.out.x 2
    have x53 : w5.cell? ⟨X, 3, none⟩ = some (.slice none 0 0) := blk_cell HS5.out.x 3
    have x54 : w5.cell? ⟨X, 4, none⟩ = some (.slice none 0 0) := blk_cell HS5.out.x 4
    have fx5 := fun r => blk_frozen HS5.out.x r
    have HT5 := Lib.hid (HS5.out.set 4 (.slice ua un uc))
    have hXB : X ≠ B := by have := HS5.out.hX; omega
    have hBX : B ≠ X := fun e => hXB e.symm
    have z0 : w5.cell? ⟨B, 0, none⟩ = some (.int .i64 0) := blk_cell HS5.out.b 0
    have z1 : w5.cell? ⟨B, 1, none⟩ = some (.int .i64 0) := blk_cell HS5.out.b 1
    have z2 : w5.cell? ⟨B, 2, none⟩ = some (.int .i64 0) := blk_cell HS5.out.b 2
    have z3 : w5.cell? ⟨B, 3, none⟩ = some (.slice none 0 0) := blk_cell HS5.out.b 3
    have z4 : w5.cell? ⟨B, 4, none⟩ = some (.slice none 0 0) := blk_cell HS5.out.b 4
    have fz := fun r => blk_frozen HS5.out.b r
    go_wp2_with fail
    have hz := set5 (v0 := .int .i64 7) (v1 := .int .i64 0) (v2 := .int .i64 0) (v3 := .slice none 0 0) (v4 := .slice ua un uc) HT5.out.b
    have r0 := blk_cell hz 0
    have r1 := blk_cell hz 1
    have r2 := blk_cell hz 2
    have r3 := blk_cell hz 3
    have r4 := blk_cell hz 4
    have HFX : Hid (Fresh (X + 1) w5 (.slice ua un uc) 4) := HFU.out
    refine bodyPost_ret (v := .agg #[.int .i64 7, .int .i64 0, .int .i64 0, .slice none 0 0, .slice ua un uc]) (by simp [results, Tryd.f43, go_sem, r0, r1, r2, r3, r4]) rfl ?_
    exact EvS.fin (x := ⟨7, 0, 0, [], bs⟩) (vb := .slice none 0 0) (vk := .slice ua un uc) HT5.out (bytesNil _) (isSl_ne HU.out (HFX.out.ne (Nat.lt_succ_self X)) (frm_set X 4 _)) (Fresh.nil _ _ _) ((HFX.out.frm (Nat.lt_succ_self X) (frm_set X 4 _)).mono (by have := HS5.out.hX; omega)) (by rw [HBB1.out, Bool.false_or]; exact evOut7 l bs HRU.out) (frm_set5 B _ _ _ _ _)
  · rw [hk]
    clear hk
    obtain ⟨X, W4, hX, hW4, HXe, HX4, HBX, HSX⟩ := boxed w4 #[.int .i64 8, .int .i64 0, .int .i64 0, .slice none 0 0, .slice none 0 0] 41
    have HW4 := Lib.hid hW4
    have HS4 : Hid (EvS w R B X #[.int .i64 8, .int .i64 0, .int .i64 0, .slice none 0 0, .slice none 0 0] l false W4) := ⟨HF3.out.trans (frm_below (HXe.out ▸ HBX.out)), HH3.out.below (HXe.out ▸ HBX.out), ((HXe.out ▸ HBX.out : Below w4.heap.size w4 W4).block B (blk_lt HBZ3.out)).trans HBZ3.out, HX4.out, HB.out, HRB.out, by have := HBG.out; have := blk_lt HG3.out; have := HXe.out; omega⟩
    have HXS := Lib.hid (show w.heap.size ≤ W4.heap.size from HS4.out.frm.size)
    clear hX hW4 HX4 HBX HSX HBZ3 HG3 HH3 HF3
    go_wp2_with fail
    rw [← HXe.out, ← HW4.out]
    obtain ⟨n1, hn1⟩ : ∃ n, n = (numP (l.headD [])).getD 0 := ⟨_, rfl⟩
    obtain ⟨b1, hb1⟩ : ∃ b, b = (false || (numP (l.headD [])).isNone) := ⟨_, rfl⟩
    have HC1 := number63 w0 W4 R l false HL.out (HB0.out.trans (HS4.out.frm.below (fun k hk e => by have := HR0.out; omega) HB0.out.size)) HR0.out HS4.out.rd (fun a ha => Nat.le_trans (HLN.out a ha) (by decide))
    rw [← hn1, ← hb1] at HC1
    have HN1 := Lib.hid hn1
    have HBB1 := Lib.hid hb1
    clear hn1 hb1
    refine HC1.mono ?_
    rintro e w5 ⟨rfl, h5, f5⟩
    have HS5 := Lib.hid (HS4.out.call h5 f5)
    clear h5 f5 HC1
    have x50 : w5.cell? ⟨X, 0, none⟩ = some (.int .i64 8) := blk_cell HS5.out.x 0
    have x51 : w5.cell? ⟨X, 1, none⟩ = some (.int .i64 0) := blk_cell HS5.out.x 1
    have x52 : w5.cell? ⟨X, 2, none⟩ = some (.int .i64 0) := blk_cell HS5.out.x 2
    have x53 : w5.cell? ⟨X, 3, none⟩ = some (.slice none 0 0) := blk_cell HS5.out.x 3
    have x54 : w5.cell? ⟨X, 4, none⟩ = some (.slice none 0 0) := blk_cell HS5.out.x 4
    have fx5 := fun r => blk_frozen HS5.out.x r
    have HT5 := Lib.hid (HS5.out.set 1 (.int .i64 n1))
    have hXB : X ≠ B := by have := HS5.out.hX; omega
    have hBX : B ≠ X := fun e => hXB e.symm
    have z0 : w5.cell? ⟨B, 0, none⟩ = some (.int .i64 0) := blk_cell HS5.out.b 0
    have z1 : w5.cell? ⟨B, 1, none⟩ = some (.int .i64 0) := blk_cell HS5.out.b 1
    have z2 : w5.cell? ⟨B, 2, none⟩ = some (.int .i64 0) := blk_cell HS5.out.b 2
    have z3 : w5.cell? ⟨B, 3, none⟩ = some (.slice none 0 0) := blk_cell HS5.out.b 3
    have z4 : w5.cell? ⟨B, 4, none⟩ = some (.slice none 0 0) := blk_cell HS5.out.b 4
    have fz := fun r => blk_frozen HS5.out.b r
    go_wp2_with fail
    have hz := set5 (v0 := .int .i64 8) (v1 := .int .i64 n1) (v2 := .int .i64 0) (v3 := .slice none 0 0) (v4 := .slice none 0 0) HT5.out.b
    have r0 := blk_cell hz 0
    have r1 := blk_cell hz 1
    have r2 := blk_cell hz 2
    have r3 := blk_cell hz 3
    have r4 := blk_cell hz 4
    refine bodyPost_ret (v := .agg #[.int .i64 8, .int .i64 n1, .int .i64 0, .slice none 0 0, .slice none 0 0]) (by simp [results, Tryd.f43, go_sem, r0, r1, r2, r3, r4]) rfl ?_
    exact EvS.fin (x := ⟨8, n1, 0, [], []⟩) (vb := .slice none 0 0) (vk := .slice none 0 0) HT5.out (bytesNil _) (boolsNil _) (Fresh.nil _ _ _) (Fresh.nil _ _ _) (by rw [HBB1.out, HN1.out, Bool.false_or]; exact evOut8 l) (frm_set5 B _ _ _ _ _)
  · rcases hk with hk | hk
    · rw [hk]
      clear hk
      obtain ⟨X, W4, hX, hW4, HXe, HX4, HBX, HSX⟩ := boxed w4 #[.int .i64 0, .int .i64 0, .int .i64 0, .slice none 0 0, .slice none 0 0] 41
      have HW4 := Lib.hid hW4
      have HS4 : Hid (EvS w R B X #[.int .i64 0, .int .i64 0, .int .i64 0, .slice none 0 0, .slice none 0 0] l false W4) := ⟨HF3.out.trans (frm_below (HXe.out ▸ HBX.out)), HH3.out.below (HXe.out ▸ HBX.out), ((HXe.out ▸ HBX.out : Below w4.heap.size w4 W4).block B (blk_lt HBZ3.out)).trans HBZ3.out, HX4.out, HB.out, HRB.out, by have := HBG.out; have := blk_lt HG3.out; have := HXe.out; omega⟩
      have HXS := Lib.hid (show w.heap.size ≤ W4.heap.size from HS4.out.frm.size)
      clear hX hW4 HX4 HBX HSX HBZ3 HG3 HH3 HF3
      go_upto_region 14 with fail
      rw [← HXe.out, ← HW4.out]
      have x40 : W4.cell? ⟨X, 0, none⟩ = some (.int .i64 0) := blk_cell HS4.out.x 0
      have x41 : W4.cell? ⟨X, 1, none⟩ = some (.int .i64 0) := blk_cell HS4.out.x 1
      have x42 : W4.cell? ⟨X, 2, none⟩ = some (.int .i64 0) := blk_cell HS4.out.x 2
      have x43 : W4.cell? ⟨X, 3, none⟩ = some (.slice none 0 0) := blk_cell HS4.out.x 3
      have x44 : W4.cell? ⟨X, 4, none⟩ = some (.slice none 0 0) := blk_cell HS4.out.x 4
      have hXB : X ≠ B := by have := HS4.out.hX; omega
      have hBX : B ≠ X := fun e => hXB e.symm
      have z0 : W4.cell? ⟨B, 0, none⟩ = some (.int .i64 0) := blk_cell HS4.out.b 0
      have z1 : W4.cell? ⟨B, 1, none⟩ = some (.int .i64 0) := blk_cell HS4.out.b 1
      have z2 : W4.cell? ⟨B, 2, none⟩ = some (.int .i64 0) := blk_cell HS4.out.b 2
      have z3 : W4.cell? ⟨B, 3, none⟩ = some (.slice none 0 0) := blk_cell HS4.out.b 3
      have z4 : W4.cell? ⟨B, 4, none⟩ = some (.slice none 0 0) := blk_cell HS4.out.b 4
      have fz := fun r => blk_frozen HS4.out.b r
      go_wp2_with fail
      have hz := set5 (v0 := .int .i64 0) (v1 := .int .i64 0) (v2 := .int .i64 0) (v3 := .slice none 0 0) (v4 := .slice none 0 0) HS4.out.b
      have r0 := blk_cell hz 0
      have r1 := blk_cell hz 1
      have r2 := blk_cell hz 2
      have r3 := blk_cell hz 3
      have r4 := blk_cell hz 4
      refine bodyPost_ret (v := .agg #[.int .i64 0, .int .i64 0, .int .i64 0, .slice none 0 0, .slice none 0 0]) (by simp [results, Tryd.f43, go_sem, r0, r1, r2, r3, r4]) rfl ?_
      exact EvS.fin (x := ⟨0, 0, 0, [], []⟩) (vb := .slice none 0 0) (vk := .slice none 0 0) HS4.out (bytesNil _) (boolsNil _) (Fresh.nil _ _ _) (Fresh.nil _ _ _) (evOutX s (0) (by decide) l hsx) (frm_set5 B _ _ _ _ _)
    · rw [hk]
      clear hk
      obtain ⟨X, W4, hX, hW4, HXe, HX4, HBX, HSX⟩ := boxed w4 #[.int .i64 (-1), .int .i64 0, .int .i64 0, .slice none 0 0, .slice none 0 0] 41
      have HW4 := Lib.hid hW4
      have HS4 : Hid (EvS w R B X #[.int .i64 (-1), .int .i64 0, .int .i64 0, .slice none 0 0, .slice none 0 0] l false W4) := ⟨HF3.out.trans (frm_below (HXe.out ▸ HBX.out)), HH3.out.below (HXe.out ▸ HBX.out), ((HXe.out ▸ HBX.out : Below w4.heap.size w4 W4).block B (blk_lt HBZ3.out)).trans HBZ3.out, HX4.out, HB.out, HRB.out, by have := HBG.out; have := blk_lt HG3.out; have := HXe.out; omega⟩
      have HXS := Lib.hid (show w.heap.size ≤ W4.heap.size from HS4.out.frm.size)
      clear hX hW4 HX4 HBX HSX HBZ3 HG3 HH3 HF3
      go_upto_region 14 with fail
      rw [← HXe.out, ← HW4.out]
      have x40 : W4.cell? ⟨X, 0, none⟩ = some (.int .i64 (-1)) := blk_cell HS4.out.x 0
      have x41 : W4.cell? ⟨X, 1, none⟩ = some (.int .i64 0) := blk_cell HS4.out.x 1
      have x42 : W4.cell? ⟨X, 2, none⟩ = some (.int .i64 0) := blk_cell HS4.out.x 2
      have x43 : W4.cell? ⟨X, 3, none⟩ = some (.slice none 0 0) := blk_cell HS4.out.x 3
      have x44 : W4.cell? ⟨X, 4, none⟩ = some (.slice none 0 0) := blk_cell HS4.out.x 4
      have hXB : X ≠ B := by have := HS4.out.hX; omega
      have hBX : B ≠ X := fun e => hXB e.symm
      have z0 : W4.cell? ⟨B, 0, none⟩ = some (.int .i64 0) := blk_cell HS4.out.b 0
      have z1 : W4.cell? ⟨B, 1, none⟩ = some (.int .i64 0) := blk_cell HS4.out.b 1
      have z2 : W4.cell? ⟨B, 2, none⟩ = some (.int .i64 0) := blk_cell HS4.out.b 2
      have z3 : W4.cell? ⟨B, 3, none⟩ = some (.slice none 0 0) := blk_cell HS4.out.b 3
      have z4 : W4.cell? ⟨B, 4, none⟩ = some (.slice none 0 0) := blk_cell HS4.out.b 4
      have fz := fun r => blk_frozen HS4.out.b r
      go_wp2_with fail
      have hz := set5 (v0 := .int .i64 (-1)) (v1 := .int .i64 0) (v2 := .int .i64 0) (v3 := .slice none 0 0) (v4 := .slice none 0 0) HS4.out.b
      have r0 := blk_cell hz 0
      have r1 := blk_cell hz 1
      have r2 := blk_cell hz 2
      have r3 := blk_cell hz 3
      have r4 := blk_cell hz 4
      refine bodyPost_ret (v := .agg #[.int .i64 (-1), .int .i64 0, .int .i64 0, .slice none 0 0, .slice none 0 0]) (by simp [results, Tryd.f43, go_sem, r0, r1, r2, r3, r4]) rfl ?_
      exact EvS.fin (x := ⟨-1, 0, 0, [], []⟩) (vb := .slice none 0 0) (vk := .slice none 0 0) HS4.out (bytesNil _) (boolsNil _) (Fresh.nil _ _ _) (Fresh.nil _ _ _) (evOutX s (-1) (by decide) l hsx) (frm_set5 B _ _ _ _ _)
end Go.Proofs.YtelaijogjgcloaaDoor
end
