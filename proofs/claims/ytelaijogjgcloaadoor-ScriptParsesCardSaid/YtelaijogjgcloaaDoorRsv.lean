/- The document's event. No condition. -/
import Derived.Test.YtelaijogjgcloaaDoorRpa
import Derived.Test.YtelaijogjgcloaaDoorRpp
import Derived.Test.YtelaijogjgcloaaDoorRrw
set_option linter.unusedVariables false
set_option linter.unusedSimpArgs false
namespace Go.Proofs.YtelaijogjgcloaaDoor
open Go.RowKit Go.Ice Go.Scr

theorem evP_1 {l : List Txt} {a b : Txt} (h : l = [word 1, a, b]) : evP l = match numP a, rawP b with
    | some n, some r => some ⟨1, n, 0, r, []⟩
    | _, _ => none := by subst h; rfl
theorem evP_2 {k : Int} (hk : k = 2 ∨ k = 5 ∨ k = 6) {l : List Txt} {a : Txt} (h : l = [word k, a]) : evP l = (numP a).map fun n => ⟨k, 0, n, [], []⟩ := by
  subst h
  rcases hk with rfl | rfl | rfl <;> rfl
theorem evP_7 {l : List Txt} {a : Txt} (h : l = [word 7, a]) : evP l = (keepP a).map fun k => ⟨7, 0, 0, [], k⟩ := by subst h; rfl
theorem evP_8 {l : List Txt} {a : Txt} (h : l = [word 8, a]) : evP l = (numP a).map fun n => ⟨8, n, 0, [], []⟩ := by subst h; rfl
theorem evP_0 {k : Int} (hk : k = 3 ∨ k = 4) {l : List Txt} (h : l = [word k]) : evP l = some ⟨k, 0, 0, [], []⟩ := by
  subst h
  rcases hk with rfl | rfl <;> rfl
/-- How many parts a kind's line has. -/
def partsN (k : Int) : Nat := if k = 1 then 3 else if k = 3 ∨ k = 4 then 1 else 2
theorem evP_len {k : Int} (h1 : 1 ≤ k) (h8 : k ≤ 8) {l : List Txt} (h0 : l[0]? = some (word k)) (hn : l.length ≠ partsN k) : evP l = none := by
  cases he : evP l with
  | none => rfl
  | some x =>
    exfalso
    have e := (line_ev he).1
    have hx : x.kind = k := by
      have h2 : l[0]? = some (word x.kind) := by
        rw [← e]
        unfold evL
        split
        · rename_i h; rw [h]; rfl
        · split
          · rfl
          · split
            · rename_i h; rw [h]; rfl
            · split
              · rename_i h; rw [h]; rfl
              · rfl
      have h3 : word x.kind = word k := by rw [h0] at h2; injection h2 with h2; exact h2.symm
      have h4 : 1 ≤ x.kind ∧ x.kind ≤ 8 := by
        unfold evP at he
        repeat' split at he
        all_goals first | (cases he; done) | (cases he; simp; done) | (rw [Option.map_eq_some_iff] at he; obtain ⟨_, _, rfl⟩ := he; simp)
      exact word_inj h4.1 h4.2 h1 h8 h3
    apply hn
    rw [← e]
    unfold evL partsN
    rw [hx]
    split
    · rfl
    · split
      · rename_i h; rw [if_neg (by omega)]; rfl
      · split
        · rename_i h; rw [if_neg (by omega)]; rfl
        · split
          · rename_i h; rw [if_neg (by omega)]; rfl
          · rw [if_pos (by omega)]; rfl
theorem evP_word {l : List Txt} {h0 : Txt} (hl : l[0]? = some h0) (h : ∀ j : Nat, 1 ≤ j → j < 9 → word j ≠ h0) : evP l = none := by
  have g1 := h 1 (by omega) (by omega)
  have g2 := h 2 (by omega) (by omega)
  have g3 := h 3 (by omega) (by omega)
  have g4 := h 4 (by omega) (by omega)
  have g5 := h 5 (by omega) (by omega)
  have g6 := h 6 (by omega) (by omega)
  have g7 := h 7 (by omega) (by omega)
  have g8 := h 8 (by omega) (by omega)
  unfold evP
  split
  · simp at hl; subst hl
    rw [if_neg (fun e => g3 e.symm), if_neg (fun e => g4 e.symm)]
  · simp at hl; subst hl
    rw [if_neg (fun e => g2 e.symm), if_neg (fun e => g5 e.symm), if_neg (fun e => g6 e.symm), if_neg (fun e => g7 e.symm), if_neg (fun e => g8 e.symm)]
  · simp at hl; subst hl
    rw [if_neg (fun e => g1 e.symm)]
  · rfl
theorem list1 {l : List Txt} {h0 : Txt} (h : l[0]? = some h0) (hn : l.length = 1) : l = [h0] := by
  match l, hn with
  | [a], _ => simp at h; rw [h]
theorem list2 {l : List Txt} {h0 : Txt} (h : l[0]? = some h0) (hn : l.length = 2) : ∃ a, l[1]? = some a ∧ l = [h0, a] := by
  match l, hn with
  | [a, b], _ => simp at h; subst h; exact ⟨b, rfl, rfl⟩
theorem list3 {l : List Txt} {h0 : Txt} (h : l[0]? = some h0) (hn : l.length = 3) : ∃ a b, l[1]? = some a ∧ l[2]? = some b ∧ l = [h0, a, b] := by
  match l, hn with
  | [a, b, c], _ => simp at h; subst h; exact ⟨b, c, rfl, rfl, rfl⟩
/-- An event's cells. -/
def evC (x : Ev) (vb vk : Value) : Nat → Value := fun j => [Value.int .i64 x.kind, .int .i64 x.conn, .int .i64 x.n, vb, vk].getD j undef
/-- What the document's event answers. -/
def P39 (w : World) (s : Txt) (e : Ending) (w' : World) : Prop :=
  (∃ (x : Ev) (a3 : Option Addr) (n3 c3 : Nat) (a4 : Option Addr) (n4 c4 : Nat) (b : Bool), e = .returned (.tuple #[.agg #[.int .i64 x.kind, .int .i64 x.conn, .int .i64 x.n, .slice a3 n3 c3, .slice a4 n4 c4], .bool b]) ∧ EvF w.heap.size w' x (evC x (.slice a3 n3 c3) (.slice a4 n4 c4)) ∧ EvR s x b) ∧ Below w.heap.size w w'
/-- Before a word is found: the result's block, the parts. -/
structure K39 (w : World) (B g : Nat) (L : List Txt) (W : World) : Prop where
  bel : Below w.heap.size w W
  b : W.heap[B]? = some (.cells #[.int .i64 0, .int .i64 0, .int .i64 0, .slice none 0 0, .slice none 0 0] 41 (0, 0))
  row : ∃ cs : Array Value, W.heap[g]? = some (.cells cs 9 (0, 0)) ∧ ∀ (j : Nat) (a : Txt), L[j]? = some a → cs[j]? = some (strV a)
  hB : B = w.heap.size
  hg : B < g
theorem K39.step {w : World} {B g : Nat} {L : List Txt} {W W' : World} (h : K39 w B g L W) (hb : Below W.heap.size W W') : K39 w B g L W' := by
  obtain ⟨cs, h1, h2⟩ := h.row
  exact ⟨h.bel.trans (hb.mono h.bel.size), (hb.block B (blk_lt h.b)).trans h.b, ⟨cs, (hb.block g (blk_lt h1)).trans h1, h2⟩, h.hB, h.hg⟩
theorem K39.cell {w : World} {B g : Nat} {L : List Txt} {W : World} (h : K39 w B g L W) {j : Nat} {a : Txt} (hj : L[j]? = some a) : W.cell? ⟨g, j, none⟩ = some (strV a) := by
  obtain ⟨cs, h1, h2⟩ := h.row
  rw [blk_cell h1]
  exact h2 j a hj
theorem K39.fin {w : World} {B g : Nat} {L : List Txt} {W : World} (h : K39 w B g L W) {s : Txt} {x : Ev} {a3 a4 : Option Addr} {n3 c3 n4 c4 : Nat} {b : Bool} (hb : BytesAt W (.slice a3 n3 c3) x.bytes) (hk : BoolsAt W (.slice a4 n4 c4) x.keep) (fb : Fresh (B + 1) W (.slice a3 n3 c3) 5) (fk : Fresh (B + 1) W (.slice a4 n4 c4) 4) (ho : EvR s x b) {wz : World} (hz : Frm (fun k => k = B) W wz) :
    P39 w s (.returned (.tuple #[.agg #[.int .i64 x.kind, .int .i64 x.conn, .int .i64 x.n, .slice a3 n3 c3, .slice a4 n4 c4], .bool b])) wz := by
  have h3 := h.hB
  exact ⟨⟨x, a3, n3, c3, a4, n4, c4, b, rfl, ⟨rfl, rfl, rfl, isSl_ne hb (fb.ne (by omega)) hz, isSl_ne hk (fk.ne (by omega)) hz, (fb.frm (by omega) hz).mono (by omega), (fk.frm (by omega) hz).mono (by omega)⟩, ho⟩, h.bel.trans (below_frm hz (by omega) h.bel.size)⟩
/-- Behind it: the event's block too. -/
structure E39 (w : World) (B g X : Nat) (xc : Array Value) (L : List Txt) (W : World) : Prop where
  k : K39 w B g L W
  x : W.heap[X]? = some (.cells xc 41 (0, 0))
  hX : g < X
theorem E39.step {w : World} {B g X : Nat} {xc : Array Value} {L : List Txt} {W W' : World} (h : E39 w B g X xc L W) (hb : Below W.heap.size W W') : E39 w B g X xc L W' :=
  ⟨h.k.step hb, (hb.block X (blk_lt h.x)).trans h.x, h.hX⟩
theorem E39.set {w : World} {B g X : Nat} {xc : Array Value} {L : List Txt} {W : World} (h : E39 w B g X xc L W) (k : Nat) (v : Value) : E39 w B g X (xc.setIfInBounds k v) L (W.setCell ⟨X, k, none⟩ v) := by
  have h1 := h.hX
  have h2 := h.k.hg
  have h3 := h.k.hB
  obtain ⟨cs, g1, g2⟩ := h.k.row
  exact ⟨⟨h.k.bel.setCell (by show w.heap.size ≤ X; omega) _, blk_set h.k.b (p := ⟨X, k, none⟩) (by show B ≠ X; omega) _, ⟨cs, blk_set g1 (p := ⟨X, k, none⟩) (by show g ≠ X; omega) _, g2⟩, h3, h2⟩, set_at h.x _, h1⟩
theorem K39.alloc {w : World} {B g : Nat} {L : List Txt} {W : World} (h : K39 w B g L W) (xc : Array Value) : E39 w B g W.heap.size xc L (W.alloc (.cells xc 41)) := by
  obtain ⟨cs, g1, _⟩ := h.row
  exact ⟨h.step ((Below.refl _ W).alloc (Nat.le_refl _) _), heap_alloc_new W _, blk_lt g1⟩

set_option maxHeartbeats 16000000 in
set_option maxRecDepth 100000 in
theorem event39 (w : World) (s : Txt) (hs : s.length ≤ 1000000) :
    Calls Tryd.prog 39 #[.string ⟨s.toArray⟩] w fun e w' => P39 w s e w' := by
  have HS := Lib.hid hs
  obtain ⟨B, W0, hB, hW, HB, HBZ, HBW, HBS⟩ := boxed w #[.int .i64 0, .int .i64 0, .int .i64 0, .slice none 0 0, .slice none 0 0] 41
  have HW := Lib.hid hW
  have HBL0 : Hid (Below w.heap.size w W0) := by have h := HBW.out; rw [hB] at h; exact h
  clear hB hW HBW
  have z0 : W0.cell? ⟨B, 0, none⟩ = some (.int .i64 0) := blk_cell HBZ.out 0
  have z1 : W0.cell? ⟨B, 1, none⟩ = some (.int .i64 0) := blk_cell HBZ.out 1
  have z2 : W0.cell? ⟨B, 2, none⟩ = some (.int .i64 0) := blk_cell HBZ.out 2
  have z3 : W0.cell? ⟨B, 3, none⟩ = some (.slice none 0 0) := blk_cell HBZ.out 3
  have z4 : W0.cell? ⟨B, 4, none⟩ = some (.slice none 0 0) := blk_cell HBZ.out 4
  have fz := fun r => blk_frozen HBZ.out r
  by_cases hl : (10000 : Int) < (s.length : Nat)
  · go_enter Tryd.func39, Tryd.ntmps39
    go_upto_region 1 with fail
    rw [← HB.out, ← HW.out]
    go_wp2_with fail
    have hz := set5 (v0 := .int .i64 0) (v1 := .int .i64 0) (v2 := .int .i64 0) (v3 := .slice none 0 0) (v4 := .slice none 0 0) HBZ.out
    have r0 := blk_cell hz 0
    have r1 := blk_cell hz 1
    have r2 := blk_cell hz 2
    have r3 := blk_cell hz 3
    have r4 := blk_cell hz 4
    refine bodyPost_ret (v := .tuple #[.agg #[.int .i64 0, .int .i64 0, .int .i64 0, .slice none 0 0, .slice none 0 0], .bool false]) (by simp [results, Tryd.f39, go_sem, r0, r1, r2, r3, r4]) rfl ?_
    have hf := frm_set5 (w := W0) B (.int .i64 0) (.int .i64 0) (.int .i64 0) (.slice none 0 0) (.slice none 0 0)
    exact ⟨⟨⟨0, 0, 0, [], []⟩, none, 0, 0, none, 0, 0, false, rfl, ⟨rfl, rfl, rfl, bytesNil _, boolsNil _, Fresh.nil _ _ _, Fresh.nil _ _ _⟩, .inr ⟨rfl, .inr (by omega)⟩⟩, HBL0.out.trans (below_frm hf (by rw [HB.out]; exact Nat.le_refl _) HBL0.out.size)⟩
  · clear z0 z1 z2 z3 z4 fz
    go_enter Tryd.func39, Tryd.ntmps39
    go_upto_region 1 with fail
    rw [← HB.out, ← HW.out]
    go_wp2_with fail
    refine (parts56 W0 s HS.out).mono ?_
    rintro e w1 ⟨⟨pa, pc, rfl, hown⟩, hb1⟩
    obtain ⟨L, hL⟩ : ∃ L, L = splitC 32 s := ⟨_, rfl⟩
    rw [← hL] at hown ⊢
    have HL := Lib.hid hL
    obtain ⟨h0, hh0⟩ : ∃ a, L[0]? = some a := by
      cases hq : L with
      | nil => exact absurd (hL.symm.trans hq) (splitC_ne 32 s)
      | cons a r => exact ⟨a, rfl⟩
    have HH0 := Lib.hid hh0
    obtain ⟨n, hn⟩ : ∃ n, n = L.length := ⟨_, rfl⟩
    have HN := Lib.hid hn
    have HPL : Hid (∀ (j : Nat) (a : Txt), L[j]? = some a → a.length ≤ 1000000) := fun j a hj => Nat.le_trans (split_short 32 s a (by rw [← hL]; exact List.mem_of_getElem? hj)) HS.out
    have hn1 : 1 ≤ n := by
      have := (List.getElem?_eq_some_iff.1 hh0).1
      omega
    rw [← hn] at hown ⊢
    clear hn hL
    obtain ⟨g, cap, hv⟩ := own_some hown (by omega)
    injection hv with hv1 hv2 hv3
    subst hv1 hv3
    have HK1 : Hid (K39 w B g L w1) := by
      refine ⟨HBL0.out.trans (hb1.mono HBL0.out.size), (hb1.block B (blk_lt HBZ.out)).trans HBZ.out, ?_, HB.out, ?_⟩
      · obtain ⟨q1, ⟨q2, _⟩ | ⟨g', cap', cur, hv, hbb, hg, c1, c2, c3, c4⟩⟩ := hown
        · cases q2
        · injection hv with e1 e2 e3
          injection e1 with e1
          injection e1 with e1
          subst e1
          refine ⟨cur, hg, fun j a hj => ?_⟩
          have hjn : j < n := by have := (List.getElem?_eq_some_iff.1 hj).1; rw [HN.out]; exact this
          have e : (L.map strV)[j]? = some (strV a) := by rw [List.getElem?_map, hj]; rfl
          rw [← c4, List.getElem?_take_of_lt (show j < n * 1 by omega)] at e
          simpa using e
      · obtain ⟨q1, ⟨q2, _⟩ | ⟨g', cap', cur, hv, hbb, _⟩⟩ := hown
        · cases q2
        · injection hv with e1 e2 e3
          injection e1 with e1
          injection e1 with e1
          subst e1
          have := HBS.out
          omega
    clear hown hb1 hh0 HBZ HBL0
    go_wp2_with fail
    go_loopg [5] 8 (fun m kv wr => ∃ k : Nat, m = 9 - k ∧ 1 ≤ k ∧ k ≤ 9 ∧ kv = .int .i64 k ∧ Hid (K39 w B g L wr) ∧ Hid (∀ j : Nat, 1 ≤ j → j < k → word j ≠ h0))
    case atStart => exact ⟨1, rfl, by omega, by omega, rfl, HK1, fun j h1 h2 => by omega⟩
    case round =>
      obtain ⟨k, rfl, hk1, hk9, rfl, HK, HJ⟩ := hrel
      clear HK1
      have y0 : wr.cell? ⟨g, 0, none⟩ = some (.string ⟨h0.toArray⟩) := HK.out.cell HH0.out
      by_cases hlt : k < 9
      · have hlt' : (k : Int) ≤ 8 := by omega
        obtain ⟨wk, hwk⟩ : ∃ wk, wk = word k := ⟨_, rfl⟩
        have HWK := Lib.hid hwk
        clear hwk
        obtain ⟨q, hq⟩ : ∃ q, (wk == h0) = q := ⟨_, rfl⟩
        have HQ := Lib.hid hq
        have hn0 : Hid (¬ n = 0) := by show ¬ _; omega
        clear hq
        go_upto_region 7 with fail
        refine wp_region_inv2 (by kernel_rfl) (hord_of2 (by kernel_rfl)) (fun done ac W => ∃ (_u : Unit), ac = { tmps := #[.string { data := List.toArray s }, undef, (.pointer (some ⟨B, 0, none⟩)), u3, .slice (some ⟨g, 0, none⟩) n pc, .int .i64 (k : Nat), u6, u7, u8, .string { data := List.toArray s }, .int .i64 ↑(List.length s), .bool false, undef, .string { data := List.toArray s }, .slice (some ⟨g, 0, none⟩) n pc, .int .i64 (k : Nat), .bool true, u17, u18, if done 0 then (.int .i64 (k : Nat)) else u19, if done 1 then (.string ⟨wk.toArray⟩) else u20, if done 2 then (.slice (some ⟨g, 0, none⟩) n pc) else u21, if done 3 then (.pointer (some ⟨g, 0, none⟩)) else u22, if done 4 then (.string ⟨h0.toArray⟩) else u23, if done 5 then (.bool (!q)) else u24, u25, u26, u27, u28, u29, u30, u31, u32, u33, u34, u35, u36, u37, u38, u39, u40, u41, u42, u43, u44, u45, u46, u47, u48, u49, u50, u51, u52, u53, u54, u55, u56, u57, u58, u59, u60, u61, u62, u63, u64, u65, u66, u67, u68, u69, u70, u71, u72, u73, u74, u75, u76, u77, u78, u79, u80, u81, u82, u83, u84, u85, u86, u87, u88, u89, u90, u91, u92, u93, u94, u95, u96, u97, u98, u99, u100, u101, u102, u103, u104, u105, u106, u107, u108, u109, u110, u111, u112, u113, u114, u115, u116, u117, u118, u119, u120, u121, u122, u123, u124, undef], defers := [] } ∧ W = wr.drew) ?_ ?_ ?_
        · exact ⟨(), by simp, rfl⟩
        · intro done ac W j oq ho hd hdep hcl ⟨_u, hlit, hI⟩
          have hj : j < 6 := (Array.getElem?_eq_some_iff.1 ho).1
          subst hlit
          obtain rfl | rfl | rfl | rfl | rfl | rfl : j = 0 ∨ j = 1 ∨ j = 2 ∨ j = 3 ∨ j = 4 ∨ j = 5 := by omega
          · refine wpOp_val ho (by cases ho; rfl) (w' := W) (v := (.int .i64 (k : Nat))) (by cases ho; simp [execOp, go_sem]) ?_
            cases ho
            exact ⟨_u, by simp [Act.put], hI⟩
          · have p0 : done 0 = true := by cases ho; exact hdep ⟨0, .data⟩ (by simp) rfl
            refine wpOp_call ho (by cases ho; rfl) (f := 54) (args := #[.int .i64 (k : Nat)]) (by cases ho; simp [execOp, go_sem, p0]) (word54 W (k : Nat) (by omega) (by omega)) ?_
            rintro e w' ⟨he, rfl⟩
            cases ho
            rw [← HWK.out] at he
            subst he
            exact ⟨_, rfl, _u, by simp [Act.put], hI⟩
          · refine wpOp_val ho (by cases ho; rfl) (w' := W) (v := (.slice (some ⟨g, 0, none⟩) n pc)) (by cases ho; simp [execOp, go_sem]) ?_
            cases ho
            exact ⟨_u, by simp [Act.put], hI⟩
          · have p2 : done 2 = true := by cases ho; exact hdep ⟨2, .data⟩ (by simp) rfl
            refine wpOp_val ho (by cases ho; rfl) (w' := W) (v := (.pointer (some ⟨g, 0, none⟩))) (by cases ho; simp [execOp, go_sem, p2, hn0.out]) ?_
            cases ho
            exact ⟨_u, by simp [Act.put], hI⟩
          · have p3 : done 3 = true := by cases ho; exact hdep ⟨3, .data⟩ (by simp) rfl
            have hx0 : W.cell? ⟨g, 0, none⟩ = some (.string ⟨h0.toArray⟩) := by rw [hI]; exact y0
            refine wpOp_val ho (by cases ho; rfl) (w' := W) (v := (.string ⟨h0.toArray⟩)) (by cases ho; simp [execOp, go_sem, p3, hx0]) ?_
            cases ho
            exact ⟨_u, by simp [Act.put], hI⟩
          · have p1 : done 1 = true := by cases ho; exact hdep ⟨1, .data⟩ (by simp) rfl
            have p4 : done 4 = true := by cases ho; exact hdep ⟨4, .data⟩ (by simp) rfl
            refine wpOp_val ho (by cases ho; rfl) (w' := W) (v := (.bool (!q))) (by cases ho; simp [execOp, go_sem, p1, p4, HQ.out]) ?_
            cases ho
            exact ⟨_u, by simp [Act.put], hI⟩
        · rintro done ac W hall ⟨_u, rfl, hI⟩
          have hl := hall
          clear hall
          have e0 := hl 0 (by decide)
          have e1 := hl 1 (by decide)
          have e2 := hl 2 (by decide)
          have e3 := hl 3 (by decide)
          have e4 := hl 4 (by decide)
          have e5 := hl 5 (by decide)
          have HKW : Hid (K39 w B g L W) := by rw [hI]; exact HK.out.step (drewN_below wr 1)
          simp only [e0, e1, e2, e3, e4, e5, if_true]
          clear e0 e1 e2 e3 e4 e5 hl hI y0 HK
          cases q with
          | false =>
            go_wp2_with fail
            go_roundg (9 - (k + 1))
            case measure => omega
            case rel => exact ⟨k + 1, rfl, by omega, by omega, by go_num, HKW, fun j h1 h2 => by
              rcases Nat.lt_succ_iff_lt_or_eq.1 h2 with h | rfl
              · exact HJ.out j h1 h
              · rw [← HWK.out]
                exact beq_eq_false_iff_ne.1 HQ.out⟩
          | true =>
            have hwh : wk = h0 := beq_iff_eq.1 HQ.out
            subst hwh
            clear HQ HJ
            obtain rfl | rfl | rfl | rfl | rfl | rfl | rfl | rfl : k = 1 ∨ k = 2 ∨ k = 3 ∨ k = 4 ∨ k = 5 ∨ k = 6 ∨ k = 7 ∨ k = 8 := by omega
            · obtain ⟨X, W4, hX, hW4, HXe, HX4, HBX, HSX⟩ := boxed W #[.int .i64 1, .int .i64 0, .int .i64 0, .slice none 0 0, .slice none 0 0] 41
              have HW4 := Lib.hid hW4
              have HE4 : Hid (E39 w B g X #[.int .i64 1, .int .i64 0, .int .i64 0, .slice none 0 0, .slice none 0 0] L W4) := by rw [hX, hW4]; exact HKW.out.alloc _
              clear hX hW4 HX4 HBX HSX HKW
              have hXB : X ≠ B := by have := HE4.out.hX; have := HE4.out.k.hg; omega
              have hBX : B ≠ X := fun e => hXB e.symm
              by_cases hnp : n = 3
              · have HLN : Hid (L.length = 3) := by show _ = _; rw [← HN.out, hnp]
                subst hnp
                obtain ⟨a, b, ha, hb, hLL⟩ := list3 HH0.out HLN.out
                have HLL : Hid (L = [word 1, a, b]) := hLL.trans (by rw [HWK.out]; rfl)
                have HHB := Lib.hid hb
                have y2 : W4.cell? ⟨g, 1, none⟩ = some (.string ⟨a.toArray⟩) := HE4.out.k.cell ha
                have hla := HPL.out 1 a ha
                have hlb := HPL.out 2 b hb
                clear ha hb hLL
                go_upto_region 9 with fail
                rw [← HXe.out, ← HW4.out]
                obtain ⟨b1, hb1⟩ : ∃ b1, b1 = (numP a).isSome := ⟨_, rfl⟩
                have HB1 := Lib.hid hb1
                have HC := number57 W4 a (Nat.le_trans hla (by decide))
                rw [← hb1] at HC
                clear hb1
                go_wp2_with fail
                refine HC.mono ?_
                rintro e w5 ⟨⟨m, rfl, hm⟩, rfl⟩
                have HM := Lib.hid hm
                clear hm HC y2
                have x0 : w5.cell? ⟨X, 0, none⟩ = some (.int .i64 1) := blk_cell HE4.out.x 0
                have x1 : w5.cell? ⟨X, 1, none⟩ = some (.int .i64 0) := blk_cell HE4.out.x 1
                have x2 : w5.cell? ⟨X, 2, none⟩ = some (.int .i64 0) := blk_cell HE4.out.x 2
                have x3 : w5.cell? ⟨X, 3, none⟩ = some (.slice none 0 0) := blk_cell HE4.out.x 3
                have x4 : w5.cell? ⟨X, 4, none⟩ = some (.slice none 0 0) := blk_cell HE4.out.x 4
                have fx := fun r => blk_frozen HE4.out.x r
                have HT5 : Hid (E39 w B g X #[.int .i64 1, .int .i64 m, .int .i64 0, .slice none 0 0, .slice none 0 0] L (w5.setCell ⟨X, 1, none⟩ (.int .i64 m))) := HE4.out.set 1 (.int .i64 m)
                have y3 : w5.cell? ⟨g, 2, none⟩ = some (.string ⟨b.toArray⟩) := HE4.out.k.cell HHB.out
                have hgX : g ≠ X := by have := HE4.out.hX; omega
                have hXg : X ≠ g := fun e => hgX e.symm
                go_wp2_with fail
                obtain ⟨V, hV⟩ : ∃ V, V = w5.setCell ⟨X, 1, none⟩ (.int .i64 m) := ⟨_, rfl⟩
                rw [← hV] at HT5 ⊢
                clear hV x0 x1 x2 x3 x4 fx y3 hgX hXg
                have HVS := Lib.hid (show B + 1 ≤ V.heap.size from by have := HT5.out.hX; have := HT5.out.k.hg; have := blk_lt HT5.out.x; omega)
                obtain ⟨b2, hb2⟩ : ∃ b2, b2 = (rawP b).isSome := ⟨_, rfl⟩
                have HB2 := Lib.hid hb2
                have HC := raw58 V b (Nat.le_trans hlb (by decide))
                rw [← hb2] at HC
                clear hb2
                refine HC.mono ?_
                rintro e w6 ⟨⟨ua, un, uc, rfl, hfr, bs, hbs, hru⟩, hb6⟩
                have HT6 := Lib.hid (HT5.out.step hb6)
                have HU := Lib.hid hbs
                have HXS := Lib.hid (show X < V.heap.size from blk_lt HT5.out.x)
                have HFX := Lib.hid (show Fresh (X + 1) w6 (.slice ua un uc) 5 from hfr.mono HXS.out)
                have HRU := Lib.hid hru
                clear hb6 hbs hfr hru HC
                have x0 : w6.cell? ⟨X, 0, none⟩ = some (.int .i64 1) := blk_cell HT6.out.x 0
                have x1 : w6.cell? ⟨X, 1, none⟩ = some (.int .i64 m) := blk_cell HT6.out.x 1
                have x2 : w6.cell? ⟨X, 2, none⟩ = some (.int .i64 0) := blk_cell HT6.out.x 2
                have x3 : w6.cell? ⟨X, 3, none⟩ = some (.slice none 0 0) := blk_cell HT6.out.x 3
                have x4 : w6.cell? ⟨X, 4, none⟩ = some (.slice none 0 0) := blk_cell HT6.out.x 4
                have fx := fun r => blk_frozen HT6.out.x r
                have z0 : w6.cell? ⟨B, 0, none⟩ = some (.int .i64 0) := blk_cell HT6.out.k.b 0
                have z1 : w6.cell? ⟨B, 1, none⟩ = some (.int .i64 0) := blk_cell HT6.out.k.b 1
                have z2 : w6.cell? ⟨B, 2, none⟩ = some (.int .i64 0) := blk_cell HT6.out.k.b 2
                have z3 : w6.cell? ⟨B, 3, none⟩ = some (.slice none 0 0) := blk_cell HT6.out.k.b 3
                have z4 : w6.cell? ⟨B, 4, none⟩ = some (.slice none 0 0) := blk_cell HT6.out.k.b 4
                have fz := fun r => blk_frozen HT6.out.k.b r
                have HT7 : Hid (E39 w B g X #[.int .i64 1, .int .i64 m, .int .i64 0, .slice ua un uc, .slice none 0 0] L (w6.setCell ⟨X, 3, none⟩ (.slice ua un uc))) := HT6.out.set 3 (.slice ua un uc)
                have HNO : Hid (b1 = false → numP a = none) := fun e => by
                  cases h : numP a with
                  | none => rfl
                  | some x => have := HB1.out; rw [h, e] at this; cases this
                have HYE : Hid (b1 = true → numP a = some m) := fun e => by
                  cases h : numP a with
                  | none => have := HB1.out; rw [h, e] at this; cases this
                  | some x => rw [HM.out x h]
                have HNO2 : Hid (b2 = false → rawP b = none) := fun e => by
                  cases h : rawP b with
                  | none => rfl
                  | some x => have := HB2.out; rw [h, e] at this; cases this
                have HYE2 : Hid (b2 = true → rawP b = some bs) := fun e => by
                  cases h : rawP b with
                  | none => have := HB2.out; rw [h, e] at this; cases this
                  | some x => rw [HRU.out x h]
                cases b1 with
                | false =>
                  go_wp2_with fail
                  have hz := set5 (v0 := .int .i64 1) (v1 := .int .i64 m) (v2 := .int .i64 0) (v3 := .slice ua un uc) (v4 := .slice none 0 0) HT7.out.k.b
                  have r0 := blk_cell hz 0
                  have r1 := blk_cell hz 1
                  have r2 := blk_cell hz 2
                  have r3 := blk_cell hz 3
                  have r4 := blk_cell hz 4
                  refine bodyPost_ret (v := .tuple #[.agg #[.int .i64 1, .int .i64 m, .int .i64 0, .slice ua un uc, .slice none 0 0], .bool false]) (by simp [results, Tryd.f39, go_sem, r0, r1, r2, r3, r4]) rfl ?_
                  exact K39.fin (x := ⟨1, m, 0, bs, []⟩) HT7.out.k (isSl_ne HU.out (HFX.out.ne (Nat.lt_succ_self X)) (frm_set X 3 _)) (boolsNil _) ((HFX.out.frm (Nat.lt_succ_self X) (frm_set X 3 _)).mono (by have := HT6.out.hX; have := HT6.out.k.hg; omega)) (Fresh.nil _ _ _) (.inr ⟨rfl, .inl (by rw [← HL.out, evP_1 HLL.out, HNO.out (by simp)])⟩) (frm_set5 B _ _ _ _ _)
                | true =>
                  go_wp2_with fail
                  have hz := set5 (v0 := .int .i64 1) (v1 := .int .i64 m) (v2 := .int .i64 0) (v3 := .slice ua un uc) (v4 := .slice none 0 0) HT7.out.k.b
                  have r0 := blk_cell hz 0
                  have r1 := blk_cell hz 1
                  have r2 := blk_cell hz 2
                  have r3 := blk_cell hz 3
                  have r4 := blk_cell hz 4
                  refine bodyPost_ret (v := .tuple #[.agg #[.int .i64 1, .int .i64 m, .int .i64 0, .slice ua un uc, .slice none 0 0], .bool b2]) (by simp [results, Tryd.f39, go_sem, r0, r1, r2, r3, r4]) rfl ?_
                  exact K39.fin (x := ⟨1, m, 0, bs, []⟩) HT7.out.k (isSl_ne HU.out (HFX.out.ne (Nat.lt_succ_self X)) (frm_set X 3 _)) (boolsNil _) ((HFX.out.frm (Nat.lt_succ_self X) (frm_set X 3 _)).mono (by have := HT6.out.hX; have := HT6.out.k.hg; omega)) (Fresh.nil _ _ _) (by
                      cases b2 with
                      | false => exact .inr ⟨rfl, .inl (by rw [← HL.out, evP_1 HLL.out, HYE.out (by simp), HNO2.out (by simp)])⟩
                      | true => exact .inl ⟨rfl, by rw [← HL.out, evP_1 HLL.out, HYE.out (by simp), HYE2.out (by simp)]⟩) (frm_set5 B _ _ _ _ _)
              · have HNONE : Hid (evP L = none) := evP_len (k := 1) (by decide) (by decide) (by rw [HH0.out, HWK.out]; rfl) (by rw [← HN.out]; exact hnp)
                have hnq : ((n : Int) == 3) = false := beq_eq_false_iff_ne.2 (by omega)
                clear hnp
                have z0 : W4.cell? ⟨B, 0, none⟩ = some (.int .i64 0) := blk_cell HE4.out.k.b 0
                have z1 : W4.cell? ⟨B, 1, none⟩ = some (.int .i64 0) := blk_cell HE4.out.k.b 1
                have z2 : W4.cell? ⟨B, 2, none⟩ = some (.int .i64 0) := blk_cell HE4.out.k.b 2
                have z3 : W4.cell? ⟨B, 3, none⟩ = some (.slice none 0 0) := blk_cell HE4.out.k.b 3
                have z4 : W4.cell? ⟨B, 4, none⟩ = some (.slice none 0 0) := blk_cell HE4.out.k.b 4
                have fz := fun r => blk_frozen HE4.out.k.b r
                go_upto_region 9 with fail
                rw [← HXe.out, ← HW4.out]
                go_wp2_with fail
                have hz := set5 (v0 := .int .i64 0) (v1 := .int .i64 0) (v2 := .int .i64 0) (v3 := .slice none 0 0) (v4 := .slice none 0 0) HE4.out.k.b
                have r0 := blk_cell hz 0
                have r1 := blk_cell hz 1
                have r2 := blk_cell hz 2
                have r3 := blk_cell hz 3
                have r4 := blk_cell hz 4
                refine bodyPost_ret (v := .tuple #[.agg #[.int .i64 0, .int .i64 0, .int .i64 0, .slice none 0 0, .slice none 0 0], .bool false]) (by simp [results, Tryd.f39, go_sem, r0, r1, r2, r3, r4]) rfl ?_
                exact K39.fin (x := ⟨0, 0, 0, [], []⟩) HE4.out.k (bytesNil _) (boolsNil _) (Fresh.nil _ _ _) (Fresh.nil _ _ _) (.inr ⟨rfl, .inl (by rw [← HL.out]; exact HNONE.out)⟩) (frm_set5 B _ _ _ _ _)
            · obtain ⟨X, W4, hX, hW4, HXe, HX4, HBX, HSX⟩ := boxed W #[.int .i64 2, .int .i64 0, .int .i64 0, .slice none 0 0, .slice none 0 0] 41
              have HW4 := Lib.hid hW4
              have HE4 : Hid (E39 w B g X #[.int .i64 2, .int .i64 0, .int .i64 0, .slice none 0 0, .slice none 0 0] L W4) := by rw [hX, hW4]; exact HKW.out.alloc _
              clear hX hW4 HX4 HBX HSX HKW
              have hXB : X ≠ B := by have := HE4.out.hX; have := HE4.out.k.hg; omega
              have hBX : B ≠ X := fun e => hXB e.symm
              by_cases hnp : n = 2
              · have HLN : Hid (L.length = 2) := by show _ = _; rw [← HN.out, hnp]
                subst hnp
                obtain ⟨a, ha, hLL⟩ := list2 HH0.out HLN.out
                have HLL : Hid (L = [word 2, a]) := hLL.trans (by rw [HWK.out]; rfl)
                have y2 : W4.cell? ⟨g, 1, none⟩ = some (.string ⟨a.toArray⟩) := HE4.out.k.cell ha
                have hla := HPL.out 1 a ha
                clear ha hLL
                go_upto_region 9 with fail
                rw [← HXe.out, ← HW4.out]
                obtain ⟨b1, hb1⟩ : ∃ b1, b1 = (numP a).isSome := ⟨_, rfl⟩
                have HB1 := Lib.hid hb1
                have HC := number57 W4 a (Nat.le_trans hla (by decide))
                rw [← hb1] at HC
                clear hb1
                go_wp2_with fail
                refine HC.mono ?_
                rintro e w5 ⟨⟨m, rfl, hm⟩, rfl⟩
                have HM := Lib.hid hm
                clear hm HC y2
                have x0 : w5.cell? ⟨X, 0, none⟩ = some (.int .i64 2) := blk_cell HE4.out.x 0
                have x1 : w5.cell? ⟨X, 1, none⟩ = some (.int .i64 0) := blk_cell HE4.out.x 1
                have x2 : w5.cell? ⟨X, 2, none⟩ = some (.int .i64 0) := blk_cell HE4.out.x 2
                have x3 : w5.cell? ⟨X, 3, none⟩ = some (.slice none 0 0) := blk_cell HE4.out.x 3
                have x4 : w5.cell? ⟨X, 4, none⟩ = some (.slice none 0 0) := blk_cell HE4.out.x 4
                have fx := fun r => blk_frozen HE4.out.x r
                have HT5 : Hid (E39 w B g X #[.int .i64 2, .int .i64 0, .int .i64 m, .slice none 0 0, .slice none 0 0] L (w5.setCell ⟨X, 2, none⟩ (.int .i64 m))) := HE4.out.set 2 (.int .i64 m)
                have z0 : w5.cell? ⟨B, 0, none⟩ = some (.int .i64 0) := blk_cell HE4.out.k.b 0
                have z1 : w5.cell? ⟨B, 1, none⟩ = some (.int .i64 0) := blk_cell HE4.out.k.b 1
                have z2 : w5.cell? ⟨B, 2, none⟩ = some (.int .i64 0) := blk_cell HE4.out.k.b 2
                have z3 : w5.cell? ⟨B, 3, none⟩ = some (.slice none 0 0) := blk_cell HE4.out.k.b 3
                have z4 : w5.cell? ⟨B, 4, none⟩ = some (.slice none 0 0) := blk_cell HE4.out.k.b 4
                have fz := fun r => blk_frozen HE4.out.k.b r
                have HNO : Hid (b1 = false → numP a = none) := fun e => by
                  cases h : numP a with
                  | none => rfl
                  | some x => have := HB1.out; rw [h, e] at this; cases this
                have HYE : Hid (b1 = true → numP a = some m) := fun e => by
                  cases h : numP a with
                  | none => have := HB1.out; rw [h, e] at this; cases this
                  | some x => rw [HM.out x h]
                cases b1 with
                | false =>
                  go_wp2_with fail
                  have hz := set5 (v0 := .int .i64 2) (v1 := .int .i64 0) (v2 := .int .i64 m) (v3 := .slice none 0 0) (v4 := .slice none 0 0) HT5.out.k.b
                  have r0 := blk_cell hz 0
                  have r1 := blk_cell hz 1
                  have r2 := blk_cell hz 2
                  have r3 := blk_cell hz 3
                  have r4 := blk_cell hz 4
                  refine bodyPost_ret (v := .tuple #[.agg #[.int .i64 2, .int .i64 0, .int .i64 m, .slice none 0 0, .slice none 0 0], .bool false]) (by simp [results, Tryd.f39, go_sem, r0, r1, r2, r3, r4]) rfl ?_
                  exact K39.fin (x := ⟨2, 0, m, [], []⟩) HT5.out.k (bytesNil _) (boolsNil _) (Fresh.nil _ _ _) (Fresh.nil _ _ _) (.inr ⟨rfl, .inl (by rw [← HL.out, evP_2 (by decide) HLL.out, HNO.out (by simp)]; rfl)⟩) (frm_set5 B _ _ _ _ _)
                | true =>
                  go_wp2_with fail
                  have hz := set5 (v0 := .int .i64 2) (v1 := .int .i64 0) (v2 := .int .i64 m) (v3 := .slice none 0 0) (v4 := .slice none 0 0) HT5.out.k.b
                  have r0 := blk_cell hz 0
                  have r1 := blk_cell hz 1
                  have r2 := blk_cell hz 2
                  have r3 := blk_cell hz 3
                  have r4 := blk_cell hz 4
                  refine bodyPost_ret (v := .tuple #[.agg #[.int .i64 2, .int .i64 0, .int .i64 m, .slice none 0 0, .slice none 0 0], .bool true]) (by simp [results, Tryd.f39, go_sem, r0, r1, r2, r3, r4]) rfl ?_
                  exact K39.fin (x := ⟨2, 0, m, [], []⟩) HT5.out.k (bytesNil _) (boolsNil _) (Fresh.nil _ _ _) (Fresh.nil _ _ _) (.inl ⟨rfl, by rw [← HL.out, evP_2 (by decide) HLL.out, HYE.out (by simp)]; rfl⟩) (frm_set5 B _ _ _ _ _)
              · have HNONE : Hid (evP L = none) := evP_len (k := 2) (by decide) (by decide) (by rw [HH0.out, HWK.out]; rfl) (by rw [← HN.out]; exact hnp)
                have hnq : ((n : Int) == 2) = false := beq_eq_false_iff_ne.2 (by omega)
                clear hnp
                have z0 : W4.cell? ⟨B, 0, none⟩ = some (.int .i64 0) := blk_cell HE4.out.k.b 0
                have z1 : W4.cell? ⟨B, 1, none⟩ = some (.int .i64 0) := blk_cell HE4.out.k.b 1
                have z2 : W4.cell? ⟨B, 2, none⟩ = some (.int .i64 0) := blk_cell HE4.out.k.b 2
                have z3 : W4.cell? ⟨B, 3, none⟩ = some (.slice none 0 0) := blk_cell HE4.out.k.b 3
                have z4 : W4.cell? ⟨B, 4, none⟩ = some (.slice none 0 0) := blk_cell HE4.out.k.b 4
                have fz := fun r => blk_frozen HE4.out.k.b r
                go_upto_region 9 with fail
                rw [← HXe.out, ← HW4.out]
                go_wp2_with fail
                have hz := set5 (v0 := .int .i64 0) (v1 := .int .i64 0) (v2 := .int .i64 0) (v3 := .slice none 0 0) (v4 := .slice none 0 0) HE4.out.k.b
                have r0 := blk_cell hz 0
                have r1 := blk_cell hz 1
                have r2 := blk_cell hz 2
                have r3 := blk_cell hz 3
                have r4 := blk_cell hz 4
                refine bodyPost_ret (v := .tuple #[.agg #[.int .i64 0, .int .i64 0, .int .i64 0, .slice none 0 0, .slice none 0 0], .bool false]) (by simp [results, Tryd.f39, go_sem, r0, r1, r2, r3, r4]) rfl ?_
                exact K39.fin (x := ⟨0, 0, 0, [], []⟩) HE4.out.k (bytesNil _) (boolsNil _) (Fresh.nil _ _ _) (Fresh.nil _ _ _) (.inr ⟨rfl, .inl (by rw [← HL.out]; exact HNONE.out)⟩) (frm_set5 B _ _ _ _ _)
            · obtain ⟨X, W4, hX, hW4, HXe, HX4, HBX, HSX⟩ := boxed W #[.int .i64 3, .int .i64 0, .int .i64 0, .slice none 0 0, .slice none 0 0] 41
              have HW4 := Lib.hid hW4
              have HE4 : Hid (E39 w B g X #[.int .i64 3, .int .i64 0, .int .i64 0, .slice none 0 0, .slice none 0 0] L W4) := by rw [hX, hW4]; exact HKW.out.alloc _
              clear hX hW4 HX4 HBX HSX HKW
              have hXB : X ≠ B := by have := HE4.out.hX; have := HE4.out.k.hg; omega
              have hBX : B ≠ X := fun e => hXB e.symm
              by_cases hnp : n = 1
              · have HLN : Hid (L.length = 1) := by show _ = _; rw [← HN.out, hnp]
                subst hnp
                have HLL : Hid (L = [word 3]) := (list1 HH0.out HLN.out).trans (by rw [HWK.out]; rfl)
                go_upto_region 9 with fail
                rw [← HXe.out, ← HW4.out]
                have x0 : W4.cell? ⟨X, 0, none⟩ = some (.int .i64 3) := blk_cell HE4.out.x 0
                have x1 : W4.cell? ⟨X, 1, none⟩ = some (.int .i64 0) := blk_cell HE4.out.x 1
                have x2 : W4.cell? ⟨X, 2, none⟩ = some (.int .i64 0) := blk_cell HE4.out.x 2
                have x3 : W4.cell? ⟨X, 3, none⟩ = some (.slice none 0 0) := blk_cell HE4.out.x 3
                have x4 : W4.cell? ⟨X, 4, none⟩ = some (.slice none 0 0) := blk_cell HE4.out.x 4
                have fx := fun r => blk_frozen HE4.out.x r
                have z0 : W4.cell? ⟨B, 0, none⟩ = some (.int .i64 0) := blk_cell HE4.out.k.b 0
                have z1 : W4.cell? ⟨B, 1, none⟩ = some (.int .i64 0) := blk_cell HE4.out.k.b 1
                have z2 : W4.cell? ⟨B, 2, none⟩ = some (.int .i64 0) := blk_cell HE4.out.k.b 2
                have z3 : W4.cell? ⟨B, 3, none⟩ = some (.slice none 0 0) := blk_cell HE4.out.k.b 3
                have z4 : W4.cell? ⟨B, 4, none⟩ = some (.slice none 0 0) := blk_cell HE4.out.k.b 4
                have fz := fun r => blk_frozen HE4.out.k.b r
                go_wp2_with fail
                have hz := set5 (v0 := .int .i64 3) (v1 := .int .i64 0) (v2 := .int .i64 0) (v3 := .slice none 0 0) (v4 := .slice none 0 0) HE4.out.k.b
                have r0 := blk_cell hz 0
                have r1 := blk_cell hz 1
                have r2 := blk_cell hz 2
                have r3 := blk_cell hz 3
                have r4 := blk_cell hz 4
                refine bodyPost_ret (v := .tuple #[.agg #[.int .i64 3, .int .i64 0, .int .i64 0, .slice none 0 0, .slice none 0 0], .bool true]) (by simp [results, Tryd.f39, go_sem, r0, r1, r2, r3, r4]) rfl ?_
                exact K39.fin (x := ⟨3, 0, 0, [], []⟩) HE4.out.k (bytesNil _) (boolsNil _) (Fresh.nil _ _ _) (Fresh.nil _ _ _) (.inl ⟨rfl, by rw [← HL.out]; exact evP_0 (by decide) HLL.out⟩) (frm_set5 B _ _ _ _ _)
              · have HNONE : Hid (evP L = none) := evP_len (k := 3) (by decide) (by decide) (by rw [HH0.out, HWK.out]; rfl) (by rw [← HN.out]; exact hnp)
                have hnq : ((n : Int) == 1) = false := beq_eq_false_iff_ne.2 (by omega)
                clear hnp
                have z0 : W4.cell? ⟨B, 0, none⟩ = some (.int .i64 0) := blk_cell HE4.out.k.b 0
                have z1 : W4.cell? ⟨B, 1, none⟩ = some (.int .i64 0) := blk_cell HE4.out.k.b 1
                have z2 : W4.cell? ⟨B, 2, none⟩ = some (.int .i64 0) := blk_cell HE4.out.k.b 2
                have z3 : W4.cell? ⟨B, 3, none⟩ = some (.slice none 0 0) := blk_cell HE4.out.k.b 3
                have z4 : W4.cell? ⟨B, 4, none⟩ = some (.slice none 0 0) := blk_cell HE4.out.k.b 4
                have fz := fun r => blk_frozen HE4.out.k.b r
                go_upto_region 9 with fail
                rw [← HXe.out, ← HW4.out]
                go_wp2_with fail
                have hz := set5 (v0 := .int .i64 0) (v1 := .int .i64 0) (v2 := .int .i64 0) (v3 := .slice none 0 0) (v4 := .slice none 0 0) HE4.out.k.b
                have r0 := blk_cell hz 0
                have r1 := blk_cell hz 1
                have r2 := blk_cell hz 2
                have r3 := blk_cell hz 3
                have r4 := blk_cell hz 4
                refine bodyPost_ret (v := .tuple #[.agg #[.int .i64 0, .int .i64 0, .int .i64 0, .slice none 0 0, .slice none 0 0], .bool false]) (by simp [results, Tryd.f39, go_sem, r0, r1, r2, r3, r4]) rfl ?_
                exact K39.fin (x := ⟨0, 0, 0, [], []⟩) HE4.out.k (bytesNil _) (boolsNil _) (Fresh.nil _ _ _) (Fresh.nil _ _ _) (.inr ⟨rfl, .inl (by rw [← HL.out]; exact HNONE.out)⟩) (frm_set5 B _ _ _ _ _)
            · obtain ⟨X, W4, hX, hW4, HXe, HX4, HBX, HSX⟩ := boxed W #[.int .i64 4, .int .i64 0, .int .i64 0, .slice none 0 0, .slice none 0 0] 41
              have HW4 := Lib.hid hW4
              have HE4 : Hid (E39 w B g X #[.int .i64 4, .int .i64 0, .int .i64 0, .slice none 0 0, .slice none 0 0] L W4) := by rw [hX, hW4]; exact HKW.out.alloc _
              clear hX hW4 HX4 HBX HSX HKW
              have hXB : X ≠ B := by have := HE4.out.hX; have := HE4.out.k.hg; omega
              have hBX : B ≠ X := fun e => hXB e.symm
              by_cases hnp : n = 1
              · have HLN : Hid (L.length = 1) := by show _ = _; rw [← HN.out, hnp]
                subst hnp
                have HLL : Hid (L = [word 4]) := (list1 HH0.out HLN.out).trans (by rw [HWK.out]; rfl)
                go_upto_region 9 with fail
                rw [← HXe.out, ← HW4.out]
                have x0 : W4.cell? ⟨X, 0, none⟩ = some (.int .i64 4) := blk_cell HE4.out.x 0
                have x1 : W4.cell? ⟨X, 1, none⟩ = some (.int .i64 0) := blk_cell HE4.out.x 1
                have x2 : W4.cell? ⟨X, 2, none⟩ = some (.int .i64 0) := blk_cell HE4.out.x 2
                have x3 : W4.cell? ⟨X, 3, none⟩ = some (.slice none 0 0) := blk_cell HE4.out.x 3
                have x4 : W4.cell? ⟨X, 4, none⟩ = some (.slice none 0 0) := blk_cell HE4.out.x 4
                have fx := fun r => blk_frozen HE4.out.x r
                have z0 : W4.cell? ⟨B, 0, none⟩ = some (.int .i64 0) := blk_cell HE4.out.k.b 0
                have z1 : W4.cell? ⟨B, 1, none⟩ = some (.int .i64 0) := blk_cell HE4.out.k.b 1
                have z2 : W4.cell? ⟨B, 2, none⟩ = some (.int .i64 0) := blk_cell HE4.out.k.b 2
                have z3 : W4.cell? ⟨B, 3, none⟩ = some (.slice none 0 0) := blk_cell HE4.out.k.b 3
                have z4 : W4.cell? ⟨B, 4, none⟩ = some (.slice none 0 0) := blk_cell HE4.out.k.b 4
                have fz := fun r => blk_frozen HE4.out.k.b r
                go_wp2_with fail
                have hz := set5 (v0 := .int .i64 4) (v1 := .int .i64 0) (v2 := .int .i64 0) (v3 := .slice none 0 0) (v4 := .slice none 0 0) HE4.out.k.b
                have r0 := blk_cell hz 0
                have r1 := blk_cell hz 1
                have r2 := blk_cell hz 2
                have r3 := blk_cell hz 3
                have r4 := blk_cell hz 4
                refine bodyPost_ret (v := .tuple #[.agg #[.int .i64 4, .int .i64 0, .int .i64 0, .slice none 0 0, .slice none 0 0], .bool true]) (by simp [results, Tryd.f39, go_sem, r0, r1, r2, r3, r4]) rfl ?_
                exact K39.fin (x := ⟨4, 0, 0, [], []⟩) HE4.out.k (bytesNil _) (boolsNil _) (Fresh.nil _ _ _) (Fresh.nil _ _ _) (.inl ⟨rfl, by rw [← HL.out]; exact evP_0 (by decide) HLL.out⟩) (frm_set5 B _ _ _ _ _)
              · have HNONE : Hid (evP L = none) := evP_len (k := 4) (by decide) (by decide) (by rw [HH0.out, HWK.out]; rfl) (by rw [← HN.out]; exact hnp)
                have hnq : ((n : Int) == 1) = false := beq_eq_false_iff_ne.2 (by omega)
                clear hnp
                have z0 : W4.cell? ⟨B, 0, none⟩ = some (.int .i64 0) := blk_cell HE4.out.k.b 0
                have z1 : W4.cell? ⟨B, 1, none⟩ = some (.int .i64 0) := blk_cell HE4.out.k.b 1
                have z2 : W4.cell? ⟨B, 2, none⟩ = some (.int .i64 0) := blk_cell HE4.out.k.b 2
                have z3 : W4.cell? ⟨B, 3, none⟩ = some (.slice none 0 0) := blk_cell HE4.out.k.b 3
                have z4 : W4.cell? ⟨B, 4, none⟩ = some (.slice none 0 0) := blk_cell HE4.out.k.b 4
                have fz := fun r => blk_frozen HE4.out.k.b r
                go_upto_region 9 with fail
                rw [← HXe.out, ← HW4.out]
                go_wp2_with fail
                have hz := set5 (v0 := .int .i64 0) (v1 := .int .i64 0) (v2 := .int .i64 0) (v3 := .slice none 0 0) (v4 := .slice none 0 0) HE4.out.k.b
                have r0 := blk_cell hz 0
                have r1 := blk_cell hz 1
                have r2 := blk_cell hz 2
                have r3 := blk_cell hz 3
                have r4 := blk_cell hz 4
                refine bodyPost_ret (v := .tuple #[.agg #[.int .i64 0, .int .i64 0, .int .i64 0, .slice none 0 0, .slice none 0 0], .bool false]) (by simp [results, Tryd.f39, go_sem, r0, r1, r2, r3, r4]) rfl ?_
                exact K39.fin (x := ⟨0, 0, 0, [], []⟩) HE4.out.k (bytesNil _) (boolsNil _) (Fresh.nil _ _ _) (Fresh.nil _ _ _) (.inr ⟨rfl, .inl (by rw [← HL.out]; exact HNONE.out)⟩) (frm_set5 B _ _ _ _ _)
            · obtain ⟨X, W4, hX, hW4, HXe, HX4, HBX, HSX⟩ := boxed W #[.int .i64 5, .int .i64 0, .int .i64 0, .slice none 0 0, .slice none 0 0] 41
              have HW4 := Lib.hid hW4
              have HE4 : Hid (E39 w B g X #[.int .i64 5, .int .i64 0, .int .i64 0, .slice none 0 0, .slice none 0 0] L W4) := by rw [hX, hW4]; exact HKW.out.alloc _
              clear hX hW4 HX4 HBX HSX HKW
              have hXB : X ≠ B := by have := HE4.out.hX; have := HE4.out.k.hg; omega
              have hBX : B ≠ X := fun e => hXB e.symm
              by_cases hnp : n = 2
              · have HLN : Hid (L.length = 2) := by show _ = _; rw [← HN.out, hnp]
                subst hnp
                obtain ⟨a, ha, hLL⟩ := list2 HH0.out HLN.out
                have HLL : Hid (L = [word 5, a]) := hLL.trans (by rw [HWK.out]; rfl)
                have y2 : W4.cell? ⟨g, 1, none⟩ = some (.string ⟨a.toArray⟩) := HE4.out.k.cell ha
                have hla := HPL.out 1 a ha
                clear ha hLL
                go_upto_region 9 with fail
                rw [← HXe.out, ← HW4.out]
                obtain ⟨b1, hb1⟩ : ∃ b1, b1 = (numP a).isSome := ⟨_, rfl⟩
                have HB1 := Lib.hid hb1
                have HC := number57 W4 a (Nat.le_trans hla (by decide))
                rw [← hb1] at HC
                clear hb1
                go_wp2_with fail
                refine HC.mono ?_
                rintro e w5 ⟨⟨m, rfl, hm⟩, rfl⟩
                have HM := Lib.hid hm
                clear hm HC y2
                have x0 : w5.cell? ⟨X, 0, none⟩ = some (.int .i64 5) := blk_cell HE4.out.x 0
                have x1 : w5.cell? ⟨X, 1, none⟩ = some (.int .i64 0) := blk_cell HE4.out.x 1
                have x2 : w5.cell? ⟨X, 2, none⟩ = some (.int .i64 0) := blk_cell HE4.out.x 2
                have x3 : w5.cell? ⟨X, 3, none⟩ = some (.slice none 0 0) := blk_cell HE4.out.x 3
                have x4 : w5.cell? ⟨X, 4, none⟩ = some (.slice none 0 0) := blk_cell HE4.out.x 4
                have fx := fun r => blk_frozen HE4.out.x r
                have HT5 : Hid (E39 w B g X #[.int .i64 5, .int .i64 0, .int .i64 m, .slice none 0 0, .slice none 0 0] L (w5.setCell ⟨X, 2, none⟩ (.int .i64 m))) := HE4.out.set 2 (.int .i64 m)
                have z0 : w5.cell? ⟨B, 0, none⟩ = some (.int .i64 0) := blk_cell HE4.out.k.b 0
                have z1 : w5.cell? ⟨B, 1, none⟩ = some (.int .i64 0) := blk_cell HE4.out.k.b 1
                have z2 : w5.cell? ⟨B, 2, none⟩ = some (.int .i64 0) := blk_cell HE4.out.k.b 2
                have z3 : w5.cell? ⟨B, 3, none⟩ = some (.slice none 0 0) := blk_cell HE4.out.k.b 3
                have z4 : w5.cell? ⟨B, 4, none⟩ = some (.slice none 0 0) := blk_cell HE4.out.k.b 4
                have fz := fun r => blk_frozen HE4.out.k.b r
                have HNO : Hid (b1 = false → numP a = none) := fun e => by
                  cases h : numP a with
                  | none => rfl
                  | some x => have := HB1.out; rw [h, e] at this; cases this
                have HYE : Hid (b1 = true → numP a = some m) := fun e => by
                  cases h : numP a with
                  | none => have := HB1.out; rw [h, e] at this; cases this
                  | some x => rw [HM.out x h]
                cases b1 with
                | false =>
                  go_wp2_with fail
                  have hz := set5 (v0 := .int .i64 5) (v1 := .int .i64 0) (v2 := .int .i64 m) (v3 := .slice none 0 0) (v4 := .slice none 0 0) HT5.out.k.b
                  have r0 := blk_cell hz 0
                  have r1 := blk_cell hz 1
                  have r2 := blk_cell hz 2
                  have r3 := blk_cell hz 3
                  have r4 := blk_cell hz 4
                  refine bodyPost_ret (v := .tuple #[.agg #[.int .i64 5, .int .i64 0, .int .i64 m, .slice none 0 0, .slice none 0 0], .bool false]) (by simp [results, Tryd.f39, go_sem, r0, r1, r2, r3, r4]) rfl ?_
                  exact K39.fin (x := ⟨5, 0, m, [], []⟩) HT5.out.k (bytesNil _) (boolsNil _) (Fresh.nil _ _ _) (Fresh.nil _ _ _) (.inr ⟨rfl, .inl (by rw [← HL.out, evP_2 (by decide) HLL.out, HNO.out (by simp)]; rfl)⟩) (frm_set5 B _ _ _ _ _)
                | true =>
                  go_wp2_with fail
                  have hz := set5 (v0 := .int .i64 5) (v1 := .int .i64 0) (v2 := .int .i64 m) (v3 := .slice none 0 0) (v4 := .slice none 0 0) HT5.out.k.b
                  have r0 := blk_cell hz 0
                  have r1 := blk_cell hz 1
                  have r2 := blk_cell hz 2
                  have r3 := blk_cell hz 3
                  have r4 := blk_cell hz 4
                  refine bodyPost_ret (v := .tuple #[.agg #[.int .i64 5, .int .i64 0, .int .i64 m, .slice none 0 0, .slice none 0 0], .bool true]) (by simp [results, Tryd.f39, go_sem, r0, r1, r2, r3, r4]) rfl ?_
                  exact K39.fin (x := ⟨5, 0, m, [], []⟩) HT5.out.k (bytesNil _) (boolsNil _) (Fresh.nil _ _ _) (Fresh.nil _ _ _) (.inl ⟨rfl, by rw [← HL.out, evP_2 (by decide) HLL.out, HYE.out (by simp)]; rfl⟩) (frm_set5 B _ _ _ _ _)
              · have HNONE : Hid (evP L = none) := evP_len (k := 5) (by decide) (by decide) (by rw [HH0.out, HWK.out]; rfl) (by rw [← HN.out]; exact hnp)
                have hnq : ((n : Int) == 2) = false := beq_eq_false_iff_ne.2 (by omega)
                clear hnp
                have z0 : W4.cell? ⟨B, 0, none⟩ = some (.int .i64 0) := blk_cell HE4.out.k.b 0
                have z1 : W4.cell? ⟨B, 1, none⟩ = some (.int .i64 0) := blk_cell HE4.out.k.b 1
                have z2 : W4.cell? ⟨B, 2, none⟩ = some (.int .i64 0) := blk_cell HE4.out.k.b 2
                have z3 : W4.cell? ⟨B, 3, none⟩ = some (.slice none 0 0) := blk_cell HE4.out.k.b 3
                have z4 : W4.cell? ⟨B, 4, none⟩ = some (.slice none 0 0) := blk_cell HE4.out.k.b 4
                have fz := fun r => blk_frozen HE4.out.k.b r
                go_upto_region 9 with fail
                rw [← HXe.out, ← HW4.out]
                go_wp2_with fail
                have hz := set5 (v0 := .int .i64 0) (v1 := .int .i64 0) (v2 := .int .i64 0) (v3 := .slice none 0 0) (v4 := .slice none 0 0) HE4.out.k.b
                have r0 := blk_cell hz 0
                have r1 := blk_cell hz 1
                have r2 := blk_cell hz 2
                have r3 := blk_cell hz 3
                have r4 := blk_cell hz 4
                refine bodyPost_ret (v := .tuple #[.agg #[.int .i64 0, .int .i64 0, .int .i64 0, .slice none 0 0, .slice none 0 0], .bool false]) (by simp [results, Tryd.f39, go_sem, r0, r1, r2, r3, r4]) rfl ?_
                exact K39.fin (x := ⟨0, 0, 0, [], []⟩) HE4.out.k (bytesNil _) (boolsNil _) (Fresh.nil _ _ _) (Fresh.nil _ _ _) (.inr ⟨rfl, .inl (by rw [← HL.out]; exact HNONE.out)⟩) (frm_set5 B _ _ _ _ _)
            · obtain ⟨X, W4, hX, hW4, HXe, HX4, HBX, HSX⟩ := boxed W #[.int .i64 6, .int .i64 0, .int .i64 0, .slice none 0 0, .slice none 0 0] 41
              have HW4 := Lib.hid hW4
              have HE4 : Hid (E39 w B g X #[.int .i64 6, .int .i64 0, .int .i64 0, .slice none 0 0, .slice none 0 0] L W4) := by rw [hX, hW4]; exact HKW.out.alloc _
              clear hX hW4 HX4 HBX HSX HKW
              have hXB : X ≠ B := by have := HE4.out.hX; have := HE4.out.k.hg; omega
              have hBX : B ≠ X := fun e => hXB e.symm
              by_cases hnp : n = 2
              · have HLN : Hid (L.length = 2) := by show _ = _; rw [← HN.out, hnp]
                subst hnp
                obtain ⟨a, ha, hLL⟩ := list2 HH0.out HLN.out
                have HLL : Hid (L = [word 6, a]) := hLL.trans (by rw [HWK.out]; rfl)
                have y2 : W4.cell? ⟨g, 1, none⟩ = some (.string ⟨a.toArray⟩) := HE4.out.k.cell ha
                have hla := HPL.out 1 a ha
                clear ha hLL
                go_upto_region 9 with fail
                rw [← HXe.out, ← HW4.out]
                obtain ⟨b1, hb1⟩ : ∃ b1, b1 = (numP a).isSome := ⟨_, rfl⟩
                have HB1 := Lib.hid hb1
                have HC := number57 W4 a (Nat.le_trans hla (by decide))
                rw [← hb1] at HC
                clear hb1
                go_wp2_with fail
                refine HC.mono ?_
                rintro e w5 ⟨⟨m, rfl, hm⟩, rfl⟩
                have HM := Lib.hid hm
                clear hm HC y2
                have x0 : w5.cell? ⟨X, 0, none⟩ = some (.int .i64 6) := blk_cell HE4.out.x 0
                have x1 : w5.cell? ⟨X, 1, none⟩ = some (.int .i64 0) := blk_cell HE4.out.x 1
                have x2 : w5.cell? ⟨X, 2, none⟩ = some (.int .i64 0) := blk_cell HE4.out.x 2
                have x3 : w5.cell? ⟨X, 3, none⟩ = some (.slice none 0 0) := blk_cell HE4.out.x 3
                have x4 : w5.cell? ⟨X, 4, none⟩ = some (.slice none 0 0) := blk_cell HE4.out.x 4
                have fx := fun r => blk_frozen HE4.out.x r
                have HT5 : Hid (E39 w B g X #[.int .i64 6, .int .i64 0, .int .i64 m, .slice none 0 0, .slice none 0 0] L (w5.setCell ⟨X, 2, none⟩ (.int .i64 m))) := HE4.out.set 2 (.int .i64 m)
                have z0 : w5.cell? ⟨B, 0, none⟩ = some (.int .i64 0) := blk_cell HE4.out.k.b 0
                have z1 : w5.cell? ⟨B, 1, none⟩ = some (.int .i64 0) := blk_cell HE4.out.k.b 1
                have z2 : w5.cell? ⟨B, 2, none⟩ = some (.int .i64 0) := blk_cell HE4.out.k.b 2
                have z3 : w5.cell? ⟨B, 3, none⟩ = some (.slice none 0 0) := blk_cell HE4.out.k.b 3
                have z4 : w5.cell? ⟨B, 4, none⟩ = some (.slice none 0 0) := blk_cell HE4.out.k.b 4
                have fz := fun r => blk_frozen HE4.out.k.b r
                have HNO : Hid (b1 = false → numP a = none) := fun e => by
                  cases h : numP a with
                  | none => rfl
                  | some x => have := HB1.out; rw [h, e] at this; cases this
                have HYE : Hid (b1 = true → numP a = some m) := fun e => by
                  cases h : numP a with
                  | none => have := HB1.out; rw [h, e] at this; cases this
                  | some x => rw [HM.out x h]
                cases b1 with
                | false =>
                  go_wp2_with fail
                  have hz := set5 (v0 := .int .i64 6) (v1 := .int .i64 0) (v2 := .int .i64 m) (v3 := .slice none 0 0) (v4 := .slice none 0 0) HT5.out.k.b
                  have r0 := blk_cell hz 0
                  have r1 := blk_cell hz 1
                  have r2 := blk_cell hz 2
                  have r3 := blk_cell hz 3
                  have r4 := blk_cell hz 4
                  refine bodyPost_ret (v := .tuple #[.agg #[.int .i64 6, .int .i64 0, .int .i64 m, .slice none 0 0, .slice none 0 0], .bool false]) (by simp [results, Tryd.f39, go_sem, r0, r1, r2, r3, r4]) rfl ?_
                  exact K39.fin (x := ⟨6, 0, m, [], []⟩) HT5.out.k (bytesNil _) (boolsNil _) (Fresh.nil _ _ _) (Fresh.nil _ _ _) (.inr ⟨rfl, .inl (by rw [← HL.out, evP_2 (by decide) HLL.out, HNO.out (by simp)]; rfl)⟩) (frm_set5 B _ _ _ _ _)
                | true =>
                  go_wp2_with fail
                  have hz := set5 (v0 := .int .i64 6) (v1 := .int .i64 0) (v2 := .int .i64 m) (v3 := .slice none 0 0) (v4 := .slice none 0 0) HT5.out.k.b
                  have r0 := blk_cell hz 0
                  have r1 := blk_cell hz 1
                  have r2 := blk_cell hz 2
                  have r3 := blk_cell hz 3
                  have r4 := blk_cell hz 4
                  refine bodyPost_ret (v := .tuple #[.agg #[.int .i64 6, .int .i64 0, .int .i64 m, .slice none 0 0, .slice none 0 0], .bool true]) (by simp [results, Tryd.f39, go_sem, r0, r1, r2, r3, r4]) rfl ?_
                  exact K39.fin (x := ⟨6, 0, m, [], []⟩) HT5.out.k (bytesNil _) (boolsNil _) (Fresh.nil _ _ _) (Fresh.nil _ _ _) (.inl ⟨rfl, by rw [← HL.out, evP_2 (by decide) HLL.out, HYE.out (by simp)]; rfl⟩) (frm_set5 B _ _ _ _ _)
              · have HNONE : Hid (evP L = none) := evP_len (k := 6) (by decide) (by decide) (by rw [HH0.out, HWK.out]; rfl) (by rw [← HN.out]; exact hnp)
                have hnq : ((n : Int) == 2) = false := beq_eq_false_iff_ne.2 (by omega)
                clear hnp
                have z0 : W4.cell? ⟨B, 0, none⟩ = some (.int .i64 0) := blk_cell HE4.out.k.b 0
                have z1 : W4.cell? ⟨B, 1, none⟩ = some (.int .i64 0) := blk_cell HE4.out.k.b 1
                have z2 : W4.cell? ⟨B, 2, none⟩ = some (.int .i64 0) := blk_cell HE4.out.k.b 2
                have z3 : W4.cell? ⟨B, 3, none⟩ = some (.slice none 0 0) := blk_cell HE4.out.k.b 3
                have z4 : W4.cell? ⟨B, 4, none⟩ = some (.slice none 0 0) := blk_cell HE4.out.k.b 4
                have fz := fun r => blk_frozen HE4.out.k.b r
                go_upto_region 9 with fail
                rw [← HXe.out, ← HW4.out]
                go_wp2_with fail
                have hz := set5 (v0 := .int .i64 0) (v1 := .int .i64 0) (v2 := .int .i64 0) (v3 := .slice none 0 0) (v4 := .slice none 0 0) HE4.out.k.b
                have r0 := blk_cell hz 0
                have r1 := blk_cell hz 1
                have r2 := blk_cell hz 2
                have r3 := blk_cell hz 3
                have r4 := blk_cell hz 4
                refine bodyPost_ret (v := .tuple #[.agg #[.int .i64 0, .int .i64 0, .int .i64 0, .slice none 0 0, .slice none 0 0], .bool false]) (by simp [results, Tryd.f39, go_sem, r0, r1, r2, r3, r4]) rfl ?_
                exact K39.fin (x := ⟨0, 0, 0, [], []⟩) HE4.out.k (bytesNil _) (boolsNil _) (Fresh.nil _ _ _) (Fresh.nil _ _ _) (.inr ⟨rfl, .inl (by rw [← HL.out]; exact HNONE.out)⟩) (frm_set5 B _ _ _ _ _)
            · obtain ⟨X, W4, hX, hW4, HXe, HX4, HBX, HSX⟩ := boxed W #[.int .i64 7, .int .i64 0, .int .i64 0, .slice none 0 0, .slice none 0 0] 41
              have HW4 := Lib.hid hW4
              have HE4 : Hid (E39 w B g X #[.int .i64 7, .int .i64 0, .int .i64 0, .slice none 0 0, .slice none 0 0] L W4) := by rw [hX, hW4]; exact HKW.out.alloc _
              clear hX hW4 HX4 HBX HSX HKW
              have hXB : X ≠ B := by have := HE4.out.hX; have := HE4.out.k.hg; omega
              have hBX : B ≠ X := fun e => hXB e.symm
              by_cases hnp : n = 2
              · have HLN : Hid (L.length = 2) := by show _ = _; rw [← HN.out, hnp]
                subst hnp
                obtain ⟨a, ha, hLL⟩ := list2 HH0.out HLN.out
                have HLL : Hid (L = [word 7, a]) := hLL.trans (by rw [HWK.out]; rfl)
                have y2 : W4.cell? ⟨g, 1, none⟩ = some (.string ⟨a.toArray⟩) := HE4.out.k.cell ha
                have hla := HPL.out 1 a ha
                clear ha hLL
                go_upto_region 9 with fail
                rw [← HXe.out, ← HW4.out]
                obtain ⟨b1, hb1⟩ : ∃ b1, b1 = (keepP a).isSome := ⟨_, rfl⟩
                have HB1 := Lib.hid hb1
                have HC := keep59 W4 a (Nat.le_trans hla (by decide))
                rw [← hb1] at HC
                clear hb1
                go_wp2_with fail
                refine HC.mono ?_
                rintro e w6 ⟨⟨ua, un, uc, bs, rfl, hfr, hbs, hru⟩, hb6⟩
                have HT6 := Lib.hid (HE4.out.step hb6)
                have HU := Lib.hid hbs
                have HXS := Lib.hid (show X < W4.heap.size from blk_lt HE4.out.x)
                have HFX := Lib.hid (show Fresh (X + 1) w6 (.slice ua un uc) 4 from hfr.mono HXS.out)
                have HRU := Lib.hid hru
                clear hb6 hbs hfr hru HC y2
                have x0 : w6.cell? ⟨X, 0, none⟩ = some (.int .i64 7) := blk_cell HT6.out.x 0
                have x1 : w6.cell? ⟨X, 1, none⟩ = some (.int .i64 0) := blk_cell HT6.out.x 1
                have x2 : w6.cell? ⟨X, 2, none⟩ = some (.int .i64 0) := blk_cell HT6.out.x 2
                have x3 : w6.cell? ⟨X, 3, none⟩ = some (.slice none 0 0) := blk_cell HT6.out.x 3
                have x4 : w6.cell? ⟨X, 4, none⟩ = some (.slice none 0 0) := blk_cell HT6.out.x 4
                have fx := fun r => blk_frozen HT6.out.x r
                have z0 : w6.cell? ⟨B, 0, none⟩ = some (.int .i64 0) := blk_cell HT6.out.k.b 0
                have z1 : w6.cell? ⟨B, 1, none⟩ = some (.int .i64 0) := blk_cell HT6.out.k.b 1
                have z2 : w6.cell? ⟨B, 2, none⟩ = some (.int .i64 0) := blk_cell HT6.out.k.b 2
                have z3 : w6.cell? ⟨B, 3, none⟩ = some (.slice none 0 0) := blk_cell HT6.out.k.b 3
                have z4 : w6.cell? ⟨B, 4, none⟩ = some (.slice none 0 0) := blk_cell HT6.out.k.b 4
                have fz := fun r => blk_frozen HT6.out.k.b r
                have HT7 : Hid (E39 w B g X #[.int .i64 7, .int .i64 0, .int .i64 0, .slice none 0 0, .slice ua un uc] L (w6.setCell ⟨X, 4, none⟩ (.slice ua un uc))) := HT6.out.set 4 (.slice ua un uc)
                have HNO : Hid (b1 = false → keepP a = none) := fun e => by
                  cases h : keepP a with
                  | none => rfl
                  | some x => have := HB1.out; rw [h, e] at this; cases this
                have HYE : Hid (b1 = true → keepP a = some bs) := fun e => by
                  cases h : keepP a with
                  | none => have := HB1.out; rw [h, e] at this; cases this
                  | some x => rw [HRU.out x h]
                cases b1 with
                | false =>
                  go_wp2_with fail
                  have hz := set5 (v0 := .int .i64 7) (v1 := .int .i64 0) (v2 := .int .i64 0) (v3 := .slice none 0 0) (v4 := .slice ua un uc) HT7.out.k.b
                  have r0 := blk_cell hz 0
                  have r1 := blk_cell hz 1
                  have r2 := blk_cell hz 2
                  have r3 := blk_cell hz 3
                  have r4 := blk_cell hz 4
                  refine bodyPost_ret (v := .tuple #[.agg #[.int .i64 7, .int .i64 0, .int .i64 0, .slice none 0 0, .slice ua un uc], .bool false]) (by simp [results, Tryd.f39, go_sem, r0, r1, r2, r3, r4]) rfl ?_
                  exact K39.fin (x := ⟨7, 0, 0, [], bs⟩) HT7.out.k (bytesNil _) (isSl_ne HU.out (HFX.out.ne (Nat.lt_succ_self X)) (frm_set X 4 _)) (Fresh.nil _ _ _) ((HFX.out.frm (Nat.lt_succ_self X) (frm_set X 4 _)).mono (by have := HT6.out.hX; have := HT6.out.k.hg; omega)) (.inr ⟨rfl, .inl (by rw [← HL.out, evP_7 HLL.out, HNO.out (by simp)]; rfl)⟩) (frm_set5 B _ _ _ _ _)
                | true =>
                  go_wp2_with fail
                  have hz := set5 (v0 := .int .i64 7) (v1 := .int .i64 0) (v2 := .int .i64 0) (v3 := .slice none 0 0) (v4 := .slice ua un uc) HT7.out.k.b
                  have r0 := blk_cell hz 0
                  have r1 := blk_cell hz 1
                  have r2 := blk_cell hz 2
                  have r3 := blk_cell hz 3
                  have r4 := blk_cell hz 4
                  refine bodyPost_ret (v := .tuple #[.agg #[.int .i64 7, .int .i64 0, .int .i64 0, .slice none 0 0, .slice ua un uc], .bool true]) (by simp [results, Tryd.f39, go_sem, r0, r1, r2, r3, r4]) rfl ?_
                  exact K39.fin (x := ⟨7, 0, 0, [], bs⟩) HT7.out.k (bytesNil _) (isSl_ne HU.out (HFX.out.ne (Nat.lt_succ_self X)) (frm_set X 4 _)) (Fresh.nil _ _ _) ((HFX.out.frm (Nat.lt_succ_self X) (frm_set X 4 _)).mono (by have := HT6.out.hX; have := HT6.out.k.hg; omega)) (.inl ⟨rfl, by rw [← HL.out, evP_7 HLL.out, HYE.out (by simp)]; rfl⟩) (frm_set5 B _ _ _ _ _)
              · have HNONE : Hid (evP L = none) := evP_len (k := 7) (by decide) (by decide) (by rw [HH0.out, HWK.out]; rfl) (by rw [← HN.out]; exact hnp)
                have hnq : ((n : Int) == 2) = false := beq_eq_false_iff_ne.2 (by omega)
                clear hnp
                have z0 : W4.cell? ⟨B, 0, none⟩ = some (.int .i64 0) := blk_cell HE4.out.k.b 0
                have z1 : W4.cell? ⟨B, 1, none⟩ = some (.int .i64 0) := blk_cell HE4.out.k.b 1
                have z2 : W4.cell? ⟨B, 2, none⟩ = some (.int .i64 0) := blk_cell HE4.out.k.b 2
                have z3 : W4.cell? ⟨B, 3, none⟩ = some (.slice none 0 0) := blk_cell HE4.out.k.b 3
                have z4 : W4.cell? ⟨B, 4, none⟩ = some (.slice none 0 0) := blk_cell HE4.out.k.b 4
                have fz := fun r => blk_frozen HE4.out.k.b r
                go_upto_region 9 with fail
                rw [← HXe.out, ← HW4.out]
                go_wp2_with fail
                have hz := set5 (v0 := .int .i64 0) (v1 := .int .i64 0) (v2 := .int .i64 0) (v3 := .slice none 0 0) (v4 := .slice none 0 0) HE4.out.k.b
                have r0 := blk_cell hz 0
                have r1 := blk_cell hz 1
                have r2 := blk_cell hz 2
                have r3 := blk_cell hz 3
                have r4 := blk_cell hz 4
                refine bodyPost_ret (v := .tuple #[.agg #[.int .i64 0, .int .i64 0, .int .i64 0, .slice none 0 0, .slice none 0 0], .bool false]) (by simp [results, Tryd.f39, go_sem, r0, r1, r2, r3, r4]) rfl ?_
                exact K39.fin (x := ⟨0, 0, 0, [], []⟩) HE4.out.k (bytesNil _) (boolsNil _) (Fresh.nil _ _ _) (Fresh.nil _ _ _) (.inr ⟨rfl, .inl (by rw [← HL.out]; exact HNONE.out)⟩) (frm_set5 B _ _ _ _ _)
            · obtain ⟨X, W4, hX, hW4, HXe, HX4, HBX, HSX⟩ := boxed W #[.int .i64 8, .int .i64 0, .int .i64 0, .slice none 0 0, .slice none 0 0] 41
              have HW4 := Lib.hid hW4
              have HE4 : Hid (E39 w B g X #[.int .i64 8, .int .i64 0, .int .i64 0, .slice none 0 0, .slice none 0 0] L W4) := by rw [hX, hW4]; exact HKW.out.alloc _
              clear hX hW4 HX4 HBX HSX HKW
              have hXB : X ≠ B := by have := HE4.out.hX; have := HE4.out.k.hg; omega
              have hBX : B ≠ X := fun e => hXB e.symm
              by_cases hnp : n = 2
              · have HLN : Hid (L.length = 2) := by show _ = _; rw [← HN.out, hnp]
                subst hnp
                obtain ⟨a, ha, hLL⟩ := list2 HH0.out HLN.out
                have HLL : Hid (L = [word 8, a]) := hLL.trans (by rw [HWK.out]; rfl)
                have y2 : W4.cell? ⟨g, 1, none⟩ = some (.string ⟨a.toArray⟩) := HE4.out.k.cell ha
                have hla := HPL.out 1 a ha
                clear ha hLL
                go_upto_region 9 with fail
                rw [← HXe.out, ← HW4.out]
                obtain ⟨b1, hb1⟩ : ∃ b1, b1 = (numP a).isSome := ⟨_, rfl⟩
                have HB1 := Lib.hid hb1
                have HC := number57 W4 a (Nat.le_trans hla (by decide))
                rw [← hb1] at HC
                clear hb1
                go_wp2_with fail
                refine HC.mono ?_
                rintro e w5 ⟨⟨m, rfl, hm⟩, rfl⟩
                have HM := Lib.hid hm
                clear hm HC y2
                have x0 : w5.cell? ⟨X, 0, none⟩ = some (.int .i64 8) := blk_cell HE4.out.x 0
                have x1 : w5.cell? ⟨X, 1, none⟩ = some (.int .i64 0) := blk_cell HE4.out.x 1
                have x2 : w5.cell? ⟨X, 2, none⟩ = some (.int .i64 0) := blk_cell HE4.out.x 2
                have x3 : w5.cell? ⟨X, 3, none⟩ = some (.slice none 0 0) := blk_cell HE4.out.x 3
                have x4 : w5.cell? ⟨X, 4, none⟩ = some (.slice none 0 0) := blk_cell HE4.out.x 4
                have fx := fun r => blk_frozen HE4.out.x r
                have HT5 : Hid (E39 w B g X #[.int .i64 8, .int .i64 m, .int .i64 0, .slice none 0 0, .slice none 0 0] L (w5.setCell ⟨X, 1, none⟩ (.int .i64 m))) := HE4.out.set 1 (.int .i64 m)
                have z0 : w5.cell? ⟨B, 0, none⟩ = some (.int .i64 0) := blk_cell HE4.out.k.b 0
                have z1 : w5.cell? ⟨B, 1, none⟩ = some (.int .i64 0) := blk_cell HE4.out.k.b 1
                have z2 : w5.cell? ⟨B, 2, none⟩ = some (.int .i64 0) := blk_cell HE4.out.k.b 2
                have z3 : w5.cell? ⟨B, 3, none⟩ = some (.slice none 0 0) := blk_cell HE4.out.k.b 3
                have z4 : w5.cell? ⟨B, 4, none⟩ = some (.slice none 0 0) := blk_cell HE4.out.k.b 4
                have fz := fun r => blk_frozen HE4.out.k.b r
                have HNO : Hid (b1 = false → numP a = none) := fun e => by
                  cases h : numP a with
                  | none => rfl
                  | some x => have := HB1.out; rw [h, e] at this; cases this
                have HYE : Hid (b1 = true → numP a = some m) := fun e => by
                  cases h : numP a with
                  | none => have := HB1.out; rw [h, e] at this; cases this
                  | some x => rw [HM.out x h]
                cases b1 with
                | false =>
                  go_wp2_with fail
                  have hz := set5 (v0 := .int .i64 8) (v1 := .int .i64 m) (v2 := .int .i64 0) (v3 := .slice none 0 0) (v4 := .slice none 0 0) HT5.out.k.b
                  have r0 := blk_cell hz 0
                  have r1 := blk_cell hz 1
                  have r2 := blk_cell hz 2
                  have r3 := blk_cell hz 3
                  have r4 := blk_cell hz 4
                  refine bodyPost_ret (v := .tuple #[.agg #[.int .i64 8, .int .i64 m, .int .i64 0, .slice none 0 0, .slice none 0 0], .bool false]) (by simp [results, Tryd.f39, go_sem, r0, r1, r2, r3, r4]) rfl ?_
                  exact K39.fin (x := ⟨8, m, 0, [], []⟩) HT5.out.k (bytesNil _) (boolsNil _) (Fresh.nil _ _ _) (Fresh.nil _ _ _) (.inr ⟨rfl, .inl (by rw [← HL.out, evP_8 HLL.out, HNO.out (by simp)]; rfl)⟩) (frm_set5 B _ _ _ _ _)
                | true =>
                  go_wp2_with fail
                  have hz := set5 (v0 := .int .i64 8) (v1 := .int .i64 m) (v2 := .int .i64 0) (v3 := .slice none 0 0) (v4 := .slice none 0 0) HT5.out.k.b
                  have r0 := blk_cell hz 0
                  have r1 := blk_cell hz 1
                  have r2 := blk_cell hz 2
                  have r3 := blk_cell hz 3
                  have r4 := blk_cell hz 4
                  refine bodyPost_ret (v := .tuple #[.agg #[.int .i64 8, .int .i64 m, .int .i64 0, .slice none 0 0, .slice none 0 0], .bool true]) (by simp [results, Tryd.f39, go_sem, r0, r1, r2, r3, r4]) rfl ?_
                  exact K39.fin (x := ⟨8, m, 0, [], []⟩) HT5.out.k (bytesNil _) (boolsNil _) (Fresh.nil _ _ _) (Fresh.nil _ _ _) (.inl ⟨rfl, by rw [← HL.out, evP_8 HLL.out, HYE.out (by simp)]; rfl⟩) (frm_set5 B _ _ _ _ _)
              · have HNONE : Hid (evP L = none) := evP_len (k := 8) (by decide) (by decide) (by rw [HH0.out, HWK.out]; rfl) (by rw [← HN.out]; exact hnp)
                have hnq : ((n : Int) == 2) = false := beq_eq_false_iff_ne.2 (by omega)
                clear hnp
                have z0 : W4.cell? ⟨B, 0, none⟩ = some (.int .i64 0) := blk_cell HE4.out.k.b 0
                have z1 : W4.cell? ⟨B, 1, none⟩ = some (.int .i64 0) := blk_cell HE4.out.k.b 1
                have z2 : W4.cell? ⟨B, 2, none⟩ = some (.int .i64 0) := blk_cell HE4.out.k.b 2
                have z3 : W4.cell? ⟨B, 3, none⟩ = some (.slice none 0 0) := blk_cell HE4.out.k.b 3
                have z4 : W4.cell? ⟨B, 4, none⟩ = some (.slice none 0 0) := blk_cell HE4.out.k.b 4
                have fz := fun r => blk_frozen HE4.out.k.b r
                go_upto_region 9 with fail
                rw [← HXe.out, ← HW4.out]
                go_wp2_with fail
                have hz := set5 (v0 := .int .i64 0) (v1 := .int .i64 0) (v2 := .int .i64 0) (v3 := .slice none 0 0) (v4 := .slice none 0 0) HE4.out.k.b
                have r0 := blk_cell hz 0
                have r1 := blk_cell hz 1
                have r2 := blk_cell hz 2
                have r3 := blk_cell hz 3
                have r4 := blk_cell hz 4
                refine bodyPost_ret (v := .tuple #[.agg #[.int .i64 0, .int .i64 0, .int .i64 0, .slice none 0 0, .slice none 0 0], .bool false]) (by simp [results, Tryd.f39, go_sem, r0, r1, r2, r3, r4]) rfl ?_
                exact K39.fin (x := ⟨0, 0, 0, [], []⟩) HE4.out.k (bytesNil _) (boolsNil _) (Fresh.nil _ _ _) (Fresh.nil _ _ _) (.inr ⟨rfl, .inl (by rw [← HL.out]; exact HNONE.out)⟩) (frm_set5 B _ _ _ _ _)
      · obtain rfl : k = 9 := by omega
        have HNONE : Hid (evP L = none) := evP_word HH0.out (fun j h1 h2 => HJ.out j h1 h2)
        have z0 : wr.cell? ⟨B, 0, none⟩ = some (.int .i64 0) := blk_cell HK.out.b 0
        have z1 : wr.cell? ⟨B, 1, none⟩ = some (.int .i64 0) := blk_cell HK.out.b 1
        have z2 : wr.cell? ⟨B, 2, none⟩ = some (.int .i64 0) := blk_cell HK.out.b 2
        have z3 : wr.cell? ⟨B, 3, none⟩ = some (.slice none 0 0) := blk_cell HK.out.b 3
        have z4 : wr.cell? ⟨B, 4, none⟩ = some (.slice none 0 0) := blk_cell HK.out.b 4
        have fz := fun r => blk_frozen HK.out.b r
        go_wp2_with fail
        have hz := set5 (v0 := .int .i64 0) (v1 := .int .i64 0) (v2 := .int .i64 0) (v3 := .slice none 0 0) (v4 := .slice none 0 0) HK.out.b
        have r0 := blk_cell hz 0
        have r1 := blk_cell hz 1
        have r2 := blk_cell hz 2
        have r3 := blk_cell hz 3
        have r4 := blk_cell hz 4
        refine bodyPost_ret (v := .tuple #[.agg #[.int .i64 0, .int .i64 0, .int .i64 0, .slice none 0 0, .slice none 0 0], .bool false]) (by simp [results, Tryd.f39, go_sem, r0, r1, r2, r3, r4]) rfl ?_
        exact K39.fin (x := ⟨0, 0, 0, [], []⟩) HK.out (bytesNil _) (boolsNil _) (Fresh.nil _ _ _) (Fresh.nil _ _ _) (.inr ⟨rfl, .inl (by rw [← HL.out]; exact HNONE.out)⟩) (frm_set5 B _ _ _ _ _)
end Go.Proofs.YtelaijogjgcloaaDoor
