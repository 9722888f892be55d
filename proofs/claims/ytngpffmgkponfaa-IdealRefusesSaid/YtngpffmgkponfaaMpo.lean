/- A map of versions as a caller has it: the caller's own blocks O lie apart from it. Conditions: map, request, answer lie in memory. -/
import Derived.Test.YtngpffmgkponfaaApi
set_option linter.unusedVariables false
set_option linter.unusedSimpArgs false
namespace Go.Proofs.Ytngpffmgkponfaa
open Go.RowKit Go.Ice Go.Idl

structure MapO (w : World) (B : Nat) (O : Nat → Prop) (mb : Nat) (Y : St) : Prop where
  own : O mb
  hB : B ≤ mb
  hO : ∀ b, O b → b < w.heap.size
  rep : ∃ kb F, B ≤ kb ∧ ¬ O kb ∧ MapRep w (fun b => b < w.heap.size ∧ ¬ O b ∧ b ≠ kb) mb kb Y F
/-- What is kept while a map is stepped. -/
def MFrm (B : Nat) (O : Nat → Prop) (mb : Nat) (w w' : World) : Prop := Frm (fun b => b = mb ∨ (B ≤ b ∧ ¬ O b ∧ ∃ es c, w.heap[b]? = some (.map es c))) w w'
section
variable {w w' : World} {B mb : Nat} {O O' : Nat → Prop} {Y : St}
theorem MapO.frm {S : Nat → Prop} (h : MapO w B O mb Y) (hf : Frm S w w') (hS : ∀ b, b < w.heap.size → S b → O b ∧ b ≠ mb) (hO' : ∀ b, O' b → O b ∨ w.heap.size ≤ b) (hlt : ∀ b, O' b → b < w'.heap.size) (hm : O' mb) : MapO w' B O' mb Y := by
  obtain ⟨h1, h2, h3, kb, F, hkB, hkO, hr⟩ := h
  have hk := hr.map.lt
  have hml := blk_lt hr.blk
  have hs := hf.size
  have hf' : Frm (fun b => O b ∧ b ≠ mb) w w' := hf.mono hS
  have hn : ¬ O' kb := fun e => by
    rcases hO' kb e with e | e
    · exact hkO e
    · omega
  have hr' := hr.frm hf' (fun b hb e => hb.2.1 e.1) (fun e => e.2 rfl) (fun e => hkO e.1)
  refine ⟨hm, h2, hlt, kb, F, hkB, hn, hr'.mono (fun b hb' hb => ⟨hb', fun e => ?_, hb.2.2⟩) (fun e => e.2.1 hm) (fun e => e.2.2 rfl)⟩
  rcases hO' b e with e | e
  · exact hb.2.1 e
  · exact absurd hb.1 (by omega)
theorem MapO.below (h : MapO w B O mb Y) (hb : Below w.heap.size w w') : MapO w' B O mb Y :=
  h.frm (S := fun _ => False) (frm_below hb) (fun _ _ h => h.elim) (fun b hb => .inl hb) (fun b h' => Nat.lt_of_lt_of_le (h.hO b h') hb.size) h.own
theorem MapO.grow (h : MapO w B O mb Y) (hb : Below w.heap.size w w') (hO' : ∀ b, O' b → O b ∨ w.heap.size ≤ b) (hlt : ∀ b, O' b → b < w'.heap.size) (hm : O' mb) : MapO w' B O' mb Y :=
  h.frm (S := fun _ => False) (frm_below hb) (fun _ _ h => h.elim) hO' hlt hm
theorem BytesIn.lt {C : Nat → Prop} {v : Value} {l : List UInt8} (h : BytesIn w C v l) (hl : l ≠ []) {b : Nat} (hb : v.ownBlock = some b) : b < w.heap.size ∧ ∃ cs e fz, w.heap[b]? = some (.cells cs e fz) := by
  rcases h.1 with ⟨h1, _⟩ | ⟨h0, b', off, cap, hv, h1, h2, h3, h4⟩
  · simp at h1; exact absurd h1 hl
  · rw [hv] at hb
    cases hb
    refine ⟨h3, ?_⟩
    have hc := h4 0 h0
    have hx : (l.map u8v)[0]? ≠ none := by
      intro e
      rw [List.getElem?_eq_none_iff] at e
      omega
    rw [← hc] at hx
    unfold World.cell? at hx
    split at hx
    · rename_i cs e fz hh
      exact ⟨_, _, _, hh⟩
    · exact absurd rfl hx
theorem BytesIn.cold {v : Value} {l : List UInt8} {kb : Nat} {F : List UInt8 → Option Value} (h : BytesIn w (fun b => ¬ O b) v l) (hk : MapAt strV w kb F) : BytesIn w (fun b => b < w.heap.size ∧ ¬ O b ∧ b ≠ kb) v l :=
  ⟨h.1, fun hl b hb => ⟨(h.lt hl hb).1, h.2 hl b hb, fun e => by
    obtain ⟨_, cs, e', fz, hh⟩ := h.lt hl hb
    obtain ⟨es, clock, hI⟩ := hk
    rw [e, hI.heap] at hh
    cases hh⟩⟩
theorem MFrm.of {kb : Nat} {F : List UInt8 → Option Value} (hf : Frm (fun b => b = mb ∨ b = kb) w w') (hB : B ≤ kb) (hO : ¬ O kb) (hk : MapAt strV w kb F) : MFrm B O mb w w' :=
  hf.mono fun b _ h => h.imp id fun e => by
    obtain ⟨es, clock, hI⟩ := hk
    subst e
    exact ⟨hB, hO, es, clock, hI.heap⟩
theorem MFrm.blk (h : MFrm B O mb w w') {b : Nat} {cs : Array Value} {e : TypeId} (hb : w.heap[b]? = some (.cells cs e (0, 0))) (hm : b ≠ mb) : w'.heap[b]? = some (.cells cs e (0, 0)) :=
  (h.block b (blk_lt hb) (by
    rintro (h | ⟨_, _, es, c, h⟩)
    · exact hm h
    · rw [hb] at h; cases h)).trans hb
theorem MFrm.below (h : MFrm B O mb w w') (hm : B ≤ mb) : Below B w w' ∨ w.heap.size < B := by
  by_cases hB : B ≤ w.heap.size
  · exact .inl (Frm.below h (by
      rintro k hk (h | ⟨h, _⟩)
      · omega
      · omega) hB)
  · exact .inr (by omega)
theorem LookR.mapO {kb : Nat} {F : List UInt8 → Option Value} {res : Option St} {undo : Bool} {e : Ending} (hown : O mb) (hB : B ≤ mb) (hO : ∀ b, O b → b < w.heap.size) (hkB : B ≤ kb) (hkO : ¬ O kb) (hB' : B ≤ w.heap.size) (hr : MapRep w (fun b => b < w.heap.size ∧ ¬ O b ∧ b ≠ kb) mb kb Y F)
    (h : LookR w (fun b => b < w.heap.size ∧ ¬ O b ∧ b ≠ kb) mb kb Y res undo e w') : e = .returned (.bool res.isSome) ∧ MapO w' B O mb (if undo then Y else res.getD Y) ∧ MFrm B O mb w w' := by
  obtain ⟨h1, h2, kb', F', h3, h4⟩ := h
  have hs := h2.size
  refine ⟨h1, ⟨hown, hB, fun b hb => Nat.lt_of_lt_of_le (hO b hb) hs, kb', F', by omega, ?_, h4.mono (fun b hb' hb => ⟨hb', ?_, hb.2.2⟩) (fun e => e.2.1 hown) (fun e => e.2.2 rfl)⟩, MFrm.of h2 hkB hkO hr.map⟩
  · rcases h3 with h3 | h3
    · rw [h3]; exact hkO
    · intro e; have := hO _ e; omega
  · rcases hb.1 with hb | hb
    · exact hb.2.1
    · intro e; have := hO _ e; omega
/-- Stats' cells lie apart. -/
def StatsO (w : World) (O : Nat → Prop) (v : Value) (l : List (List UInt8 × List UInt8)) : Prop := StatsAt w (fun b => ¬ O b) v l
theorem StatsAt.cold {v : Value} {l : List (List UInt8 × List UInt8)} {kb : Nat} {F : List UInt8 → Option Value} (h : StatsAt w (fun b => ¬ O b) v l) (hk : MapAt strV w kb F) : StatsAt w (fun b => b < w.heap.size ∧ ¬ O b ∧ b ≠ kb) v l := by
  refine ⟨h.1, fun hl b hb => ?_⟩
  have hl' : 0 < l.length := List.length_pos_iff.2 hl
  obtain ⟨b', off, cap, hv, h1, h2, h3, h4⟩ := h.1.at hl'
  have hb' := hb
  rw [hv] at hb'
  cases hb'
  refine ⟨h3, h.2 hl b' hb, fun e => ?_⟩
  have hc := h4 0 hl' 0 (by omega)
  obtain ⟨es, clock, hI⟩ := hk
  subst e
  simp [World.cell?, hI.heap] at hc
theorem StatsAt.nil (w : World) (C : Nat → Prop) : StatsAt w C (.slice none 0 0) [] := ⟨.inl ⟨rfl, .inl rfl⟩, fun h => absurd rfl h⟩
end
theorem step_o (w : World) (B : Nat) (O : Nat → Prop) (mb : Nat) (q : Rq) (a : An) (now : Int) (r : Raw) (Y : St) (h : MapO w B O mb Y) (hB : B ≤ w.heap.size) (hkey : BytesIn w (fun b => ¬ O b) (.slice r.ka q.key.length r.kc) q.key) (hval : BytesIn w (fun b => ¬ O b) (.slice r.va q.val.length r.vc) q.val)
    (haval : BytesIn w (fun b => ¬ O b) (.slice r.aa a.val.length r.ac) a.val) (hstats : StatsAt w (fun b => ¬ O b) (.slice r.sa a.stats.length r.sc) a.stats) (hqok : Rq.ok q) (haok : An.ok a) (hnow : 0 ≤ now ∧ now ≤ 4294967295) (hlen : (Y.now q.key).length ≤ 10000) (hqv : q.val.length ≤ 1000) (hh : q.here) :
    Calls Try.prog 10 #[.pointer (some ⟨mb, 0, none⟩), rqV q r.ka r.va r.kc r.vc, ansV a.st (.slice r.aa a.val.length r.ac) a.fl a.cas a.num (.slice r.sa a.stats.length r.sc) a.cl, .int .u32 now] w fun e w' => e = .returned (.bool (lookF Y q a now).isSome) ∧ MapO w' B O mb ((lookF Y q a now).getD Y) ∧ MFrm B O mb w w' := by
  obtain ⟨h1, h2, h3, kb, F, hkB, hkO, hr⟩ := h
  exact (step10 w _ mb kb q a now r Y F hr (hkey.cold hr.map) (hval.cold hr.map) (haval.cold hr.map) (hstats.cold hr.map) hqok haok hnow (fun b hb => hb.1) hlen hqv hh).mono fun e w' hl => hl.mapO h1 h2 h3 hkB hkO hB hr
theorem allows_o (w : World) (B : Nat) (O : Nat → Prop) (mb : Nat) (q : Rq) (a : An) (now : Int) (r : Raw) (Y : St) (h : MapO w B O mb Y) (hB : B ≤ w.heap.size) (hkey : BytesIn w (fun b => ¬ O b) (.slice r.ka q.key.length r.kc) q.key) (hval : BytesIn w (fun b => ¬ O b) (.slice r.va q.val.length r.vc) q.val)
    (haval : BytesIn w (fun b => ¬ O b) (.slice r.aa a.val.length r.ac) a.val) (hstats : StatsAt w (fun b => ¬ O b) (.slice r.sa a.stats.length r.sc) a.stats) (hqok : Rq.ok q) (haok : An.ok a) (hnow : 0 ≤ now ∧ now ≤ 4294967295) (hlen : (Y.now q.key).length ≤ 10000) (hqv : q.val.length ≤ 1000) (hh : q.here) :
    Calls Try.prog 13 #[.pointer (some ⟨mb, 0, none⟩), rqV q r.ka r.va r.kc r.vc, ansV a.st (.slice r.aa a.val.length r.ac) a.fl a.cas a.num (.slice r.sa a.stats.length r.sc) a.cl, .int .u32 now] w fun e w' => e = .returned (.bool (lookF Y q a now).isSome) ∧ MapO w' B O mb Y ∧ MFrm B O mb w w' := by
  obtain ⟨h1, h2, h3, kb, F, hkB, hkO, hr⟩ := h
  exact (allows13 w _ mb kb q a now r Y F hr (hkey.cold hr.map) (hval.cold hr.map) (haval.cold hr.map) (hstats.cold hr.map) hqok haok hnow (fun b hb => hb.1) hlen hqv hh).mono fun e w' hl => hl.mapO h1 h2 h3 hkB hkO hB hr
theorem new_o (w : World) (B : Nat) (O : Nat → Prop) (hB : B ≤ w.heap.size) (hO : ∀ b, O b → b < w.heap.size) : Calls Try.prog 7 #[] w fun e w' => ∃ mb, e = .returned (.pointer (some ⟨mb, 0, none⟩)) ∧ w.heap.size ≤ mb ∧ MapO w' B (fun b => O b ∨ b = mb) mb ⟨fun _ => [], fun _ => [], 0⟩ ∧ Below w.heap.size w w' := by
  refine (new7 w (fun _ => False) (fun _ h => h.elim)).mono ?_
  rintro e w' ⟨mb, kb, he, hm, hk, hr, hb⟩
  have hs := hb.size
  have hml := blk_lt hr.blk
  refine ⟨mb, he, hm, ⟨.inr rfl, by omega, ?_, kb, _, by omega, ?_, hr.mono (fun _ _ h => h.elim) (fun h => h.2.1 (.inr rfl)) (fun h => h.2.2 rfl)⟩, hb⟩
  · rintro b (h | rfl)
    · exact Nat.lt_of_lt_of_le (hO b h) hs
    · exact hml
  · rintro (h | h)
    · have := hO _ h; omega
    · exact hr.ne h.symm
theorem token_o {w : World} {B : Nat} {O : Nat → Prop} {mb : Nat} {Y : St} (h : MapO w B O mb Y) : Calls Try.prog 14 #[.pointer (some ⟨mb, 0, none⟩)] w fun e w' => e = .returned (.int .u64 Y.tok) ∧ w' = w := by
  obtain ⟨_, _, _, kb, F, _, _, hr⟩ := h
  exact token14 w mb Y.tok (blk_cell hr.blk 1)
end Go.Proofs.Ytngpffmgkponfaa
