/- What ideal.step.succeeds leaves, piece by piece. Conditions: the step lies in memory. -/
import Derived.Test.YtngpffmgkponfaaTur
import Derived.Laws.EntriesVeiled
set_option linter.unusedVariables false
set_option linter.unusedSimpArgs false
namespace Go.Idl
open Go.Proofs.Ytngpffmgkponfaa
def An.val0 (a : An) : An := { a with val := [], fl := 0 }
def St.put (Y : St) (k : List UInt8) (l m : List Tv) (t : Int) : St := ⟨fun k' => if k' = k then l else Y.now k', fun k' => if k' = k then m else Y.safe k', t⟩
end Go.Idl
namespace Go.Proofs.Ytngpffmgkponfaa
open Go.RowKit Go.Ice Go.Idl
def Raw.val0 (r : Raw) : Raw := { r with aa := none, ac := 0 }
section
variable {w W' w1 w2 w' : World} {C : Nat → Prop} {sb mb kb : Nat} {q : Rq} {a : An} {now : Int} {r : Raw} {hs : List Tv} {Y : St} {F : List UInt8 → Option Value}
theorem SW.val0 (h : SW w C sb mb kb q a now r hs Y F) (hf : Frm (fun b => b = sb) w W') (hb : W'.heap[sb]? = some (.cells (stepC mb q a.val0 now r.val0) 79 (0, 0))) :
    SW W' C sb mb kb q a.val0 now r.val0 hs Y F := by
  have hS : ∀ b, C b → ¬ (b = sb) := fun b hb e => h.cs (e ▸ hb)
  exact ⟨hb, h.key.frm hf hS, h.val.frm hf hS, BytesIn.nil _ _, h.stats.frm hf hS, h.hn, h.has.frm hf hS, h.map.frm hf hS (fun e => h.nm e.symm) (fun e => h.nk e.symm), h.qok,
    ⟨Int.le_refl _, by show (0 : Int) ≤ _; omega, h.aok.2.2.1, h.aok.2.2.2.1, h.aok.2.2.2.2.1, h.aok.2.2.2.2.2.1, by show (0 : Nat) ≤ _; omega⟩, h.now_, h.cs, h.nm, h.nk, fun b hb => Nat.lt_of_lt_of_le (h.cold b hb) hf.size⟩
theorem val0_ab (h : SW w C sb mb kb q a now r hs Y F) : ((w.setCell ⟨sb, 14, none⟩ (.slice none 0 0)).setCell ⟨sb, 15, none⟩ (.int .u32 0)).heap[sb]? = some (.cells (stepC mb q a.val0 now r.val0) 79 (0, 0)) := blk_setAt (blk_setAt h.blk _) _
theorem val0_ba (h : SW w C sb mb kb q a now r hs Y F) : ((w.setCell ⟨sb, 15, none⟩ (.int .u32 0)).setCell ⟨sb, 14, none⟩ (.slice none 0 0)).heap[sb]? = some (.cells (stepC mb q a.val0 now r.val0) 79 (0, 0)) := blk_setAt (blk_setAt h.blk _) _
theorem SW.ne_of (h : SW w C sb mb kb q a now r hs Y F) {b : Nat} {cs : Array Value} {e : TypeId} (hb : w.heap[b]? = some (.cells cs e (0, 0))) (he : e ≠ 79) : b ≠ sb := by
  intro e'
  rw [e', h.blk] at hb
  cases hb
  exact he rfl
/-- A key is deleted. -/
theorem SW.del (h : SW w C sb mb kb q a now r hs Y F) (hb : Below w.heap.size w w1) (hf : Frm (fun x => x = kb) w1 w2) (hm : MapAt strV w2 kb (fun k' => if k' = q.key then none else F k')) : Done w w2 C sb mb kb (Y.put q.key [] [] Y.tok) := by
  have hk : ¬ (C kb ∨ w.heap.size ≤ kb) := by
    rintro (e | e)
    · exact h.map.ck e
    · have := h.map.map.lt; omega
  have hC : ∀ b, (C b ∨ w.heap.size ≤ b) → ¬ b = kb := fun b hb e => hk (e ▸ hb)
  refine ⟨(frm_below hb).trans (hf.mono fun b _ e => .inr (.inr e)), _, ⟨?_, hm, fun k => ?_, h.map.tok, ?_, hk, h.map.ne⟩⟩
  · exact (hf.block mb (Nat.lt_of_lt_of_le (blk_lt h.map.blk) hb.size) h.map.ne).trans ((hb.block mb (blk_lt h.map.blk)).trans h.map.blk)
  · unfold St.put
    by_cases e : k = q.key
    · simp only [e, if_true]
      exact ⟨_, _, _, _, _, _, rfl, VersAt.nil _ _, VersAt.nil _ _⟩
    · simp only [e, if_false]
      obtain ⟨a1, n1, c1, a2, n2, c2, eF, g1, g2⟩ := h.map.at_ k
      exact ⟨a1, n1, c1, a2, n2, c2, eF, ((g1.below hb).mono fun b _ hb => .inl hb).frm hf hC, ((g2.below hb).mono fun b _ hb => .inl hb).frm hf hC⟩
  · rintro (e | e)
    · exact h.map.cm e
    · have := blk_lt h.map.blk; omega
theorem SW.dels (h : SW w C sb mb kb q a now r hs Y F) (hb : Below w.heap.size w w1) (ty : TypeId) : ∃ w2, (Builtin.delete_ #[59, 9] ty #[.map (some kb), .string ⟨q.key.toArray⟩]).run Try.prog w1 = .ok (.tuple #[]) w2 ∧ Hid (MapAt strV w2 kb (fun k' => if k' = q.key then none else F k')) ∧ Hid (Frm (fun x => x = kb) w1 w2) := by
  obtain ⟨w2, h1, h2, h3⟩ := (h.map.map.below hb (Nat.le_refl _)).delete strKey Try.underlying59 Try.underlying9 q.key ty 9
  exact ⟨w2, h1, h2, h3⟩
theorem TakeR.of {x : Option St} {e : Ending} (h : SW w C sb mb kb q a now r hs Y F) (hb : Frm (fun b => b = sb) w w1) (hd : TakeR w1 C sb mb kb x e w') : TakeR w C sb mb kb x e w' := by
  cases x with
  | none => exact ⟨hd.1, hb.trans hd.2⟩
  | some Y' => exact ⟨hd.1, Done.of h hb hd.2⟩
end
/-- A row of one version, new. -/
theorem vers_one (w : World) (C : Nat → Prop) (x : Value) (t : Tv) (hx : BytesIn w C x t.val) (hC : C w.heap.size) (hok : Tv.ok t) : VersAt (w.alloc (.cells (boxC x t) 49)) C (.slice (some ⟨w.heap.size, 0, none⟩) 1 1) [t] := by
  have hh := heap_alloc_new w (.cells (boxC x t) 49)
  refine ⟨[(x, t)], rfl, .inr ⟨by simp, w.heap.size, 0, 1, rfl, Nat.le_refl _, by decide, by simp, hC, fun i p hp => ?_⟩, ?_, ?_⟩
  · have hi := (List.getElem?_eq_some_iff.1 hp).1
    obtain rfl : i = 0 := by simp at hi; omega
    simp at hp
    subst hp
    refine ⟨blk_cell hh 0, blk_cell hh 1, blk_cell hh 2, blk_cell hh 3⟩
  · intro p hp
    obtain rfl := List.mem_singleton.1 hp
    exact hx.frm (S := fun _ => False) (frm_below ((Below.refl _ w).alloc (Nat.le_refl _) _)) (fun _ _ h => h)
  · intro p hp
    obtain rfl := List.mem_singleton.1 hp
    exact hok
end Go.Proofs.Ytngpffmgkponfaa
