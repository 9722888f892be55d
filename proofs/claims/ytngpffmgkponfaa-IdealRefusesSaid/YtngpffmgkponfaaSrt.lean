/- slices.SortFunc at versions (by the shelf's contract); ideal.sorted. Conditions: the versions lie in memory, not more than a thousand. -/
import Derived.Test.YtngpffmgkponfaaCpt
import Derived.Test.YtngpffmgkponfaaShelf
set_option linter.unusedVariables false
set_option linter.unusedSimpArgs false
namespace Go.Proofs.Ytngpffmgkponfaa
open Go.RowKit Go.Ice Go.Idl

theorem mapBlock_other (w : World) (blk k : Nat) (f : Array Value → Array Value) (h : k ≠ blk) : (Go.Sort.mapBlock w blk f).heap[k]? = w.heap[k]? := by
  unfold Go.Sort.mapBlock
  simp [Array.getElem?_modify, Ne.symm h]
theorem sortWorld_frm {α : Type} [Inhabited α] (enc : α → List Value) (k : Nat) (w : World) (G off m : Nat) (dk : Array α) (os : Array Obj) : Frm (fun x => x = G) w (Go.Proofs.sortWorldK enc k w G off m dk os) := by
  unfold Go.Proofs.sortWorldK Go.Sort.putRowK Go.Sort.putRow
  refine ⟨rfl, rfl, rfl, ?_, fun j hj hs => ?_⟩
  · rw [Go.Sort.size_grow]
    have : (Go.Sort.mapBlock (Go.Sort.ahead w m) G (Go.Sort.putCells id off (Go.Sort.flatK enc k dk))).heap.size = w.heap.size := by simp [Go.Sort.mapBlock]
    omega
  · rw [Go.Sort.heap_grow_old _ _ (by simp [Go.Sort.mapBlock]; exact hj), mapBlock_other _ _ _ _ hs]
    rfl
theorem sortWorld_blk {α : Type} [Inhabited α] (enc : α → List Value) (k : Nat) (w : World) (G off m : Nat) (dk : Array α) (os : Array Obj) {e : TypeId} {s : Nat} (h : Blk w G e s) : Blk (Go.Proofs.sortWorldK enc k w G off m dk os) G e s := by
  obtain ⟨c, h1, h2⟩ := h
  have hlt : G < w.heap.size := (Array.getElem?_eq_some_iff.1 h1).1
  unfold Go.Proofs.sortWorldK Go.Sort.putRowK Go.Sort.putRow
  refine ⟨Go.Sort.putCells id off (Go.Sort.flatK enc k dk) c, ?_, by simp [Go.Sort.putCells]; exact h2⟩
  rw [Go.Sort.heap_grow_old _ _ (by simp [Go.Sort.mapBlock]; exact hlt)]
  have h1' : (Go.Sort.ahead w m).heap[G]? = some (.cells c e (0, 0)) := h1
  simp [Go.Sort.mapBlock, Array.getElem?_modify, h1', Go.Sort.onCells]
  exact ⟨_, h1, rfl⟩

set_option maxHeartbeats 4000000 in
theorem sort37 (w : World) (G n cap : Nat) (rl : List (Value × Tv)) (hn : rl.length = n) (h0 : 0 < n) (hm : n ≤ 1000000) (hblk : Blk w G 49 (n * 4)) (hrow : RowR w G 0 rl) (hel : ∀ p ∈ rl, BytesIn w (fun b => b ≠ G) p.1 p.2.val) :
    Calls Try.prog 37 #[.slice (some ⟨G, 0, none⟩) n cap, .func (.func 38) #[] #[]] w fun e w' => e = .returned (.tuple #[]) ∧ ∃ rl2 : List (Value × Tv), rl2.Perm rl ∧ (rl2.map Prod.snd).Pairwise (fun a b => ¬ ltT b a) ∧ Frm (fun x => x = G) w w' ∧ Blk w' G 49 (n * 4) ∧ RowR w' G 0 rl2 := by
  let α := {p : Value × Tv // BytesIn w (fun b => b ≠ G) p.1 p.2.val}
  have hlt : G < w.heap.size := by obtain ⟨c, h1, _⟩ := hblk; exact (Array.getElem?_eq_some_iff.1 h1).1
  obtain ⟨p0, hp0⟩ : ∃ p, p ∈ rl := by
    cases rl with
    | nil => simp at hn; omega
    | cons p r => exact ⟨p, by simp⟩
  haveI : Inhabited α := ⟨⟨p0, hel p0 hp0⟩⟩
  let d : Array α := (rl.attach.map fun p => (⟨p.1, hel p.1 p.2⟩ : α)).toArray
  have hd : d.size = n := by simp [d, hn]
  have hdm : d.toList.map (fun x => x.1) = rl := by
    show ((rl.attach.map fun p => (⟨p.1, hel p.1 p.2⟩ : α)).map (fun x => x.1)) = rl
    rw [List.map_map]
    exact List.attach_map_subtype_val rl
  let enc : α → List Value := fun x => encR x.1
  let cf : α → α → Int := fun x y => cmpT x.1.2 y.1.2
  have hget : ∀ i, i < n → rl[i]? = some (d[i]!).1 := by
    intro i hi
    rw [← hdm, List.getElem?_map, getElem!_pos d i (by omega)]
    simp [hd, hi]
  have hH : Go.Sort.HoldsK enc 4 w G 0 d := by
    intro j hj
    have hj' : j < n * 4 := by rw [← hd]; simpa using hj
    refine ⟨?_, by rw [Nat.zero_add]; exact (hblk.cell j hj').2⟩
    rw [Go.Sort.get_flatK enc 4 d j (by rw [hd]; exact hj')]
    have hi : j / 4 < n := by omega
    have h6 := hrow (j / 4) _ (hget _ hi)
    show _ = some ((encR (d[j / 4]!).1)[j % 4]!)
    have : j % 4 = 0 ∨ j % 4 = 1 ∨ j % 4 = 2 ∨ j % 4 = 3 := by omega
    rcases this with r | r | r | r
    · rw [show 0 + j = 0 + j / 4 * 4 by omega, r]; exact h6.1
    · rw [show 0 + j = 0 + j / 4 * 4 + 1 by omega, r]; exact h6.2.1
    · rw [show 0 + j = 0 + j / 4 * 4 + 2 by omega, r]; exact h6.2.2.1
    · rw [show 0 + j = 0 + j / 4 * 4 + 3 by omega, r]; exact h6.2.2.2
  have eg : ∀ args w, (callFunc 38 args).run Try.prog w = .ok (.enter 38 args) w := enters_of Try.func38 (by kernel_rfl) rfl
  have hcmp : CmpLays Try.prog 38 #[] enc 4 cf G 0 d.size w := by
    intro m os dk _ x y
    have hf := sortWorld_frm enc 4 w G 0 m dk os
    exact compare38 _ x.1.1 y.1.1 x.1.2 y.1.2 (x.2.frm hf (fun b h => h)).1 (y.2.frm hf (fun b h => h)).1
  have hcon := AnyQ.slices_SortFunc Try.sortL 4 (fun _ => by kernel_rfl) (fun _ => by kernel_rfl) enc (fun x => rfl) (fun x v hv => by
    obtain ⟨a, c, e, _⟩ := x.2.1.form
    have hv : v ∈ encR x.1 := hv
    simp only [encR, e, List.mem_cons, List.mem_nil_iff, or_false] at hv
    rcases hv with rfl | rfl | rfl | rfl <;> rfl) cf (swoT (fun x : α => x.1.2)) 38 #[] G 0 cap d w eg hcmp hH hlt (by omega)
  rw [hd] at hcon
  change Calls Try.prog 37 _ _ _ at hcon
  refine hcon.mono ?_
  rintro e w' ⟨rfl, d', q, os, hp, hs, rfl⟩
  have hsz : d'.size = n := by have := hp.1; omega
  have hperm : d'.toList.Perm d.toList := by
    have := hp.2.2
    have e1 : d'.extract 0 n = d' := by rw [← hsz]; simp
    have e2 : d.extract 0 n = d := by rw [← hd]; simp
    rwa [e1, e2] at this
  refine ⟨rfl, d'.toList.map (fun x => x.1), by rw [← hdm]; exact hperm.map _, ?_, sortWorld_frm _ _ _ _ _ _ _ _, sortWorld_blk _ _ _ _ _ _ _ _ hblk, ?_⟩
  · rw [List.map_map, List.pairwise_iff_getElem]
    intro i j hi hj hij
    simp only [List.length_map, Array.length_toList] at hi hj
    have h := hs i j (Nat.zero_le _) hij (by omega)
    rw [getElem!_pos d' j (by omega), getElem!_pos d' i (by omega)] at h
    simp only [List.getElem_map, Array.getElem_toList]
    exact of_decide_eq_false h
  · intro i p hp
    have hi : i < n := by have := (List.getElem?_eq_some_iff.1 hp).1; simp at this; omega
    rw [List.getElem?_map, Array.getElem?_toList, Array.getElem?_eq_getElem (by omega)] at hp
    simp at hp
    have hH' := holdsK_sortWorldK_c enc 4 w G 0 d d' q os hH hlt (by omega)
    have hc : ∀ j, j < 4 → (Go.Proofs.sortWorldK enc 4 w G 0 q d' os).cell? ⟨G, 0 + i * 4 + j, none⟩ = some ((encR p)[j]!) := by
      intro j hj
      have h1 := (hH' (i * 4 + j) (by rw [Go.Sort.size_flatK]; omega)).1
      rw [Go.Sort.get_flatK enc 4 d' _ (by omega)] at h1
      rw [Nat.add_assoc, h1]
      have e1 : (i * 4 + j) / 4 = i := by omega
      have e2 : (i * 4 + j) % 4 = j := by omega
      rw [e1, e2, getElem!_pos d' i (by omega)]
      show some ((encR _)[j]!) = _
      rw [hp]
    exact ⟨hc 0 (by omega), hc 1 (by omega), hc 2 (by omega), hc 3 (by omega)⟩
end Go.Proofs.Ytngpffmgkponfaa
