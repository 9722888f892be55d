/- Assertions on memory, each with the blocks that it speaks of: a small separation logic beside the walks. No condition. -/
import Derived.Test.YtjmocjcjiiopnaaGreatLogScans02

section
set_option linter.unusedVariables false
set_option linter.unusedSimpArgs false
namespace Go.Ice
open Go.RowKit

/-- What is said of the blocks of F in a world, and of no others. -/
structure Asn where
  p : (Nat → Prop) → World → Prop
  loc : ∀ (F : Nat → Prop) (w w' : World), p F w → (∀ b, F b → w'.heap[b]? = w.heap[b]?) → p F w'
  inn : ∀ (F : Nat → Prop) (w : World), p F w → ∀ b, F b → b < w.heap.size

/-- All of a list, each of blocks of its own. -/
def Holds : List Asn → (Nat → Prop) → World → Prop
  | [], F, _ => ∀ b, ¬ F b
  | A :: M, F, w => ∃ F1 F2, A.p F1 w ∧ Holds M F2 w ∧ (∀ b, F b ↔ F1 b ∨ F2 b) ∧ ∀ b, F1 b → ¬ F2 b

section
variable {M L L' : List Asn} {F G : Nat → Prop} {w w' : World}
theorem Holds.loc : ∀ {M : List Asn} {F : Nat → Prop} {w w' : World}, Holds M F w → (∀ b, F b → w'.heap[b]? = w.heap[b]?) → Holds M F w'
  | [], F, w, w', h, _ => h
  | A :: M, F, w, w', ⟨F1, F2, h1, h2, h3, h4⟩, hb => ⟨F1, F2, A.loc F1 w w' h1 fun b h => hb b ((h3 b).2 (.inl h)), Holds.loc h2 fun b h => hb b ((h3 b).2 (.inr h)), h3, h4⟩
theorem Holds.inn : ∀ {M : List Asn} {F : Nat → Prop} {w : World}, Holds M F w → ∀ b, F b → b < w.heap.size
  | [], F, w, h, b, hb => absurd hb (h b)
  | A :: M, F, w, ⟨F1, F2, h1, h2, h3, h4⟩, b, hb => ((h3 b).1 hb).elim (A.inn F1 w h1 b) (Holds.inn h2 b)
theorem Holds.congr : ∀ {M : List Asn} {F F' : Nat → Prop} {w : World}, Holds M F w → (∀ b, F' b ↔ F b) → Holds M F' w
  | [], F, F', w, h, e => fun b hb => h b ((e b).1 hb)
  | A :: M, F, F', w, ⟨F1, F2, h1, h2, h3, h4⟩, e => ⟨F1, F2, h1, h2, fun b => (e b).trans (h3 b), h4⟩
theorem Holds.append : ∀ {L M : List Asn} {F : Nat → Prop}, Holds (L ++ M) F w ↔ ∃ F1 F2, Holds L F1 w ∧ Holds M F2 w ∧ (∀ b, F b ↔ F1 b ∨ F2 b) ∧ ∀ b, F1 b → ¬ F2 b
  | [], M, F => ⟨fun h => ⟨fun _ => False, F, fun _ h => h, h, fun b => by simp, fun b h => h.elim⟩, fun ⟨F1, F2, h1, h2, h3, h4⟩ => Holds.congr h2 fun b => by rw [h3 b]; exact ⟨fun h => h.resolve_left (h1 b), .inr⟩⟩
  | A :: L, M, F => by
    constructor
    · rintro ⟨F1, F2, h1, h2, h3, h4⟩
      obtain ⟨G1, G2, g1, g2, g3, g4⟩ := Holds.append.1 h2
      refine ⟨fun b => F1 b ∨ G1 b, G2, ⟨F1, G1, h1, g1, fun b => Iff.rfl, fun b h h' => h4 b h ((g3 b).2 (.inl h'))⟩, g2, fun b => ?_, fun b h h' => ?_⟩
      · rw [h3 b, g3 b, or_assoc]
      · exact h.elim (fun h => h4 b h ((g3 b).2 (.inr h'))) (fun h => g4 b h h')
    · rintro ⟨G1, G2, ⟨F1, F2, h1, h2, h3, h4⟩, g2, g3, g4⟩
      refine ⟨F1, fun b => F2 b ∨ G2 b, h1, Holds.append.2 ⟨F2, G2, h2, g2, fun b => Iff.rfl, fun b h h' => g4 b ((h3 b).2 (.inr h)) h'⟩, fun b => ?_, fun b h h' => ?_⟩
      · rw [g3 b, h3 b, or_assoc]
      · exact h'.elim (fun h' => h4 b h h') (fun h' => g4 b ((h3 b).2 (.inl h)) h')
theorem Holds.perm {M M' : List Asn} (hp : M.Perm M') : ∀ {F : Nat → Prop}, Holds M F w → Holds M' F w := by
  induction hp with
  | nil => exact fun h => h
  | cons A _ ih => exact fun ⟨F1, F2, h1, h2, h3, h4⟩ => ⟨F1, F2, h1, ih h2, h3, h4⟩
  | swap A A' M =>
    rintro F ⟨F1, F2, h1, ⟨G1, G2, g1, g2, g3, g4⟩, h3, h4⟩
    refine ⟨G1, fun b => F1 b ∨ G2 b, g1, ⟨F1, G2, h1, g2, fun b => Iff.rfl, fun b h h' => h4 b h ((g3 b).2 (.inr h'))⟩, fun b => ?_, fun b h h' => ?_⟩
    · rw [h3 b, g3 b]; exact ⟨fun h => h.elim (fun h => .inr (.inl h)) (fun h => h.elim .inl fun h => .inr (.inr h)), fun h => h.elim (fun h => .inr (.inl h)) (fun h => h.elim .inl fun h => .inr (.inr h))⟩
    · exact h'.elim (fun h' => h4 b h' ((g3 b).2 (.inl h))) (fun h' => g4 b h h')
  | trans _ _ ih1 ih2 => exact fun h => ih2 (ih1 h)
theorem Holds.one {A : Asn} (h : A.p F w) : Holds [A] F w := ⟨F, fun _ => False, h, fun _ h => h, fun b => by simp, fun b _ h => h⟩
theorem Holds.of_one {A : Asn} (h : Holds [A] F w) : ∃ F1, A.p F1 w ∧ ∀ b, F b ↔ F1 b := by
  obtain ⟨F1, F2, h1, h2, h3, h4⟩ := h
  exact ⟨F1, h1, fun b => by rw [h3 b]; exact ⟨fun h => h.resolve_right (h2 b), .inl⟩⟩
theorem Holds.mem : ∀ {M : List Asn} {F : Nat → Prop}, Holds M F w → ∀ A ∈ M, ∃ F1, A.p F1 w ∧ ∀ b, F1 b → F b
  | A' :: M, F, ⟨F1, F2, h1, h2, h3, h4⟩, A, hm => by
    rcases List.mem_cons.1 hm with rfl | hm
    · exact ⟨F1, h1, fun b h => (h3 b).2 (.inl h)⟩
    · obtain ⟨G1, g1, g2⟩ := Holds.mem h2 A hm
      exact ⟨G1, g1, fun b h => (h3 b).2 (.inr (g2 b h))⟩
end

/-- Each of a list, of blocks of G (which they may share). -/
def Shares (S : List Asn) (G : Nat → Prop) (w : World) : Prop := ∀ A ∈ S, ∃ F, A.p F w ∧ ∀ b, F b → G b ∧ b < w.heap.size

/-- The state of a walk that began in w0 and may write the blocks of B: it holds M (each of blocks of its own) and S (which nobody writes). -/
structure St (w0 : World) (B : Nat → Prop) (M S : List Asn) (w : World) : Prop where
  ex : ∃ F G, Holds M F w ∧ Shares S G w ∧ (∀ b, F b → ¬ G b) ∧ ∀ b, F b → B b ∨ w0.heap.size ≤ b
  frm : Frm B w0 w

theorem perm_erase : ∀ (M : List Asn) (i : Nat) (h : i < M.length), (M[i] :: M.eraseIdx i).Perm M
  | A :: M, 0, _ => .refl _
  | A :: M, i + 1, h => (List.Perm.swap A _ _).trans (.cons A (perm_erase M i (by simpa using h)))
def pick (M : List Asn) (σ : List Nat) : List Asn := σ.filterMap fun i => M[i]?
theorem pick_perm : ∀ (n : Nat) (σ : List Nat) (M : List Asn), σ.length = n → σ.Nodup → ∃ R, M.Perm (pick M σ ++ R)
  | 0, σ, M, hl, _ => ⟨M, by rw [List.length_eq_zero_iff.1 hl]; exact .refl _⟩
  | n + 1, [], M, hl, _ => by simp at hl
  | n + 1, i :: σ, M, hl, hn => by
    obtain ⟨hi, hn⟩ := List.nodup_cons.1 hn
    by_cases h : i < M.length
    · have hp := perm_erase M i h
      obtain ⟨R, hR⟩ := pick_perm n (σ.map fun j => if j < i then j else j - 1) (M.eraseIdx i) (by simpa using hl) (by
        rw [List.nodup_iff_pairwise_ne, List.pairwise_map]
        refine List.Pairwise.imp_of_mem ?_ (List.nodup_iff_pairwise_ne.1 hn)
        intro a b ha hb hab
        have h1 : a ≠ i := fun e => hi (e ▸ ha)
        have h2 : b ≠ i := fun e => hi (e ▸ hb)
        split <;> split <;> omega)
      have e : pick (M.eraseIdx i) (σ.map fun j => if j < i then j else j - 1) = pick M σ := by
        unfold pick
        have key : ∀ τ : List Nat, (∀ j ∈ τ, j ≠ i) → (τ.map fun j => if j < i then j else j - 1).filterMap (fun k => (M.eraseIdx i)[k]?) = τ.filterMap fun k => M[k]? := by
          intro τ
          induction τ with
          | nil => intro _; rfl
          | cons j τ ih =>
            intro hτ
            have h1 : j ≠ i := hτ j (by simp)
            have h2 : (M.eraseIdx i)[if j < i then j else j - 1]? = M[j]? := by
              rw [List.getElem?_eraseIdx]
              by_cases h3 : j < i
              · simp [h3]
              · simp only [if_neg h3]
                rw [if_neg (by omega)]
                congr 1; omega
            rw [List.map_cons, List.filterMap_cons, List.filterMap_cons, h2, ih fun k hk => hτ k (by simp [hk])]
        exact key σ fun j hj e => hi (e ▸ hj)
      rw [e] at hR
      refine ⟨R, hp.symm.trans ?_⟩
      have : pick M (i :: σ) = M[i] :: pick M σ := by
        unfold pick
        rw [List.filterMap_cons, List.getElem?_eq_getElem h]
      rw [this]
      exact .cons _ hR
    · obtain ⟨R, hR⟩ := pick_perm n σ M (by simpa using hl) hn
      refine ⟨R, ?_⟩
      have : pick M (i :: σ) = pick M σ := by
        unfold pick
        rw [List.filterMap_cons, List.getElem?_eq_none (by omega)]
      rw [this]
      exact hR

/-- From what one says another thing follows, of no more blocks. -/
def Asn.imp (A A' : Asn) : Prop := ∀ F w, A.p F w → ∃ F', A'.p F' w ∧ ∀ b, F' b → F b
theorem Asn.imp.refl (A : Asn) : A.imp A := fun F w h => ⟨F, h, fun _ h => h⟩


theorem Frm.on {w0 w w' : World} {B F : Nat → Prop} (h : Frm B w0 w) (k : Frm F w w') (hF : ∀ b, F b → B b ∨ w0.heap.size ≤ b) : Frm B w0 w' :=
  ⟨k.os.trans h.os, k.tape.trans h.tape, k.output.trans h.output, Nat.le_trans h.size k.size, fun b hb hB => (k.block b (Nat.lt_of_lt_of_le hb h.size) fun e => (hF b e).elim hB fun e => by omega).trans (h.block b hb hB)⟩

section
variable {w0 : World} {B : Nat → Prop} {M L L' S : List Asn} {w w' : World} {A A' : Asn}
theorem St.init (w : World) (S : List Asn) (h : Shares S (fun _ => True) w) : St w (fun _ => False) [] S w :=
  ⟨⟨fun _ => False, fun _ => True, fun _ h => h, h, fun b h => h.elim, fun b h => h.elim⟩, Frm.refl _ _⟩
theorem St.size (h : St w0 B M S w) : w0.heap.size ≤ w.heap.size := h.frm.size
theorem St.below (h : St w0 B M S w) (hb : Below w.heap.size w w') : St w0 B M S w' := by
  obtain ⟨⟨F, G, h1, h2, h3, h4⟩, h5⟩ := h
  refine ⟨⟨F, G, h1.loc fun b hF => hb.block b (h1.inn b hF), fun A hA => ?_, h3, h4⟩, h5.trans (frm_below hb)⟩
  obtain ⟨F1, g1, g2⟩ := h2 A hA
  exact ⟨F1, A.loc F1 w w' g1 fun b hF => hb.block b (g2 b hF).2, fun b hF => ⟨(g2 b hF).1, by have := (g2 b hF).2; have := hb.size; omega⟩⟩
theorem St.drew (h : St w0 B M S w) : St w0 B M S w.drew := h.below (Below.refl _ _).drew
theorem St.drewN (h : St w0 B M S w) (n : Nat) : St w0 B M S (w.drewN n) := h.below (drewN_below w n)
/-- Something becomes of the first ones. -/
theorem St.core {F1 F2 F' G : Nat → Prop} (h5 : Frm B w0 w) (g1 : Holds L F1 w) (g2 : Holds M F2 w) (g4 : ∀ b, F1 b → ¬ F2 b) (h2 : Shares S G w) (h3 : ∀ b, F1 b ∨ F2 b → ¬ G b) (h4 : ∀ b, F1 b ∨ F2 b → B b ∨ w0.heap.size ≤ b)
    (k1 : Holds L' F' w') (k2 : Frm F1 w w') (k3 : ∀ b, F' b → F1 b ∨ w.heap.size ≤ b) : St w0 B (L' ++ M) S w' := by
  have h2' : Shares S (fun b => G b ∧ b < w.heap.size) w' := fun A hA => by
    obtain ⟨E, e1, e2⟩ := h2 A hA
    refine ⟨E, A.loc E w w' e1 fun b hE => k2.block b (e2 b hE).2 fun hF => h3 b (.inl hF) (e2 b hE).1, fun b hE => ⟨e2 b hE, by have := (e2 b hE).2; have := k2.size; omega⟩⟩
  refine ⟨⟨fun b => F' b ∨ F2 b, fun b => G b ∧ b < w.heap.size, Holds.append.2 ⟨F', F2, k1, g2.loc fun b hb => k2.block b (g2.inn b hb) fun hF => g4 b hF hb, fun b => Iff.rfl, fun b hb hb2 => ?_⟩, h2', fun b hb hG => ?_, fun b hb => ?_⟩, h5.on k2 fun b hb => h4 b (.inl hb)⟩
  · rcases k3 b hb with h | h
    · exact g4 b h hb2
    · have := g2.inn b hb2; omega
  · rcases hb with hb | hb
    · rcases k3 b hb with h | h
      · exact h3 b (.inl h) hG.1
      · have := hG.2; omega
    · exact h3 b (.inr hb) hG.1
  · rcases hb with hb | hb
    · rcases k3 b hb with h | h
      · exact h4 b (.inl h)
      · exact .inr (Nat.le_trans h5.size h)
    · exact h4 b (.inr hb)
theorem St.step (h : St w0 B (L ++ M) S w) (hs : ∀ F, Holds L F w → ∃ F', Holds L' F' w' ∧ Frm F w w' ∧ ∀ b, F' b → F b ∨ w.heap.size ≤ b) : St w0 B (L' ++ M) S w' := by
  obtain ⟨⟨F, G, h1, h2, h3, h4⟩, h5⟩ := h
  obtain ⟨F1, F2, g1, g2, g3, g4⟩ := Holds.append.1 h1
  obtain ⟨F', k1, k2, k3⟩ := hs F1 g1
  exact St.core h5 g1 g2 g4 h2 (fun b hb => h3 b ((g3 b).2 hb)) (fun b hb => h4 b ((g3 b).2 hb)) k1 k2 k3
theorem St.perm {M' : List Asn} (hp : M.Perm M') (h : St w0 B M S w) : St w0 B M' S w := by
  obtain ⟨⟨F, G, h1, h2⟩, h5⟩ := h
  exact ⟨⟨F, G, h1.perm hp, h2⟩, h5⟩
theorem St.left {R : List Asn} (h : St w0 B (M ++ R) S w) : St w0 B M S w := by
  obtain ⟨⟨F, G, h1, h2, h3, h4⟩, h5⟩ := h
  obtain ⟨F1, F2, g1, g2, g3, g4⟩ := Holds.append.1 h1
  exact ⟨⟨F1, G, g1, h2, fun b hb => h3 b ((g3 b).2 (.inl hb)), fun b hb => h4 b ((g3 b).2 (.inl hb))⟩, h5⟩
/-- Those of these places, in this order. -/
theorem St.pick (h : St w0 B M S w) (σ : List Nat) (hn : σ.Nodup := by decide) : St w0 B (pick M σ) S w := by
  obtain ⟨R, hR⟩ := pick_perm σ.length σ M rfl hn
  exact (h.perm hR).left
theorem St.tail (h : St w0 B (A :: M) S w) : St w0 B M S w := (h.perm (List.perm_append_comm (l₁ := [A]) (l₂ := M))).left
/-- The one of place i is another one now. -/
theorem St.stepAt (h : St w0 B M S w) (i : Nat) (hi : M[i]? = some A) (hs : ∀ F, A.p F w → ∃ F', A'.p F' w' ∧ Frm F w w' ∧ ∀ b, F' b → F b ∨ w.heap.size ≤ b) : St w0 B (M.set i A') S w' := by
  obtain ⟨hl, rfl⟩ := List.getElem?_eq_some_iff.1 hi
  have h1 : St w0 B ([M[i]] ++ M.eraseIdx i) S w := h.perm (perm_erase M i hl).symm
  have h2 : St w0 B ([A'] ++ M.eraseIdx i) S w' := h1.step fun F hF => by
    obtain ⟨F1, k1, k2⟩ := hF.of_one
    obtain ⟨F', g1, g2, g3⟩ := hs F1 k1
    exact ⟨F', Holds.one g1, g2.mono fun b _ hb => (k2 b).2 hb, fun b hb => (g3 b hb).imp_left (k2 b).2⟩
  refine h2.perm ?_
  have e : (M.set i A').eraseIdx i = M.eraseIdx i := List.eraseIdx_set_eq
  have := perm_erase (M.set i A') i (by simpa using hl)
  rw [e, List.getElem_set_self] at this
  exact this
/-- Something new. -/
theorem St.new (h : St w0 B M S w) (hb : Below w.heap.size w w') {F' : Nat → Prop} (hA : A.p F' w') (hF : ∀ b, F' b → w.heap.size ≤ b) : St w0 B (A :: M) S w' :=
  St.step (L := []) (L' := [A]) (M := M) h fun F _ => ⟨F', Holds.one hA, frm_below hb, fun b hb => .inr (hF b hb)⟩
/-- Something that follows. -/
theorem St.impAt (h : St w0 B M S w) (i : Nat) (hi : M[i]? = some A) (hs : ∀ F, A.p F w → ∃ F', A'.p F' w ∧ ∀ b, F' b → F b) : St w0 B (M.set i A') S w :=
  h.stepAt i hi fun F hF => by
    obtain ⟨F', h1, h2⟩ := hs F hF
    exact ⟨F', h1, Frm.refl _ _, fun b hb => .inl (h2 b hb)⟩
/-- From now on nobody writes it. -/
theorem St.share (h : St w0 B (A :: M) S w) : St w0 B M (A :: S) w := by
  obtain ⟨⟨F, G, ⟨F1, F2, g1, g2, g3, g4⟩, h2, h3, h4⟩, h5⟩ := h
  refine ⟨⟨F2, fun b => G b ∨ F1 b, g2, fun A' hA => ?_, fun b hb hG => ?_, fun b hb => h4 b ((g3 b).2 (.inr hb))⟩, h5⟩
  · rcases List.mem_cons.1 hA with rfl | hA
    · exact ⟨F1, g1, fun b hb => ⟨.inr hb, A'.inn F1 w g1 b hb⟩⟩
    · obtain ⟨E, e1, e2⟩ := h2 A' hA
      exact ⟨E, e1, fun b hb => ⟨.inl (e2 b hb).1, (e2 b hb).2⟩⟩
  · rcases hG with hG | hG
    · exact h3 b ((g3 b).2 (.inr hb)) hG
    · exact g4 b hG hb
theorem St.getS (h : St w0 B M S w) (hA : A ∈ S) : ∃ F, A.p F w := by
  obtain ⟨⟨F, G, h1, h2, h3, h4⟩, h5⟩ := h
  obtain ⟨E, e1, _⟩ := h2 A hA
  exact ⟨E, e1⟩
theorem St.get (h : St w0 B M S w) (i : Nat) (hi : M[i]? = some A) : ∃ F, A.p F w := by
  obtain ⟨⟨F, G, h1, h2, h3, h4⟩, h5⟩ := h
  obtain ⟨E, e1, _⟩ := h1.mem A (List.mem_of_getElem? hi)
  exact ⟨E, e1⟩
/-- What is shared yields something that is shared. -/
theorem St.also (h : St w0 B M S w) (hA : A ∈ S) (hs : ∀ F, A.p F w → ∃ F', A'.p F' w ∧ ∀ b, F' b → F b) : St w0 B M (A' :: S) w := by
  obtain ⟨⟨F, G, h1, h2, h3, h4⟩, h5⟩ := h
  refine ⟨⟨F, G, h1, fun X hX => ?_, h3, h4⟩, h5⟩
  rcases List.mem_cons.1 hX with rfl | hX
  · obtain ⟨E, e1, e2⟩ := h2 A hA
    obtain ⟨E', k1, k2⟩ := hs E e1
    exact ⟨E', k1, fun b hb => e2 b (k2 b hb)⟩
  · exact h2 X hX
theorem St.shares {S' : List Asn} (h : St w0 B M S w) (hS : ∀ A ∈ S', A ∈ S) : St w0 B M S' w := by
  obtain ⟨⟨F, G, h1, h2, h3, h4⟩, h5⟩ := h
  exact ⟨⟨F, G, h1, fun X hX => h2 X (hS X hX), h3, h4⟩, h5⟩
/-- A new start of what is kept. -/
theorem St.from_ (h : St w0 B M S w) : ∃ B', St w B' M S w ∧ ∀ b, B' b → B b ∨ w0.heap.size ≤ b := by
  obtain ⟨⟨F, G, h1, h2, h3, h4⟩, h5⟩ := h
  exact ⟨F, ⟨⟨F, G, h1, h2, h3, fun b hb => .inl hb⟩, Frm.refl _ _⟩, h4⟩
end

/-- What a call comes back with. -/
def Back (w0 : World) (B : Nat → Prop) (S : List Asn) (Q : Value → List Asn → Prop) (e : Ending) (w' : World) : Prop := ∃ v L', e = .returned v ∧ Q v L' ∧ St w0 B L' S w'
theorem Back.mk {w0 w' : World} {B : Nat → Prop} {S L' : List Asn} {Q : Value → List Asn → Prop} {v : Value} (hQ : Q v L') (h : St w0 B L' S w') : Back w0 B S Q (.returned v) w' := ⟨v, L', rfl, hQ, h⟩
/-- A call: what it takes (and may write), what it reads, what comes of it. -/
def Meets (P : Program) (f : FuncId) (args : Array Value) (L S : List Asn) (Q : Value → List Asn → Prop) : Prop :=
  ∀ w B, St w B L S w → Calls P f args w (Back w B S Q)
theorem Meets.call {P : Program} {f : FuncId} {args : Array Value} {L S1 : List Asn} {Q : Value → List Asn → Prop} (hf : Meets P f args L S1 Q) {w0 : World} {B : Nat → Prop} {M S : List Asn} {w : World} (h : St w0 B (L ++ M) S w) (hS : ∀ A ∈ S1, ∃ A' ∈ S ++ M, A'.imp A) :
    Calls P f args w fun e w' => ∃ v L', e = .returned v ∧ Q v L' ∧ St w0 B (L' ++ M) S w' := by
  obtain ⟨⟨F, G, h1, h2, h3, h4⟩, h5⟩ := h
  obtain ⟨F1, F2, g1, g2, g3, g4⟩ := Holds.append.1 h1
  have hs : St w F1 L S1 w := ⟨⟨F1, fun b => G b ∨ F2 b, g1, fun A hA => by
    obtain ⟨A', hA', hi⟩ := hS A hA
    rcases List.mem_append.1 hA' with hA' | hA'
    · obtain ⟨E, e1, e2⟩ := h2 A' hA'
      obtain ⟨E', k1, k2⟩ := hi E w e1
      exact ⟨E', k1, fun b hb => ⟨.inl (e2 b (k2 b hb)).1, (e2 b (k2 b hb)).2⟩⟩
    · obtain ⟨E, e1, e2⟩ := g2.mem A' hA'
      obtain ⟨E', k1, k2⟩ := hi E w e1
      exact ⟨E', k1, fun b hb => ⟨.inr (e2 b (k2 b hb)), A.inn E' w k1 b hb⟩⟩, fun b hb hG => hG.elim (h3 b ((g3 b).2 (.inl hb))) (g4 b hb), fun b hb => .inl hb⟩, Frm.refl _ _⟩
  refine (hf w F1 hs).mono ?_
  rintro e w' ⟨v, L', he, hQ, ⟨⟨F', G', k1, k2, k3, k4⟩, k5⟩⟩
  exact ⟨v, L', he, hQ, St.core h5 g1 g2 g4 h2 (fun b hb => h3 b ((g3 b).2 hb)) (fun b hb => h4 b ((g3 b).2 hb)) k1 k5 k4⟩

/-- A call that takes all that there is. -/
theorem Meets.all {P : Program} {f : FuncId} {args : Array Value} {L S : List Asn} {Q : Value → List Asn → Prop} (hf : Meets P f args L S Q) {w0 : World} {B : Nat → Prop} {w : World} (h : St w0 B L S w) : Calls P f args w (Back w0 B S Q) := by
  refine (hf.call (M := []) (S := S) (by rw [List.append_nil]; exact h) fun A hA => ⟨A, by simpa using hA, Asn.imp.refl A⟩).mono ?_
  rintro e w' ⟨v, L', he, hQ, h'⟩
  exact ⟨v, L', he, hQ, by rwa [List.append_nil] at h'⟩
theorem Meets.call0 {P : Program} {f : FuncId} {args : Array Value} {L S1 : List Asn} {Q : Value → List Asn → Prop} (hf : Meets P f args L S1 Q) {w0 : World} {B : Nat → Prop} {S : List Asn} {w : World} (h : St w0 B L S w) (hS : ∀ A ∈ S1, ∃ A' ∈ S, A'.imp A) :
    Calls P f args w (Back w0 B S Q) := by
  refine (hf.call (M := []) (S := S) (by rw [List.append_nil]; exact h) (by rw [List.append_nil]; exact hS)).mono ?_
  rintro e w' ⟨v, L', he, hQ, h'⟩
  exact ⟨v, L', he, hQ, by rwa [List.append_nil] at h'⟩
theorem sub_imp {S1 S : List Asn} (h : ∀ A ∈ S1, A ∈ S) : ∀ A ∈ S1, ∃ A' ∈ S, A'.imp A := fun A hA => ⟨A, h A hA, Asn.imp.refl A⟩

/-! ### What is said -/
/-- A block of cells, written out. -/
def blkA (b : Nat) (cs : List Value) (ty : TypeId) : Asn := ⟨fun F w => (∀ x, F x ↔ x = b) ∧ w.heap[b]? = some (.cells cs.toArray ty (0, 0)), fun F w w' h e => ⟨h.1, (e b ((h.1 b).2 rfl)).trans h.2⟩, fun F w h b hb => by rw [(h.1 b).1 hb]; exact blk_lt h.2⟩
/-- A block of whatever kind. -/
def objA (b : Nat) (o : Obj) : Asn := ⟨fun F w => (∀ x, F x ↔ x = b) ∧ w.heap[b]? = some o, fun F w w' h e => ⟨h.1, (e b ((h.1 b).2 rfl)).trans h.2⟩, fun F w h b hb => by rw [(h.1 b).1 hb]; exact blk_lt h.2⟩
/-- A slice with its array, to the array's end. -/
def ownA (e size : Nat) (v : Value) (n : Nat) (xs : List Value) : Asn := ⟨fun F w => (∀ x, F x ↔ v.ownBlock = some x) ∧ w.ownsRow 0 e size v n xs, fun F w w' h k => ⟨h.1, own_keep h.2 fun b hb => k b ((h.1 b).2 hb)⟩, fun F w h b hb => (h.2.lt b ((h.1 b).1 hb)).2⟩
theorem isSlK_lt {w : World} {size n b : Nat} {v : Value} {cs : List Value} (h : IsSlK w size n v cs) (hn : n ≠ 0) (hb : v.ownBlock = some b) : b < w.heap.size := by
  rcases h.2 with ⟨h, _⟩ | ⟨_, b', off, cap, hv, _, _, h3, _⟩
  · exact absurd h hn
  · rw [hv] at hb; cases hb; exact h3
theorem isSlK_keep {w w' : World} {size n : Nat} {v : Value} {cs : List Value} (h : IsSlK w size n v cs) (hk : ∀ b, cs ≠ [] → v.ownBlock = some b → w'.heap[b]? = w.heap[b]?) (h0 : 0 < size) : IsSlK w' size n v cs := by
  obtain ⟨hl, h⟩ := h
  refine ⟨hl, ?_⟩
  rcases h with h | ⟨h0', b, off, cap, hv, h1, h2, h3, h4⟩
  · exact .inl h
  · have hne : cs ≠ [] := fun e => by
      rw [e] at hl
      have : 0 < n * size := Nat.mul_pos h0' h0
      simp at hl; omega
    have e := hk b hne (by rw [hv]; rfl)
    refine .inr ⟨h0', b, off, cap, hv, h1, h2, ?_, fun j hj => by rw [World.cell?_of_block (w := w) (a := ⟨b, off + j, none⟩) e]; exact h4 j hj⟩
    rcases Nat.lt_or_ge b w'.heap.size with h | h
    · exact h
    · rw [Array.getElem?_eq_none h, Array.getElem?_eq_getElem h3] at e; cases e
/-- Bytes that one may read. -/
def bytA (v : Value) (l : List UInt8) : Asn := ⟨fun F w => (∀ x, F x ↔ l ≠ [] ∧ v.ownBlock = some x) ∧ BytesAt w v l, fun F w w' h k => ⟨h.1, by
    rcases h.2 with h2 | ⟨h0, b, off, cap, hv, h1, h2, h3, h4⟩
    · exact .inl h2
    · have hne : l ≠ [] := fun e => by simp [e] at h0
      have e := k b ((h.1 b).2 ⟨hne, by rw [hv]; rfl⟩)
      refine .inr ⟨h0, b, off, cap, hv, h1, h2, ?_, fun j hj => by rw [World.cell?_of_block (w := w) (a := ⟨b, off + j, none⟩) e]; exact h4 j hj⟩
      rcases Nat.lt_or_ge b w'.heap.size with h | h
      · exact h
      · rw [Array.getElem?_eq_none h, Array.getElem?_eq_getElem h3] at e; cases e⟩, fun F w h b hb => by
    obtain ⟨h1, h2⟩ := (h.1 b).1 hb
    rcases h.2 with ⟨h, _⟩ | ⟨_, b', off, cap, hv, _, _, h3, _⟩
    · simp at h; exact absurd h h1
    · rw [hv] at h2; cases h2; exact h3⟩
/-- A plain fact. -/
def purA (φ : Prop) : Asn := ⟨fun F _ => φ ∧ ∀ b, ¬ F b, fun _ _ _ h _ => h, fun F w h b hb => absurd hb (h.2 b)⟩
def sepA (L : List Asn) : Asn := ⟨Holds L, fun _ _ _ h e => h.loc e, fun _ _ h => h.inn⟩
def exA {T : Type} (f : T → Asn) : Asn := ⟨fun F w => ∃ x, (f x).p F w, fun F w w' ⟨x, h⟩ e => ⟨x, (f x).loc F w w' h e⟩, fun F w ⟨x, h⟩ => (f x).inn F w h⟩

section
variable {w0 : World} {B : Nat → Prop} {M L L' S : List Asn} {w w' : World} {A A' : Asn}
theorem St.open_ {T : Type} {f : T → Asn} (h : St w0 B (exA f :: M) S w) : ∃ x, St w0 B (f x :: M) S w := by
  obtain ⟨⟨F, G, ⟨F1, F2, ⟨x, g1⟩, g2, g3, g4⟩, h2, h3, h4⟩, h5⟩ := h
  exact ⟨x, ⟨F, G, ⟨F1, F2, g1, g2, g3, g4⟩, h2, h3, h4⟩, h5⟩
theorem St.close_ {T : Type} {f : T → Asn} (x : T) (h : St w0 B (f x :: M) S w) : St w0 B (exA f :: M) S w := by
  obtain ⟨⟨F, G, ⟨F1, F2, g1, g2, g3, g4⟩, h2, h3, h4⟩, h5⟩ := h
  exact ⟨⟨F, G, ⟨F1, F2, ⟨x, g1⟩, g2, g3, g4⟩, h2, h3, h4⟩, h5⟩
theorem St.flat (h : St w0 B (sepA L :: M) S w) : St w0 B (L ++ M) S w := by
  obtain ⟨⟨F, G, ⟨F1, F2, g1, g2, g3, g4⟩, h2, h3, h4⟩, h5⟩ := h
  exact ⟨⟨F, G, Holds.append.2 ⟨F1, F2, g1, g2, g3, g4⟩, h2, h3, h4⟩, h5⟩
theorem St.bind (h : St w0 B (L ++ M) S w) : St w0 B (sepA L :: M) S w := by
  obtain ⟨⟨F, G, h1, h2, h3, h4⟩, h5⟩ := h
  obtain ⟨F1, F2, g1, g2, g3, g4⟩ := Holds.append.1 h1
  exact ⟨⟨F, G, ⟨F1, F2, g1, g2, g3, g4⟩, h2, h3, h4⟩, h5⟩
theorem St.pur {φ : Prop} (h : St w0 B (purA φ :: M) S w) : φ ∧ St w0 B M S w := by
  refine ⟨?_, h.tail⟩
  obtain ⟨⟨F, G, ⟨F1, F2, g1, _⟩, _⟩, _⟩ := h
  exact g1.1
theorem St.addPur {φ : Prop} (h : St w0 B M S w) (hφ : φ) : St w0 B (purA φ :: M) S w :=
  h.new (Below.refl _ _) (F' := fun _ => False) ⟨hφ, fun _ h => h⟩ (fun _ h => h.elim)
/-- A new block. -/
theorem St.alloc (h : St w0 B M S w) (cs : List Value) (ty : TypeId) : St w0 B (blkA w.heap.size cs ty :: M) S (w.alloc (.cells cs.toArray ty)) :=
  h.new ((Below.refl _ _).alloc (Nat.le_refl _) _) (F' := fun b => b = w.heap.size) ⟨fun _ => Iff.rfl, heap_alloc_new _ _⟩ (fun b e => by rw [e]; exact Nat.le_refl _)
theorem St.heap {b : Nat} {cs : List Value} {ty : TypeId} (h : St w0 B M S w) (i : Nat) (hi : M[i]? = some (blkA b cs ty) := by rfl) : w.heap[b]? = some (.cells cs.toArray ty (0, 0)) := by
  obtain ⟨F, hF⟩ := h.get i hi
  exact hF.2
theorem St.cells {b : Nat} {cs : List Value} {ty : TypeId} (h : St w0 B M S w) (i : Nat) (hi : M[i]? = some (blkA b cs ty) := by rfl) : (∀ k, w.cell? ⟨b, k, none⟩ = cs[k]?) ∧ (∀ k, w.frozen? ⟨b, k, none⟩ = false) :=
  ⟨fun k => by rw [blk_cell (h.heap i hi)]; simp, fun k => blk_frozen (h.heap i hi) k⟩
theorem St.lt {b : Nat} {cs : List Value} {ty : TypeId} (h : St w0 B M S w) (i : Nat) (hi : M[i]? = some (blkA b cs ty) := by rfl) : b < w.heap.size := blk_lt (h.heap i hi)
/-- A store. -/
theorem St.set_ {b : Nat} {cs : List Value} {ty : TypeId} (h : St w0 B M S w) (i k : Nat) (v : Value) (hi : M[i]? = some (blkA b cs ty) := by rfl) : St w0 B (M.set i (blkA b (cs.set k v) ty)) S (w.setCell ⟨b, k, none⟩ v) :=
  h.stepAt i hi fun F hF => ⟨F, ⟨hF.1, by have := blk_setAt (k := k) hF.2 v; rwa [List.setIfInBounds_toArray] at this⟩, (setCell_frm1 w b k v).mono fun x _ hx => (hF.1 x).2 hx, fun x hx => .inl hx⟩
theorem St.set0 {b : Nat} {cs : List Value} {ty : TypeId} (h : St w0 B (blkA b cs ty :: M) S w) (k : Nat) (v : Value) : St w0 B (blkA b (cs.set k v) ty :: M) S (w.setCell ⟨b, k, none⟩ v) := h.set_ 0 k v rfl
theorem St.set1 {b : Nat} {cs : List Value} {ty : TypeId} (h : St w0 B (A :: blkA b cs ty :: M) S w) (k : Nat) (v : Value) : St w0 B (A :: blkA b (cs.set k v) ty :: M) S (w.setCell ⟨b, k, none⟩ v) := h.set_ 1 k v rfl
theorem St.set2 {A2 : Asn} {b : Nat} {cs : List Value} {ty : TypeId} (h : St w0 B (A :: A2 :: blkA b cs ty :: M) S w) (k : Nat) (v : Value) : St w0 B (A :: A2 :: blkA b (cs.set k v) ty :: M) S (w.setCell ⟨b, k, none⟩ v) := h.set_ 2 k v rfl
theorem St.swap (h : St w0 B (A :: A' :: M) S w) : St w0 B (A' :: A :: M) S w := h.perm (.swap _ _ _)
/-- The third to the front. -/
theorem St.rot3 {A2 : Asn} (h : St w0 B (A :: A' :: A2 :: M) S w) : St w0 B (A2 :: A :: A' :: M) S w := h.perm ((List.Perm.cons _ (.swap _ _ _)).trans (.swap _ _ _))
theorem St.rot4 {A2 A3 : Asn} (h : St w0 B (A :: A' :: A2 :: A3 :: M) S w) : St w0 B (A3 :: A :: A' :: A2 :: M) S w := h.perm ((List.Perm.cons _ (.cons _ (.swap _ _ _))).trans ((List.Perm.cons _ (.swap _ _ _)).trans (.swap _ _ _)))
/-- A store of many cells. -/
theorem St.sets {b : Nat} {cs : List Value} {ty : TypeId} (h : St w0 B M S w) (i o : Nat) (vs : List Value) (ho : o + vs.length ≤ cs.length) (hi : M[i]? = some (blkA b cs ty) := by rfl) : St w0 B (M.set i (blkA b (cs.take o ++ vs ++ cs.drop (o + vs.length)) ty)) S (w.setCells b o vs) :=
  h.stepAt i hi fun F hF => ⟨F, ⟨hF.1, blk_setCells (w := w) vs o cs w hF.2 ho⟩, (frm_setCells w b vs o).mono fun x _ hx => (hF.1 x).2 hx, fun x hx => .inl hx⟩
theorem St.own {e size n : Nat} {v : Value} {xs : List Value} (h : St w0 B M S w) (i : Nat) (hi : M[i]? = some (ownA e size v n xs) := by rfl) : w.ownsRow 0 e size v n xs := by
  obtain ⟨F, hF⟩ := h.get i hi
  exact hF.2
theorem St.bytes {v : Value} {l : List UInt8} (h : St w0 B M S w) (i : Nat) (hi : S[i]? = some (bytA v l) := by rfl) : BytesAt w v l := by
  obtain ⟨F, hF⟩ := h.getS (List.mem_of_getElem? hi)
  exact hF.2
/-- A new row. -/
theorem St.newOwn {e size n : Nat} {v : Value} {xs : List Value} (h : St w0 B M S w) (hb : Below w.heap.size w w') (ho : w'.ownsRow w.heap.size e size v n xs) : St w0 B (ownA e size v n xs :: M) S w' :=
  h.new hb (F' := fun b => v.ownBlock = some b) ⟨fun _ => Iff.rfl, own_base ho (Nat.zero_le _)⟩ (fun b hb => (ho.lt b hb).1)
/-- An append to one's own. -/
theorem St.app {P : Program} {t ty e size bytes : Nat} {z : Value} (E : Elem P t e size bytes z) {n m : Nat} {v x : Value} {xs news : List Value} (h : St w0 B M S w) (i : Nat) (hi : M[i]? = some (ownA e size v n xs)) (hx : IsSlK w size m x news) (h1 : ∀ u ∈ news, u.oneCell' = true) (hroom : (n + m) * bytes ≤ 140737488355328) (h63 : n + m ≤ maxLen) :
    ∃ v' w', (Builtin.append_ #[t, t] ty #[v, x]).run P w = .ok v' w' ∧ St w0 B (M.set i (ownA e size v' (n + m) (xs ++ news))) S w' := by
  obtain ⟨v', w', hr, h2, h3, h4⟩ := app_at (ty := ty) E (h.own i hi) hx h1 hroom h63 (Nat.zero_le _)
  refine ⟨v', w', hr, h.stepAt i hi fun F hF => ⟨fun b => v'.ownBlock = some b, ⟨fun _ => Iff.rfl, h2⟩, ⟨h3.os, h3.tape, h3.output, h3.size, fun k hk hF' => h3.block k hk fun e => hF' ((hF.1 k).2 e.symm)⟩, fun b hb => ?_⟩⟩
  rcases h4 with h4 | h4
  · exact .inl ((hF.1 b).2 (h4 ▸ hb))
  · rw [h4] at hb; cases hb; exact .inr (Nat.le_refl _)
theorem own_imp_byt (v : Value) (l : List UInt8) : (ownA 5 1 v l.length (l.map u8v)).imp (bytA v l) := fun F w h => ⟨fun b => l ≠ [] ∧ v.ownBlock = some b, ⟨fun _ => Iff.rfl, own_isSl h.2⟩, fun b hb => (h.1 b).2 hb.2⟩
/-- The end: what was there is as it was. -/
theorem St.done (h : St w0 (fun _ => False) M S w) : Below w0.heap.size w0 w := h.frm.below (fun _ _ h => h) (Nat.le_refl _)
theorem St.doneOwn {e size n : Nat} {v : Value} {xs : List Value} (h : St w0 (fun _ => False) M S w) (i : Nat) (hi : M[i]? = some (ownA e size v n xs) := by rfl) : w.ownsRow w0.heap.size e size v n xs := by
  obtain ⟨⟨F, G, h1, h2, h3, h4⟩, h5⟩ := h
  obtain ⟨E, e1, e2⟩ := h1.mem _ (List.mem_of_getElem? hi)
  obtain ⟨k1, k2⟩ := e1.2
  refine ⟨k1, k2.imp_right ?_⟩
  rintro ⟨g, cap, cur, hv, _, r⟩
  refine ⟨g, cap, cur, hv, ?_, r⟩
  exact (h4 g (e2 g ((e1.1 g).2 (by rw [hv]; rfl)))).resolve_left id
end
/-- The world behind a name, inside a plain region. -/
theorem wpl_world {P : Program} {ops : Array Oper} {l : List Oper} {Q : Exit → Act → World → Prop} {a : Act} {w : World} (R : World → Prop) (h : R w) (k : ∀ w', R w' → wpList P ops Q l a w') : wpList P ops Q l a w := k w h
end Go.Ice
end
