/- Maps in memory, with whatever values: look-up, store, delete, clear, range. No condition. -/
import Derived.Test.YtngpffmgkponfaaCalm
import Derived.MapKept
import Derived.Maps.RangeRun
set_option linter.unusedVariables false
set_option linter.unusedSimpArgs false
namespace Go.Ice
open Go.MapKept Go.RowKit
open Go.ChangeMaps (setBlock)

/-- Keys of a plain kind. -/
structure KeyFn {κ : Type} (d : TypeDesc) (kf : κ → Value) : Prop where
  is : ∀ k, IsKey d (kf k)
  inj : ∀ a b, kf a = kf b → a = b
  bits : ∀ k, Instr.sameBits 10000 (kf k) (kf k) = true

/-- Block b of w is a map that holds F. -/
structure MapIs {κ : Type} (kf : κ → Value) (w : World) (b : Nat) (es : Array MapEntry) (clock : Nat) (F : κ → Option Value) : Prop where
  heap : w.heap[b]? = some (.map es clock)
  st : Stamped es clock
  key : ∀ x ∈ es.toList, ∃ k, x.key = kf k
  val : ∀ k v, F k = some v ↔ ∃ x ∈ es.toList, x.key = kf k ∧ x.val = v
def MapAt {κ : Type} (kf : κ → Value) (w : World) (b : Nat) (F : κ → Option Value) : Prop := ∃ es clock, MapIs kf w b es clock F

section
variable {κ : Type} {d : TypeDesc} {kf : κ → Value} {w w' : World} {b : Nat} {es : Array MapEntry} {clock : Nat} {F : κ → Option Value} {P : Program} {t kt et : TypeId}

theorem MapAt.lt (h : MapAt kf w b F) : b < w.heap.size := by
  obtain ⟨es, clock, h⟩ := h
  exact (Array.getElem?_eq_some_iff.1 h.heap).1
theorem MapAt.keep (h : MapAt kf w b F) (hb : w'.heap[b]? = w.heap[b]?) : MapAt kf w' b F := by
  obtain ⟨es, clock, h⟩ := h
  exact ⟨es, clock, hb.trans h.heap, h.st, h.key, h.val⟩
theorem MapAt.frm {S : Nat → Prop} (h : MapAt kf w b F) (hf : Frm S w w') (hS : ¬ S b) : MapAt kf w' b F := h.keep (hf.block b h.lt hS)
theorem MapAt.below {B : Nat} (h : MapAt kf w b F) (hb : Below B w w') (hB : w.heap.size ≤ B) : MapAt kf w' b F := h.keep (hb.block b (by have := h.lt; omega))
theorem mapAt_new (kf : κ → Value) (w : World) : MapAt kf (w.alloc (.map #[] 0)) w.heap.size (fun _ => none) :=
  ⟨#[], 0, heap_alloc_new w _, stamped_empty 0, (by simp), fun k v => by simp⟩
theorem nodup_inj {α : Type} {l : List α} (h : l.Nodup) {i j : Nat} (hi : i < l.length) (hj : j < l.length) (e : l[i] = l[j]) : i = j := by
  rw [List.Nodup, List.pairwise_iff_getElem] at h
  rcases Nat.lt_trichotomy i j with h1 | h1 | h1
  · exact absurd e (h i j hi hj h1)
  · exact h1
  · exact absurd e.symm (h j i hj hi h1)
theorem MapIs.uniq (h : MapIs kf w b es clock F) {x y : MapEntry} (hx : x ∈ es.toList) (hy : y ∈ es.toList) (e : x.key = y.key) : x = y := by
  obtain ⟨i, hi, rfl⟩ := List.getElem_of_mem hx
  obtain ⟨j, hj, rfl⟩ := List.getElem_of_mem hy
  have hn := h.st.2.2
  have := nodup_inj (l := es.toList.map (·.key)) hn (i := i) (j := j) (by simpa using hi) (by simpa using hj) (by simpa using e)
  subst this; rfl

theorem MapIs.find (h : MapIs kf w b es clock F) (hK : KeyFn d kf) (hd : P.underlying kt = some d) (k : κ) :
    (F k = none ∧ (∀ w', (Instr.findKey kt (kf k) es.toList).run P w' = .ok none w') ∧ ∀ x ∈ es.toList, x.key ≠ kf k) ∨
    ∃ j e, es[j]? = some e ∧ e.key = kf k ∧ F k = some e.val ∧ ∀ w', (Instr.findKey kt (kf k) es.toList).run P w' = .ok (some (j, e.val)) w' := by
  rcases findNow_spec (hK.is k) es.toList 0 (fun x hx => by obtain ⟨k', e⟩ := h.key x hx; rw [e]; exact hK.is k') with ⟨h1, h2⟩ | ⟨j, e, h1, h2, h3⟩
  · refine .inl ⟨?_, fun w' => run_findKey hd h1, h2⟩
    cases hF : F k with
    | none => rfl
    | some v =>
      obtain ⟨x, hx, hk, _⟩ := (h.val k v).1 hF
      exact absurd hk (h2 x hx)
  · rw [Nat.zero_add] at h1
    refine .inr ⟨j, e, by simpa using h2, h3, (h.val k e.val).2 ⟨e, List.mem_of_getElem? h2, h3, rfl⟩, fun w' => run_findKey hd h1⟩

/-- 'm[k]', 'm[k]' with 'ok'. -/
theorem MapIs.look (h : MapIs kf w b es clock F) (hK : KeyFn d kf) (ht : P.underlying t = some (.map kt et)) (hd : P.underlying kt = some d) {z : Value} (hz : ∀ w, (zeroValue et).run P w = .ok z w) (k : κ) (c : Bool)
    (hw : w'.heap[b]? = w.heap[b]?) : (Instr.lookup t (.map (some b)) (kf k) c).run P w' = .ok (if c then .tuple #[(F k).getD z, .bool (F k).isSome] else (F k).getD z) w' := by
  have hb := hw.trans h.heap
  unfold Instr.lookup
  simp only [Sem.run_bind, run_underlying ht, Result.andThen, MapKept.run_getObj_map hb, Sem.run_pure, run_checkKey hd (hK.is k)]
  rcases h.find (P := P) hK hd k with ⟨h1, h2, _⟩ | ⟨j, e, _, _, h1, h2⟩
  · simp only [h2, hz, Sem.run_pure, Sem.run_bind, Result.andThen, h1]
    cases c <;> rfl
  · simp only [h2, Sem.run_pure, h1]
    cases c <;> rfl
theorem MapAt.look (h : MapAt kf w b F) (hK : KeyFn d kf) (ht : P.underlying t = some (.map kt et)) (hd : P.underlying kt = some d) {z : Value} (hz : ∀ w, (zeroValue et).run P w = .ok z w) (k : κ) (c : Bool)
    (hw : w'.heap[b]? = w.heap[b]?) : (Instr.lookup t (.map (some b)) (kf k) c).run P w' = .ok (if c then .tuple #[(F k).getD z, .bool (F k).isSome] else (F k).getD z) w' := by
  obtain ⟨es, clock, h⟩ := h
  exact h.look hK ht hd hz k c hw

theorem setBlock_frm {o o' : Obj} (hb : w.heap[b]? = some o) : Frm (fun x => x = b) w (setBlock w b o') ∧ (setBlock w b o').heap[b]? = some o' := by
  have h := heap_set (o' := o') hb
  exact ⟨⟨rfl, rfl, rfl, by simp [setBlock], fun k hk hs => h.2 k hs⟩, h.1⟩

/-- 'm[k] = v'. -/
theorem MapIs.update [DecidableEq κ] (h : MapIs kf w b es clock F) (hK : KeyFn d kf) (ht : P.underlying t = some (.map kt et)) (hd : P.underlying kt = some d) (k : κ) (v : Value) :
    ∃ es' clock', (Instr.mapUpdate t (.map (some b)) (kf k) v).run P w = .ok () (setBlock w b (.map es' clock')) ∧ MapIs kf (setBlock w b (.map es' clock')) b es' clock' (fun k' => if k' = k then some v else F k') ∧
      (F k ≠ none → clock' = clock ∧ es'.toList.map (·.born) = es.toList.map (·.born) ∧ es'.toList.map (·.key) = es.toList.map (·.key)) := by
  have hrun : ∀ r, (Instr.findKey kt (kf k) es.toList).run P w = .ok r w → (Instr.mapUpdate t (.map (some b)) (kf k) v).run P w = Sem.run P (match r with
      | some (i, _) => do
        let key ← Instr.keyThatStays (((es[i]?).map (·.key)).getD (kf k)) (kf k)
        setObj b (.map (es.modify i fun e => { e with key, val := v }) clock)
      | none => setObj b (.map (es.push { key := kf k, val := v, born := clock }) (clock + 1))) w := by
    intro r hr
    unfold Instr.mapUpdate
    simp only [Sem.run_bind, run_underlying ht, Result.andThen, MapKept.run_getObj_map h.heap, run_checkKey hd (hK.is k), hr]
    cases r <;> rfl
  rcases h.find (P := P) hK hd k with ⟨h1, h2, h3⟩ | ⟨j, e, hj, hk, h1, h2⟩
  · refine ⟨es.push { key := kf k, val := v, born := clock }, clock + 1, ?_, ⟨(setBlock_frm h.heap).2, stamped_push h.st h3, ?_, ?_⟩, fun hn => absurd h1 hn⟩
    · rw [hrun none (h2 w)]
      exact MapKept.run_setObj_map _ h.heap
    · intro x hx
      simp only [Array.toList_push, List.mem_append, List.mem_singleton] at hx
      rcases hx with hx | rfl
      · exact h.key x hx
      · exact ⟨k, rfl⟩
    · intro k' v'
      simp only [Array.toList_push, List.mem_append, List.mem_singleton]
      by_cases e : k' = k
      · subst e
        rw [if_pos rfl]
        constructor
        · intro hv; cases hv; exact ⟨_, .inr rfl, rfl, rfl⟩
        · rintro ⟨x, hx | rfl, hxk, hxv⟩
          · exact absurd hxk (h3 x hx)
          · rw [← hxv]
      · rw [if_neg e, h.val]
        constructor
        · rintro ⟨x, hx, hxk, hxv⟩; exact ⟨x, .inl hx, hxk, hxv⟩
        · rintro ⟨x, hx | rfl, hxk, hxv⟩
          · exact ⟨x, hx, hxk, hxv⟩
          · exact absurd (hK.inj _ _ hxk.symm) e
  · have hlt : j < es.size := (Array.getElem?_eq_some_iff.1 hj).1
    have hmod : ∀ y, y ∈ (es.modify j fun e => { e with key := kf k, val := v }).toList ↔ y = { e with key := kf k, val := v } ∨ (y ∈ es.toList ∧ y.key ≠ kf k) := by
      intro y
      constructor
      · intro hy
        obtain ⟨i, hi, rfl⟩ := List.getElem_of_mem hy
        simp only [Array.length_toList, Array.size_modify] at hi
        simp only [Array.getElem_toList, Array.getElem_modify]
        by_cases hij : j = i
        · subst hij
          left
          rw [if_pos rfl]
          have : es[j] = e := by rw [Array.getElem?_eq_getElem hlt] at hj; exact Option.some.inj hj
          rw [this]
        · right
          rw [if_neg hij]
          refine ⟨by rw [Array.mem_toList_iff]; exact Array.getElem_mem hi, fun hk' => hij ?_⟩
          have hn := h.st.2.2
          have he : es[j] = e := by rw [Array.getElem?_eq_getElem hlt] at hj; exact Option.some.inj hj
          exact nodup_inj (l := es.toList.map (·.key)) hn (i := j) (j := i) (by simpa using hlt) (by simpa using hi) (by simp [he, hk, hk'])
      · rintro (rfl | ⟨hy, hne⟩)
        · have he : es[j] = e := by rw [Array.getElem?_eq_getElem hlt] at hj; exact Option.some.inj hj
          have : (es.modify j fun e => { e with key := kf k, val := v })[j]'(by simpa using hlt) = { e with key := kf k, val := v } := by simp [Array.getElem_modify, he]
          rw [← this, Array.mem_toList_iff]
          exact Array.getElem_mem _
        · obtain ⟨i, hi, rfl⟩ := List.getElem_of_mem hy
          simp only [Array.length_toList] at hi
          simp only [Array.getElem_toList] at hne ⊢
          have hij : j ≠ i := by
            rintro rfl
            have he : es[j] = e := by rw [Array.getElem?_eq_getElem hlt] at hj; exact Option.some.inj hj
            exact hne (by rw [he, hk])
          have : (es.modify j fun e => { e with key := kf k, val := v })[i]'(by simpa using hi) = es[i] := by simp [Array.getElem_modify, hij]
          rw [← this, Array.mem_toList_iff]
          exact Array.getElem_mem _
    have hkk : ∀ e', es[j]? = some e' → kf k = e'.key := fun e' he' => by rw [hj] at he'; cases he'; exact hk.symm
    refine ⟨es.modify j fun e => { e with key := kf k, val := v }, clock, ?_, ⟨(setBlock_frm h.heap).2, stamped_modify h.st j _ (fun _ _ => rfl) (fun e' _ he' => hkk e' he'), ?_, ?_⟩, fun _ => ⟨rfl, ?_, modify_keys j _ (fun e' he' => hkk e' he')⟩⟩
    · rw [hrun _ (h2 w)]
      simp only [hj, Option.map_some, Option.getD_some, hk, Instr.keyThatStays, hK.bits k, if_true, Sem.run_bind, Sem.run_pure, Result.andThen]
      exact MapKept.run_setObj_map _ h.heap
    · intro x hx
      rcases (hmod x).1 hx with rfl | ⟨hx, _⟩
      · exact ⟨k, rfl⟩
      · exact h.key x hx
    · intro k' v'
      by_cases e' : k' = k
      · subst e'
        rw [if_pos rfl]
        constructor
        · intro hv; cases hv; exact ⟨_, (hmod _).2 (.inl rfl), rfl, rfl⟩
        · rintro ⟨x, hx, hxk, hxv⟩
          rcases (hmod x).1 hx with rfl | ⟨_, hne⟩
          · rw [← hxv]
          · exact absurd hxk hne
      · rw [if_neg e', h.val]
        constructor
        · rintro ⟨x, hx, hxk, hxv⟩; exact ⟨x, (hmod x).2 (.inr ⟨hx, fun q => e' (hK.inj _ _ (hxk.symm.trans q))⟩), hxk, hxv⟩
        · rintro ⟨x, hx, hxk, hxv⟩
          rcases (hmod x).1 hx with rfl | ⟨hx, hne⟩
          · exact absurd (hK.inj _ _ hxk.symm) e'
          · exact ⟨x, hx, hxk, hxv⟩
    · apply List.ext_getElem?
      intro i
      simp only [List.getElem?_map, Array.getElem?_toList, Array.getElem?_modify]
      by_cases hij : j = i
      · subst hij
        cases he : es[j]? with
        | none => simp
        | some e => simp
      · simp [hij]
theorem MapAt.update [DecidableEq κ] (h : MapAt kf w b F) (hK : KeyFn d kf) (ht : P.underlying t = some (.map kt et)) (hd : P.underlying kt = some d) (k : κ) (v : Value) :
    ∃ w', (Instr.mapUpdate t (.map (some b)) (kf k) v).run P w = .ok () w' ∧ MapAt kf w' b (fun k' => if k' = k then some v else F k') ∧ Frm (fun x => x = b) w w' := by
  obtain ⟨es, clock, h⟩ := h
  obtain ⟨es', clock', h1, h2, _⟩ := h.update hK ht hd k v
  exact ⟨_, h1, ⟨es', clock', h2⟩, (setBlock_frm h.heap).1⟩

/-- 'delete(m, k)'. -/
theorem MapAt.delete [DecidableEq κ] (h : MapAt kf w b F) (hK : KeyFn d kf) (ht : P.underlying t = some (.map kt et)) (hd : P.underlying kt = some d) (k : κ) (ty t2 : TypeId) :
    ∃ w', (Builtin.delete_ #[t, t2] ty #[.map (some b), kf k]).run P w = .ok (.tuple #[]) w' ∧ MapAt kf w' b (fun k' => if k' = k then none else F k') ∧ Frm (fun x => x = b) w w' := by
  obtain ⟨es, clock, h⟩ := h
  have hrun : ∀ r, (Instr.findKey kt (kf k) es.toList).run P w = .ok r w → (Builtin.delete_ #[t, t2] ty #[.map (some b), kf k]).run P w = Sem.run P (do
      match r with
      | some (i, _) => setObj b (.map (es.eraseIdxIfInBounds i) clock)
      | none => setObj b (.map es clock)
      pure (.tuple #[])) w := by
    intro r hr
    simp only [Builtin.delete_]
    simp [Sem.run_bind, run_underlying ht, Result.andThen, MapKept.run_getObj_map h.heap, run_checkKey hd (hK.is k), hr]
    cases r <;> rfl
  rcases h.find (P := P) hK hd k with ⟨h1, h2, h3⟩ | ⟨j, e, hj, hk, h1, h2⟩
  · refine ⟨setBlock w b (.map es clock), ?_, ⟨es, clock, (setBlock_frm h.heap).2, h.st, h.key, fun k' v' => ?_⟩, (setBlock_frm h.heap).1⟩
    · rw [hrun none (h2 w)]
      simp only [Sem.run_bind, MapKept.run_setObj_map _ h.heap, Result.andThen, Sem.run_pure]
      rfl
    · by_cases e : k' = k
      · subst e
        rw [if_pos rfl]
        constructor
        · intro hv; cases hv
        · rintro ⟨x, hx, hxk, _⟩; exact absurd hxk (h3 x hx)
      · rw [if_neg e]; exact h.val k' v'
  · have hlt : j < es.size := (Array.getElem?_eq_some_iff.1 hj).1
    have he : es[j] = e := by rw [Array.getElem?_eq_getElem hlt] at hj; exact Option.some.inj hj
    have hmod : ∀ y, y ∈ (es.eraseIdxIfInBounds j).toList ↔ y ∈ es.toList ∧ y.key ≠ kf k := by
      intro y
      have e1 : (es.eraseIdxIfInBounds j).toList = es.toList.eraseIdx j := by
        unfold Array.eraseIdxIfInBounds
        rw [dif_pos hlt]; simp
      rw [e1, List.mem_eraseIdx_iff_getElem]
      constructor
      · rintro ⟨i, hi, hne, rfl⟩
        refine ⟨List.getElem_mem _, fun hk' => hne ?_⟩
        simp only [Array.length_toList] at hi
        exact (nodup_inj (l := es.toList.map (·.key)) h.st.2.2 (i := j) (j := i) (by simpa using hlt) (by simpa using hi) (by simp at hk' ⊢; rw [he, hk, hk'])).symm
      · rintro ⟨hy, hne⟩
        obtain ⟨i, hi, rfl⟩ := List.getElem_of_mem hy
        refine ⟨i, hi, fun q => hne ?_, rfl⟩
        subst q
        simp [he, hk]
    refine ⟨setBlock w b (.map (es.eraseIdxIfInBounds j) clock), ?_, ⟨es.eraseIdxIfInBounds j, clock, (setBlock_frm h.heap).2, stamped_erase h.st j, fun x hx => h.key x ((hmod x).1 hx).1, fun k' v' => ?_⟩, (setBlock_frm h.heap).1⟩
    · rw [hrun _ (h2 w)]
      simp only [Sem.run_bind, MapKept.run_setObj_map _ h.heap, Result.andThen, Sem.run_pure]
      rfl
    · by_cases e' : k' = k
      · subst e'
        rw [if_pos rfl]
        constructor
        · intro hv; cases hv
        · rintro ⟨x, hx, hxk, _⟩; exact absurd hxk ((hmod x).1 hx).2
      · rw [if_neg e', h.val]
        constructor
        · rintro ⟨x, hx, hxk, hxv⟩; exact ⟨x, (hmod x).2 ⟨hx, fun q => e' (hK.inj _ _ (hxk.symm.trans q))⟩, hxk, hxv⟩
        · rintro ⟨x, hx, hxk, hxv⟩; exact ⟨x, ((hmod x).1 hx).1, hxk, hxv⟩

/-- 'clear(m)'. -/
theorem MapAt.clear (h : MapAt kf w b F) (ht : P.underlying t = some (.map kt et)) (ty : TypeId) :
    ∃ w', (Builtin.clear_ #[t] ty #[.map (some b)]).run P w = .ok (.tuple #[]) w' ∧ MapAt kf w' b (fun _ => none) ∧ Frm (fun x => x = b) w w' := by
  obtain ⟨es, clock, h⟩ := h
  refine ⟨setBlock w b (.map #[] clock), ?_, ⟨#[], clock, (setBlock_frm h.heap).2, stamped_empty clock, (by simp), fun k v => by simp⟩, (setBlock_frm h.heap).1⟩
  simp [Builtin.clear_, run_underlying ht, Result.andThen, MapKept.run_getObj_map h.heap, MapKept.run_setObj_map _ h.heap]
  rfl

theorem filter_lt {α : Type} {p q : α → Bool} {l : List α} {e : α} (h : ∀ x, q x = true → p x = true) (he : e ∈ l) (hp : p e = true) (hq : q e = false) : (l.filter q).length < (l.filter p).length := by
  have hle : ∀ l : List α, (l.filter q).length ≤ (l.filter p).length := by
    intro l
    induction l with
    | nil => simp
    | cons y l ih =>
      simp only [List.filter_cons]
      cases hy : q y with
      | true => simp [h y hy, ih]
      | false => cases p y <;> simp <;> omega
  induction l with
  | nil => cases he
  | cons y l ih =>
    rcases List.mem_cons.1 he with rfl | he
    · have := hle l
      rw [List.filter_cons_of_neg (by rw [hq]; simp), List.filter_cons_of_pos hp, List.length_cons]
      omega
    · have := ih he
      simp only [List.filter_cons]
      cases hy : q y with
      | true => simp [h y hy, this]
      | false => cases p y <;> simp <;> omega

/-- Block r of w goes over the map in block b: done tells which keys have come, n how many are left. -/
def MapRg {κ : Type} (kf : κ → Value) (w : World) (b r : Nat) (F : κ → Option Value) (done : κ → Bool) (n : Nat) : Prop :=
  ∃ es clock since seen c0, w.heap[r]? = some (.mapIter (some b) since seen c0) ∧ MapIs kf w b es clock F ∧ (∀ x ∈ es.toList, x.born < since) ∧ since ≤ c0 ∧ since ≤ clock ∧
    (∀ x ∈ es.toList, ∀ k, x.key = kf k → seen.contains x.born = done k) ∧ n = (leftOf es seen).size
theorem MapRg.keep {r n : Nat} {done : κ → Bool} (h : MapRg kf w b r F done n) (hb : w'.heap[b]? = w.heap[b]?) (hr : w'.heap[r]? = w.heap[r]?) : MapRg kf w' b r F done n := by
  obtain ⟨es, clock, since, seen, c0, h1, h2, h3⟩ := h
  exact ⟨es, clock, since, seen, c0, hr.trans h1, ⟨hb.trans h2.heap, h2.st, h2.key, h2.val⟩, h3⟩
theorem MapRg.at {r n : Nat} {done : κ → Bool} (h : MapRg kf w b r F done n) : MapAt kf w b F := by
  obtain ⟨es, clock, since, seen, c0, h1, h2, h3⟩ := h
  exact ⟨es, clock, h2⟩
theorem MapRg.lt {r n : Nat} {done : κ → Bool} (h : MapRg kf w b r F done n) : b < w.heap.size ∧ r < w.heap.size ∧ b ≠ r := by
  have h0 := h.at.lt
  obtain ⟨es, clock, since, seen, c0, h1, h2, h3⟩ := h
  refine ⟨h0, (Array.getElem?_eq_some_iff.1 h1).1, ?_⟩
  rintro rfl
  rw [h2.heap] at h1; cases h1

/-- 'range m'. -/
theorem MapAt.range (h : MapAt kf w b F) (ht : P.underlying t = some (.map kt et)) :
    ∃ n w', (Instr.range t (.map (some b))).run P w = .ok (.pointer (some ⟨w.heap.size, 0, none⟩)) w' ∧ MapRg kf w' b w.heap.size F (fun _ => false) n ∧ Below w.heap.size w w' := by
  have hlt := h.lt
  obtain ⟨es, clock, h⟩ := h
  have hb : Below w.heap.size w (w.alloc (.mapIter (some b) clock #[] clock)) := (Below.refl _ w).alloc (Nat.le_refl _) _
  refine ⟨_, _, run_range_map w t kt et b es clock ht h.heap, ⟨es, clock, clock, #[], clock, heap_alloc_new w _, ⟨(hb.block b hlt).trans h.heap, h.st, h.key, h.val⟩, h.st.1, Nat.le_refl _, Nat.le_refl _, fun x hx k hk => by simp, rfl⟩, hb⟩

/-- A step of the range. -/
theorem MapRg.next [DecidableEq κ] {r n : Nat} {done : κ → Bool} (h : MapRg kf w b r F done n) (hi : ∀ a b, kf a = kf b → a = b) (ty : TypeId) :
    ((∀ k v, F k = some v → done k = true) ∧ (Instr.next (.pointer (some ⟨r, 0, none⟩)) false ty).run P w = .ok (.tuple #[.bool false]) w) ∨
    ∃ k v w' n', F k = some v ∧ done k = false ∧ (Instr.next (.pointer (some ⟨r, 0, none⟩)) false ty).run P w = .ok (.tuple #[.bool true, kf k, v]) w' ∧ MapRg kf w' b r F (fun k' => decide (k' = k) || done k') n' ∧ n' < n ∧ Frm (fun x => x = r) w w' ∧
      (Instr.entry (.pointer (some ⟨r, 0, none⟩))).run P w' = .ok (.tuple #[kf k, v]) w' := by
  have hne := h.lt.2.2
  obtain ⟨es, clock, since, seen, c0, h1, h2, h3, h4, h5, h6, h7⟩ := h
  rcases run_next_at (P := P) w ty r b since c0 seen es clock h1 h2.heap h3 h4 with ⟨g1, g2⟩ | ⟨e, he, w1, hw1, g2⟩
  · refine .inl ⟨fun k v hv => ?_, g2⟩
    obtain ⟨x, hx, hk, _⟩ := (h2.val k v).1 hv
    rw [← h6 x hx k hk]
    have : leftOf es seen = #[] := Array.eq_empty_of_size_eq_zero g1
    unfold leftOf at this
    rw [Array.filter_eq_empty_iff] at this
    have := this (a := x) (by simpa using hx)
    simpa using this
  · have he' : e ∈ es.toList ∧ seen.contains e.born = false := by
      unfold leftOf at he
      simp only [Array.toList_filter, List.mem_filter] at he
      exact ⟨he.1, by simpa using he.2⟩
    obtain ⟨k, hk⟩ := h2.key e he'.1
    have hb1 : w1.heap = w.heap := by rcases hw1 with rfl | rfl <;> rfl
    have hr1 : w1.heap[r]? = some (.mapIter (some b) since seen c0) := by rw [hb1]; exact h1
    have hF : F k = some e.val := (h2.val k _).2 ⟨e, he'.1, hk, rfl⟩
    have hfr : Frm (fun x => x = r) w w1 := by
      rcases hw1 with rfl | rfl
      · exact Frm.refl _ _
      · exact (Frm.refl _ _).drew
    have hst := setBlock_frm (o' := .mapIter (some b) since (seen.push e.born) clock) hr1
    have hb2 : (setBlock w1 r (.mapIter (some b) since (seen.push e.born) clock)).heap[b]? = some (.map es clock) := by
      rw [hst.1.block b (by rw [hb1]; exact (Array.getElem?_eq_some_iff.1 h2.heap).1) hne, hb1]; exact h2.heap
    refine .inr ⟨k, e.val, _, (leftOf es (seen.push e.born)).size, hF, by rw [← h6 e he'.1 k hk]; exact he'.2, by rw [hk] at g2; exact g2, ?_, ?_, hfr.trans hst.1, ?_⟩
    · refine ⟨es, clock, since, seen.push e.born, clock, hst.2, ⟨hb2, h2.st, h2.key, h2.val⟩, h3, h5, h5, fun x hx k' hk' => ?_, rfl⟩
      have h8 := h6 x hx k' hk'
      rw [Array.contains_push, h8]
      by_cases ek : k' = k
      · subst ek
        have : x = e := h2.uniq hx he'.1 (by rw [hk', hk])
        subst this
        simp
      · have hb : x.born ≠ e.born := fun q => ek (by
          obtain ⟨i, hi', rfl⟩ := List.getElem_of_mem hx
          obtain ⟨j, hj', hje⟩ := List.getElem_of_mem he'.1
          have := nodup_inj (l := es.toList.map (·.born)) h2.st.2.1 (i := i) (j := j) (by simpa using hi') (by simpa using hj') (by rw [List.getElem_map, List.getElem_map, hje]; exact q)
          subst this
          rw [hje] at hk'
          exact hi _ _ (hk'.symm.trans hk))
        simp [ek, hb]
    · rw [h7]
      unfold leftOf
      have : (es.filter fun x => !(seen.push e.born).contains x.born).toList.length < (es.filter fun x => !seen.contains x.born).toList.length := by
        simp only [Array.toList_filter]
        refine filter_lt (fun x hx => ?_) he'.1 (by rw [he'.2]; rfl) (by simp)
        rw [Array.contains_push] at hx
        simp only [Bool.not_or, Bool.and_eq_true] at hx
        exact hx.1
      rw [Array.length_toList, Array.length_toList] at this
      exact this
    · have := run_entry_at (P := P) _ r b since seen es clock e hst.2 hb2 he'.1 h2.st.2.1
      rw [hk] at this
      exact this

/-- 'm[k] = v' at a key that is there, while m is gone over. -/
theorem MapRg.update [DecidableEq κ] {r n : Nat} {done : κ → Bool} (h : MapRg kf w b r F done n) (hK : KeyFn d kf) (ht : P.underlying t = some (.map kt et)) (hd : P.underlying kt = some d) (k : κ) (v : Value) (hk : F k ≠ none) :
    ∃ w', (Instr.mapUpdate t (.map (some b)) (kf k) v).run P w = .ok () w' ∧ MapRg kf w' b r (fun k' => if k' = k then some v else F k') done n ∧ Frm (fun x => x = b) w w' := by
  have hlt := h.lt
  obtain ⟨es, clock, since, seen, c0, h1, h2, h3, h4, h5, h6, h7⟩ := h
  obtain ⟨es', clock', g1, g2, g3⟩ := h2.update (P := P) hK ht hd k v
  obtain ⟨rfl, g4, g5⟩ := g3 hk
  have hf := (setBlock_frm (o' := Obj.map es' clock') h2.heap).1
  have hborn : ∀ x ∈ es'.toList, ∃ y ∈ es.toList, y.born = x.born ∧ y.key = x.key := by
    intro x hx
    obtain ⟨i, hi, rfl⟩ := List.getElem_of_mem hx
    have hl : es'.toList.length = es.toList.length := by have := congrArg List.length g4; simpa using this
    refine ⟨es.toList[i], List.getElem_mem _, ?_, ?_⟩
    · have := congrArg (fun l => l[i]?) g4
      simp only [List.getElem?_map, List.getElem?_eq_getElem hi, List.getElem?_eq_getElem (show i < es.toList.length by omega), Option.map_some, Option.some.injEq] at this
      exact this.symm
    · have := congrArg (fun l => l[i]?) g5
      simp only [List.getElem?_map, List.getElem?_eq_getElem hi, List.getElem?_eq_getElem (show i < es.toList.length by omega), Option.map_some, Option.some.injEq] at this
      exact this.symm
  refine ⟨_, g1, ⟨es', clock', since, seen, c0, (hf.block r hlt.2.1 (Ne.symm hlt.2.2)).trans h1, g2, fun x hx => ?_, h4, h5, fun x hx k' hk' => ?_, ?_⟩, hf⟩
  · obtain ⟨y, hy, e1, e2⟩ := hborn x hx
    rw [← e1]; exact h3 y hy
  · obtain ⟨y, hy, e1, e2⟩ := hborn x hx
    rw [← e1]; exact h6 y hy k' (by rw [e2]; exact hk')
  · rw [h7]
    unfold leftOf
    have : ∀ l l' : List MapEntry, l'.map (·.born) = l.map (·.born) → (l'.filter fun e => !seen.contains e.born).length = (l.filter fun e => !seen.contains e.born).length := by
      intro l l' hl
      have : ∀ l : List MapEntry, (l.filter fun e => !seen.contains e.born).length = ((l.map (·.born)).filter fun e => !seen.contains e).length := by
        intro l
        rw [List.filter_map, List.length_map]; rfl
      rw [this, this, hl]
    have h8 := this es.toList es'.toList g4
    rw [← Array.toList_filter, ← Array.toList_filter, Array.length_toList, Array.length_toList] at h8
    exact h8.symm
end
end Go.Ice
