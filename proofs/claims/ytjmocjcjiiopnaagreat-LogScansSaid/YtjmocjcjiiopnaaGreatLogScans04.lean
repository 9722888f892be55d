/- Rows of structs and arrays as lists of elements, each of as many cells; what is owned so. No condition. Numbers as bytes. Conditions: the slice lies in memory; numbers fit. -/
import Derived.Test.YtjmocjcjiiopnaaGreatLogScans03
import Derived.StillTailTactics

section
set_option linter.unusedVariables false
set_option linter.unusedSimpArgs false
namespace Go.Ice
open Go.RowKit
section
variable {T : Type} {f : T → List Value} {c : Nat}
theorem flatMap_len : ∀ {l : List T}, (∀ x ∈ l, (f x).length = c) → (l.flatMap f).length = l.length * c
  | [], _ => by simp
  | x :: l, h => by
    rw [List.flatMap_cons, List.length_append, h x (by simp), flatMap_len fun y hy => h y (by simp [hy]), List.length_cons, Nat.succ_mul]; omega
theorem flatMap_get : ∀ {l : List T}, (∀ x ∈ l, (f x).length = c) → ∀ {k j : Nat} {x : T}, l[k]? = some x → j < c → (l.flatMap f)[k * c + j]? = (f x)[j]?
  | [], _, k, j, x, h, _ => by simp at h
  | y :: l, h, 0, j, x, hx, hj => by
    simp at hx; subst hx
    rw [List.flatMap_cons, Nat.zero_mul, Nat.zero_add, List.getElem?_append_left (by rw [h y (by simp)]; exact hj)]
  | y :: l, h, k + 1, j, x, hx, hj => by
    have hy := h y (by simp)
    rw [List.flatMap_cons, List.getElem?_append_right (by rw [hy, Nat.succ_mul]; omega), hy, show (k + 1) * c + j - c = k * c + j by rw [Nat.succ_mul]; omega]
    exact flatMap_get (fun z hz => h z (by simp [hz])) (by simpa using hx) hj
theorem flatMap_set : ∀ {l : List T}, (∀ x ∈ l, (f x).length = c) → ∀ {k : Nat} {y : T}, k < l.length → (f y).length = c → (l.flatMap f).take (k * c) ++ f y ++ (l.flatMap f).drop (k * c + c) = (l.set k y).flatMap f
  | [], _, k, y, h, _ => by simp at h
  | x :: l, h, 0, y, _, hy => by
    have hx := h x (by simp)
    rw [List.flatMap_cons, Nat.zero_mul, List.take_zero, List.nil_append, Nat.zero_add, List.set_cons_zero, List.flatMap_cons, List.drop_append, hx, Nat.sub_self, List.drop_zero, List.drop_of_length_le (by omega), List.nil_append]
  | x :: l, h, k + 1, y, hk, hy => by
    have hx := h x (by simp)
    have ih := flatMap_set (fun z hz => h z (by simp [hz])) (l := l) (k := k) (y := y) (by simpa using hk) hy
    rw [List.set_cons_succ, List.flatMap_cons, List.flatMap_cons, ← ih, Nat.succ_mul, List.take_append, List.drop_append, hx, List.take_of_length_le (by omega), List.drop_of_length_le (by omega), show k * c + c - c = k * c by omega, show k * c + c + c - c = k * c + c by omega]
    simp
end
theorem rangeAt_flat {T : Type} {f : T → List Value} {c : Nat} {w : World} {b : Nat} {l : List T} (h : w.rangeAt b 0 (l.flatMap f)) (hc : ∀ x ∈ l, (f x).length = c) {k : Nat} {x : T} (hx : l[k]? = some x) : w.rangeAt b (k * c) (f x) := fun j v hv => by
  have hj : j < c := by rw [← hc x (List.mem_of_getElem? hx)]; exact (List.getElem?_eq_some_iff.1 hv).1
  have := h (k * c + j) v (by rw [flatMap_get hc hx hj]; exact hv)
  rwa [Nat.zero_add] at this
theorem own_range {w : World} {base e size n g cap : Nat} {xs : List Value} (h : w.ownsRow base e size (.slice (some ⟨g, 0, none⟩) n cap) n xs) : w.rangeAt g 0 xs := fun j v hv => by
  rw [Nat.zero_add, ← hv]
  have hl := h.1
  exact h.cellAt j (by rw [← hl]; exact (List.getElem?_eq_some_iff.1 hv).1)
theorem own_there {w : World} {base e size n g cap o m : Nat} {xs : List Value} (h : w.ownsRow base e size (.slice (some ⟨g, 0, none⟩) n cap) n xs) (ho : o + m ≤ n * size) : w.there g o m := by
  obtain ⟨hl, ⟨h', _⟩ | ⟨g', cap', cur, h', _, hg, h1, h2, h3, h4⟩⟩ := h
  · cases h'
  · cases h'
    have := there_of_blk hg (n := n * size) (by rw [h3]; exact Nat.mul_le_mul_right size h1)
    intro j hj
    have := this (o + j) (by omega)
    rwa [Nat.zero_add] at this
theorem own_pos {w : World} {base e size n : Nat} {a : Option Addr} {c : Nat} {xs : List Value} (h : w.ownsRow base e size (.slice a n c) n xs) (hn : 0 < n) : ∃ g, a = some ⟨g, 0, none⟩ ∧ n ≤ c ∧ c ≤ maxLen := by
  obtain ⟨hl, ⟨h', h0⟩ | ⟨g', cap', cur, h', _, hg, h1, h2, h3, h4⟩⟩ := h
  · omega
  · cases h'; exact ⟨g', rfl, h1, h2⟩
section
variable {w0 : World} {B : Nat → Prop} {M S : List Asn} {w : World}
/-- An element of one's own row is written. -/
theorem St.setElem {T : Type} {f : T → List Value} {e size n g cap : Nat} {l : List T} (h : St w0 B M S w) (i k : Nat) (y : T) (hi : M[i]? = some (ownA e size (.slice (some ⟨g, 0, none⟩) n cap) n (l.flatMap f))) (hc : ∀ x ∈ l, (f x).length = size) (hl : l.length = n) (hk : k < n) (hy : (f y).length = size) :
    St w0 B (M.set i (ownA e size (.slice (some ⟨g, 0, none⟩) n cap) n ((l.set k y).flatMap f))) S (w.setCells g (k * size) (f y)) :=
  h.stepAt i hi fun F hF => by
    refine ⟨F, ⟨hF.1, ?_⟩, (frm_setCells w g (f y) (k * size)).mono fun x _ hx => (hF.1 x).2 (by rw [hx]; rfl), fun x hx => .inl hx⟩
    obtain ⟨hl', ⟨h', _⟩ | ⟨g', cap', cur, h', hb, hg, h1, h2, h3, h4⟩⟩ := hF.2
    · cases h'
    · cases h'
      have hks : k * size + size ≤ n * size := by rw [← Nat.succ_mul]; exact Nat.mul_le_mul_right size hk
      have hns : n * size ≤ cap * size := Nat.mul_le_mul_right size h1
      have hb' := blk_setCells (w := w) (b := g) (e := e) (f y) (k * size) cur.toList w hg (by rw [hy]; simp [h3]; omega)
      refine ⟨by rw [flatMap_len (c := size) (fun x hx => (List.mem_or_eq_of_mem_set hx).elim (hc x) fun e => by rw [e]; exact hy), List.length_set, hl], .inr ⟨g, cap, _, rfl, hb, hb', h1, h2, ?_, ?_⟩⟩
      · simp only [List.size_toArray, List.length_append, List.length_take, List.length_drop, Array.length_toList, h3, hy]; omega
      · rw [← flatMap_set (l := l) (k := k) (y := y) hc (by omega) hy, ← h4]
        generalize hcl : cur.toList = cl
        have hlen : cl.length = cap * size := by rw [← hcl, Array.length_toList, h3]
        generalize hyl : f y = yl at hy
        rw [List.append_assoc, List.take_append, List.take_take, Nat.min_eq_right (by omega : k * size ≤ n * size), List.length_take, hlen, Nat.min_eq_left (by omega : k * size ≤ cap * size), List.append_assoc, List.take_take, Nat.min_eq_left (by omega : k * size ≤ n * size)]
        congr 1
        rw [List.take_append, List.take_of_length_le (by omega), hy, List.drop_take]
        congr 2; omega
/-- A new block is written whole. -/
theorem St.setAll {b : Nat} {cs vs : List Value} {ty : TypeId} (h : St w0 B (blkA b cs ty :: M) S w) (hl : vs.length = cs.length) : St w0 B (blkA b vs ty :: M) S (w.setCells b 0 vs) := by
  have := h.sets 0 0 vs (by omega) rfl
  have e : cs.take 0 ++ vs ++ cs.drop (0 + vs.length) = vs := by rw [List.take_zero, List.nil_append, List.drop_of_length_le (by omega), List.append_nil]
  rw [e] at this
  exact this
theorem St.setAllAt {b : Nat} {cs vs : List Value} {ty : TypeId} (h : St w0 B M S w) (i : Nat) (hi : M[i]? = some (blkA b cs ty) := by rfl) (hl : vs.length = cs.length := by rfl) : St w0 B (M.set i (blkA b vs ty)) S (w.setCells b 0 vs) := by
  have := h.sets i 0 vs (by omega) hi
  have e : cs.take 0 ++ vs ++ cs.drop (0 + vs.length) = vs := by rw [List.take_zero, List.nil_append, List.drop_of_length_le (by omega), List.append_nil]
  rw [e] at this
  exact this
end
/-- A block of bytes, by value. -/
def blkV (l : List UInt8) : Value := .agg (l.map u8v).toArray
theorem u8v_one (l : List UInt8) : ∀ u ∈ l.map u8v, u.oneCell' = true := by
  intro u hu; obtain ⟨c, _, rfl⟩ := List.mem_map.1 hu; rfl
/-- A struct or an array of n cells. -/
structure Big (P : Program) (ty : TypeId) (n : Nat) : Prop where
  und : ∃ d, P.underlying ty = some d ∧ d.isRow = true
  info : (P.info? ty).map (·.size) = some n
section
variable {P : Program} {ops : Array Oper} {rest : List Oper} {op : Oper} {a : Act} {w : World} {Q : Exit → Act → World → Prop} {n b o : Nat} {cs : List Value} {ty : TypeId}
theorem Big.load (T : Big P ty n) (hl : cs.length = n) (hr : w.rangeAt b o cs) : (Instr.loadAt ty (.pointer (some ⟨b, o, none⟩))).run P w = .ok (.agg cs.toArray) w := by
  obtain ⟨⟨d, h1, h2⟩, h3⟩ := T
  exact run_loadAt_mid w b o ty cs d hr h1 h2 (by rw [h3, hl])
theorem Big.loadVar (T : Big P ty n) (hl : cs.length = n) (hr : w.rangeAt b o cs) : (loadVar ty ⟨b, o, none⟩).run P w = .ok (.agg cs.toArray) w := by
  obtain ⟨⟨d, h1, h2⟩, h3⟩ := T
  exact run_loadVar_mid w b o ty cs d hr h1 h2 (by rw [h3, hl])
theorem Big.store (T : Big P ty n) (hl : cs.length = n) (ht : w.there b o n) (h1 : ∀ u ∈ cs, u.oneCell' = true) : (Instr.storeAt ty (.pointer (some ⟨b, o, none⟩)) (.agg cs.toArray)).run P w = .ok () (w.setCells b o cs) := by
  have := run_storeAt_mid (P := P) w b o ty cs.toArray (by rw [List.size_toArray, hl]; exact ht) (by rw [T.info, List.size_toArray, hl]) (all_oneCell_toArray h1)
  simpa using this
theorem wpl_load (hgd : op.guard = none) (ty : TypeId) (x : Operand) (ho : op.op = .load ty x) (b o : Nat) (hx : a.eval x = .pointer (some ⟨b, o, none⟩)) (cs : List Value) (n : Nat) (hl : cs.length = n) (hr : w.rangeAt b o cs) (T : Big P ty n)
    (h : wpList P ops Q rest (a.put op.dst (.agg cs.toArray)) w) : wpList P ops Q (op :: rest) a w := by
  obtain ⟨⟨d, h1, h2⟩, h3⟩ := T
  exact wpList_load_mid hgd ty x ho b o hx cs d hr h1 h2 (by rw [h3, hl]) h
theorem wpl_store (hgd : op.guard = none) (ty : TypeId) (x y : Operand) (ho : op.op = .store ty x y) (b o : Nat) (hx : a.eval x = .pointer (some ⟨b, o, none⟩)) (cs : List Value) (hy : a.eval y = .agg cs.toArray) (n : Nat) (hl : cs.length = n) (ht : w.there b o n) (T : Big P ty n) (h1 : ∀ u ∈ cs, u.oneCell' = true)
    (h : wpList P ops Q rest (a.put op.dst undef) (w.setCells b o cs)) : wpList P ops Q (op :: rest) a w :=
  wpList_store_mid hgd ty x y ho b o cs.toArray hx hy (by rw [List.size_toArray, hl]; exact ht) (by rw [T.info, List.size_toArray, hl]) (all_oneCell_toArray h1) (by simpa using h)
end
section
variable {w0 : World} {B : Nat → Prop} {M S : List Asn} {w : World}
/-- A new variable, written whole. -/
theorem St.whole (h : St w0 B M S w) (zs : Array Value) (ty : TypeId) (vs : List Value) (hl : vs.length = zs.size) : St w0 B (blkA w.heap.size vs ty :: M) S ((w.alloc (.cells zs ty)).setCells w.heap.size 0 vs) := by
  have h1 := h.alloc zs.toList ty
  rw [Array.toArray_toList] at h1
  exact h1.setAll (by simpa using hl)
theorem St.allocZ (h : St w0 B M S w) (zs : Array Value) (ty : TypeId) : St w0 B (blkA w.heap.size zs.toList ty :: M) S (w.alloc (.cells zs ty)) := by
  have h1 := h.alloc zs.toList ty
  rwa [Array.toArray_toList] at h1
/-- One's own row is given up; none stands in its place. -/
theorem St.nilAt {A : Asn} (h : St w0 B M S w) (i : Nat) (hi : M[i]? = some A) (e size : Nat) : St w0 B (M.set i (ownA e size (.slice none 0 0) 0 [])) S w :=
  h.impAt i hi fun F hF => ⟨fun _ => False, ⟨fun x => by simp [Value.ownBlock], World.ownsRow_nil _ _ _ _⟩, fun b h => h.elim⟩
theorem St.newNil (h : St w0 B M S w) (e size : Nat) : St w0 B (ownA e size (.slice none 0 0) 0 [] :: M) S w :=
  h.new (Below.refl _ _) (F' := fun _ => False) ⟨fun x => by simp [Value.ownBlock], World.ownsRow_nil _ _ _ _⟩ (fun b h => h.elim)
theorem St.back {L : List Asn} (h : St w0 B (M ++ L) S w) : St w0 B (L ++ M) S w := h.perm List.perm_append_comm
theorem self_imp (S M : List Asn) : ∀ A ∈ S, ∃ A' ∈ S ++ M, A'.imp A := fun A hA => ⟨A, List.mem_append_left _ hA, .refl _⟩
theorem St.range {b : Nat} {cs : List Value} {ty : TypeId} (h : St w0 B M S w) (i : Nat) (hi : M[i]? = some (blkA b cs ty) := by rfl) : w.rangeAt b 0 cs := rangeAt_blk (h.heap i hi)
theorem St.there {b : Nat} {cs : List Value} {ty : TypeId} (h : St w0 B M S w) (i n : Nat) (hi : M[i]? = some (blkA b cs ty) := by rfl) (hn : n ≤ cs.length := by decide) : w.there b 0 n := there_of_blk (h.heap i hi) (by simpa using hn)
end
/-- A region of open order: reads, then a tail in one order; the world behind a name. -/
theorem wp_tail {P : Program} {id : Nat} {Q : Exit → Act → World → Prop} {a : Act} {w : World} {l : List Oper} (R : World → Prop) (n : Nat) (hR : R w.drew) (hm : P.follows .mixedOrders = true) (hB : Region.lexTailB .any l.toArray n = true)
    (h : ∀ w2, R w2 → wpStill P l.toArray w2 (fun a' => wpList P l.toArray Q (l.drop n) a' w2) (l.take n) a) : (Code.region id l.toArray true).wp P Q a w :=
  wp_region_still_tail n hm hB (h w.drew hR)
theorem wps_load {P : Program} {ops : Array Oper} {rest : List Oper} {op : Oper} {a : Act} {w : World} {Q : Act → Prop} {n : Nat} {cs : List Value} (hgd : op.guard = none) (ty : TypeId) (x : Operand) (ho : op.op = .load ty x) (b o : Nat) (hx : a.eval x = .pointer (some ⟨b, o, none⟩)) (hl : cs.length = n) (hr : w.rangeAt b o cs) (T : Big P ty n)
    (h : wpStill P ops w Q rest (a.put op.dst (.agg cs.toArray))) : wpStill P ops w Q (op :: rest) a := by
  refine wpStill_step fun K hK => ?_
  have hw : Region.wanted op (yielded ops a.tmps) = true := by simp [Region.wanted, hgd]
  rw [if_pos hw]
  unfold Oper.still execOp
  simp only [ho, hx, Sem.run_bind, Sem.run_pure, Result.andThen_ok, T.load hl hr, Oper.stillUpon_value]
  exact hK _ h
theorem madeCells_flat {T : Type} {f : T → List Value} (x : T) (z : Array Value) (hz : z.toList = f x) (h0 : 0 < z.size) (n : Nat) : (madeCells z (n * z.size)).toList = (List.replicate n x).flatMap f := by
  have hc : ∀ y ∈ List.replicate n x, (f y).length = z.size := fun y hy => by rw [List.eq_of_mem_replicate hy, ← hz, Array.length_toList]
  refine List.ext_getElem? fun k => ?_
  rcases Nat.lt_or_ge k (n * z.size) with hk | hk
  · have hd : k / z.size < n := (Nat.div_lt_iff_lt_mul h0).2 hk
    have hm : k % z.size < z.size := Nat.mod_lt _ h0
    have := flatMap_get hc (l := List.replicate n x) (k := k / z.size) (j := k % z.size) (x := x) (by rw [List.getElem?_replicate_of_lt hd]) hm
    rw [Nat.mul_comm, Nat.div_add_mod] at this
    rw [this, ← hz]
    unfold madeCells
    simp [hk, hm]
  · rw [List.getElem?_eq_none (by rw [Array.length_toList, size_madeCells]; exact hk), List.getElem?_eq_none (by rw [flatMap_len hc, List.length_replicate]; exact hk)]
theorem St.make {w0 : World} {B : Nat → Prop} {M S : List Asn} {w : World} {P : Program} {t e size bytes : Nat} {z : Value} {T : Type} {f : T → List Value} (E : Elem P t e size bytes z) (h : St w0 B M S w) (x : T) (hz : z.cells.toList = f x) (n : Nat) (hb : bytes * n ≤ 281474976710656) (hm : n ≤ maxLen) :
    ∃ g w', (Instr.makeSlice t (.int .i64 (n : Int)) (.int .i64 (n : Int))).run P w = .ok (.slice (some ⟨g, 0, none⟩) n n) w' ∧ St w0 B (ownA e size (.slice (some ⟨g, 0, none⟩) n n) n ((List.replicate n x).flatMap f) :: M) S w' := by
  obtain ⟨ht, ⟨i, hi, hz0, hz1, hz2⟩, hzs, hsz⟩ := E
  obtain ⟨w', hrun, ho, hg⟩ := run_make_full (P := P) w w.heap.size t e i z size ht hi hz0 hz1 .i64 .i64 n (by rw [hz2]; exact hb) hm (Nat.le_refl _)
  refine ⟨_, w', hrun, h.newOwn ((Below.refl _ w).grown hg (Nat.le_refl _) (fun k hk => by cases hk)) ?_⟩
  have := madeCells_flat x z.cells hz (by omega) n
  rw [hzs] at this
  rwa [this] at ho
/-- A make in a walk, its run known. -/
theorem wpl_make {P : Program} {ops : Array Oper} {rest : List Oper} {o : Oper} {a : Act} {w : World} {Q : Exit → Act → World → Prop} (hgd : o.guard = none) (l c : Operand) (t : TypeId)
    (ho : o.op = .makeSlice t l c) {vl vc v' : Value} {w' : World} (hl : a.eval l = vl) (hc : a.eval c = vc)
    (hrun : (Instr.makeSlice t vl vc).run P w = .ok v' w') (h : wpList P ops Q rest (a.put o.dst v') w') : wpList P ops Q (o :: rest) a w :=
  wpList_plain hgd fun _ hK => by
    unfold Oper.wp
    simp [execOp, ho, hl, hc, hrun, Result.andThen]
    exact hK _ _ h
/-- A struct literal in a walk, its run known. -/
theorem wpl_build {P : Program} {ops : Array Oper} {rest : List Oper} {o : Oper} {a : Act} {w : World} {Q : Exit → Act → World → Prop} (hgd : o.guard = none) (t : TypeId) (parts : Array (Nat × Operand))
    (ho : o.op = .build t parts) {vals : Array (Nat × Value)} {v : Value} (hp : (parts.map fun x => (x.1, a.eval x.2)) = vals)
    (hrun : (Instr.build t vals).run P w = .ok v w) (h : wpList P ops Q rest (a.put o.dst v) w) : wpList P ops Q (o :: rest) a w :=
  wpList_plain hgd fun _ hK => by
    unfold Oper.wp execOp
    simp only [ho, Sem.run_bind]
    rw [hp, hrun]
    exact hK _ _ h
/-- A slice that one may read. -/
def slA (size : Nat) (v : Value) (n : Nat) (cs : List Value) : Asn := ⟨fun F w => (∀ x, F x ↔ cs ≠ [] ∧ v.ownBlock = some x) ∧ 0 < size ∧ IsSlK w size n v cs, fun F w w' h k => ⟨h.1, h.2.1, isSlK_keep h.2.2 (fun b h1 h2 => k b ((h.1 b).2 ⟨h1, h2⟩)) h.2.1⟩, fun F w h b hb => by
  obtain ⟨h1, h2⟩ := (h.1 b).1 hb
  refine isSlK_lt h.2.2 (fun e => h1 ?_) h2
  have := h.2.2.1
  rw [e, Nat.zero_mul] at this
  exact List.length_eq_zero_iff.1 this⟩
theorem St.sl {w0 : World} {B : Nat → Prop} {M S : List Asn} {w : World} {size n : Nat} {v : Value} {cs : List Value} (h : St w0 B M S w) (i : Nat) (hi : S[i]? = some (slA size v n cs) := by rfl) : IsSlK w size n v cs := by
  obtain ⟨F, hF⟩ := h.getS (List.mem_of_getElem? hi)
  exact hF.2.2
theorem own_imp_sl {e size n : Nat} {v : Value} {xs : List Value} (h0 : 0 < size) : (ownA e size v n xs).imp (slA size v n xs) := fun F w h => ⟨fun b => xs ≠ [] ∧ v.ownBlock = some b, ⟨fun _ => Iff.rfl, h0, own_isSlK h.2⟩, fun b hb => (h.1 b).2 hb.2⟩
/-- A cell of such a slice. -/
theorem IsSlK.at {w : World} {size n : Nat} {v : Value} {cs : List Value} (h : IsSlK w size n v cs) (hn : 0 < n) : ∃ b off cap, v = .slice (some ⟨b, off, none⟩) n cap ∧ n ≤ cap ∧ cap ≤ maxLen ∧ b < w.heap.size ∧ ∀ j, j < cs.length → w.cell? ⟨b, off + j, none⟩ = cs[j]? := by
  rcases h.2 with ⟨h, _⟩ | ⟨_, h⟩
  · omega
  · exact h
theorem results_ctt {P : Program} {fn : Func} {tmps : Array Value} {w : World} {s1 s2 s3 rb n : Nat} {ty : TypeId} {cs : List Value} (hr : fn.results = #[.cell s1 ty, .tmp s2, .tmp s3]) (h1 : tmps.getD s1 undef = .pointer (some ⟨rb, 0, none⟩)) (T : Big P ty n) (hrg : w.rangeAt rb 0 cs) (hl : cs.length = n := by rfl) :
    (results fn tmps).run P w = .ok (.tuple #[.agg cs.toArray, tmps.getD s2 undef, tmps.getD s3 undef]) w := by
  have h1' : tmps[s1]?.getD undef = .pointer (some ⟨rb, 0, none⟩) := by simpa using h1
  simp [results, hr, h1', asAddr, T.loadVar hl hrg]
theorem results_ct {P : Program} {fn : Func} {tmps : Array Value} {w : World} {s1 s2 rb n : Nat} {ty : TypeId} {cs : List Value} (hr : fn.results = #[.cell s1 ty, .tmp s2]) (h1 : tmps.getD s1 undef = .pointer (some ⟨rb, 0, none⟩)) (T : Big P ty n) (hrg : w.rangeAt rb 0 cs) (hl : cs.length = n := by rfl) :
    (results fn tmps).run P w = .ok (.tuple #[.agg cs.toArray, tmps.getD s2 undef]) w := by
  have h1' : tmps[s1]?.getD undef = .pointer (some ⟨rb, 0, none⟩) := by simpa using h1
  simp [results, hr, h1', asAddr, T.loadVar hl hrg]
theorem results_c {P : Program} {fn : Func} {tmps : Array Value} {w : World} {s1 rb n : Nat} {ty : TypeId} {cs : List Value} (hr : fn.results = #[.cell s1 ty]) (h1 : tmps.getD s1 undef = .pointer (some ⟨rb, 0, none⟩)) (T : Big P ty n) (hrg : w.rangeAt rb 0 cs) (hl : cs.length = n := by rfl) :
    (results fn tmps).run P w = .ok (.agg cs.toArray) w := by
  have h1' : tmps[s1]?.getD undef = .pointer (some ⟨rb, 0, none⟩) := by simpa using h1
  simp [results, hr, h1', asAddr, T.loadVar hl hrg]
theorem byt_slK {w : World} {v : Value} {l : List UInt8} (h : BytesAt w v l) : IsSlK w 1 l.length v (l.map u8v) := by
  refine ⟨by simp, ?_⟩
  rcases h with ⟨h, h2⟩ | ⟨h0, b, off, cap, hv, h1, h2, h3, h4⟩
  · exact .inl ⟨by simpa using h, h2⟩
  · rw [List.length_map] at h0 h1 hv
    exact .inr ⟨h0, b, off, cap, hv, h1, h2, h3, h4⟩
/-- Bytes put behind bytes of one's own. -/
theorem St.appB {w0 : World} {B : Nat → Prop} {M S : List Asn} {w : World} {P : Program} {t ty e bytes : Nat} {z : Value} (E : Elem P t e 1 bytes z) {n : Nat} {v x : Value} {l m : List UInt8} (h : St w0 B M S w) (i : Nat) (hi : M[i]? = some (ownA e 1 v n (l.map u8v))) (hx : BytesAt w x m) (hb : bytes ≤ 1000) (h63 : n + m.length ≤ 100000000000) :
    ∃ a c w', (Builtin.append_ #[t, t] ty #[v, x]).run P w = .ok (.slice a (n + m.length) c) w' ∧ St w0 B (M.set i (ownA e 1 (.slice a (n + m.length) c) (n + m.length) ((l ++ m).map u8v))) S w' := by
  have hm : (n + m.length) * bytes ≤ 140737488355328 := Nat.le_trans (Nat.mul_le_mul h63 hb) (by decide)
  obtain ⟨v', w', hr, h1⟩ := h.app (ty := ty) E i hi (byt_slK hx) (u8v_one m) hm (by unfold maxLen; omega)
  have hlt : i < M.length := (List.getElem?_eq_some_iff.1 hi).1
  obtain ⟨a, c, rfl, _⟩ := own_form (h1.own i (List.getElem?_set_self hlt))
  exact ⟨a, c, w', hr, by rw [List.map_append]; exact h1⟩
/-- A part of a slice's value. -/
def subV (a : Option Addr) (c i n : Nat) : Value := .slice (if c = i then a else a.map (fun x => x.add i)) n (c - i)
/-- A part of a slice of elements of one cell, in a walk. (The operation is spelled out, so that it fails fast elsewhere: give the parts behind `?_`.) -/
theorem wpl_sub {P : Program} {ops : Array Oper} {rest : List Oper} {dst : Option Nat} {ty : TypeId} {pos : String} {after : Array Edge} {a : Act} {w : World} {Q : Exit → Act → World → Prop} {t : TypeId} {x l h : Operand} {ad : Option Addr} {n c i m : Nat} (hx : a.eval x = .slice ad n c) (hl : a.eval l = .int .i64 (i : Int)) (hh : a.eval h = .int .i64 ((i + m : Nat) : Int))
    (hrun : (Instr.sliceAt t (.slice ad n c) (some (.int .i64 (i : Int))) (some (.int .i64 ((i + m : Nat) : Int))) none).run P w = .ok (subV ad c i m) w) (hk : wpList P ops Q rest (a.put dst (subV ad c i m)) w) : wpList P ops Q ({ dst := dst, op := .slice t x (some l) (some h) none, type := ty, pos := pos, after := after, guard := none } :: rest) a w :=
  wpList_plain rfl fun _ hK => by
    unfold Oper.wp execOp
    simp only [hx, hl, hh, Option.map_some, Option.map_none, Sem.run_bind]
    rw [hrun]
    exact hK _ _ hk
/-- The least of two. -/
theorem wpl_min {P : Program} {ops : Array Oper} {rest : List Oper} {dst : Option Nat} {ty : TypeId} {pos : String} {after : Array Edge} {a : Act} {w : World} {Q : Exit → Act → World → Prop} {ts : Array TypeId} {x y : Operand} {p q r : Int} (hx : a.eval x = .int .i64 p) (hy : a.eval y = .int .i64 q) (hr : (if q < p then q else p) = r) (hk : wpList P ops Q rest (a.put dst (.int .i64 r)) w) : wpList P ops Q ({ dst := dst, op := .call { callee := .builtin .min, args := #[x, y], argTypes := ts }, type := ty, pos := pos, after := after, guard := none } :: rest) a w :=
  wpList_plain rfl fun _ hK => by
    unfold Oper.wp execOp
    simp only [resolve, invoke, builtin, Sem.run_bind, Sem.run_pure, Result.andThen_ok, List.map_toArray, List.map_cons, List.map_nil, hx, hy, run_min_int2, hr]
    exact hK _ _ hk
end Go.Ice
end

section
set_option linter.unusedVariables false
set_option linter.unusedSimpArgs false
namespace Go.Oct
/-- A number's n bytes, the highest first. -/
def beB (x n : Nat) : List UInt8 := (List.range n).map fun j => UInt8.ofNat (x / 2 ^ (8 * (n - 1 - j)))
end Go.Oct
namespace Go.Proofs.YtjmocjcjiiopnaaGreat
open Go.RowKit Go.Ice Go.Oct
theorem bigBlock : Big Tryz.prog 38 64 := ⟨⟨_, Tryz.underlying38, rfl⟩, by kernel_rfl⟩
theorem elemByte : Elem Tryz.prog 60 5 1 1 (.int .u8 0) :=
  ⟨Tryz.underlying60, by
    obtain ⟨i0, hi, hz0, hz1, hz2⟩ := info_parts (show (Tryz.prog.info? 5).map (fun i => (i.zero, i.size, i.bytes)) = some (some (.int .u8 0), 1, 1) by kernel_rfl)
    exact ⟨i0, hi, hz0, hz1, hz2⟩, rfl, by decide⟩
theorem elemBlock : Elem Tryz.prog 22 38 64 64 (.agg (List.replicate 64 (.int .u8 0)).toArray) :=
  ⟨Tryz.underlying22, by
    obtain ⟨i0, hi, hz0, hz1, hz2⟩ := info_parts (show (Tryz.prog.info? 38).map (fun i => (i.zero, i.size, i.bytes)) = some (some (.agg (List.replicate 64 (.int .u8 0)).toArray), 64, 64) by kernel_rfl)
    exact ⟨i0, hi, hz0, hz1, hz2⟩, rfl, by decide⟩
theorem copy_bytes (w : World) (x : Value) (l : List UInt8) (hl : BytesAt w x l) (hm : l.length ≤ 1000000) : ∃ a c w', (Builtin.append_ #[60, 60] 60 #[.slice (some ⟨w.heap.size, 0, none⟩) 0 0, x]).run Tryz.prog (w.alloc (.cells #[] 5)) = .ok (.slice a l.length c) w' ∧
    w'.ownsRow w.heap.size 5 1 (.slice a l.length c) l.length (l.map u8v) ∧ Below w.heap.size w w' := by
  have h1 := own_new w 5 w.heap.size (Nat.le_refl _)
  obtain ⟨v', w', hr, ho, hg, _⟩ := append_sl (P := Tryz.prog) (t := 60) (ty := 60) elemByte h1 (IsSl.alloc hl (.cells #[] 5)) (by intro u hu; obtain ⟨c, _, rfl⟩ := List.mem_map.1 hu; rfl) (by simp; omega) (by unfold maxLen; simp; omega) (by simp)
  have hbel : Below w.heap.size w w' := ((Below.refl _ w).alloc (Nat.le_refl _) _).grown hg (by simp) (fun k hk => by cases hk; exact Nat.le_refl _)
  simp only [List.length_map, List.nil_append, Nat.zero_add] at ho
  obtain ⟨a, c, rfl, _⟩ := own_form ho
  exact ⟨a, c, w', hr, ho, hbel⟩
set_option maxHeartbeats 4000000 in
set_option maxRecDepth 20000 in
theorem clone (w : World) (v : Value) (l : List UInt8) (hl : BytesAt w v l) (hm : l.length ≤ 1000000) :
    Calls Tryz.prog 120 #[v] w fun e w' => ∃ v', e = .returned v' ∧ w'.ownsRow w.heap.size 5 1 v' l.length (l.map u8v) ∧ Below w.heap.size w w' := by
  have key : ∀ a c, v = .slice (some a) l.length c → Calls Tryz.prog 120 #[v] w fun e w' => ∃ v', e = .returned v' ∧ w'.ownsRow w.heap.size 5 1 v' l.length (l.map u8v) ∧ Below w.heap.size w w' := by
    intro a c hv
    have h1 := own_new w 5 w.heap.size (Nat.le_refl _)
    obtain ⟨v', w', hr, ho, hg, _⟩ := append_sl (P := Tryz.prog) (t := 60) (ty := 60) elemByte h1 (IsSl.alloc hl (.cells #[] 5)) (by intro u hu; obtain ⟨c, _, rfl⟩ := List.mem_map.1 hu; rfl) (by simp; omega) (by unfold maxLen; simp; omega) (by simp)
    have HR := Lib.hid hr
    have hbel : Below w.heap.size w w' := ((Below.refl _ w).alloc (Nat.le_refl _) _).grown hg (by simp) (fun k hk => by cases hk; exact Nat.le_refl _)
    rw [List.nil_append, Nat.zero_add, List.length_map] at ho
    have HO := Lib.hid ho
    have HB := Lib.hid hbel
    subst hv
    have hnil := Lib.run_eql_slice_nil (P := Tryz.prog) w 60 5 (some a) l.length c 0 0 Tryz.underlying60
    clear hl h1 hr ho hg hbel
    go_enter Tryz.func120, Tryz.ntmps120
    go_wp2_with (at_builtin; refine wpList_append_eq rfl _ _ _ rfl rfl rfl HR.out ?_)
    go_ret
    exact ⟨v', rfl, HO.out, HB.out⟩
  rcases hl with ⟨h, rfl | ⟨a, cap, rfl⟩⟩ | ⟨h0, b, off, cap, rfl, _⟩
  · obtain rfl : l = [] := by simpa using h
    have hnil := Lib.run_eql_slice_nil (P := Tryz.prog) w 60 5 none 0 0 0 0 Tryz.underlying60
    clear key
    go_enter Tryz.func120, Tryz.ntmps120
    go_wp2
    go_ret
    exact ⟨_, rfl, ⟨rfl, .inl ⟨rfl, rfl⟩⟩, Below.refl _ _⟩
  · obtain rfl : l = [] := by simpa using h
    exact key _ _ rfl
  · rw [List.length_map] at key ⊢
    exact key _ _ rfl

theorem beB_snoc (x n j : Nat) (hj : j < n) : (beB x n).take (j + 1) = (beB x n).take j ++ [UInt8.ofNat (x / 2 ^ (8 * (n - 1 - j)))] := by
  have hl : (beB x n).length = n := by unfold beB; simp
  rw [List.take_succ_eq_append_getElem (by omega)]
  congr 1
  unfold beB
  simp
theorem beB_len (x n : Nat) : (beB x n).length = n := by unfold beB; simp
set_option maxHeartbeats 8000000 in
set_option maxRecDepth 20000 in
theorem put (w : World) (v : Value) (l : List UInt8) (hl : BytesAt w v l) (hm : l.length ≤ 1000) (x n : Nat) (hx : x ≤ 18446744073709551615) (hn : n ≤ 8) :
    Calls Tryz.prog 122 #[v, .int .u64 x, .int .i64 n] w fun e w' => ∃ v', e = .returned v' ∧ w'.ownsRow w.heap.size 5 1 v' (l.length + n) ((l ++ beB x n).map u8v) ∧ Below w.heap.size w w' := by
  have HC := Lib.hid (clone w v l hl (by omega))
  clear hl
  go_enter Tryz.func122, Tryz.ntmps122
  go_wp2_with fail
  refine HC.out.mono ?_
  rintro e w1 ⟨v1, rfl, ho, hb⟩
  have HO := Lib.hid ho
  have HB := Lib.hid hb
  clear ho hb HC
  go_wp2_with fail
  go_loopg [0, 7] n (fun gg b0 b7 wr => ∃ j : Nat, j ≤ n ∧ gg = n - j ∧ b7 = .int .i64 ((n : Int) - 1 - j) ∧ Hid (wr.ownsRow w.heap.size 5 1 b0 (l.length + j) ((l ++ (beB x n).take j).map u8v) ∧ Below w.heap.size w wr))
  case atStart => exact ⟨0, Nat.zero_le _, rfl, by first | rfl | (congr 1; omega), by simpa using HO.out, HB.out⟩
  case round =>
  obtain ⟨j, hj, hgg, rfl, HI⟩ := hrel
  subst hgg
  clear HO HB
  by_cases hlt : j < n
  · obtain ⟨a0, c0, hb0, _⟩ := own_form HI.out.1
    subst hb0
    have hval : (Value.int .u8 ((x : Int) / 2 ^ (8 * (n - 1 - j)) % 256)) = u8v (UInt8.ofNat (x / 2 ^ (8 * (n - 1 - j)))) := by
      unfold u8v
      rw [UInt8.toNat_ofNat']
      congr 1
    have hz := HI.out.2.size
    have hb4 : Below wr.heap.size wr (wr.alloc (.cells #[u8v (UInt8.ofNat (x / 2 ^ (8 * (n - 1 - j))))] 5)) := (Below.refl _ _).alloc (Nat.le_refl _) _
    obtain ⟨v2, W2, hr, ho, hg, _⟩ := append_sl (P := Tryz.prog) (t := 60) (ty := 60) elemByte (own_below HI.out.1 hb4) (isSl_new wr [u8v (UInt8.ofNat (x / 2 ^ (8 * (n - 1 - j))))] 5 1 (Nat.le_refl _) (by decide) (0, 0)) (by intro u hu; simp at hu; subst hu; rfl) (by simp; omega) (by unfold maxLen; simp; omega) (by simp; omega)
    have hbn : Below w.heap.size w W2 := (HI.out.2.trans (hb4.mono hz)).grown hg (by simp; omega) (fun k hk => ((own_below HI.out.1 hb4).lt k hk).1)
    have hon : W2.ownsRow w.heap.size 5 1 v2 (l.length + (j + 1)) ((l ++ (beB x n).take (j + 1)).map u8v) := by
      rw [beB_snoc x n j hlt]
      simpa [Nat.add_assoc] using ho
    rw [← hval] at hr
    have HR := Lib.hid hr
    have HN : Hid (W2.ownsRow w.heap.size 5 1 v2 (l.length + (j + 1)) ((l ++ (beB x n).take (j + 1)).map u8v) ∧ Below w.heap.size w W2) := ⟨hon, hbn⟩
    clear hr ho hg hb4 hbn hon hz hval
    have HJ : Hid (j < n) := hlt
    go_wp2_with (at_builtin; refine wpList_append_eq rfl _ _ _ rfl rfl rfl HR.out ?_)
    all_goals
      go_roundg (n - (j + 1))
      case measure => have := HJ.out; omega
      case rel => exact ⟨j + 1, by have := HJ.out; omega, rfl, by first | rfl | (congr 1; omega), HN.out⟩
  · obtain rfl : n = j := by omega
    go_wp2_with fail
    go_ret
    refine ⟨_, rfl, ?_, HI.out.2⟩
    have := HI.out.1
    rw [List.take_of_length_le (by rw [beB_len]; exact Nat.le_refl _)] at this
    exact this
set_option maxHeartbeats 4000000 in
theorem put16 (w : World) (v : Value) (l : List UInt8) (hl : BytesAt w v l) (hm : l.length ≤ 1000) (x : Nat) (hx : x ≤ 65535) :
    Calls Tryz.prog 86 #[v, .int .u16 x] w fun e w' => ∃ v', e = .returned v' ∧ w'.ownsRow w.heap.size 5 1 v' (l.length + 2) ((l ++ beB x 2).map u8v) ∧ Below w.heap.size w w' := by
  have HP := Lib.hid (put w v l hl hm x 2 (by omega) (by omega))
  have hb1 : (0 : Int) ≤ (x : Int) := by omega
  have hb2 : (x : Int) ≤ 65535 := by omega
  clear hl
  go_enter Tryz.func86, Tryz.ntmps86
  go_wp2_with fail
  refine HP.out.mono ?_
  rintro e w1 ⟨v1, rfl, h⟩
  have HH := Lib.hid h
  clear h
  go_wp2_with fail
  go_ret
  exact ⟨v1, rfl, HH.out⟩
set_option maxHeartbeats 4000000 in
theorem put32 (w : World) (v : Value) (l : List UInt8) (hl : BytesAt w v l) (hm : l.length ≤ 1000) (x : Nat) (hx : x ≤ 4294967295) :
    Calls Tryz.prog 99 #[v, .int .u32 x] w fun e w' => ∃ v', e = .returned v' ∧ w'.ownsRow w.heap.size 5 1 v' (l.length + 4) ((l ++ beB x 4).map u8v) ∧ Below w.heap.size w w' := by
  have HP := Lib.hid (put w v l hl hm x 4 (by omega) (by omega))
  have hb1 : (0 : Int) ≤ (x : Int) := by omega
  have hb2 : (x : Int) ≤ 4294967295 := by omega
  clear hl
  go_enter Tryz.func99, Tryz.ntmps99
  go_wp2_with fail
  refine HP.out.mono ?_
  rintro e w1 ⟨v1, rfl, h⟩
  have HH := Lib.hid h
  clear h
  go_wp2_with fail
  go_ret
  exact ⟨v1, rfl, HH.out⟩
set_option maxHeartbeats 4000000 in
theorem put64 (w : World) (v : Value) (l : List UInt8) (hl : BytesAt w v l) (hm : l.length ≤ 1000) (x : Nat) (hx : x ≤ 18446744073709551615) :
    Calls Tryz.prog 100 #[v, .int .u64 x] w fun e w' => ∃ v', e = .returned v' ∧ w'.ownsRow w.heap.size 5 1 v' (l.length + 8) ((l ++ beB x 8).map u8v) ∧ Below w.heap.size w w' := by
  have HP := Lib.hid (put w v l hl hm x 8 hx (by omega))
  clear hl hx
  go_enter Tryz.func100, Tryz.ntmps100
  go_wp2_with fail
  refine HP.out.mono ?_
  rintro e w1 ⟨v1, rfl, h⟩
  have HH := Lib.hid h
  clear h
  go_wp2_with fail
  go_ret
  exact ⟨v1, rfl, HH.out⟩
end Go.Proofs.YtjmocjcjiiopnaaGreat
end
