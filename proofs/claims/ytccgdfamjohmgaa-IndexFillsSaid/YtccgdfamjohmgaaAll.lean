/- index.All in memory: the function value that it hands back, and what its blocks hold. Condition: the index is laid out in its blocks. -/
import Derived.Test.YtccgdfamjohmgaaOps
import Derived.Deep.RegionHeld3
import Derived.Deep.AppendLies
set_option linter.unusedVariables false
namespace Go.Proofs.Ytccgdfamjohmgaa
open Go.RowKit Go.Ice

def fngCells (l : List Nat) : List Value := l.map fun (f : Nat) => Value.int .u32 (f : Int)

/-- One operation without a value in a region whose order is open, its run known. -/
theorem wpOp_skip {P : Program} {ops : Array Oper} {Q : Exit → Act → World → Prop} {i : Nat} {o : Oper} {K : Act → World → Prop} {a : Act} {w w' : World} (ho : ops[i]? = some o) (hg : o.guard = none)
    (hrun : (execOp a.eval o).run P w = .ok .skip w') (hK : K (a.put o.dst undef) w') : wpOp P ops Q i K a w := by
  unfold wpOp
  rw [ho]
  simp only [Region.wanted, hg, if_true]
  left
  unfold Oper.wp
  rw [hrun]
  exact hK

/-- An append in a region whose order is open, its run known. -/
theorem wpOp_append {P : Program} {ops : Array Oper} {Q : Exit → Act → World → Prop} {i : Nat} {o : Oper} {K : Act → World → Prop} {a : Act} {w w' : World} {v vx v' : Value} (ho : ops[i]? = some o) (hg : o.guard = none) (s x : Operand) (t : TypeId)
    (hop : o.op = .call { callee := .builtin .append, args := #[s, x], argTypes := #[t, t] }) (hs : a.eval s = v) (hx : a.eval x = vx) (hrun : (Builtin.append_ #[t, t] o.type #[v, vx]).run P w = .ok v' w') (hK : K (a.put o.dst v') w') : wpOp P ops Q i K a w := by
  refine wpOp_val ho hg ?_ hK
  unfold execOp
  simp only [hop, resolve, invoke, builtin, Sem.run_bind, Sem.run_pure, Result.andThen_ok, List.map_toArray, List.map_cons, List.map_nil, hs, hx, hrun]

/-- What a round of All does, whatever the order: what is done, and what memory holds then. -/
structure AllI (w0 : World) (vF vA : Value) (n : Nat) (fs zs : List Value) (f : Value) (a : Adr) (done : Nat → Bool) (g8 g18 : Nat) (v30 v40 : Value) (w : World) : Prop where
  bel : Below w0.heap.size w0 w
  boxF : w.heap[w0.heap.size]? = some (.cells #[if done 20 then v30 else vF] 57 (0, 0))
  boxA : w.heap[w0.heap.size + 1]? = some (.cells #[if done 21 then v40 else vA] 39 (0, 0))
  ownF : w.ownsRow (w0.heap.size + 2) 23 1 (if done 9 then v30 else vF) (if done 9 then n + 1 else n) (if done 9 then fs ++ [f] else fs)
  ownA : w.ownsRow (w0.heap.size + 2) 32 3 (if done 19 then v40 else vA) (if done 19 then n + 1 else n) (if done 19 then zs ++ [.int .i64 a.seg, .int .u64 a.gen, .int .i64 a.sec] else zs)
  s8 : done 8 = true → done 9 = false → w.heap[g8]? = some (.cells #[f] 23 (0, 0)) ∧ w0.heap.size + 2 ≤ g8 ∧ vF.ownBlock ≠ some g8
  s18 : done 18 = true → done 19 = false → w.heap[g18]? = some (.cells #[.int .i64 a.seg, .int .u64 a.gen, .int .i64 a.sec] 32 (0, 0)) ∧ w0.heap.size + 2 ≤ g18 ∧ vA.ownBlock ≠ some g18

theorem own_block {w : World} {base e size n g : Nat} {v : Value} {xs : List Value} (h : w.ownsRow base e size v n xs) (hg : v.ownBlock = some g) : ∃ c, w.heap[g]? = some (.cells c e (0, 0)) := by
  rcases h.2 with ⟨rfl, _⟩ | ⟨g', cap, cur, rfl, hb, hgg, _⟩
  · simp [Value.ownBlock] at hg
  · simp [Value.ownBlock] at hg
    subst hg
    exact ⟨cur, hgg⟩
theorem own_apart {w : World} {base base' e e' size size' n n' : Nat} {v v' : Value} {xs xs' : List Value} (h : w.ownsRow base e size v n xs) (h' : w.ownsRow base' e' size' v' n' xs') (he : e ≠ e') : v'.ownBlock = none ∨ v'.ownBlock ≠ v.ownBlock := by
  cases hv : v'.ownBlock with
  | none => exact .inl rfl
  | some g =>
    right
    intro hg
    obtain ⟨c, hc⟩ := own_block h hg.symm
    obtain ⟨c', hc'⟩ := own_block h' hv
    rw [hc] at hc'
    injection hc' with hc'
    injection hc' with _ h2
    exact he h2
theorem block_apart {w : World} {base e e' size n g : Nat} {v : Value} {xs : List Value} {c : Array Value} (h : w.ownsRow base e size v n xs) (h' : w.heap[g]? = some (.cells c e' (0, 0))) (he : e ≠ e') : some g ≠ v.ownBlock := by
  intro hg
  obtain ⟨c', hc⟩ := own_block h hg.symm
  rw [hc] at h'
  injection h' with h'
  injection h' with _ h2
  exact he h2

section
variable {w0 w : World} {vF vA : Value} {n : Nat} {fs zs : List Value} {f : Value} {a : Adr} {done : Nat → Bool} {g8 g18 : Nat} {v30 v40 : Value}
theorem AllI.lt (h : AllI w0 vF vA n fs zs f a done g8 g18 v30 v40 w) : w0.heap.size + 2 ≤ w.heap.size := (Array.getElem?_eq_some_iff.1 h.boxA).1
theorem AllI.quiet (h : AllI w0 vF vA n fs zs f a done g8 g18 v30 v40 w) (i : Nat) (hi : i ∉ [8, 9, 18, 19, 20, 21]) : AllI w0 vF vA n fs zs f a (fun k => decide (k = i) || done k) g8 g18 v30 v40 w := by
  have e : ∀ k ∈ [8, 9, 18, 19, 20, 21], (decide (k = i) || done k) = done k := fun k hk => by
    have : k ≠ i := fun e => hi (e ▸ hk)
    simp [this]
  obtain ⟨h1, h2, h3, h4, h5, h7, h8⟩ := h
  constructor
  all_goals (try simp only [e 8 (by decide), e 9 (by decide), e 18 (by decide), e 19 (by decide), e 20 (by decide), e 21 (by decide)])
  all_goals assumption
theorem AllI.step8 (h : AllI w0 vF vA n fs zs f a done g8 g18 v30 v40 w) (q : done 9 = false) : AllI w0 vF vA n fs zs f a (fun k => decide (k = 8) || done k) w.heap.size g18 v30 v40 (w.alloc (.cells #[f] 23)) := by
  have hlt := h.lt
  obtain ⟨h1, h2, h3, h4, h5, h7, h8⟩ := h
  have ho : ∀ k, k < w.heap.size → (w.alloc (.cells #[f] 23)).heap[k]? = w.heap[k]? := fun k hk => Below.heap_alloc w _ k hk
  refine ⟨h1.alloc h1.size _, ?_, ?_, ?_, ?_, ?_, ?_⟩
  · rw [ho _ (by omega)]; simpa using h2
  · rw [ho _ (by omega)]; simpa using h3
  · simpa using h4.alloc _
  · simpa using h5.alloc _
  · intro _ _
    refine ⟨heap_alloc_new w _, by omega, fun hv => ?_⟩
    rw [q] at h4
    have := h4.lt _ hv
    omega
  · intro p q'
    obtain ⟨k1, k2, k3⟩ := h8 (by simpa using p) (by simpa using q')
    exact ⟨by rw [ho _ (Array.getElem?_eq_some_iff.1 k1).1]; exact k1, k2, k3⟩
theorem AllI.step18 (h : AllI w0 vF vA n fs zs f a done g8 g18 v30 v40 w) (q : done 19 = false) : AllI w0 vF vA n fs zs f a (fun k => decide (k = 18) || done k) g8 w.heap.size v30 v40 (w.alloc (.cells #[.int .i64 a.seg, .int .u64 a.gen, .int .i64 a.sec] 32)) := by
  have hlt := h.lt
  obtain ⟨h1, h2, h3, h4, h5, h7, h8⟩ := h
  have ho : ∀ k, k < w.heap.size → (w.alloc (.cells #[.int .i64 a.seg, .int .u64 a.gen, .int .i64 a.sec] 32)).heap[k]? = w.heap[k]? := fun k hk => Below.heap_alloc w _ k hk
  refine ⟨h1.alloc h1.size _, ?_, ?_, ?_, ?_, ?_, ?_⟩
  · rw [ho _ (by omega)]; simpa using h2
  · rw [ho _ (by omega)]; simpa using h3
  · simpa using h4.alloc _
  · simpa using h5.alloc _
  · intro p q'
    obtain ⟨k1, k2, k3⟩ := h7 (by simpa using p) (by simpa using q')
    exact ⟨by rw [ho _ (Array.getElem?_eq_some_iff.1 k1).1]; exact k1, k2, k3⟩
  · intro _ _
    refine ⟨heap_alloc_new w _, by omega, fun hv => ?_⟩
    rw [q] at h5
    have := h5.lt _ hv
    omega
theorem block_cells {w : World} {g : Nat} {cs : List Value} {e : TypeId} (h : w.heap[g]? = some (.cells cs.toArray e (0, 0))) : ∀ j u, cs[j]? = some u → w.cell? ((⟨g, 0, none⟩ : Addr).add j) = some u := fun j u hu => by
  rw [Addr.add_lit, Nat.zero_add]
  simp [World.cell?, h, hu]
theorem AllI.step9 (h : AllI w0 vF vA n fs zs f a done g8 g18 v30 v40 w) (hn : n < 1024) (hd : done 9 = false) (p : done 8 = true) (q : done 20 = false) (hf : f.oneCell' = true) :
    ∃ v W, (Builtin.append_ #[57, 57] 57 #[vF, .slice (some ⟨g8, 0, none⟩) 1 1]).run Try.prog w = .ok v W ∧ AllI w0 vF vA n fs zs f a (fun k => decide (k = 9) || done k) g8 g18 v v40 W := by
  have hlt := h.lt
  obtain ⟨h1, h2, h3, h4, h5, h7, h8⟩ := h
  obtain ⟨k1, k2, k3⟩ := h7 p hd
  rw [hd] at h4
  simp only [Bool.false_eq_true, if_false] at h4
  obtain ⟨i0, hi, hz, hs, hb⟩ := elemU32.hi
  obtain ⟨v, W, hr, ho, hg, _⟩ := run_append_own (P := Try.prog) w (w0.heap.size + 2) 57 57 23 i0 _ 1 4 Try.underlying57 hi hz hs hb rfl (by decide) vF n fs h4 ⟨g8, 0, none⟩ 1 1 [f] rfl (block_cells (cs := [f]) k1) (by simpa using hf) (by unfold maxLen; omega) (by omega) hlt
  have hgk : ∀ k, w0.heap.size ≤ k → k < w0.heap.size + 2 → W.heap[k]? = w.heap[k]? := fun k hk hk2 => hg.block k (by omega) (fun e => by have := h4.lt k e.symm; omega)
  refine ⟨v, W, hr, h1.grown hg h1.size (fun k hk => by have := h4.lt k hk; omega), ?_, ?_, ?_, ?_, ?_, ?_⟩
  · rw [hgk _ (by omega) (by omega)]; simpa [q] using h2
  · rw [hgk _ (by omega) (by omega)]; simpa using h3
  · simpa using ho
  · have := h5.kept hg (own_apart h4 h5 (by decide))
    simpa using this
  · intro _ q'; simp at q'
  · intro p' q'
    obtain ⟨m1, m2, m3⟩ := h8 (by simpa using p') (by simpa using q')
    exact ⟨by rw [hg.block g18 (Array.getElem?_eq_some_iff.1 m1).1 (block_apart h4 m1 (by decide))]; exact m1, m2, m3⟩
theorem AllI.step19 (h : AllI w0 vF vA n fs zs f a done g8 g18 v30 v40 w) (hn : n < 1024) (hd : done 19 = false) (p : done 18 = true) (q : done 21 = false) :
    ∃ v W, (Builtin.append_ #[39, 39] 39 #[vA, .slice (some ⟨g18, 0, none⟩) 1 1]).run Try.prog w = .ok v W ∧ AllI w0 vF vA n fs zs f a (fun k => decide (k = 19) || done k) g8 g18 v30 v W := by
  have hlt := h.lt
  obtain ⟨h1, h2, h3, h4, h5, h7, h8⟩ := h
  obtain ⟨k1, k2, k3⟩ := h8 p hd
  rw [hd] at h5
  simp only [Bool.false_eq_true, if_false] at h5
  obtain ⟨i0, hi, hz, hs, hb⟩ := elemAdr.hi
  obtain ⟨v, W, hr, ho, hg, _⟩ := run_append_own (P := Try.prog) w (w0.heap.size + 2) 39 39 32 i0 _ 3 24 Try.underlying39 hi hz hs hb rfl (by decide) vA n zs h5 ⟨g18, 0, none⟩ 1 1 [.int .i64 a.seg, .int .u64 a.gen, .int .i64 a.sec] rfl (block_cells (cs := [.int .i64 a.seg, .int .u64 a.gen, .int .i64 a.sec]) k1) (by simp [Value.oneCell']) (by unfold maxLen; omega) (by omega) hlt
  have hgk : ∀ k, w0.heap.size ≤ k → k < w0.heap.size + 2 → W.heap[k]? = w.heap[k]? := fun k hk hk2 => hg.block k (by omega) (fun e => by have := h5.lt k e.symm; omega)
  refine ⟨v, W, hr, h1.grown hg h1.size (fun k hk => by have := h5.lt k hk; omega), ?_, ?_, ?_, ?_, ?_, ?_⟩
  · rw [hgk _ (by omega) (by omega)]; simpa using h2
  · rw [hgk _ (by omega) (by omega)]; simpa [q] using h3
  · have := h4.kept hg (own_apart h5 h4 (by decide))
    simpa using this
  · simpa using ho
  · intro p' q'
    obtain ⟨m1, m2, m3⟩ := h7 (by simpa using p') (by simpa using q')
    exact ⟨by rw [hg.block g8 (Array.getElem?_eq_some_iff.1 m1).1 (block_apart h5 m1 (by decide))]; exact m1, m2, m3⟩
  · intro _ q'; simp at q'
theorem AllI.step20 (h : AllI w0 vF vA n fs zs f a done g8 g18 v30 v40 w) (p : done 9 = true) : AllI w0 vF vA n fs zs f a (fun k => decide (k = 20) || done k) g8 g18 v30 v40 (w.setCell ⟨w0.heap.size, 0, none⟩ v30) := by
  have hlt := h.lt
  obtain ⟨h1, h2, h3, h4, h5, h7, h8⟩ := h
  have hk : ∀ k, k ≠ w0.heap.size → (w.setCell ⟨w0.heap.size, 0, none⟩ v30).heap[k]? = w.heap[k]? := fun k hk => Below.heap_setCell _ _ _ _ hk
  have hg : w.grownBy (w.setCell ⟨w0.heap.size, 0, none⟩ v30) (some w0.heap.size) := ⟨rfl, rfl, rfl, by simp [World.setCell], fun k _ hne => hk k (fun e => hne (by rw [e]))⟩
  refine ⟨h1.setCell (by simp) _, ?_, ?_, ?_, ?_, ?_, ?_⟩
  · simp [World.setCell, Array.getElem?_modify, h2]
  · rw [hk _ (by omega)]; simpa using h3
  · have := h4.kept hg (by
      rcases hv : (if done 9 then v30 else vF).ownBlock with _ | g
      · exact .inl rfl
      · right; intro e; have := h4.lt _ hv; injection e with e; omega)
    simpa using this
  · have := h5.kept hg (by
      rcases hv : (if done 19 then v40 else vA).ownBlock with _ | g
      · exact .inl rfl
      · right; intro e; have := h5.lt _ hv; injection e with e; omega)
    simpa using this
  · intro _ q'; simp [p] at q'
  · intro p' q'
    obtain ⟨m1, m2, m3⟩ := h8 (by simpa using p') (by simpa using q')
    exact ⟨by rw [hk _ (by omega)]; exact m1, m2, m3⟩
theorem AllI.step21 (h : AllI w0 vF vA n fs zs f a done g8 g18 v30 v40 w) (p : done 19 = true) : AllI w0 vF vA n fs zs f a (fun k => decide (k = 21) || done k) g8 g18 v30 v40 (w.setCell ⟨w0.heap.size + 1, 0, none⟩ v40) := by
  have hlt := h.lt
  obtain ⟨h1, h2, h3, h4, h5, h7, h8⟩ := h
  have hk : ∀ k, k ≠ w0.heap.size + 1 → (w.setCell ⟨w0.heap.size + 1, 0, none⟩ v40).heap[k]? = w.heap[k]? := fun k hk => Below.heap_setCell _ _ _ _ hk
  have hg : w.grownBy (w.setCell ⟨w0.heap.size + 1, 0, none⟩ v40) (some (w0.heap.size + 1)) := ⟨rfl, rfl, rfl, by simp [World.setCell], fun k _ hne => hk k (fun e => hne (by rw [e]))⟩
  refine ⟨h1.setCell (by simp) _, ?_, ?_, ?_, ?_, ?_, ?_⟩
  · rw [hk _ (by omega)]; simpa using h2
  · simp [World.setCell, Array.getElem?_modify, h3]
  · have := h4.kept hg (by
      rcases hv : (if done 9 then v30 else vF).ownBlock with _ | g
      · exact .inl rfl
      · right; intro e; have := h4.lt _ hv; injection e with e; omega)
    simpa using this
  · have := h5.kept hg (by
      rcases hv : (if done 19 then v40 else vA).ownBlock with _ | g
      · exact .inl rfl
      · right; intro e; have := h5.lt _ hv; injection e with e; omega)
    simpa using this
  · intro p' q'
    obtain ⟨m1, m2, m3⟩ := h7 (by simpa using p') (by simpa using q')
    exact ⟨by rw [hk _ (by omega)]; exact m1, m2, m3⟩
  · intro _ q'; simp [p] at q'
theorem own_slice {w : World} {base e size n : Nat} {v : Value} {xs : List Value} (h : w.ownsRow base e size v n xs) : ∃ a cap, v = .slice a n cap := by
  rcases h.2 with ⟨rfl, rfl⟩ | ⟨g', cap, cur, rfl, _⟩
  · exact ⟨_, _, rfl⟩
  · exact ⟨_, _, rfl⟩
theorem AllI.own20 (h : AllI w0 vF vA n fs zs f a done g8 g18 v30 v40 w) (p : done 9 = true) : w.ownsRow (w0.heap.size + 2) 23 1 v30 (n + 1) (fs ++ [f]) := by
  have := h.ownF; rw [p] at this; exact this
theorem AllI.own21 (h : AllI w0 vF vA n fs zs f a done g8 g18 v30 v40 w) (p : done 19 = true) : w.ownsRow (w0.heap.size + 2) 32 3 v40 (n + 1) (zs ++ [.int .i64 a.seg, .int .u64 a.gen, .int .i64 a.sec]) := by
  have := h.ownA; rw [p] at this; exact this
theorem AllI.fin (h : AllI w0 vF vA n fs zs f a done g8 g18 v30 v40 w) (e9 : done 9 = true) (e19 : done 19 = true) (e20 : done 20 = true) (e21 : done 21 = true) :
    Below w0.heap.size w0 w ∧ w.heap[w0.heap.size]? = some (.cells #[v30] 57 (0, 0)) ∧ w.heap[w0.heap.size + 1]? = some (.cells #[v40] 39 (0, 0)) ∧ w.ownsRow (w0.heap.size + 2) 23 1 v30 (n + 1) (fs ++ [f]) ∧
      w.ownsRow (w0.heap.size + 2) 32 3 v40 (n + 1) (zs ++ [.int .i64 a.seg, .int .u64 a.gen, .int .i64 a.sec]) := by
  obtain ⟨h1, h2, h3, h4, h5, h7, h8⟩ := h
  rw [e20] at h2
  rw [e21] at h3
  rw [e9] at h4
  rw [e19] at h5
  exact ⟨h1, h2, h3, h4, h5⟩
end

set_option maxRecDepth 100000 in
set_option maxHeartbeats 8000000 in
theorem all_at (w : World) (L : Lay) (N : Nat) (A : List (Nat × Adr)) (h : IdxAt w L N A) :
    Calls Try.prog 22 #[.pointer (some ⟨L.bx, 0, none⟩)] w fun e w' => ∃ vF vA, e = .returned (.func (.func 29) #[] #[.pointer (some ⟨w.heap.size, 0, none⟩), .pointer (some ⟨w.heap.size + 1, 0, none⟩)]) ∧
      w'.heap[w.heap.size]? = some (.cells #[vF] 57 (0, 0)) ∧ w'.heap[w.heap.size + 1]? = some (.cells #[vA] 39 (0, 0)) ∧
      w'.ownsRow (w.heap.size + 2) 23 1 vF A.length (fngCells (A.map (·.1))) ∧ w'.ownsRow (w.heap.size + 2) 32 3 vA A.length (adrCells (A.map (·.2))) ∧ Below w.heap.size w w' := by
  have hle := h.le
  obtain ⟨S0, E0, F0, hR0, hI0, hA, hnd⟩ := h
  have hE0 : E0.length ≤ 1024 := by have := hI0.len; have := hI0.hN; omega
  have hxl := hR0.x.lt
  have f6 : w.cell? ⟨L.bx, 6, none⟩ = some (.int .i64 S0.first) := hR0.x.cell (k := 6) (by decide)
  have HR0 := Lib.hid hR0
  have HI0 := Lib.hid hI0
  have HA := Lib.hid hA
  clear hR0 hI0 hA hnd
  obtain ⟨iF, hiF, hzF, hsF, hbF⟩ := elemU32.hi
  obtain ⟨iA, hiA, hzA, hsA, hbA⟩ := elemAdr.hi
  have HEF : Hid (Try.prog.info? 23 = some iF ∧ iF.zero = some (.int .u32 0) ∧ iF.size = 1 ∧ iF.bytes = 4) := ⟨hiF, hzF, hsF, hbF⟩
  have HEA : Hid (Try.prog.info? 32 = some iA ∧ iA.zero = some (.agg #[.int .i64 0, .int .u64 0, .int .i64 0]) ∧ iA.size = 3 ∧ iA.bytes = 24) := ⟨hiA, hzA, hsA, hbA⟩
  clear hiF hzF hsF hbF hiA hzA hsA hbA
  go_enter Try.func22, Try.ntmps22
  go_wp2_with fail
  clear f6
  go_loopg [5] E0.length (fun m sv wr => ∃ (Ed Er : List Nat) (s : Int) (vF vA : Value), m = Er.length ∧ sv = .int .i64 s ∧ Hid (Links S0.next s Er ∧ E0 = Ed ++ Er) ∧
    Below w.heap.size w wr ∧ wr.heap[w.heap.size]? = some (.cells #[vF] 57 (0, 0)) ∧ wr.heap[w.heap.size + 1]? = some (.cells #[vA] 39 (0, 0)) ∧
    wr.ownsRow (w.heap.size + 2) 23 1 vF Ed.length (fngCells (Ed.map S0.fng)) ∧ wr.ownsRow (w.heap.size + 2) 32 3 vA Ed.length (adrCells (Ed.map S0.adr)))
  case atStart =>
    refine ⟨[], E0, _, .slice none 0 0, .slice none 0 0, rfl, rfl, ⟨HI0.out.row, rfl⟩, ((Below.refl _ w).alloc (Nat.le_refl _) _).alloc (by simp) _, ?_, ?_, by exact World.ownsRow_nil _ _ _ _, by exact World.ownsRow_nil _ _ _ _⟩
    · rw [Below.heap_alloc _ _ _ (by simp)]; exact heap_alloc_new w _
    · have := heap_alloc_new (w.alloc (.cells #[.slice none 0 0] 57)) (.cells #[.slice none 0 0] 39)
      simpa using this
  case round =>
    obtain ⟨Ed, Er, s, vF, vA, rfl, rfl, HL, hB, hbF, hbA, hoF, hoA⟩ := hrel
    cases Er with
    | nil =>
      obtain rfl : s = -1 := HL.out.1
      have HB := Lib.hid hB
      clear hB
      go_wp2_with fail
      go_ret
      have hE : E0 = Ed := by have := HL.out.2; simpa using this
      refine ⟨vF, vA, rfl, hbF, hbA, ?_, ?_, HB.out⟩
      · rw [← HA.out]; unfold ents; rw [List.length_map, List.map_map, hE]; exact hoF
      · rw [← HA.out]; unfold ents; rw [List.length_map, List.map_map, hE]; exact hoA
    | cons i Er =>
      obtain ⟨⟨rfl, hlk⟩, hE⟩ := HL.out
      have hiN : i < N := HI0.out.lt i (by rw [hE]; simp)
      have hEl : Ed.length < 1024 := by rw [hE] at hE0; simp at hE0; omega
      have R := HR0.out
      have hlt := R.lt
      have hx4 : wr.cell? ⟨L.bx, 4, none⟩ = some (.slice (some ⟨L.bn, 0, none⟩) N N) := by rw [hB.cell (p := ⟨L.bx, 4, none⟩) R.x.lt]; exact R.x.cell (k := 4) (by decide)
      have hx0 : wr.cell? ⟨L.bx, 0, none⟩ = some (.slice (some ⟨L.bf, 0, none⟩) N N) := by rw [hB.cell (p := ⟨L.bx, 0, none⟩) R.x.lt]; exact R.x.cell (k := 0) (by decide)
      have hx1 : wr.cell? ⟨L.bx, 1, none⟩ = some (.slice (some ⟨L.ba, 0, none⟩) N N) := by rw [hB.cell (p := ⟨L.bx, 1, none⟩) R.x.lt]; exact R.x.cell (k := 1) (by decide)
      have hcn : wr.cell? ⟨L.bn, i, none⟩ = some (.int .i64 (S0.next i)) := by rw [hB.cell (p := ⟨L.bn, i, none⟩) R.nx.lt]; exact R.nx.cell hiN
      have hcf : wr.cell? ⟨L.bf, i, none⟩ = some (.int .u32 (S0.fng i)) := by rw [hB.cell (p := ⟨L.bf, i, none⟩) R.f.lt]; exact R.f.cell hiN
      have ha0 : wr.cell? ⟨L.ba, i * 3, none⟩ = some (.int .i64 (S0.adr i).seg) := by
        rw [hB.cell (p := ⟨L.ba, i * 3, none⟩) R.a.lt]
        have := R.a.cell (k := i * 3) (by omega)
        simpa [aRow, Adr.cell] using this
      have ha1 : wr.cell? ⟨L.ba, i * 3 + 1, none⟩ = some (.int .u64 (S0.adr i).gen) := by
        rw [hB.cell (p := ⟨L.ba, i * 3 + 1, none⟩) R.a.lt]
        have := R.a.cell (k := i * 3 + 1) (by omega)
        simpa [aRow, show (i * 3 + 1) / 3 = i by omega, show (i * 3 + 1) % 3 = 1 by omega, Adr.cell] using this
      have ha2 : wr.cell? ⟨L.ba, i * 3 + 2, none⟩ = some (.int .i64 (S0.adr i).sec) := by
        rw [hB.cell (p := ⟨L.ba, i * 3 + 2, none⟩) R.a.lt]
        have := R.a.cell (k := i * 3 + 2) (by omega)
        simpa [aRow, show (i * 3 + 2) / 3 = i by omega, show (i * 3 + 2) % 3 = 2 by omega, Adr.cell] using this
      have HCELLS : Hid (∀ W, Below w.heap.size w W → W.cell? ⟨L.bx, 0, none⟩ = some (.slice (some ⟨L.bf, 0, none⟩) N N) ∧ W.cell? ⟨L.bx, 1, none⟩ = some (.slice (some ⟨L.ba, 0, none⟩) N N) ∧ W.cell? ⟨L.bf, i, none⟩ = some (.int .u32 (S0.fng i)) ∧
          W.cell? ⟨L.ba, i * 3, none⟩ = some (.int .i64 (S0.adr i).seg) ∧ W.cell? ⟨L.ba, i * 3 + 1, none⟩ = some (.int .u64 (S0.adr i).gen) ∧ W.cell? ⟨L.ba, i * 3 + 2, none⟩ = some (.int .i64 (S0.adr i).sec)) := by
        intro W hW
        rw [hB.cell (p := ⟨L.bx, 0, none⟩) R.x.lt] at hx0
        rw [hB.cell (p := ⟨L.bx, 1, none⟩) R.x.lt] at hx1
        rw [hB.cell (p := ⟨L.bf, i, none⟩) R.f.lt] at hcf
        rw [hB.cell (p := ⟨L.ba, i * 3, none⟩) R.a.lt] at ha0
        rw [hB.cell (p := ⟨L.ba, i * 3 + 1, none⟩) R.a.lt] at ha1
        rw [hB.cell (p := ⟨L.ba, i * 3 + 2, none⟩) R.a.lt] at ha2
        rw [hW.cell (p := ⟨L.bx, 0, none⟩) R.x.lt, hW.cell (p := ⟨L.bx, 1, none⟩) R.x.lt, hW.cell (p := ⟨L.bf, i, none⟩) R.f.lt, hW.cell (p := ⟨L.ba, i * 3, none⟩) R.a.lt, hW.cell (p := ⟨L.ba, i * 3 + 1, none⟩) R.a.lt, hW.cell (p := ⟨L.ba, i * 3 + 2, none⟩) R.a.lt]
        exact ⟨hx0, hx1, hcf, ha0, ha1, ha2⟩
      have HCELL4 : Hid (∀ W, Below w.heap.size w W → W.cell? ⟨L.bx, 4, none⟩ = some (.slice (some ⟨L.bn, 0, none⟩) N N) ∧ W.cell? ⟨L.bn, i, none⟩ = some (.int .i64 (S0.next i))) := by
        intro W hW
        rw [hB.cell (p := ⟨L.bx, 4, none⟩) R.x.lt] at hx4
        rw [hB.cell (p := ⟨L.bn, i, none⟩) R.nx.lt] at hcn
        rw [hW.cell (p := ⟨L.bx, 4, none⟩) R.x.lt, hW.cell (p := ⟨L.bn, i, none⟩) R.nx.lt]
        exact ⟨hx4, hcn⟩
      have HE := Lib.hid hE
      have HLK := Lib.hid hlk
      have HLT := Lib.hid hlt
      clear hE hlk R hlt
      have HB := Lib.hid hB
      have HBF := Lib.hid hbF
      have HBA := Lib.hid hbA
      clear hx0 hx1 hcf ha0 ha1 ha2 hcn hx4 hB hbF hbA
      go_upto_region 7 with fail
      -- REGION
      refine wp_region_inv (by kernel_rfl) (hord_of (by kernel_rfl)) (fun done a W => ∃ (g8 g18 : Nat) (v30 v40 : Value), a = { tmps := #[(.pointer (some ⟨L.bx, 0, none⟩)), undef, .nilFunc, .pointer (some ⟨w.heap.size, 0, none⟩), .pointer (some ⟨w.heap.size + 1, 0, none⟩), .int .i64 i, (.pointer (some ⟨L.bx, 0, none⟩)), .bool true, (.pointer (some ⟨L.bx, 0, none⟩)), (.pointer (some ⟨L.bx, 0, none⟩)), .pointer (some ⟨L.bx, 6, none⟩), .int .i64 S0.first, .int .i64 i, .bool ((i : Int) != -1), u14, u15, u16, u17, u18, u19, u20, if done 0 then vF else u21, if done 1 then (.pointer (some ⟨L.bx, 0, none⟩)) else u22, if done 2 then (.pointer (some ⟨L.bx, 0, none⟩)) else u23, if done 3 then (.pointer (some ⟨L.bx, 0, none⟩)) else u24, if done 4 then (.slice (some ⟨L.bf, 0, none⟩) N N) else u25, if done 5 then (.int .i64 i) else u26, if done 6 then (.pointer (some ⟨L.bf, i, none⟩)) else u27, if done 7 then (.int .u32 (S0.fng i)) else u28, if done 8 then (.slice (some ⟨g8, 0, none⟩) 1 1) else u29, if done 9 then v30 else u30, if done 10 then vA else u31, if done 11 then (.pointer (some ⟨L.bx, 0, none⟩)) else u32, if done 12 then (.pointer (some ⟨L.bx, 0, none⟩)) else u33, if done 13 then (.pointer (some ⟨L.bx, 1, none⟩)) else u34, if done 14 then (.slice (some ⟨L.ba, 0, none⟩) N N) else u35, if done 15 then (.int .i64 i) else u36, if done 16 then (.pointer (some ⟨L.ba, i * 3, none⟩)) else u37, if done 17 then (.agg #[.int .i64 (S0.adr i).seg, .int .u64 (S0.adr i).gen, .int .i64 (S0.adr i).sec]) else u38, if done 18 then (.slice (some ⟨g18, 0, none⟩) 1 1) else u39, if done 19 then v40 else u40, undef], defers := [] } ∧
        AllI w vF vA Ed.length (fngCells (Ed.map S0.fng)) (adrCells (Ed.map S0.adr)) (.int .u32 (S0.fng i)) (S0.adr i) done g8 g18 v30 v40 W) ?_ ?_ ?_
      · exact ⟨0, 0, undef, undef, by simp, ⟨HB.out.drew, HBF.out, HBA.out, hoF, hoA, (fun h => by cases h), (fun h => by cases h)⟩⟩
      · intro done a W j o ho hd hdep hcl ⟨g8, g18, v30, v40, hlit, hI⟩
        have hj : j < 22 := (Array.getElem?_eq_some_iff.1 ho).1
        have HC := HCELLS.out W hI.bel
        obtain ⟨hx0, hx1, hcf, ha0, ha1, ha2⟩ := HC
        have hbF' := hI.boxF
        have hbA' := hI.boxA
        subst hlit
        obtain rfl | rfl | rfl | rfl | rfl | rfl | rfl | rfl | rfl | rfl | rfl | rfl | rfl | rfl | rfl | rfl | rfl | rfl | rfl | rfl | rfl | rfl : j = 0 ∨ j = 1 ∨ j = 2 ∨ j = 3 ∨ j = 4 ∨ j = 5 ∨ j = 6 ∨ j = 7 ∨ j = 8 ∨ j = 9 ∨ j = 10 ∨ j = 11 ∨ j = 12 ∨ j = 13 ∨ j = 14 ∨ j = 15 ∨ j = 16 ∨ j = 17 ∨ j = 18 ∨ j = 19 ∨ j = 20 ∨ j = 21 := by omega
        · have q : done 20 = false := by
            cases h : done 20 with
            | false => rfl
            | true =>
              have h1 := hcl 20 _ rfl h ⟨9, .data⟩ (by simp) rfl
              have h2 := hcl 9 _ rfl h1 ⟨0, .data⟩ (by simp) rfl
              rw [hd] at h2; cases h2
          rw [q] at hbF'
          have hc : W.cell? ⟨w.heap.size, 0, none⟩ = some vF := by simp [World.cell?, hbF']
          refine wpOp_val ho (by cases ho; rfl) (w' := W) (v := vF) (by cases ho; simp [execOp, go_sem, hc]) ?_
          cases ho
          exact ⟨g8, g18, v30, v40, by simp [Act.put], hI.quiet 0 (by decide)⟩
        · refine wpOp_val ho (by cases ho; rfl) (w' := W) (v := (.pointer (some ⟨L.bx, 0, none⟩))) (by cases ho; simp [execOp, go_sem]) ?_
          cases ho
          exact ⟨g8, g18, v30, v40, by simp [Act.put], hI.quiet 1 (by decide)⟩
        · have p1 : done 1 = true := by cases ho; exact hdep ⟨1, .data⟩ (by simp) rfl
          refine wpOp_val ho (by cases ho; rfl) (w' := W) (v := (.pointer (some ⟨L.bx, 0, none⟩))) (by cases ho; simp [execOp, go_sem, p1]) ?_
          cases ho
          exact ⟨g8, g18, v30, v40, by simp [Act.put], hI.quiet 2 (by decide)⟩
        · have p2 : done 2 = true := by cases ho; exact hdep ⟨2, .data⟩ (by simp) rfl
          refine wpOp_val ho (by cases ho; rfl) (w' := W) (v := (.pointer (some ⟨L.bx, 0, none⟩))) (by cases ho; simp [execOp, go_sem, p2]) ?_
          cases ho
          exact ⟨g8, g18, v30, v40, by simp [Act.put], hI.quiet 3 (by decide)⟩
        · have p3 : done 3 = true := by cases ho; exact hdep ⟨3, .data⟩ (by simp) rfl
          refine wpOp_val ho (by cases ho; rfl) (w' := W) (v := (.slice (some ⟨L.bf, 0, none⟩) N N)) (by cases ho; simp [execOp, go_sem, p3, hx0]) ?_
          cases ho
          exact ⟨g8, g18, v30, v40, by simp [Act.put], hI.quiet 4 (by decide)⟩
        · refine wpOp_val ho (by cases ho; rfl) (w' := W) (v := (.int .i64 i)) (by cases ho; simp [execOp, go_sem]) ?_
          cases ho
          exact ⟨g8, g18, v30, v40, by simp [Act.put], hI.quiet 5 (by decide)⟩
        · have p4 : done 4 = true := by cases ho; exact hdep ⟨4, .data⟩ (by simp) rfl
          have p5 : done 5 = true := by cases ho; exact hdep ⟨5, .data⟩ (by simp) rfl
          refine wpOp_val ho (by cases ho; rfl) (w' := W) (v := (.pointer (some ⟨L.bf, i, none⟩))) (by cases ho; simp [execOp, go_sem, p4, p5, Nat.not_le.2 hiN]) ?_
          cases ho
          exact ⟨g8, g18, v30, v40, by simp [Act.put], hI.quiet 6 (by decide)⟩
        · have p6 : done 6 = true := by cases ho; exact hdep ⟨6, .data⟩ (by simp) rfl
          refine wpOp_val ho (by cases ho; rfl) (w' := W) (v := (.int .u32 (S0.fng i))) (by cases ho; simp [execOp, go_sem, p6, hcf]) ?_
          cases ho
          exact ⟨g8, g18, v30, v40, by simp [Act.put], hI.quiet 7 (by decide)⟩
        · have p7 : done 7 = true := by cases ho; exact hdep ⟨7, .data⟩ (by simp) rfl
          refine wpOp_val ho (by cases ho; rfl) (w' := W.alloc (.cells #[.int .u32 (S0.fng i)] 23)) (v := .slice (some ⟨W.heap.size, 0, none⟩) 1 1) (by cases ho; simp [execOp, go_sem, p7]) ?_
          cases ho
          have q : done 9 = false := by
            cases h : done 9 with
            | false => rfl
            | true => have := hcl 9 _ rfl h ⟨8, .data⟩ (by simp) rfl; rw [hd] at this; cases this
          exact ⟨W.heap.size, g18, v30, v40, by simp [Act.put, hd], hI.step8 q⟩
        · have p0 : done 0 = true := by cases ho; exact hdep ⟨0, .data⟩ (by simp) rfl
          have p8 : done 8 = true := by cases ho; exact hdep ⟨8, .data⟩ (by simp) rfl
          obtain ⟨v, W', hrun, hI'⟩ := hI.step9 hEl hd p8 (by
            cases h : done 20 with
            | false => rfl
            | true => have := hcl 20 _ rfl h ⟨9, .data⟩ (by simp) rfl; rw [hd] at this; cases this) rfl
          refine wpOp_append ho (by cases ho; rfl) (.tmp 21) (.tmp 29) 57 (by cases ho; rfl) (by simp [Act.eval, p0, p8]; rfl) (by simp [Act.eval, p0, p8]; rfl) (by cases ho; exact hrun) ?_
          cases ho
          exact ⟨g8, g18, v, v40, by simp [Act.put], hI'⟩
        · have q : done 21 = false := by
            cases h : done 21 with
            | false => rfl
            | true =>
              have h1 := hcl 21 _ rfl h ⟨19, .data⟩ (by simp) rfl
              have h2 := hcl 19 _ rfl h1 ⟨10, .data⟩ (by simp) rfl
              rw [hd] at h2; cases h2
          rw [q] at hbA'
          have hc : W.cell? ⟨w.heap.size + 1, 0, none⟩ = some vA := by simp [World.cell?, hbA']
          refine wpOp_val ho (by cases ho; rfl) (w' := W) (v := vA) (by cases ho; simp [execOp, go_sem, hc]) ?_
          cases ho
          exact ⟨g8, g18, v30, v40, by simp [Act.put], hI.quiet 10 (by decide)⟩
        · refine wpOp_val ho (by cases ho; rfl) (w' := W) (v := (.pointer (some ⟨L.bx, 0, none⟩))) (by cases ho; simp [execOp, go_sem]) ?_
          cases ho
          exact ⟨g8, g18, v30, v40, by simp [Act.put], hI.quiet 11 (by decide)⟩
        · have p11 : done 11 = true := by cases ho; exact hdep ⟨11, .data⟩ (by simp) rfl
          refine wpOp_val ho (by cases ho; rfl) (w' := W) (v := (.pointer (some ⟨L.bx, 0, none⟩))) (by cases ho; simp [execOp, go_sem, p11]) ?_
          cases ho
          exact ⟨g8, g18, v30, v40, by simp [Act.put], hI.quiet 12 (by decide)⟩
        · have p12 : done 12 = true := by cases ho; exact hdep ⟨12, .data⟩ (by simp) rfl
          refine wpOp_val ho (by cases ho; rfl) (w' := W) (v := (.pointer (some ⟨L.bx, 1, none⟩))) (by cases ho; simp [execOp, go_sem, p12]) ?_
          cases ho
          exact ⟨g8, g18, v30, v40, by simp [Act.put], hI.quiet 13 (by decide)⟩
        · have p13 : done 13 = true := by cases ho; exact hdep ⟨13, .data⟩ (by simp) rfl
          refine wpOp_val ho (by cases ho; rfl) (w' := W) (v := (.slice (some ⟨L.ba, 0, none⟩) N N)) (by cases ho; simp [execOp, go_sem, p13, hx1]) ?_
          cases ho
          exact ⟨g8, g18, v30, v40, by simp [Act.put], hI.quiet 14 (by decide)⟩
        · refine wpOp_val ho (by cases ho; rfl) (w' := W) (v := (.int .i64 i)) (by cases ho; simp [execOp, go_sem]) ?_
          cases ho
          exact ⟨g8, g18, v30, v40, by simp [Act.put], hI.quiet 15 (by decide)⟩
        · have p14 : done 14 = true := by cases ho; exact hdep ⟨14, .data⟩ (by simp) rfl
          have p15 : done 15 = true := by cases ho; exact hdep ⟨15, .data⟩ (by simp) rfl
          refine wpOp_val ho (by cases ho; rfl) (w' := W) (v := (.pointer (some ⟨L.ba, i * 3, none⟩))) (by cases ho; simp [execOp, go_sem, p14, p15, Nat.not_le.2 hiN]) ?_
          cases ho
          exact ⟨g8, g18, v30, v40, by simp [Act.put], hI.quiet 16 (by decide)⟩
        · have p16 : done 16 = true := by cases ho; exact hdep ⟨16, .data⟩ (by simp) rfl
          refine wpOp_val ho (by cases ho; rfl) (w' := W) (v := (.agg #[.int .i64 (S0.adr i).seg, .int .u64 (S0.adr i).gen, .int .i64 (S0.adr i).sec])) (by cases ho; simp [execOp, go_sem, p16, ha0, ha1, ha2]) ?_
          cases ho
          exact ⟨g8, g18, v30, v40, by simp [Act.put], hI.quiet 17 (by decide)⟩
        · have p17 : done 17 = true := by cases ho; exact hdep ⟨17, .data⟩ (by simp) rfl
          refine wpOp_val ho (by cases ho; rfl) (w' := W.alloc (.cells #[.int .i64 (S0.adr i).seg, .int .u64 (S0.adr i).gen, .int .i64 (S0.adr i).sec] 32)) (v := .slice (some ⟨W.heap.size, 0, none⟩) 1 1) (by cases ho; simp [execOp, go_sem, p17]) ?_
          cases ho
          have q : done 19 = false := by
            cases h : done 19 with
            | false => rfl
            | true => have := hcl 19 _ rfl h ⟨18, .data⟩ (by simp) rfl; rw [hd] at this; cases this
          exact ⟨g8, W.heap.size, v30, v40, by simp [Act.put, hd], hI.step18 q⟩
        · have p10 : done 10 = true := by cases ho; exact hdep ⟨10, .data⟩ (by simp) rfl
          have p18 : done 18 = true := by cases ho; exact hdep ⟨18, .data⟩ (by simp) rfl
          obtain ⟨v, W', hrun, hI'⟩ := hI.step19 hEl hd p18 (by
            cases h : done 21 with
            | false => rfl
            | true => have := hcl 21 _ rfl h ⟨19, .data⟩ (by simp) rfl; rw [hd] at this; cases this)
          refine wpOp_append ho (by cases ho; rfl) (.tmp 31) (.tmp 39) 39 (by cases ho; rfl) (by simp [Act.eval, p10, p18]; rfl) (by simp [Act.eval, p10, p18]; rfl) (by cases ho; exact hrun) ?_
          cases ho
          exact ⟨g8, g18, v30, v, by simp [Act.put], hI'⟩
        · have p9 : done 9 = true := by cases ho; exact hdep ⟨9, .data⟩ (by simp) rfl
          have hc : ∃ u, W.cell? ⟨w.heap.size, 0, none⟩ = some u := ⟨_, by simp [World.cell?, hbF']; rfl⟩
          obtain ⟨u, hc⟩ := hc
          have hfz : W.frozen? ⟨w.heap.size, 0, none⟩ = false := by simp [World.frozen?, hbF']
          obtain ⟨a1, cap1, hv1⟩ := own_slice (hI.own20 p9)
          subst hv1
          refine wpOp_skip ho (by cases ho; rfl) (w' := W.setCell ⟨w.heap.size, 0, none⟩ (.slice a1 (Ed.length + 1) cap1)) (by cases ho; simp [execOp, go_sem, p9, stored, hc, hfz]) ?_
          cases ho
          exact ⟨g8, g18, .slice a1 (Ed.length + 1) cap1, v40, by simp [Act.put], hI.step20 p9⟩
        · have p19 : done 19 = true := by cases ho; exact hdep ⟨19, .data⟩ (by simp) rfl
          have hc : ∃ u, W.cell? ⟨w.heap.size + 1, 0, none⟩ = some u := ⟨_, by simp [World.cell?, hbA']; rfl⟩
          obtain ⟨u, hc⟩ := hc
          have hfz : W.frozen? ⟨w.heap.size + 1, 0, none⟩ = false := by simp [World.frozen?, hbA']
          obtain ⟨a1, cap1, hv1⟩ := own_slice (hI.own21 p19)
          subst hv1
          refine wpOp_skip ho (by cases ho; rfl) (w' := W.setCell ⟨w.heap.size + 1, 0, none⟩ (.slice a1 (Ed.length + 1) cap1)) (by cases ho; simp [execOp, go_sem, p19, stored, hc, hfz]) ?_
          cases ho
          exact ⟨g8, g18, v30, .slice a1 (Ed.length + 1) cap1, by simp [Act.put], hI.step21 p19⟩
      · rintro done a W hall ⟨g8, g18, v30, v40, rfl, hI⟩
        have hl := hall
        clear hall
        have e0 := hl 0 (by decide)
        have e1 := hl 1 (by decide)
        have e2 := hl 2 (by decide)
        have e3 := hl 3 (by decide)
        have e4 := hl 4 (by decide)
        have e5 := hl 5 (by decide)
        have e6 := hl 6 (by decide)
        have e7 := hl 7 (by decide)
        have e8 := hl 8 (by decide)
        have e9 := hl 9 (by decide)
        have e10 := hl 10 (by decide)
        have e11 := hl 11 (by decide)
        have e12 := hl 12 (by decide)
        have e13 := hl 13 (by decide)
        have e14 := hl 14 (by decide)
        have e15 := hl 15 (by decide)
        have e16 := hl 16 (by decide)
        have e17 := hl 17 (by decide)
        have e18 := hl 18 (by decide)
        have e19 := hl 19 (by decide)
        have e20 := hl 20 (by decide)
        have e21 := hl 21 (by decide)
        obtain ⟨hB2, hbF2, hbA2, hoF2, hoA2⟩ := hI.fin e9 e19 e20 e21
        simp only [e0, e1, e2, e3, e4, e5, e6, e7, e8, e9, e10, e11, e12, e13, e14, e15, e16, e17, e18, e19, if_true]
        clear e0 e1 e2 e3 e4 e5 e6 e7 e8 e9 e10 e11 e12 e13 e14 e15 e16 e17 e18 e19 e20 e21 hl hI
        have hx4 := HCELL4.out W hB2
        obtain ⟨hx4, hcn⟩ := hx4
        have HB2 := Lib.hid hB2
        have HBF2 := Lib.hid hbF2
        have HBA2 := Lib.hid hbA2
        have HOF2 := Lib.hid hoF2
        have HOA2 := Lib.hid hoA2
        clear hB2 hbF2 hbA2 hoF2 hoA2 hoF hoA HBF HBA
        go_wp2_with fail
        go_roundg Er.length
        case measure => simp
        case rel =>
          refine ⟨Ed ++ [i], Er, S0.next i, v30, v40, rfl, rfl, ⟨HLK.out, by rw [HE.out, List.append_assoc]; rfl⟩, HB2.out, HBF2.out, HBA2.out, ?_, ?_⟩
          · rw [List.length_append, List.map_append]
            unfold fngCells
            rw [List.map_append]
            exact HOF2.out
          · rw [List.length_append, List.map_append]
            exact (adrCells_snoc (Ed.map S0.adr) (S0.adr i)).symm ▸ HOA2.out
      -- END
end Go.Proofs.Ytccgdfamjohmgaa
