/- The document's order. Conditions: the segments lie in memory; at most sixteen. -/
import Derived.Test.YtlcdadnfcdjglaaOrd2
import Derived.Test.YtlcdadnfcdjglaaRfn
import Derived.Test.YtlcdadnfcdjglaaReg
import Derived.Deep.CutBlock
import Derived.Deep.CutRange
set_option linter.unusedVariables false
set_option linter.unusedSimpArgs false
namespace Go.Proofs.Ytlcdadnfcdjglaa
open Go.RowKit Go.Ice Go.Ring

theorem run_slice_cap {P : Program} {w : World} {t e : TypeId} (ht : P.underlying t = some (.slice e)) (hs : ∃ n, (sizeOf e).run P w = .ok n w) (a : Option Addr) (len cap h : Nat) (hh : h ≤ cap) :
    (Instr.sliceAt t (.slice a len cap) none (some (.int .i64 h)) (some (.int .i64 h))).run P w = .ok (.slice a h h) w := by
  obtain ⟨n, hn⟩ := hs
  cases a with
  | none => simp [Instr.sliceAt, Instr.slice, Instr.sliceBounds, Instr.sliceBound, go_sem, run_underlying ht, hh, hn]
  | some a => simp [Instr.sliceAt, Instr.slice, Instr.sliceBounds, Instr.sliceBound, go_sem, run_underlying ht, hh, hn]
theorem run_slice_from {P : Program} {t e n : TypeId} (ht : P.underlying t = some (.slice e)) (hs : ∀ w, (sizeOf e).run P w = .ok n w) (a : Option Addr) (len cap h : Nat) (hh : h ≤ len) (hl : len ≤ cap) :
    ∃ a', (∀ w, (Instr.sliceAt t (.slice a len cap) (some (.int .i64 h)) none none).run P w = .ok (.slice a' (len - h) (cap - h)) w) ∧ (a = none → a' = none) ∧ (∀ p, a = some p → h < cap → a' = some (p.add (h * n))) ∧ (∀ p, a = some p → ∃ p', a' = some p') := by
  cases a with
  | none =>
    refine ⟨none, fun w => ?_, fun _ => rfl, (fun p hp => by cases hp), (fun p hp => by cases hp)⟩
    simp [Instr.sliceAt, Instr.slice, Instr.sliceBounds, Instr.sliceBound, go_sem, run_underlying ht, hh, hl, hs]
  | some a =>
    refine ⟨some (if h = cap then a else a.add (h * n)), fun w => ?_, (fun hp => by cases hp), (fun p hp hlt => by injection hp with hp; subst hp; rw [if_neg (by omega)]), (fun p _ => ⟨_, rfl⟩)⟩
    simp [Instr.sliceAt, Instr.slice, Instr.sliceBounds, Instr.sliceBound, go_sem, run_underlying ht, hh, hl, hs]
    by_cases hc : h = cap
    · simp [hc]
    · simp [hc]
      omega

/-- An append that finds no room, of whatever slice. -/
theorem app_full {P : Program} {t ty e size bytes : Nat} {z : Value} (E : Elem P t e size bytes z) {w : World} {a : Option Addr} {n m : Nat} {x : Value} {xs news : List Value}
    (hl : xs.length = n * size) (hno : a = none → n = 0) (hxs : ∀ b, a = some b → ∀ j u, xs[j]? = some u → w.cell? (b.add j) = some u) (hx : IsSlK w size m x news) (h1 : ∀ u ∈ news, u.oneCell' = true) (hm : 0 < m) (hroom : (n + m) * bytes ≤ 140737488355328) (h63 : n + m ≤ maxLen) :
    ∃ v' w', (Builtin.append_ #[t, t] ty #[.slice a n n, x]).run P w = .ok v' w' ∧ w'.ownsRow w.heap.size e size v' (n + m) (xs ++ news) ∧ w.grownBy w' none := by
  cases a with
  | none =>
    obtain rfl := hno rfl
    obtain rfl : xs = [] := List.length_eq_zero_iff.1 (by rw [hl, Nat.zero_mul])
    obtain ⟨v', w', hr, h2, h3, _⟩ := app_at E (ty := ty) (World.ownsRow_nil w w.heap.size e size) hx h1 hroom h63 (Nat.le_refl _)
    exact ⟨v', w', hr, h2, h3⟩
  | some b =>
    obtain ⟨ht, ⟨i, hi, hz, hs, hb⟩, hzs, hsz⟩ := E
    obtain ⟨hln, ⟨rfl, _⟩ | ⟨h0, b', off, cap, rfl, g1, g2, g3, g4⟩⟩ := hx
    · omega
    · exact run_append_arg_grows (P := P) w t ty e i z size bytes ht hi hz hs hb hzs hsz b n n xs hl (hxs b rfl) ⟨b', off, none⟩ m cap news hln (fun j u hu => by
        have hj : j < news.length := by
          rcases Nat.lt_or_ge j news.length with h | h
          · exact h
          · rw [List.getElem?_eq_none h] at hu; cases hu
        rw [show (⟨b', off, none⟩ : Addr).add j = ⟨b', off + j, none⟩ from Addr.add_lit _ _ _, g4 j hj, hu]) (by omega) h63 hroom

theorem insL_split (g : Nat → Nat) (x : Nat) : ∀ (q : List Nat) (k : Nat), k ≤ q.length → (∀ j, j < k → g (q.getD j 0) < g x) → (k < q.length → ¬ g (q.getD k 0) < g x) → insL g x q = q.take k ++ x :: q.drop k
  | [], k, hk, _, _ => by simp [insL]
  | y :: q, 0, _, _, h2 => by
    have : ¬ g y < g x := h2 (by simp)
    simp [insL, this]
  | y :: q, k + 1, hk, h1, h2 => by
    have : g y < g x := h1 0 (by omega)
    have ih := insL_split g x q k (by simpa using hk) (fun j hj => h1 (j + 1) (by omega)) (fun h => h2 (by simpa using h))
    simp [insL, this, ih]

/-- The order of the first i segments. -/
def insF (l : List Seg) (i : Nat) : List Nat := (nfTo l i).foldl (fun q x => insL (gen l) x q) []
theorem insF_succ (l : List Seg) (i : Nat) : insF l (i + 1) = if (at' l i).st = 0 then insF l i else insL (gen l) i (insF l i) := by
  unfold insF
  rw [nfTo_succ]
  split
  · rfl
  · rw [List.foldl_append]; rfl
theorem insF_len (l : List Seg) (i : Nat) : (insF l i).length ≤ i := by
  unfold insF
  have h := (foldlL (gen l) (nfTo l i) [] .nil).1.length_eq
  rw [h, List.append_nil]
  exact nfTo_len l i
theorem insF_mem (l : List Seg) (i : Nat) : ∀ x ∈ insF l i, x < i := fun x hx => by
  unfold insF at hx
  have h := (foldlL (gen l) (nfTo l i) [] .nil).1.mem_iff.1 hx
  rw [List.append_nil] at h
  unfold nfTo at h
  exact List.mem_range.1 (List.mem_filter.1 h).1
theorem insF_all (l : List Seg) : insF l l.length = orderR l := rfl

/-- What holds between the operations of the region. -/
structure OrdI (w0 : World) (i k : Nat) (q : List Nat) (x47 v48 : Value) (done : Nat → Bool) (W : World) : Prop where
  bel : Below w0.heap.size w0 W
  s5 : done 5 = false → W.heap.size = w0.heap.size
  o5 : done 5 = true → done 9 = false → W.ownsRow w0.heap.size 3 1 (.slice (some ⟨w0.heap.size, 0, none⟩) 1 1) 1 [intV i]
  o9 : done 9 = true → done 10 = false → W.ownsRow w0.heap.size 3 1 x47 (1 + (q.length - k)) ((i :: q.drop k).map intV)
  o10 : done 10 = true → W.ownsRow w0.heap.size 3 1 v48 (k + (1 + (q.length - k))) ((q.take k ++ i :: q.drop k).map intV)
theorem OrdI.quiet {w0 : World} {i k : Nat} {q : List Nat} {x47 v48 : Value} {done : Nat → Bool} {W : World} (h : OrdI w0 i k q x47 v48 done W) (j : Nat) (hj : j ≠ 5 ∧ j ≠ 9 ∧ j ≠ 10) : OrdI w0 i k q x47 v48 (fun k => decide (k = j) || done k) W := by
  obtain ⟨a, b, c⟩ := hj
  refine ⟨h.bel, ?_, ?_, ?_, ?_⟩ <;> simp only [decide_eq_false (Ne.symm a), decide_eq_false (Ne.symm b), decide_eq_false (Ne.symm c), Bool.false_or]
  · exact h.s5
  · exact h.o5
  · exact h.o9
  · exact h.o10

theorem OrdI.build {w0 : World} {i k : Nat} {q : List Nat} {x47 v48 : Value} {done : Nat → Bool} {W : World} (h : OrdI w0 i k q x47 v48 done W) (hd : done 5 = false) (q9 : done 9 = false) (q10 : done 10 = false) : OrdI w0 i k q x47 v48 (fun k => decide (k = 5) || done k) (W.alloc (.cells #[.int .i64 i] 3)) := by
  have hz := h.s5 hd
  refine ⟨h.bel.alloc h.bel.size _, fun e => by simp at e, fun _ _ => ?_, fun e => by simp [q9] at e, fun e => by simp [q10] at e⟩
  refine ⟨rfl, .inr ⟨w0.heap.size, 1, _, rfl, Nat.le_refl _, by rw [← hz]; exact heap_alloc_new W _, by omega, by decide, rfl, rfl⟩⟩
theorem OrdI.app1 {w0 : World} {i k : Nat} {q : List Nat} {x46 x47 v48 : Value} {done : Nat → Bool} {W : World} (h : OrdI w0 i k q x47 v48 done W) (p5 : done 5 = true) (hd : done 9 = false) (q10 : done 10 = false) (hx : IsSlK w0 1 (q.length - k) x46 ((q.drop k).map intV)) (hq : q.length ≤ 16) :
    ∃ v' w', (Builtin.append_ #[42, 42] 42 #[.slice (some ⟨w0.heap.size, 0, none⟩) 1 1, x46]).run Try.prog W = .ok v' w' ∧ OrdI w0 i k q v' v48 (fun k => decide (k = 9) || done k) w' := by
  obtain ⟨v', w', hr, ho, hg, _⟩ := app_at (P := Try.prog) (ty := 42) elemInt (h.o5 p5 hd) (hx.below h.bel (Nat.le_refl _)) (fun u hu => by
    obtain ⟨y, _, rfl⟩ := List.mem_map.1 hu
    rfl) (by omega) (by unfold maxLen; omega) h.bel.size
  refine ⟨v', w', hr, h.bel.grown hg h.bel.size (fun k hk => ((h.o5 p5 hd).lt k hk).1), fun e => by simp [p5] at e, fun _ e => by simp at e, fun _ _ => by simpa [intV] using ho, fun e => by simp [q10] at e⟩
theorem OrdI.app2 {w0 : World} {i k : Nat} {q : List Nat} {x47 v48 : Value} {ao : Option Addr} {done : Nat → Bool} {W : World} (h : OrdI w0 i k q x47 v48 done W) (p5 : done 5 = true) (p9 : done 9 = true) (hd : done 10 = false) (hno : ao = none → k = 0) (hk : k ≤ q.length) (hxs : ∀ b, ao = some b → b.block < w0.heap.size ∧ ∀ j u, ((q.take k).map intV)[j]? = some u → w0.cell? (b.add j) = some u) (hq : q.length ≤ 16) :
    ∃ v' w', (Builtin.append_ #[42, 42] 42 #[.slice ao k k, x47]).run Try.prog W = .ok v' w' ∧ OrdI w0 i k q x47 v' (fun k => decide (k = 10) || done k) w' := by
  obtain ⟨v', w', hr, ho, hg⟩ := app_full (P := Try.prog) (ty := 42) elemInt (w := W) (a := ao) (n := k) (xs := (q.take k).map intV) (by rw [List.length_map, List.length_take]; omega) hno (fun b hb j u hu => by
    obtain ⟨h1, h2⟩ := hxs b hb
    rw [h.bel.cell (p := b.add j) (by have : (b.add j).block = b.block := by { unfold Addr.add; split <;> rfl }; omega)]
    exact h2 j u hu) (own_isSlK (h.o9 p9 hd)) (fun u hu => by
    obtain ⟨y, _, rfl⟩ := List.mem_map.1 hu
    rfl) (by omega) (by omega) (by unfold maxLen; omega)
  refine ⟨v', w', hr, h.bel.grown hg h.bel.size (fun k hk => by cases hk), fun e => by simp [p5] at e, fun _ e => by simp [p9] at e, fun _ e => by simp at e, fun _ => ?_⟩
  rw [List.map_append]
  exact own_base ho h.bel.size

theorem row_forms {w : World} {base m co : Nat} {ao : Option Addr} {q : List Nat} (h : w.ownsRow base 3 1 (.slice ao m co) m (q.map intV)) : (ao = none ∧ m = 0 ∧ co = 0) ∨ ∃ g, ao = some ⟨g, 0, none⟩ ∧ g < w.heap.size ∧ ∀ j u, (q.map intV)[j]? = some u → w.cell? ⟨g, j, none⟩ = some u := by
  obtain ⟨hh, ⟨hv, hz⟩ | ⟨g, c, cur, hv, g1, g2, g3, g4, g5, g6⟩⟩ := h
  · injection hv with a b c
    exact .inl ⟨a, b, c⟩
  · injection hv with a b c
    subst a c
    refine .inr ⟨g, rfl, (Array.getElem?_eq_some_iff.1 g2).1, fun j u hu => ?_⟩
    have hj : j < m * 1 := by
      rcases Nat.lt_or_ge j (q.map intV).length with h | h
      · rw [hh] at h; exact h
      · rw [List.getElem?_eq_none h] at hu; cases hu
    rw [blk_cell g2 j, ← Array.getElem?_toList]
    rw [← g6, List.getElem?_take_of_lt hj] at hu
    exact hu

set_option maxRecDepth 100000 in
set_option maxHeartbeats 8000000 in
theorem orderRef (w : World) (sec : Int) (v : Value) (l : List Seg) (h : SegsAt w v l) (hl : 0 < l.length) (hl16 : l.length ≤ 16) :
    Calls Try.prog 25 #[ringV sec v] w fun e w' => ∃ u, e = .returned u ∧ IsSl w' u ((orderR l).map intV) ∧ Below w.heap.size w w' := by
  obtain ⟨B, W0, HB, HW, HK, HZ⟩ := boxed1 w #[.int .i64 sec, v] 25
  have HL0 : Hid (LoopR w B sec v l W0) := ⟨HK.out, RowAt.below h HK.out.below (Nat.le_refl _)⟩
  have b1 : W0.cell? ⟨B, 1, none⟩ = some v := blk_cell HK.out.b0 1
  obtain ⟨bs, off, cap, rfl, e1, e2, e3, e4⟩ := h.cell hl
  obtain ⟨n, hn⟩ : ∃ n, n = l.length := ⟨_, rfl⟩
  rw [← hn] at e1 b1 HL0 HW hl hl16 ⊢
  have HN := Lib.hid hn
  have HSB : Hid (B + 1 ≤ W0.heap.size ∧ B = w.heap.size) := ⟨Nat.le_of_eq HZ.out.symm, HB.out.symm⟩
  unfold maxLen at e2
  clear h HK hn e3 e4 HZ
  unfold ringV
  go_enter Try.func25, Try.ntmps25
  go_upto_region 1 with fail
  rw [HB.out, HW.out]
  go_wp2_with fail
  clear b1
  go_loopg [3, 4, 5, 6, 10] n (fun g ov iv pv av kv wr => ∃ k : Nat, g = n - k ∧ k ≤ n ∧ kv = .int .i64 k ∧ Hid (LoopR w B sec (.slice (some ⟨bs, off, none⟩) n cap) l wr ∧ wr.ownsRow (B + 1) 3 1 ov (insF l k).length ((insF l k).map intV)))
  case atStart => exact ⟨0, rfl, by omega, rfl, HL0.out, World.ownsRow_nil _ _ _ _⟩
  case round =>
    clear HL0
    obtain ⟨i, rfl, hi, rfl, HS⟩ := hrel
    by_cases hlt : i < n
    · obtain ⟨h3, h1, h2, q0, q1, q2⟩ := HS.out.1.at HN.out hlt
      obtain ⟨ao, co, rfl⟩ := own_slice HS.out.2
      go_upto_region 5 with fail
      obtain ⟨Wa, hWa⟩ : ∃ Wa, Wa = wr.alloc (segO (at' l i)) := ⟨_, rfl⟩
      obtain ⟨Sx, hSx⟩ : ∃ Sx, Sx = wr.heap.size := ⟨_, rfl⟩
      obtain ⟨hla, hca⟩ := HS.out.1.copy (at' l i)
      rw [← hWa] at hla hca
      rw [← hSx] at hca
      have HLA := Lib.hid hla
      have HOA : Hid (Wa.ownsRow (B + 1) 3 1 (.slice ao (insF l i).length co) (insF l i).length ((insF l i).map intV)) := by show World.ownsRow _ _ _ _ _ _ _; rw [hWa]; exact HS.out.2.alloc _
      have HCA := Lib.hid hca
      unfold segO at hWa HCA
      rw [← hSx, ← hWa]
      have a0 : Wa.cell? ⟨Sx, 0, none⟩ = some (.int .i64 (at' l i).st) := blk_cell hca 0
      have HSU := Lib.hid (insF_succ l i)
      clear hla hca hWa hSx q0 q1 q2 HS
      by_cases hst : (at' l i).st = 0
      · have s0 : ((at' l i).st == 0) = true := by simpa using hst
        have HQ : Hid (insF l (i + 1) = insF l i) := by show _ = _; rw [HSU.out, if_pos hst]
        clear hst
        generalize (at' l i).st = st at *
        go_wp2_with fail
        go_roundg (n - (i + 1))
        case measure => omega
        case rel => exact ⟨i + 1, rfl, by omega, by go_num, HLA.out, by rw [HQ.out]; exact HOA.out⟩
      · have s0 : ((at' l i).st == 0) = false := by simpa using hst
        have HQ : Hid (insF l (i + 1) = insL (gen l) i (insF l i)) := by show _ = _; rw [HSU.out, if_neg hst]
        have HQL := Lib.hid (insF_len l i)
        have HQM := Lib.hid (insF_mem l i)
        clear hst HSU
        generalize (at' l i).st = st at *
        obtain ⟨q, hq⟩ : ∃ q, q = insF l i := ⟨_, rfl⟩
        rw [← hq] at HQ HQL HQM HOA ⊢
        clear hq
        obtain ⟨m, hm⟩ : ∃ m, m = q.length := ⟨_, rfl⟩
        rw [← hm] at HOA HQL ⊢
        have hm16 : m ≤ 16 := by have := HQL.out; omega
        have HM := Lib.hid hm
        obtain ⟨hmco, hco⟩ : m ≤ co ∧ co ≤ maxLen := by
          obtain ⟨hh, ⟨hh, hz⟩ | ⟨g, c, cur, hh, _, _, h1, h2, _⟩⟩ := HOA.out
          · injection hh with _ h1 h2; omega
          · injection hh with _ _ h3; subst h3; exact ⟨h1, h2⟩
        unfold maxLen at hco
        clear hm
        go_upto_block 2 with fail
        clear a0
        go_cut [6] from 18 to 35 (fun s6 wb => ∃ k : Nat, k ≤ m ∧ s6 = .int .i64 k ∧ Hid ((∀ j, j < k → gen l (q.getD j 0) < gen l i) ∧ (k < m → ¬ gen l (q.getD k 0) < gen l i) ∧ LoopR w B sec (.slice (some ⟨bs, off, none⟩) n cap) l wb ∧ wb.ownsRow (B + 1) 3 1 (.slice ao m co) m (q.map intV) ∧ wb.heap[Sx]? = some (.cells #[.int .i64 st, .int .u64 (at' l i).gen, .int .i64 (at' l i).used] 46 (0, 0))))
        case first =>
          go_wp2_with fail
          go_loopg [6] m (fun g av wb => ∃ k : Nat, g = m - k ∧ k ≤ m ∧ av = .int .i64 k ∧ Hid ((∀ j, j < k → gen l (q.getD j 0) < gen l i) ∧ LoopR w B sec (.slice (some ⟨bs, off, none⟩) n cap) l wb ∧ wb.ownsRow (B + 1) 3 1 (.slice ao m co) m (q.map intV) ∧ wb.heap[Sx]? = some (.cells #[.int .i64 st, .int .u64 (at' l i).gen, .int .i64 (at' l i).used] 46 (0, 0))))
          case atStart => exact ⟨0, rfl, Nat.zero_le _, rfl, (fun j hj => by omega), HLA.out, HOA.out, HCA.out⟩
          case round =>
            clear HLA HOA HCA
            obtain ⟨wo, hwo⟩ : ∃ wo : World, wo = wr := ⟨_, rfl⟩
            obtain ⟨k, rfl, hk, rfl, HS⟩ := hrel
            rw [← hwo] at HS ⊢
            clear hwo
            by_cases hkm : k < m
            · have HX : Hid (q.getD k 0 < n) := (show q.getD k 0 < n from by
                have := HQM.out (q.getD k 0) (by rw [List.getD_eq_getElem?_getD, List.getElem?_eq_getElem (by have := HM.out; omega)]; exact List.getElem_mem _)
                omega)
              obtain ⟨h3', h1', h2', p0, p1, p2⟩ := HS.out.2.1.at HN.out HX.out
              have c0 : wo.cell? ⟨B, 1, none⟩ = some (.slice (some ⟨bs, off, none⟩) n cap) := blk_cell HS.out.2.1.kp.b0 1
              have d1 : wo.cell? ⟨Sx, 1, none⟩ = some (.int .u64 (gen l i : Nat)) := blk_cell HS.out.2.2.2 1
              obtain ⟨hh, ⟨hh, hz⟩ | ⟨g, c, cur, hh, g1, g2, g3, g4, g5, g6⟩⟩ := HS.out.2.2.1
              · injection hh with _ h1 h2; omega
              · injection hh with h5 _ h6
                subst h5 h6
                have z0 : wo.cell? ⟨g, k, none⟩ = some (.int .i64 ((q.getD k 0 : Nat) : Int)) := by
                  have := own_isSl HS.out.2.2.1
                  rcases this with ⟨h7, _⟩ | ⟨h7, b', off', cap', h8, h9, h10, h11, h12⟩
                  · rw [List.map_eq_nil_iff] at h7; have := HM.out; rw [h7] at this; simp at this; omega
                  · injection h8 with h13 _ _
                    injection h13 with h13
                    injection h13 with h14 h15
                    subst h14 h15
                    have h16 := h12 k (by rw [List.length_map]; have := HM.out; omega)
                    rw [Nat.zero_add, List.getElem?_map, List.getElem?_eq_getElem (by have := HM.out; omega)] at h16
                    rw [h16]
                    simp [intV, List.getD_eq_getElem?_getD, HM.out ▸ hkm]
                obtain ⟨x, hx⟩ : ∃ x, x = q.getD k 0 := ⟨_, rfl⟩
                rw [← hx] at z0 p0 p1 p2 HX
                have HXE := Lib.hid hx
                have HG1 : Hid (∀ W, Below wo.heap.size wo W → LoopR w B sec (.slice (some ⟨bs, off, none⟩) n cap) l W ∧ W.ownsRow (B + 1) 3 1 (.slice (some ⟨g, 0, none⟩) m co) m (q.map intV) ∧ W.heap[Sx]? = some (.cells #[.int .i64 st, .int .u64 (at' l i).gen, .int .i64 (at' l i).used] 46 (0, 0))) := fun W hW =>
                  ⟨⟨HS.out.2.1.kp.step hW, RowAt.below HS.out.2.1.segs hW (Nat.le_refl _)⟩, own_below HS.out.2.2.1 hW, blk_below HS.out.2.2.2 hW (blk_lt HS.out.2.2.2)⟩
                have HJ : Hid (∀ j, j < k → gen l (q.getD j 0) < gen l i) := HS.out.1
                have hxn : x < n := HX.out
                have p1' : wo.cell? ⟨bs, off + x * 3 + 1, none⟩ = some (.int .u64 (gen l x : Nat)) := p1
                clear hx hh g1 g2 g4 g5 g6 HS p0 p1 p2
                by_cases hgx : gen l x < gen l i
                · have hd : decide (gen l x < gen l i) = true := by simpa using hgx
                  have HGX : Hid (gen l (q.getD k 0) < gen l i) := by show _ < _; rw [← HXE.out]; exact hgx
                  generalize gen l x = gx at *
                  generalize gen l i = gi at *
                  clear hgx
                  go_upto_region 7 with fail
                  go_quiet (fail)
                  have HZZ := Lib.hid (HG1.out (wo.drewN nq) (drewN_below wo nq))
                  go_wp2_with fail
                  go_roundg (m - (k + 1))
                  case measure => omega
                  case rel => exact ⟨k + 1, rfl, by omega, by go_num, fun j hj => by
                    rcases Nat.lt_succ_iff_lt_or_eq.1 hj with h | rfl
                    · exact HJ.out j h
                    · exact HGX.out, HZZ.out⟩
                · have hd : decide (gen l x < gen l i) = false := by simpa using hgx
                  have HGX : Hid (¬ gen l (q.getD k 0) < gen l i) := by show ¬ _; rw [← HXE.out]; exact hgx
                  generalize gen l x = gx at *
                  generalize gen l i = gi at *
                  clear hgx
                  go_upto_region 7 with fail
                  go_quiet (fail)
                  have HZZ := Lib.hid (HG1.out (wo.drewN nq) (drewN_below wo nq))
                  go_wp2_with fail
                  go_meet
                  case rel => exact ⟨k, by omega, rfl, HJ.out, fun _ => by exact HGX.out, HZZ.out⟩
            · obtain rfl : k = m := by omega
              have HZZ := Lib.hid HS.out
              have hlk : ¬ (k : Int) < (k : Int) := by omega
              clear HS hlt
              go_upto_region 7 with fail
              go_quiet (fail)
              go_wp2_with fail
              go_meet
              case rel => exact ⟨k, Nat.le_refl _, rfl, HZZ.out.1, fun h => by omega, ⟨HZZ.out.2.1.drewN nq, own_below HZZ.out.2.2.1 (drewN_below wo nq), HZZ.out.2.2.2⟩⟩
        case rest =>
          clear HLA HOA HCA
          obtain ⟨wo, hwo⟩ : ∃ wo : World, wo = wc := ⟨_, rfl⟩
          obtain ⟨k, hk, rfl, HS⟩ := hcut
          rw [← hwo] at HS ⊢
          clear hwo
          have HSP : Hid (insL (gen l) i q = q.take k ++ i :: q.drop k) := insL_split (gen l) i q k (by rw [← HM.out]; exact hk) HS.out.1 (fun h => HS.out.2.1 (by rw [HM.out]; exact h))
          have HOO := HS.out.2.2.2.1
          obtain ⟨a46, hs46, hn46, hp46, hq46⟩ := run_slice_from (P := Try.prog) (n := 1) Try.underlying42 (fun w => by kernel_rfl) ao m co k hk hmco
          have HCAP : Hid (∀ W, (Instr.sliceAt 42 (.slice ao m co) none (some (.int .i64 k)) (some (.int .i64 k))).run Try.prog W = .ok (.slice ao k k) W) := fun W => run_slice_cap Try.underlying42 ⟨1, by kernel_rfl⟩ ao m co k (by omega)
          have HX46 : Hid (IsSlK wo 1 (q.length - k) (.slice a46 (m - k) (co - k)) ((q.drop k).map intV)) := by
            have hml : q.length = m := HM.out.symm
            refine ⟨by simp, ?_⟩
            rcases row_forms HOO with ⟨h7, h8, h9⟩ | ⟨g, h7, h8, h9⟩
            · have hk0 : k = 0 := by omega
              subst hk0 h8 h9
              rw [hn46 h7]
              exact .inl ⟨by omega, .inl rfl⟩
            · rcases Nat.lt_or_ge k m with h10 | h10
              · rw [hp46 _ h7 (by omega), show (⟨g, 0, none⟩ : Addr).add (k * 1) = ⟨g, 0 + k * 1, none⟩ from Addr.add_lit _ _ _, Nat.zero_add, Nat.mul_one, hml]
                refine .inr ⟨by omega, g, k, co - k, rfl, by omega, by unfold maxLen; omega, h8, fun j hj => ?_⟩
                rw [List.length_map, List.length_drop] at hj
                have h11 : (q.map intV)[k + j]? = some (intV q[k + j]) := by rw [List.getElem?_map, List.getElem?_eq_getElem (by omega)]; rfl
                rw [h9 _ _ h11, List.getElem?_map, List.getElem?_drop, List.getElem?_eq_getElem (by omega)]
                rfl
              · have hk0 : k = m := by omega
                subst hk0
                refine .inl ⟨by omega, ?_⟩
                obtain ⟨a, ha⟩ := hq46 _ h7
                exact .inr ⟨a, co - k, by rw [ha, Nat.sub_self]⟩
          have HNO : Hid (ao = none → k = 0) := fun h => by
            rcases row_forms HOO with ⟨_, h8, _⟩ | ⟨g, h7, _⟩
            · omega
            · rw [h] at h7; cases h7
          have HXS : Hid (∀ b, ao = some b → b.block < wo.heap.size ∧ ∀ j u, ((q.take k).map intV)[j]? = some u → wo.cell? (b.add j) = some u) := fun b hb => by
            rcases row_forms HOO with ⟨h7, _⟩ | ⟨g, h7, h8, h9⟩
            · rw [hb] at h7; cases h7
            · rw [hb] at h7
              injection h7 with h7
              subst h7
              refine ⟨h8, fun j u hu => ?_⟩
              rw [show (⟨g, 0, none⟩ : Addr).add j = ⟨g, 0 + j, none⟩ from Addr.add_lit _ _ _, Nat.zero_add]
              refine h9 j u ?_
              rw [List.map_take] at hu
              rw [List.getElem?_take] at hu
              split at hu
              · exact hu
              · cases hu
          have HS46 := Lib.hid hs46
          have HQ16 : Hid (q.length ≤ 16) := (show q.length ≤ 16 by rw [← HM.out]; exact hm16)
          have HKQ : Hid (k ≤ q.length) := (show k ≤ q.length by rw [← HM.out]; exact hk)
          clear hs46 hn46 hp46 hq46 HOO
          go_wp2_with fail
          -- REGION
          refine wp_region_inv2 (by kernel_rfl) (hord_of2 (by kernel_rfl)) (fun done ac W => ∃ (x47 v48 : Value), ac = { tmps := #[.agg #[.int .i64 sec, .slice (some ⟨bs, off, none⟩) n cap], (.pointer (some ⟨B, 0, none⟩)), .slice none 0 0, if done 11 then v48 else (.slice ao m co), (.int .i64 i), (.pointer (some ⟨Sx, 0, none⟩)), (.int .i64 k), (.pointer (some ⟨B, 1, none⟩)), (.slice (some ⟨bs, off, none⟩) n cap), (.int .i64 n), (.int .i64 i), (.bool true), (.int .i64 i), (.pointer (some ⟨bs, off + i * 3, none⟩)), (.agg #[.int .i64 st, .int .u64 (at' l i).gen, .int .i64 (at' l i).used]), (.pointer (some ⟨Sx, 0, none⟩)), (.int .i64 st), (.bool false), u18, u19, u20, u21, u22, u23, u24, u25, u26, u27, u28, u29, u30, u31, u32, u33, u34, u35, u36, u37, if done 0 then (.slice ao m co) else u38, if done 1 then (.int .i64 k) else u39, if done 2 then (.int .i64 k) else u40, if done 3 then (.slice ao k k) else u41, if done 4 then (.int .i64 i) else u42, if done 5 then (.slice (some ⟨wo.heap.size, 0, none⟩) 1 1) else u43, if done 6 then (.slice ao m co) else u44, if done 7 then (.int .i64 k) else u45, if done 8 then (.slice a46 (m - k) (co - k)) else u46, if done 9 then x47 else u47, if done 10 then v48 else u48, u49, undef], defers := [] } ∧ OrdI wo i k q x47 v48 done W) ?_ ?_ ?_
          · exact ⟨undef, undef, by simp, ⟨(Below.refl _ _).drew, fun _ => rfl, (fun e => by cases e), (fun e => by cases e), (fun e => by cases e)⟩⟩
          · intro done ac W j oq ho hd hdep hcl ⟨x47, v48, hlit, hI⟩
            have hj : j < 12 := (Array.getElem?_eq_some_iff.1 ho).1
            subst hlit
            obtain rfl | rfl | rfl | rfl | rfl | rfl | rfl | rfl | rfl | rfl | rfl | rfl : j = 0 ∨ j = 1 ∨ j = 2 ∨ j = 3 ∨ j = 4 ∨ j = 5 ∨ j = 6 ∨ j = 7 ∨ j = 8 ∨ j = 9 ∨ j = 10 ∨ j = 11 := by omega
            · have q11 : done 11 = false := by
                cases h : done 11 with
                | false => rfl
                | true =>
                  have h0 := hcl 11 _ rfl h ⟨0, .phase⟩ (by simp) rfl
                  rw [hd] at h0; cases h0
              refine wpOp_val ho (by cases ho; rfl) (w' := W) (v := (.slice ao m co)) (by cases ho; simp [execOp, go_sem, q11]) ?_
              cases ho
              exact ⟨x47, v48, by simp [Act.put], hI.quiet 0 (by decide)⟩
            · refine wpOp_val ho (by cases ho; rfl) (w' := W) (v := (.int .i64 k)) (by cases ho; simp [execOp, go_sem]) ?_
              cases ho
              exact ⟨x47, v48, by simp [Act.put], hI.quiet 1 (by decide)⟩
            · refine wpOp_val ho (by cases ho; rfl) (w' := W) (v := (.int .i64 k)) (by cases ho; simp [execOp, go_sem]) ?_
              cases ho
              exact ⟨x47, v48, by simp [Act.put], hI.quiet 2 (by decide)⟩
            · have p0 : done 0 = true := by cases ho; exact hdep ⟨0, .data⟩ (by simp) rfl
              have p1 : done 1 = true := by cases ho; exact hdep ⟨1, .data⟩ (by simp) rfl
              have p2 : done 2 = true := by cases ho; exact hdep ⟨2, .data⟩ (by simp) rfl
              refine wpOp_val ho (by cases ho; rfl) (w' := W) (v := (.slice ao k k)) (by cases ho; simp [execOp, go_sem, p0, p1, p2, HCAP.out]) ?_
              cases ho
              exact ⟨x47, v48, by simp [Act.put], hI.quiet 3 (by decide)⟩
            · refine wpOp_val ho (by cases ho; rfl) (w' := W) (v := (.int .i64 i)) (by cases ho; simp [execOp, go_sem]) ?_
              cases ho
              exact ⟨x47, v48, by simp [Act.put], hI.quiet 4 (by decide)⟩
            · have p4 : done 4 = true := by cases ho; exact hdep ⟨4, .data⟩ (by simp) rfl
              have q9 : done 9 = false := by
                cases h : done 9 with
                | false => rfl
                | true =>
                  have h0 := hcl 9 _ rfl h ⟨5, .data⟩ (by simp) rfl
                  rw [hd] at h0; cases h0
              have q10 : done 10 = false := by
                cases h : done 10 with
                | false => rfl
                | true =>
                  have h0 := hcl 10 _ rfl h ⟨9, .data⟩ (by simp) rfl
                  have h1 := hcl 9 _ rfl h0 ⟨5, .data⟩ (by simp) rfl
                  rw [hd] at h1; cases h1
              have q11 : done 11 = false := by
                cases h : done 11 with
                | false => rfl
                | true =>
                  have h0 := hcl 11 _ rfl h ⟨5, .phase⟩ (by simp) rfl
                  rw [hd] at h0; cases h0
              have hz : W.heap.size = wo.heap.size := hI.s5 hd
              refine wpOp_val ho (by cases ho; rfl) (w' := W.alloc (.cells #[.int .i64 i] 3)) (v := (.slice (some ⟨wo.heap.size, 0, none⟩) 1 1)) (by cases ho; simp [execOp, go_sem, p4, hz]) ?_
              cases ho
              exact ⟨x47, v48, by simp [Act.put, q9, q10, q11], hI.build hd q9 q10⟩
            · have q11 : done 11 = false := by
                cases h : done 11 with
                | false => rfl
                | true =>
                  have h0 := hcl 11 _ rfl h ⟨6, .phase⟩ (by simp) rfl
                  rw [hd] at h0; cases h0
              refine wpOp_val ho (by cases ho; rfl) (w' := W) (v := (.slice ao m co)) (by cases ho; simp [execOp, go_sem, q11]) ?_
              cases ho
              exact ⟨x47, v48, by simp [Act.put], hI.quiet 6 (by decide)⟩
            · refine wpOp_val ho (by cases ho; rfl) (w' := W) (v := (.int .i64 k)) (by cases ho; simp [execOp, go_sem]) ?_
              cases ho
              exact ⟨x47, v48, by simp [Act.put], hI.quiet 7 (by decide)⟩
            · have p6 : done 6 = true := by cases ho; exact hdep ⟨6, .data⟩ (by simp) rfl
              have p7 : done 7 = true := by cases ho; exact hdep ⟨7, .data⟩ (by simp) rfl
              refine wpOp_val ho (by cases ho; rfl) (w' := W) (v := (.slice a46 (m - k) (co - k))) (by cases ho; simp [execOp, go_sem, p6, p7, HS46.out]) ?_
              cases ho
              exact ⟨x47, v48, by simp [Act.put], hI.quiet 8 (by decide)⟩
            · have p5 : done 5 = true := by cases ho; exact hdep ⟨5, .data⟩ (by simp) rfl
              have p8 : done 8 = true := by cases ho; exact hdep ⟨8, .data⟩ (by simp) rfl
              have q10 : done 10 = false := by
                cases h : done 10 with
                | false => rfl
                | true =>
                  have h0 := hcl 10 _ rfl h ⟨9, .data⟩ (by simp) rfl
                  rw [hd] at h0; cases h0
              have q11 : done 11 = false := by
                cases h : done 11 with
                | false => rfl
                | true =>
                  have h0 := hcl 11 _ rfl h ⟨9, .phase⟩ (by simp) rfl
                  rw [hd] at h0; cases h0
              obtain ⟨v', w', hrun, hnew⟩ := hI.app1 p5 hd q10 HX46.out HQ16.out
              refine wpOp_append ho (by cases ho; rfl) (.tmp 43) (.tmp 46) 42 (by cases ho; rfl) (v := (.slice (some ⟨wo.heap.size, 0, none⟩) 1 1)) (vx := (.slice a46 (m - k) (co - k))) (by simp [go_sem, p5]) (by simp [go_sem, p8]) (by cases ho; exact hrun) ?_
              cases ho
              exact ⟨v', v48, by simp [Act.put, hd, q10, q11], hnew⟩
            · have p3 : done 3 = true := by cases ho; exact hdep ⟨3, .data⟩ (by simp) rfl
              have p9 : done 9 = true := by cases ho; exact hdep ⟨9, .data⟩ (by simp) rfl
              have q11 : done 11 = false := by
                cases h : done 11 with
                | false => rfl
                | true =>
                  have h0 := hcl 11 _ rfl h ⟨10, .data⟩ (by simp) rfl
                  rw [hd] at h0; cases h0
              have p5 : done 5 = true := hcl 9 _ rfl p9 ⟨5, .data⟩ (by simp) rfl
              obtain ⟨v', w', hrun, hnew⟩ := hI.app2 p5 p9 hd HNO.out HKQ.out HXS.out HQ16.out
              refine wpOp_append ho (by cases ho; rfl) (.tmp 41) (.tmp 47) 42 (by cases ho; rfl) (v := (.slice ao k k)) (vx := x47) (by simp [go_sem, p3]) (by simp [go_sem, p9]) (by cases ho; exact hrun) ?_
              cases ho
              exact ⟨x47, v', by simp [Act.put, hd, q11], hnew⟩
            · have p10 : done 10 = true := by cases ho; exact hdep ⟨10, .data⟩ (by simp) rfl
              refine wpOp_val ho (by cases ho; rfl) (w' := W) (v := v48) (by cases ho; simp [execOp, go_sem, p10]) ?_
              cases ho
              exact ⟨x47, v48, by simp [Act.put], hI.quiet 11 (by decide)⟩
          · rintro done ac W hall ⟨x47, v48, rfl, hI⟩
            have hl := hall
            clear hall
            have e0 := hl 0 (by decide)
            have e1 := hl 1 (by decide)
            have e2 := hl 2 (by decide)
            have e3 := hl 3 (by decide)
            have e4 := hl 4 (by decide)
            have e5 := hl 5 (by decide)
            have e6 := hl 6 (by decide)
            have e7 := hl 7 (by decide)
            have e8 := hl 8 (by decide)
            have e9 := hl 9 (by decide)
            have e10 := hl 10 (by decide)
            have e11 := hl 11 (by decide)
            have HOW := Lib.hid (hI.o10 (hl 10 (by decide)))
            have HBW := Lib.hid hI.bel
            simp only [e0, e1, e2, e3, e4, e5, e6, e7, e8, e9, e10, e11, if_true]
            clear e0 e1 e2 e3 e4 e5 e6 e7 e8 e9 e10 e11 hl hI
            obtain ⟨a48, c48, rfl⟩ := own_slice HOW.out
            have HFIN : Hid (LoopR w B sec (.slice (some ⟨bs, off, none⟩) n cap) l W ∧ W.ownsRow (B + 1) 3 1 (.slice a48 (k + (1 + (q.length - k))) c48) (insF l (i + 1)).length ((insF l (i + 1)).map intV)) := by
              refine ⟨⟨HS.out.2.2.1.kp.step HBW.out, RowAt.below HS.out.2.2.1.segs HBW.out (Nat.le_refl _)⟩, ?_⟩
              rw [HQ.out, HSP.out]
              have e : (q.take k ++ i :: q.drop k).length = k + (1 + (q.length - k)) := by
                rw [List.length_append, List.length_take, List.length_cons, List.length_drop]
                have := HKQ.out; omega
              rw [e]
              exact own_base HOW.out (by have := blk_lt HS.out.2.2.1.kp.b0; omega)
            clear HOW HBW HS HSP HX46 HXS
            go_wp2_with fail
            go_roundg (n - (i + 1))
            case measure => omega
            case rel => exact ⟨i + 1, rfl, by omega, by go_num, HFIN.out⟩
          -- END
    · obtain rfl : i = n := by omega
      obtain ⟨ao, co, rfl⟩ := own_slice HS.out.2
      have HE : Hid (IsSl wr (.slice ao (insF l i).length co) ((orderR l).map intV) ∧ Below w.heap.size w wr) := ⟨by rw [← insF_all, ← HN.out]; exact own_isSl HS.out.2, HS.out.1.kp.below⟩
      clear HS
      go_wp2_with fail
      go_ret
      exact ⟨_, rfl, HE.out.1, HE.out.2⟩
end Go.Proofs.Ytlcdadnfcdjglaa
