/- index.New in memory. Condition: none; out of range it is refused. -/
import Derived.Test.YtccgdfamjohmgaaRem
import Derived.Test.YtccgdfamjohmgaaOrd
set_option linter.unusedVariables false
namespace Go.Proofs.Ytccgdfamjohmgaa
open Go.RowKit Go.Ice

theorem new_no (w : World) (n : Int) (h : n < 1 ∨ (1 ≤ n ∧ 1024 < n)) :
    Calls Try.prog 9 #[.int .i64 n] w fun e w' => e = .returned (.tuple #[.pointer none, .int .i64 2]) ∧ w = w' := by
  rcases h with h | ⟨h1, h2⟩
  all_goals
    go_enter Try.func9, Try.ntmps9
    go_wp2_with fail
    go_ret2
    exact ⟨rfl, rfl⟩

/-- One operation of a region whose order is open, its run known. -/
theorem wpOp_val {P : Program} {ops : Array Oper} {Q : Exit → Act → World → Prop} {i : Nat} {o : Oper} {K : Act → World → Prop} {a : Act} {w w' : World} {v : Value} (ho : ops[i]? = some o) (hg : o.guard = none)
    (hrun : (execOp a.eval o).run P w = .ok (.value v) w') (hK : K (a.put o.dst v) w') : wpOp P ops Q i K a w := by
  unfold wpOp
  rw [ho]
  simp only [Region.wanted, hg, if_true]
  left
  unfold Oper.wp
  rw [hrun]
  exact hK

/-- What each of the seven new blocks holds. -/
def Made (N : Nat) (g : Nat → Nat) (w : World) (j : Nat) : Prop :=
  match j with
  | 1 => Row w (g 1) 23 N (fun _ => .int .u32 0)
  | 3 => Row w (g 3) 32 (N * 3) (aRow fun _ => ⟨0, 0, 0⟩)
  | 13 => Row w (g 13) 60 10 (fun k => #[slV (g 1) N, slV (g 3) N, slV (g 5) N, slV (g 7) N, slV (g 9) N, slV (g 11) N, .int .i64 (-1), .int .i64 (-1), .int .i64 0, .int .i64 0].getD k undef)
  | j => Row w (g j) 3 N (iRow fun _ => 0)

theorem Made.lt {N : Nat} {g : Nat → Nat} {w : World} {j : Nat} (h : Made N g w j) : g j < w.heap.size := by
  unfold Made at h
  split at h <;> exact h.lt
theorem Made.alloc {N : Nat} {g : Nat → Nat} {w : World} {j : Nat} (h : Made N g w j) (o : Obj) : Made N g (w.alloc o) j := by
  unfold Made at *
  split at h <;> exact h.alloc o

def allocs : List Nat := [1, 3, 5, 7, 9, 11, 13]

def NewI (N : Nat) (w0 : World) (done : Nat → Bool) (a : Act) (w : World) : Prop := ∃ g : Nat → Nat,
  a = { tmps := #[.int .i64 N, undef, .pointer none, .int .i64 0, if done 14 then .pointer (some ⟨g 13, 0, none⟩) else undef, undef, .int .i64 N, .bool false, .bool false, .int .i64 N, .bool false, .bool false, if done 0 then .int .i64 N else undef, if done 1 then slV (g 1) N else undef, if done 2 then .int .i64 N else undef, if done 3 then slV (g 3) N else undef, if done 4 then .int .i64 N else undef, if done 5 then slV (g 5) N else undef, if done 6 then .int .i64 N else undef, if done 7 then slV (g 7) N else undef, if done 8 then .int .i64 N else undef, if done 9 then slV (g 9) N else undef, if done 10 then .int .i64 N else undef, if done 11 then slV (g 11) N else undef, if done 12 then .agg #[slV (g 1) N, slV (g 3) N, slV (g 5) N, slV (g 7) N, slV (g 9) N, slV (g 11) N, .int .i64 (-1), .int .i64 (-1), .int .i64 0, .int .i64 0] else undef, if done 13 then .pointer (some ⟨g 13, 0, none⟩) else undef, undef, undef, undef, undef, undef, undef, undef, undef, undef, undef, undef, undef, undef, undef, undef, undef, undef, undef, undef, undef, undef, undef, undef, undef, undef, undef, undef], defers := [] } ∧
  Below w0.heap.size w0 w ∧ (∀ j ∈ allocs, done j = true → w0.heap.size ≤ g j ∧ Made N g w j) ∧ (∀ i ∈ allocs, ∀ j ∈ allocs, i ≠ j → done i = true → done j = true → g i ≠ g j)

theorem madeCells_row (w : World) (e : TypeId) (z : Array Value) (n : Nat) (X : Nat → Value) (hx : ∀ k, k < n → z[k % z.size]! = X k) : Row (w.alloc (.cells (madeCells z n) e)) w.heap.size e n X := by
  refine ⟨_, heap_alloc_new w _, by simp [madeCells], fun k hk => ?_⟩
  simp [madeCells, hk, hx k hk]

/-- A new block at the end: what stood stands. -/
theorem newI_step {N : Nat} {w0 w : World} {done : Nat → Bool} {g : Nat → Nat} (i : Nat) (o : Obj) (hi : i ∈ allocs) (hd : done i = false) (hB : Below w0.heap.size w0 w)
    (hM : ∀ j ∈ allocs, done j = true → w0.heap.size ≤ g j ∧ Made N g w j) (hne : ∀ i ∈ allocs, ∀ j ∈ allocs, i ≠ j → done i = true → done j = true → g i ≠ g j)
    (h13 : i ≠ 13 → done 13 = false) (hnew : Made N (fun k => if k = i then w.heap.size else g k) (w.alloc o) i) :
    Below w0.heap.size w0 (w.alloc o) ∧ (∀ j ∈ allocs, (decide (j = i) || done j) = true → w0.heap.size ≤ (if j = i then w.heap.size else g j) ∧ Made N (fun k => if k = i then w.heap.size else g k) (w.alloc o) j) ∧
    (∀ j ∈ allocs, ∀ k ∈ allocs, j ≠ k → (decide (j = i) || done j) = true → (decide (k = i) || done k) = true → (if j = i then w.heap.size else g j) ≠ (if k = i then w.heap.size else g k)) := by
  refine ⟨hB.alloc hB.size o, fun j hj hdj => ?_, fun j hj k hk hjk hdj hdk => ?_⟩
  · by_cases e : j = i
    · subst e
      rw [if_pos rfl]
      exact ⟨hB.size, hnew⟩
    · rw [if_neg e]
      have hdj' : done j = true := by simpa [e] using hdj
      obtain ⟨h1, h2⟩ := hM j hj hdj'
      refine ⟨h1, ?_⟩
      have h3 := h2.alloc o
      have h4 : ∀ k, k ≠ i → (fun k => if k = i then w.heap.size else g k) k = g k := fun k hk => by simp [hk]
      have hj13 : j = 13 → False ∨ True := fun _ => .inr trivial
      have h5 : Made N (fun k => if k = i then w.heap.size else g k) (w.alloc o) j = Made N g (w.alloc o) j := by
        by_cases e13 : j = 13
        · subst e13
          have := h13 (fun h => e h.symm)
          rw [this] at hdj'
          cases hdj'
        · have h6 : (if j = i then w.heap.size else g j) = g j := by rw [if_neg e]
          unfold Made
          split
          · simp only [h4 1 e]
          · simp only [h4 3 e]
          · exact absurd rfl e13
          · simp only [if_neg e]
      rw [h5]
      exact h3
  · by_cases e1 : j = i
    · have e2 : k ≠ i := fun h => hjk (e1.trans h.symm)
      rw [if_pos e1, if_neg e2]
      have hdk' : done k = true := by simpa [e2] using hdk
      have := (hM k hk hdk').2.lt
      omega
    · rw [if_neg e1]
      have hdj' : done j = true := by simpa [e1] using hdj
      by_cases e2 : k = i
      · rw [if_pos e2]
        have := (hM j hj hdj').2.lt
        omega
      · rw [if_neg e2]
        have hdk' : done k = true := by simpa [e2] using hdk
        exact hne j hj k hk hjk hdj' hdk'

theorem elemU32 : Elem Try.prog 57 23 1 4 (.int .u32 0) :=
  ⟨Try.underlying57, by
    obtain ⟨i0, hi, hz0, hz1, hz2⟩ := info_parts (show (Try.prog.info? 23).map (fun i => (i.zero, i.size, i.bytes)) = some (some (.int .u32 0), 1, 4) by kernel_rfl)
    exact ⟨i0, hi, hz0, hz1, hz2⟩, rfl, by decide⟩
theorem elemInt : Elem Try.prog 58 3 1 8 (.int .i64 0) :=
  ⟨Try.underlying58, by
    obtain ⟨i0, hi, hz0, hz1, hz2⟩ := info_parts (show (Try.prog.info? 3).map (fun i => (i.zero, i.size, i.bytes)) = some (some (.int .i64 0), 1, 8) by kernel_rfl)
    exact ⟨i0, hi, hz0, hz1, hz2⟩, rfl, by decide⟩

theorem made_f (w : World) (N : Nat) : Row (w.alloc (.cells (madeCells (Value.int .u32 0).cells N) 23)) w.heap.size 23 N (fun _ => .int .u32 0) := by
  exact madeCells_row _ _ _ _ _ fun k _ => by rw [show (Value.int .u32 0).cells = #[.int .u32 0] from rfl]; simp [Nat.mod_one]
theorem made_i (w : World) (N : Nat) : Row (w.alloc (.cells (madeCells (Value.int .i64 0).cells N) 3)) w.heap.size 3 N (iRow fun _ => 0) := by
  exact madeCells_row _ _ _ _ _ fun k _ => by rw [show (Value.int .i64 0).cells = #[.int .i64 0] from rfl]; simp [Nat.mod_one, iRow]
theorem made_a (w : World) (N : Nat) : Row (w.alloc (.cells (madeCells (Value.agg #[.int .i64 0, .int .u64 0, .int .i64 0]).cells (N * 3)) 32)) w.heap.size 32 (N * 3) (aRow fun _ => ⟨0, 0, 0⟩) :=
  madeCells_row _ _ _ _ _ fun k _ => by
    rw [show (Value.agg #[.int .i64 0, .int .u64 0, .int .i64 0]).cells = #[.int .i64 0, .int .u64 0, .int .i64 0] from rfl]
    have h3 : k % 3 < 3 := Nat.mod_lt _ (by decide)
    unfold aRow
    show (#[Value.int .i64 0, .int .u64 0, .int .i64 0])[k % 3]! = _
    generalize k % 3 = m at h3
    match m, h3 with
    | 0, _ => rfl
    | 1, _ => rfl
    | 2, _ => rfl

theorem newI_same {N : Nat} {w : World} {B : Nat} {done : Nat → Bool} {g : Nat → Nat} (i : Nat) (hi : i ∉ allocs)
    (hM : ∀ j ∈ allocs, done j = true → B ≤ g j ∧ Made N g w j) (hne : ∀ i ∈ allocs, ∀ j ∈ allocs, i ≠ j → done i = true → done j = true → g i ≠ g j) :
    (∀ j ∈ allocs, (decide (j = i) || done j) = true → B ≤ g j ∧ Made N g w j) ∧ (∀ k ∈ allocs, ∀ j ∈ allocs, k ≠ j → (decide (k = i) || done k) = true → (decide (j = i) || done j) = true → g k ≠ g j) := by
  have h : ∀ j ∈ allocs, (decide (j = i) || done j) = true → done j = true := fun j hj h => by
    have : j ≠ i := fun e => hi (e ▸ hj)
    simpa [this] using h
  exact ⟨fun j hj hd => hM j hj (h j hj hd), fun k hk j hj hkj h1 h2 => hne k hk j hj hkj (h k hk h1) (h j hj h2)⟩

theorem hord_of {ops : Array Oper} (h : (ops.toList.zipIdx.all fun x => x.1.after.all fun e => decide (e.on < x.2)) = true) : ∀ (i : Nat) (o : Oper), ops[i]? = some o → ∀ e ∈ o.after, e.on < i := by
  intro i o ho e he
  rw [List.all_eq_true] at h
  have hm : (o, i) ∈ ops.toList.zipIdx := by
    rw [List.mem_zipIdx_iff_getElem?]
    simpa using ho
  have h2 := h _ hm
  rw [Array.all_eq_true_iff_forall_mem] at h2
  exact of_decide_eq_true (h2 e he)

/-- The index before its chains are laid. -/
def zeroS (N i : Nat) : IdxS := { fng := fun _ => 0, adr := fun _ => ⟨0, 0, 0⟩, chain := fun k => if k < i then (k : Int) + 1 else 0, ahead := fun _ => 0, next := fun _ => 0, heads := fun k => if k < i then -1 else 0, first := -1, last := -1, free := 0, n := 0 }
/-- An index without entries. -/
def newS (N : Nat) : IdxS := { fng := fun _ => 0, adr := fun _ => ⟨0, 0, 0⟩, chain := fun k => if k = N - 1 then -1 else (k : Int) + 1, ahead := fun _ => 0, next := fun _ => 0, heads := fun _ => -1, first := -1, last := -1, free := 0, n := 0 }

theorem made_rep {N : Nat} {g : Nat → Nat} {w : World} {B : Nat} (h1 : 1 ≤ N) (h2 : N ≤ 1024) (hM : ∀ j ∈ allocs, B ≤ g j ∧ Made N g w j) (hne : ∀ i ∈ allocs, ∀ j ∈ allocs, i ≠ j → g i ≠ g j) :
    ∃ L : Lay, (L.bx = g 13 ∧ L.bf = g 1 ∧ L.ba = g 3 ∧ L.bc = g 5 ∧ L.bh = g 7 ∧ L.bn = g 9 ∧ L.bd = g 11) ∧ Rep w L N (zeroS N 0) ∧ ∀ k, L.owns k → B ≤ k := by
  refine ⟨⟨g 13, g 1, g 3, g 5, g 7, g 9, g 11⟩, ⟨rfl, rfl, rfl, rfl, rfl, rfl, rfl⟩, ⟨⟨h1, h2⟩, ?_, ?_, ?_, ?_, ?_, ?_, ?_, ?_⟩, ?_⟩
  · have h : Row w (g 13) 60 10 _ := (hM 13 (by decide)).2
    refine h.congr fun k hk => ?_
    match k, hk with
    | 0, _ | 1, _ | 2, _ | 3, _ | 4, _ | 5, _ | 6, _ | 7, _ | 8, _ | 9, _ => rfl
  · exact (hM 1 (by decide)).2
  · exact (hM 3 (by decide)).2
  · have h : Row w (g 5) 3 N _ := (hM 5 (by decide)).2
    exact h.congr fun k hk => by simp [iRow, zeroS]
  · exact (hM 7 (by decide)).2
  · exact (hM 9 (by decide)).2
  · have h : Row w (g 11) 3 N _ := (hM 11 (by decide)).2
    exact h.congr fun k hk => by simp [iRow, zeroS]
  · have hn := fun i hi j hj hij => hne i hi j hj hij
    simp only [List.nodup_cons, List.mem_cons, List.mem_nil_iff, or_false, not_or, List.nodup_nil, and_true]
    refine ⟨⟨?_, ?_, ?_, ?_, ?_, ?_⟩, ⟨?_, ?_, ?_, ?_, ?_⟩, ⟨?_, ?_, ?_, ?_⟩, ⟨?_, ?_, ?_⟩, ⟨?_, ?_⟩, ?_, not_false⟩ <;> exact hn _ (by decide) _ (by decide) (by decide)
  · rintro k (rfl | rfl | rfl | rfl | rfl | rfl | rfl)
    · exact (hM 13 (by decide)).1
    · exact (hM 1 (by decide)).1
    · exact (hM 3 (by decide)).1
    · exact (hM 5 (by decide)).1
    · exact (hM 7 (by decide)).1
    · exact (hM 9 (by decide)).1
    · exact (hM 11 (by decide)).1

set_option maxHeartbeats 8000000 in
set_option maxRecDepth 100000 in
theorem new_ok (w : World) (N : Nat) (h1 : 1 ≤ N) (h2 : N ≤ 1024) :
    Calls Try.prog 9 #[.int .i64 N] w fun e w' => ∃ L, e = .returned (.tuple #[.pointer (some ⟨L.bx, 0, none⟩), .int .i64 0]) ∧ Rep w' L N (newS N) ∧ (∀ k, L.owns k → w.heap.size ≤ k) ∧ Below w.heap.size w w' := by
  obtain ⟨iF, hiF, hzF, hsF, hbF⟩ := elemU32.hi
  obtain ⟨iA, hiA, hzA, hsA, hbA⟩ := elemAdr.hi
  obtain ⟨iI, hiI, hzI, hsI, hbI⟩ := elemInt.hi
  have mF := fun w => run_make (P := Try.prog) w 57 23 iF _ Try.underlying57 hiF hzF .i64 .i64 N N (by omega) (by omega) (by rw [hbF]; omega) (by omega)
  have mA := fun w => run_make (P := Try.prog) w 39 32 iA _ Try.underlying39 hiA hzA .i64 .i64 N N (by omega) (by omega) (by rw [hbA]; omega) (by omega)
  have mI := fun w => run_make (P := Try.prog) w 58 3 iI _ Try.underlying58 hiI hzI .i64 .i64 N N (by omega) (by omega) (by rw [hbI]; omega) (by omega)
  rw [hsF] at mF
  rw [hsA] at mA
  rw [hsI] at mI
  simp only [Int.toNat_natCast, Nat.mul_one] at mF mA mI
  have h1' : ¬ (N : Int) < 1 := by omega
  have h2' : ¬ (1024 : Int) < N := by omega
  have MF := Lib.hid mF
  have MA := Lib.hid mA
  have MI := Lib.hid mI
  clear mF mA mI hiF hzF hsF hbF hiA hzA hsA hbA hiI hzI hsI hbI
  go_enter Try.func9, Try.ntmps9
  go_upto_region 3 with fail
  refine wp_region_inv (by kernel_rfl) (hord_of (by kernel_rfl)) (NewI N w) ?_ ?_ ?_
  · exact ⟨fun _ => 0, rfl, (Below.refl _ w).drew, (fun j _ h => by cases h), (fun i _ j _ _ h => by cases h)⟩
  · intro done a w1 i o ho hd hdep hcl ⟨g, hlit, hB, hM, hne⟩
    have hi : i < 15 := (Array.getElem?_eq_some_iff.1 ho).1
    have h13 : ∀ k, k ∈ [1, 3, 5, 7, 9, 11] → done k = false → done 13 = false := by
      intro k hk hdk
      cases hd13 : done 13 with
      | false => rfl
      | true =>
        exfalso
        have h12 : done 12 = true := hcl 13 _ rfl hd13 ⟨12, .data⟩ (by simp) rfl
        have hk2 : done k = true := by
          simp only [List.mem_cons, List.mem_nil_iff, or_false] at hk
          rcases hk with rfl | rfl | rfl | rfl | rfl | rfl <;> exact hcl 12 _ rfl h12 ⟨_, .data⟩ (by simp) rfl
        rw [hk2] at hdk; cases hdk
    have h12 : ∀ k, k ∈ [1, 3, 5, 7, 9, 11] → done k = false → done 12 = false := by
      intro k hk hdk
      cases hd12 : done 12 with
      | false => rfl
      | true =>
        exfalso
        have hk2 : done k = true := by
          simp only [List.mem_cons, List.mem_nil_iff, or_false] at hk
          rcases hk with rfl | rfl | rfl | rfl | rfl | rfl <;> exact hcl 12 _ rfl hd12 ⟨_, .data⟩ (by simp) rfl
        rw [hk2] at hdk; cases hdk
    subst hlit
    obtain rfl | rfl | rfl | rfl | rfl | rfl | rfl | rfl | rfl | rfl | rfl | rfl | rfl | rfl | rfl : i = 0 ∨ i = 1 ∨ i = 2 ∨ i = 3 ∨ i = 4 ∨ i = 5 ∨ i = 6 ∨ i = 7 ∨ i = 8 ∨ i = 9 ∨ i = 10 ∨ i = 11 ∨ i = 12 ∨ i = 13 ∨ i = 14 := by omega
    · refine wpOp_val ho (by cases ho; rfl) (w' := w1) (v := .int .i64 N) (by cases ho; simp [execOp, go_sem]) ?_
      cases ho
      obtain ⟨hM', hne'⟩ := newI_same 0 (by decide) hM hne
      exact ⟨g, by simp [Act.put], hB, hM', hne'⟩
    · have hp : done 0 = true := by cases ho; exact hdep ⟨0, .data⟩ (by simp) rfl
      have hr := MF.out w1
      refine wpOp_val ho (by cases ho; rfl) (by cases ho; simp only [execOp, Act.eval]; simp [hp, hr, Result.andThen]; exact ⟨rfl, rfl⟩) ?_
      cases ho
      obtain ⟨hB', hM', hne'⟩ := newI_step 1 _ (by decide) hd hB hM hne (fun _ => h13 1 (by decide) hd) (made_f w1 N)
      have d12 := h12 1 (by decide) hd
      refine ⟨fun k => if k = 1 then w1.heap.size else g k, ?_, hB', hM', hne'⟩
      simp [Act.put, slV, d12]
    · refine wpOp_val ho (by cases ho; rfl) (w' := w1) (v := .int .i64 N) (by cases ho; simp [execOp, go_sem]) ?_
      cases ho
      obtain ⟨hM', hne'⟩ := newI_same 2 (by decide) hM hne
      exact ⟨g, by simp [Act.put], hB, hM', hne'⟩
    · have hp : done 2 = true := by cases ho; exact hdep ⟨2, .data⟩ (by simp) rfl
      have hr := MA.out w1
      refine wpOp_val ho (by cases ho; rfl) (by cases ho; simp only [execOp, Act.eval]; simp [hp, hr, Result.andThen]; exact ⟨rfl, rfl⟩) ?_
      cases ho
      obtain ⟨hB', hM', hne'⟩ := newI_step 3 _ (by decide) hd hB hM hne (fun _ => h13 3 (by decide) hd) (made_a w1 N)
      have d12 := h12 3 (by decide) hd
      refine ⟨fun k => if k = 3 then w1.heap.size else g k, ?_, hB', hM', hne'⟩
      simp [Act.put, slV, d12]
    · refine wpOp_val ho (by cases ho; rfl) (w' := w1) (v := .int .i64 N) (by cases ho; simp [execOp, go_sem]) ?_
      cases ho
      obtain ⟨hM', hne'⟩ := newI_same 4 (by decide) hM hne
      exact ⟨g, by simp [Act.put], hB, hM', hne'⟩
    · have hp : done 4 = true := by cases ho; exact hdep ⟨4, .data⟩ (by simp) rfl
      have hr := MI.out w1
      refine wpOp_val ho (by cases ho; rfl) (by cases ho; simp only [execOp, Act.eval]; simp [hp, hr, Result.andThen]; exact ⟨rfl, rfl⟩) ?_
      cases ho
      obtain ⟨hB', hM', hne'⟩ := newI_step 5 _ (by decide) hd hB hM hne (fun _ => h13 5 (by decide) hd) (made_i w1 N)
      have d12 := h12 5 (by decide) hd
      refine ⟨fun k => if k = 5 then w1.heap.size else g k, ?_, hB', hM', hne'⟩
      simp [Act.put, slV, d12]
    · refine wpOp_val ho (by cases ho; rfl) (w' := w1) (v := .int .i64 N) (by cases ho; simp [execOp, go_sem]) ?_
      cases ho
      obtain ⟨hM', hne'⟩ := newI_same 6 (by decide) hM hne
      exact ⟨g, by simp [Act.put], hB, hM', hne'⟩
    · have hp : done 6 = true := by cases ho; exact hdep ⟨6, .data⟩ (by simp) rfl
      have hr := MI.out w1
      refine wpOp_val ho (by cases ho; rfl) (by cases ho; simp only [execOp, Act.eval]; simp [hp, hr, Result.andThen]; exact ⟨rfl, rfl⟩) ?_
      cases ho
      obtain ⟨hB', hM', hne'⟩ := newI_step 7 _ (by decide) hd hB hM hne (fun _ => h13 7 (by decide) hd) (made_i w1 N)
      have d12 := h12 7 (by decide) hd
      refine ⟨fun k => if k = 7 then w1.heap.size else g k, ?_, hB', hM', hne'⟩
      simp [Act.put, slV, d12]
    · refine wpOp_val ho (by cases ho; rfl) (w' := w1) (v := .int .i64 N) (by cases ho; simp [execOp, go_sem]) ?_
      cases ho
      obtain ⟨hM', hne'⟩ := newI_same 8 (by decide) hM hne
      exact ⟨g, by simp [Act.put], hB, hM', hne'⟩
    · have hp : done 8 = true := by cases ho; exact hdep ⟨8, .data⟩ (by simp) rfl
      have hr := MI.out w1
      refine wpOp_val ho (by cases ho; rfl) (by cases ho; simp only [execOp, Act.eval]; simp [hp, hr, Result.andThen]; exact ⟨rfl, rfl⟩) ?_
      cases ho
      obtain ⟨hB', hM', hne'⟩ := newI_step 9 _ (by decide) hd hB hM hne (fun _ => h13 9 (by decide) hd) (made_i w1 N)
      have d12 := h12 9 (by decide) hd
      refine ⟨fun k => if k = 9 then w1.heap.size else g k, ?_, hB', hM', hne'⟩
      simp [Act.put, slV, d12]
    · refine wpOp_val ho (by cases ho; rfl) (w' := w1) (v := .int .i64 N) (by cases ho; simp [execOp, go_sem]) ?_
      cases ho
      obtain ⟨hM', hne'⟩ := newI_same 10 (by decide) hM hne
      exact ⟨g, by simp [Act.put], hB, hM', hne'⟩
    · have hp : done 10 = true := by cases ho; exact hdep ⟨10, .data⟩ (by simp) rfl
      have hr := MI.out w1
      refine wpOp_val ho (by cases ho; rfl) (by cases ho; simp only [execOp, Act.eval]; simp [hp, hr, Result.andThen]; exact ⟨rfl, rfl⟩) ?_
      cases ho
      obtain ⟨hB', hM', hne'⟩ := newI_step 11 _ (by decide) hd hB hM hne (fun _ => h13 11 (by decide) hd) (made_i w1 N)
      have d12 := h12 11 (by decide) hd
      refine ⟨fun k => if k = 11 then w1.heap.size else g k, ?_, hB', hM', hne'⟩
      simp [Act.put, slV, d12]
    · have q : ∀ k, k ∈ [1, 3, 5, 7, 9, 11] → done k = true := by
        intro k hk
        cases ho
        simp only [List.mem_cons, List.mem_nil_iff, or_false] at hk
        rcases hk with rfl | rfl | rfl | rfl | rfl | rfl <;> exact hdep ⟨_, .data⟩ (by simp) rfl
      have q1 := q 1 (by decide)
      have q3 := q 3 (by decide)
      have q5 := q 5 (by decide)
      have q7 := q 7 (by decide)
      have q9 := q 9 (by decide)
      have q11 := q 11 (by decide)
      refine wpOp_val ho (by cases ho; rfl) (w' := w1) (v := .agg #[slV (g 1) N, slV (g 3) N, slV (g 5) N, slV (g 7) N, slV (g 9) N, slV (g 11) N, .int .i64 (-1), .int .i64 (-1), .int .i64 0, .int .i64 0]) (by cases ho; simp [execOp, go_sem, q1, q3, q5, q7, q9, q11, slV]) ?_
      cases ho
      obtain ⟨hM', hne'⟩ := newI_same 12 (by decide) hM hne
      exact ⟨g, by simp [Act.put], hB, hM', hne'⟩
    · have hp : done 12 = true := by cases ho; exact hdep ⟨12, .data⟩ (by simp) rfl
      refine wpOp_val ho (by cases ho; rfl) (w' := w1.alloc (.cells #[slV (g 1) N, slV (g 3) N, slV (g 5) N, slV (g 7) N, slV (g 9) N, slV (g 11) N, .int .i64 (-1), .int .i64 (-1), .int .i64 0, .int .i64 0] 60)) (v := .pointer (some ⟨w1.heap.size, 0, none⟩)) (by cases ho; simp [execOp, go_sem, hp, slV]) ?_
      cases ho
      have d14 : done 14 = false := by
        cases hd14 : done 14 with
        | false => rfl
        | true => have := hcl 14 _ rfl hd14 ⟨13, .data⟩ (by simp) rfl; rw [hd] at this; cases this
      obtain ⟨hB', hM', hne'⟩ := newI_step 13 _ (by decide) hd hB hM hne (fun h => absurd rfl h) (Row.new w1 60 #[slV (g 1) N, slV (g 3) N, slV (g 5) N, slV (g 7) N, slV (g 9) N, slV (g 11) N, .int .i64 (-1), .int .i64 (-1), .int .i64 0, .int .i64 0])
      refine ⟨fun k => if k = 13 then w1.heap.size else g k, ?_, hB', hM', hne'⟩
      simp [Act.put, slV, d14]
    · have hp : done 13 = true := by cases ho; exact hdep ⟨13, .data⟩ (by simp) rfl
      refine wpOp_val ho (by cases ho; rfl) (w' := w1) (v := .pointer (some ⟨g 13, 0, none⟩)) (by cases ho; simp [execOp, go_sem, hp]) ?_
      cases ho
      obtain ⟨hM', hne'⟩ := newI_same 14 (by decide) hM hne
      exact ⟨g, by simp [Act.put], hB, hM', hne'⟩
  · rintro done a w1 hall ⟨g, rfl, hB, hM, hne⟩
    have hl := hall
    clear hall
    have e0 := hl 0 (by decide)
    have e1 := hl 1 (by decide)
    have e2 := hl 2 (by decide)
    have e3 := hl 3 (by decide)
    have e4 := hl 4 (by decide)
    have e5 := hl 5 (by decide)
    have e6 := hl 6 (by decide)
    have e7 := hl 7 (by decide)
    have e8 := hl 8 (by decide)
    have e9 := hl 9 (by decide)
    have e10 := hl 10 (by decide)
    have e11 := hl 11 (by decide)
    have e12 := hl 12 (by decide)
    have e13 := hl 13 (by decide)
    have e14 := hl 14 (by decide)
    clear hl
    have hM2 : ∀ j ∈ allocs, w.heap.size ≤ g j ∧ Made N g w1 j := fun j hj => hM j hj (by
      simp only [allocs, List.mem_cons, List.mem_nil_iff, or_false] at hj
      rcases hj with rfl | rfl | rfl | rfl | rfl | rfl | rfl <;> assumption)
    have hne2 : ∀ i ∈ allocs, ∀ j ∈ allocs, i ≠ j → g i ≠ g j := fun i hi j hj hij => hne i hi j hj hij (by
      simp only [allocs, List.mem_cons, List.mem_nil_iff, or_false] at hi
      rcases hi with rfl | rfl | rfl | rfl | rfl | rfl | rfl <;> assumption) (by
      simp only [allocs, List.mem_cons, List.mem_nil_iff, or_false] at hj
      rcases hj with rfl | rfl | rfl | rfl | rfl | rfl | rfl <;> assumption)
    simp only [e0, e1, e2, e3, e4, e5, e6, e7, e8, e9, e10, e11, e12, e13, e14, if_true]
    clear e0 e1 e2 e3 e4 e5 e6 e7 e8 e9 e10 e11 e12 e13 e14 hM hne
    obtain ⟨L, hL, hR, hlo⟩ := made_rep h1 h2 hM2 hne2
    obtain ⟨hL1, hL2, hL3, hL4, hL5, hL6, hL7⟩ := hL
    unfold slV
    rw [← hL1, ← hL2, ← hL3, ← hL4, ← hL5, ← hL6, ← hL7]
    clear hM2 hne2 hL1 hL2 hL3 hL4 hL5 hL6 hL7
    have HR := Lib.hid hR
    have HB := Lib.hid hB
    have HLO := Lib.hid hlo
    clear hR hB hlo
    go_wp2_with fail
    go_loopw [27] (fun iv wr => ∃ i : Nat, i ≤ N ∧ iv = .int .i64 i ∧ Rep wr L N (zeroS N i) ∧ Below w.heap.size w wr) (fun iv _ => N - (intOf iv).toNat)
    case atStart => exact ⟨0, by omega, rfl, HR.out, HB.out⟩
    case round =>
      obtain ⟨i, hi, rfl, hR, hB⟩ := hrel
      have f1 : wr.cell? ⟨L.bx, 2, none⟩ = some (.slice (some ⟨L.bc, 0, none⟩) N N) := hR.x.cell (k := 2) (by decide)
      have f2 : wr.cell? ⟨L.bx, 5, none⟩ = some (.slice (some ⟨L.bd, 0, none⟩) N N) := hR.x.cell (k := 5) (by decide)
      obtain ⟨⟨n1, n2, n3, n4, n5, n6⟩, ⟨n7, n8, n9, n10, n11⟩, ⟨n12, n13, n14, n15⟩, ⟨n16, n17, n18⟩, ⟨n19, n20⟩, n21⟩ := Lay.ne hR.nd
      have n18' := Ne.symm n18
      have n3' := Ne.symm n3
      have n6' := Ne.symm n6
      by_cases hlt : i < N
      · have f3 := hR.c.cell hlt
        have f4 := hR.d.cell hlt
        have f5 := hR.c.frozen i
        have f6 := hR.d.frozen i
        generalize iRow (zeroS N i).chain i = y1 at f3
        generalize iRow (zeroS N i).heads i = y2 at f4
        have HRr := Lib.hid hR
        have HBr := Lib.hid hB
        clear hR hB
        go_wp2_with fail
        go_roundw
        case rel =>
          refine ⟨i + 1, by omega, rfl, ?_, (HBr.out.setCell (by exact HLO.out _ (.inr (.inr (.inr (.inl rfl))))) _).setCell (by exact HLO.out _ (.inr (.inr (.inr (.inr (.inr (.inr rfl))))))) _⟩
          have h := (HRr.out.setC i ((i : Int) + 1)).setD i (-1)
          have e : zeroS N (i + 1) = { zeroS N i with chain := upd (zeroS N i).chain i ((i : Int) + 1), heads := upd (zeroS N i).heads i (-1) } := by
            unfold zeroS upd
            congr 1
            · funext k
              by_cases hk : k = i
              · subst hk; simp
              · by_cases hk2 : k < i
                · simp [hk, hk2, show k < i + 1 by omega]
                · simp [hk, hk2, show ¬ k < i + 1 by omega]
            · funext k
              by_cases hk : k = i
              · subst hk; simp
              · by_cases hk2 : k < i
                · simp [hk, hk2, show k < i + 1 by omega]
                · simp [hk, hk2, show ¬ k < i + 1 by omega]
          rw [e]
          exact h
        case measure => simp [intOf]; omega
      · obtain rfl : i = N := by omega
        obtain ⟨m, rfl⟩ : ∃ m, i = m + 1 := ⟨i - 1, by omega⟩
        have f3 := hR.c.cell (k := m) (by omega)
        generalize iRow (zeroS (m + 1) (m + 1)).chain m = y1 at f3
        have f5 := hR.c.frozen m
        have HRr := Lib.hid hR
        have HBr := Lib.hid hB
        clear hR hB
        go_wp2_with fail
        go_ret2
        refine ⟨L, rfl, ?_, HLO.out, HBr.out.setCell (by exact HLO.out _ (.inr (.inr (.inr (.inl rfl))))) _⟩
        have h := HRr.out.setC m (-1)
        refine ⟨h.hN, h.x.congr fun k hk => ?_, h.f, h.a, h.c.congr fun k hk => ?_, h.h, h.nx, h.d.congr fun k hk => ?_, h.nd⟩
        · match k, hk with
          | 0, _ | 1, _ | 2, _ | 3, _ | 4, _ | 5, _ | 6, _ | 7, _ | 8, _ | 9, _ => rfl
        · by_cases hk2 : k = m
          · subst hk2; simp [iRow, newS, upd]
          · simp [iRow, newS, upd, zeroS, hk2, hk]
        · simp [iRow, newS, zeroS, hk]

end Go.Proofs.Ytccgdfamjohmgaa
