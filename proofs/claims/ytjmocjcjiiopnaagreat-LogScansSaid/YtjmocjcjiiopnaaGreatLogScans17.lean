/- A ring's order. Conditions: at most sixteen segments, in memory. -/
import Derived.Test.YtjmocjcjiiopnaaGreatLogScans16
import Derived.Test.YtjmocjcjiiopnaaGreatLogScans01
import Derived.Test.YtjmocjcjiiopnaaGreatLogScans07

section
set_option linter.unusedVariables false
set_option linter.unusedSimpArgs false
namespace Go.Proofs.YtjmocjcjiiopnaaGreat.Rg
open Go.RowKit Go.Ice Go.Ring

def cmpF (a b : Nat) : Int := if a < b then -1 else if b < a then 1 else 0

theorem compare (a b : Nat) (w : World) : Calls Tryz.prog 128 #[.int .u64 a, .int .u64 b] w fun e w' => e = .returned (.int .i64 (cmpF a b)) ∧ w = w' := by
  have nan : ∀ (x : Nat) (w : World), Calls Tryz.prog 136 #[.int .u64 x] w fun e w' => e = .returned (.bool false) ∧ w = w' := fun x w => by
    have h : ((x : Int) != (x : Int)) = false := by simp
    go_enter Tryz.func136, Tryz.ntmps136
    go_wp2_with fail
    go_ret
    exact ⟨rfl, rfl⟩
  have NAN := Lib.hid nan
  clear nan
  unfold cmpF
  by_cases h1 : a < b
  · rw [if_pos h1]
    go_enter Tryz.func128, Tryz.ntmps128
    go_wp2_with fail
    refine (NAN.out _ _).mono ?_
    rintro e w1 ⟨rfl, rfl⟩
    go_wp2_with fail
    refine (NAN.out _ _).mono ?_
    rintro e w1 ⟨rfl, rfl⟩
    go_wp2_with fail
    go_ret
    exact ⟨rfl, rfl⟩
  · rw [if_neg h1]
    by_cases h2 : b < a
    · rw [if_pos h2]
      go_enter Tryz.func128, Tryz.ntmps128
      go_wp2_with fail
      refine (NAN.out _ _).mono ?_
      rintro e w1 ⟨rfl, rfl⟩
      go_wp2_with fail
      refine (NAN.out _ _).mono ?_
      rintro e w1 ⟨rfl, rfl⟩
      go_wp2_with fail
      go_ret
      exact ⟨rfl, rfl⟩
    · rw [if_neg h2]
      go_enter Tryz.func128, Tryz.ntmps128
      go_wp2_with fail
      refine (NAN.out _ _).mono ?_
      rintro e w1 ⟨rfl, rfl⟩
      go_wp2_with fail
      refine (NAN.out _ _).mono ?_
      rintro e w1 ⟨rfl, rfl⟩
      go_wp2_with fail
      go_ret
      exact ⟨rfl, rfl⟩

def segCell (s : Seg) : Nat → Value
  | 0 => .int .i64 s.st
  | 1 => .int .u64 s.gen
  | _ => .int .i64 s.used
def SegsAt (w : World) (v : Value) (l : List Seg) : Prop := RowAt w 3 v l.length fun i j => segCell (at' l i) j
/-- A ring in a block of its own: its sectors, its segments. -/
structure RingAt (w : World) (b : Nat) (sec : Int) (v : Value) (l : List Seg) : Prop where
  box : w.heap[b]? = some (.cells #[.int .i64 sec, v] 54 (0, 0))
  segs : SegsAt w v l

theorem SegsAt.cell {w : World} {v : Value} {l : List Seg} (h : SegsAt w v l) (hl : 0 < l.length) : ∃ b off cap, v = .slice (some ⟨b, off, none⟩) l.length cap ∧ l.length ≤ cap ∧ cap ≤ maxLen ∧ b < w.heap.size ∧
    ∀ i, i < l.length → w.cell? ⟨b, off + i * 3, none⟩ = some (.int .i64 (at' l i).st) ∧ w.cell? ⟨b, off + i * 3 + 1, none⟩ = some (.int .u64 (at' l i).gen) ∧ w.cell? ⟨b, off + i * 3 + 2, none⟩ = some (.int .i64 (at' l i).used) := by
  obtain ⟨b, off, cap, h1, h2, h3, h4, h5⟩ := RowAt.at h hl
  refine ⟨b, off, cap, h1, h2, h3, h4, fun i hi => ?_⟩
  have q0 := h5 i hi 0 (by decide)
  have q1 := h5 i hi 1 (by decide)
  have q2 := h5 i hi 2 (by decide)
  simp only [segCell, Nat.add_zero, ← Nat.add_assoc] at q0 q1 q2
  exact ⟨q0, q1, q2⟩

set_option maxHeartbeats 2000000 in
theorem order1 (w : World) (b : Nat) (sec : Int) (v : Value) (l : List Seg) (i j : Nat) (h : RingAt w b sec v l) (hi : i < l.length) (hj : j < l.length) :
    Calls Tryz.prog 127 #[.int .i64 i, .int .i64 j, .pointer (some ⟨b, 0, none⟩)] w fun e w' => e = .returned (.int .i64 (cmpF (gen l i) (gen l j))) ∧ ∃ m, w' = w.drewN m := by
  obtain ⟨bs, off, cap, rfl, h1, h2, h3, h4⟩ := h.segs.cell (by omega)
  have c1 : w.cell? ⟨b, 1, none⟩ = some (.slice (some ⟨bs, off, none⟩) l.length cap) := blk_cell h.box 1
  have g1 : w.cell? ⟨bs, off + i * 3 + 1, none⟩ = some (.int .u64 (gen l i)) := (h4 i hi).2.1
  have g2 : w.cell? ⟨bs, off + j * 3 + 1, none⟩ = some (.int .u64 (gen l j)) := (h4 j hj).2.1
  generalize l.length = n at *
  generalize gen l i = x at *
  generalize gen l j = y at *
  have hC := fun m => compare x y (w.drewN m)
  have HC : Hid (∀ m, Calls Tryz.prog 128 #[.int .u64 x, .int .u64 y] (w.drewN m) fun e w' => e = .returned (.int .i64 (cmpF x y)) ∧ w' = w.drewN m) := fun m => (hC m).mono fun e w' ⟨h1, h2⟩ => ⟨h1, h2.symm⟩
  unfold maxLen at h2
  clear h h4 hC
  go_enter Tryz.func127, Tryz.ntmps127
  go_wp2_with fail
  go_quiet ((go_at_call 128; exact Calls.quiet_of_same (HC.out _)))
  go_wp2_with fail
  go_ret
  exact ⟨rfl, nq, rfl⟩

/-- A row of numbers at the head of a block. -/
def IntsAt (w : World) (g : Nat) (ds : List Nat) : Prop := ∃ c, w.heap[g]? = some (.cells c 3 (0, 0)) ∧ ∀ k, k < ds.length → c[k]? = some (.int .i64 (ds.getD k 0 : Nat))
theorem IntsAt.cell {w : World} {g : Nat} {ds : List Nat} (h : IntsAt w g ds) {k : Nat} (hk : k < ds.length) : w.cell? ⟨g, k, none⟩ = some (.int .i64 (ds.getD k 0 : Nat)) := by
  obtain ⟨c, h1, h2⟩ := h
  simpa [World.cell?, h1] using h2 k hk
theorem IntsAt.frozen {w : World} {g : Nat} {ds : List Nat} (h : IntsAt w g ds) (k : Nat) : w.frozen? ⟨g, k, none⟩ = false := by
  obtain ⟨c, h1, _⟩ := h
  simp [World.frozen?, h1]
theorem IntsAt.set {w : World} {g : Nat} {ds : List Nat} (h : IntsAt w g ds) (k x : Nat) : IntsAt (w.setCell ⟨g, k, none⟩ (.int .i64 x)) g (ds.set k x) := by
  obtain ⟨c, h1, h2⟩ := h
  refine ⟨c.setIfInBounds k (.int .i64 x), by simp [World.setCell, Array.getElem?_modify, h1], fun j hj => ?_⟩
  rw [List.length_set] at hj
  have h3 := h2 j hj
  have hlt := (Array.getElem?_eq_some_iff.1 h3).1
  rw [List.getD_eq_getElem?_getD, List.getElem?_set]
  by_cases e : k = j
  · subst e; simp [hlt, hj]
  · rw [if_neg e, ← List.getD_eq_getElem?_getD]
    simp [e, h3]
theorem RingAt.frm {w w' : World} {b : Nat} {sec : Int} {v : Value} {l : List Seg} {T : Nat → Prop} (h : RingAt w b sec v l) (hf : Frm T w w') (hb : ¬ T b) (hT : ∀ k, v.ownBlock = some k → ¬ T k) : RingAt w' b sec v l :=
  ⟨(hf.block b (Array.getElem?_eq_some_iff.1 h.box).1 hb).trans h.box, RowAt.frm h.segs hf hT⟩
end Go.Proofs.YtjmocjcjiiopnaaGreat.Rg
namespace Go.Proofs.YtjmocjcjiiopnaaGreat.Rg
open Go.RowKit Go.Ice Go.Ring

def preF (G : Nat → Nat) (ds : List Nat) (i : Nat) : List Nat := (ds.take i).foldl (fun q x => insR G x q) []
def memF (G : Nat → Nat) (ds : List Nat) (i : Nat) : List Nat := (preF G ds i).reverse ++ ds.drop i
theorem preF_len (G : Nat → Nat) (ds : List Nat) (i : Nat) (h : i ≤ ds.length) : (preF G ds i).length = i := by
  unfold preF
  rw [(foldl_perm G _ _).length_eq, List.append_nil, List.length_take]; omega
theorem preF_succ (G : Nat → Nat) (ds : List Nat) (i : Nat) (h : i < ds.length) : preF G ds (i + 1) = insR G (ds.getD i 0) (preF G ds i) := by
  unfold preF
  rw [List.take_succ_eq_append_getElem h, List.foldl_append, List.getD_eq_getElem?_getD, List.getElem?_eq_getElem h]; rfl
theorem memF_one (G : Nat → Nat) (ds : List Nat) : memF G ds 1 = ds := by
  unfold memF preF
  cases ds with
  | nil => rfl
  | cons x ds => simp [insR]
theorem memF_all (G : Nat → Nat) (ds : List Nat) : memF G ds ds.length = sortR G ds := by
  unfold memF preF sortR
  rw [List.take_length, List.drop_length, List.append_nil]
theorem memF_split (G : Nat → Nat) (ds : List Nat) (i : Nat) (h : i < ds.length) : memF G ds i = (preF G ds i).reverse ++ ds.getD i 0 :: ds.drop (i + 1) := by
  unfold memF
  rw [List.drop_eq_getElem_cons h, List.getD_eq_getElem?_getD, List.getElem?_eq_getElem h]; rfl
theorem preF_mem (G : Nat → Nat) (ds : List Nat) (i : Nat) : ∀ x ∈ preF G ds i, x ∈ ds := fun x hx => by
  unfold preF at hx
  have := (foldl_perm G _ _).mem_iff.1 hx
  rw [List.append_nil] at this
  exact List.mem_of_mem_take this
theorem getD_mid (a b : List Nat) (x : Nat) : (a ++ x :: b).getD a.length 0 = x := by simp [List.getD_eq_getElem?_getD]
theorem getD_mid2 (a b : List Nat) (x y : Nat) : (a ++ x :: y :: b).getD (a.length + 1) 0 = y := by
  simp [List.getD_eq_getElem?_getD]
theorem swap_mid (a b : List Nat) (x y : Nat) : ((a ++ y :: x :: b).set (a.length + 1) y).set a.length x = a ++ x :: y :: b := by
  rw [List.set_append_right _ _ (by omega), show a.length + 1 - a.length = 1 from by omega]
  simp

/-- What an exchange of two neighbours has done. -/
def SwapI (w : World) (g : Nat) (q : List Nat) (x y : Nat) (R : List Nat) (done : Nat → Bool) : Prop :=
  IntsAt w g (q.reverse ++ (if done 17 then x else y) :: (if done 15 then y else x) :: R)
section
variable {w : World} {g : Nat} {q R : List Nat} {x y p : Nat} {done : Nat → Bool}
theorem SwapI.cell0 (h : SwapI w g q x y R done) (hp : p = q.length) : w.cell? ⟨g, p, none⟩ = some (.int .i64 ((if done 17 then x else y : Nat) : Int)) := by
  have := IntsAt.cell h (k := p) (by simp [hp])
  rw [show p = q.reverse.length from by simp [hp], getD_mid] at this
  rw [show p = q.reverse.length from by simp [hp]]; exact this
theorem SwapI.cell1 (h : SwapI w g q x y R done) (hp : p = q.length) : w.cell? ⟨g, p + 1, none⟩ = some (.int .i64 ((if done 15 then y else x : Nat) : Int)) := by
  have := IntsAt.cell h (k := p + 1) (by simp [hp])
  rw [show p = q.reverse.length from by simp [hp], getD_mid2] at this
  rw [show p = q.reverse.length from by simp [hp]]; exact this
theorem SwapI.frozen (h : SwapI w g q x y R done) (k : Nat) : w.frozen? ⟨g, k, none⟩ = false := IntsAt.frozen h k
theorem SwapI.quiet (h : SwapI w g q x y R done) (i : Nat) (hi : i ∉ [15, 17]) : SwapI w g q x y R (fun k => decide (k = i) || done k) := by
  have e : ∀ k ∈ [15, 17], (decide (k = i) || done k) = done k := fun k hk => by
    have : k ≠ i := fun e => hi (e ▸ hk)
    simp [this]
  unfold SwapI at *
  simp only [e 15 (by decide), e 17 (by decide)]
  exact h
theorem SwapI.step15 (h : SwapI w g q x y R done) (hp : p = q.length) : SwapI (w.setCell ⟨g, p + 1, none⟩ (.int .i64 (y : Nat))) g q x y R (fun k => decide (k = 15) || done k) := by
  have := IntsAt.set h (p + 1) y
  unfold SwapI
  rw [show p = q.reverse.length from by simp [hp]] at this ⊢
  rw [List.set_append_right _ _ (by omega), show q.reverse.length + 1 - q.reverse.length = 1 from by omega] at this
  simpa using this
theorem SwapI.step17 (h : SwapI w g q x y R done) (hp : p = q.length) : SwapI (w.setCell ⟨g, p, none⟩ (.int .i64 (x : Nat))) g q x y R (fun k => decide (k = 17) || done k) := by
  have := IntsAt.set h p x
  unfold SwapI
  rw [show p = q.reverse.length from by simp [hp]] at this ⊢
  rw [List.set_append_right _ _ (by omega), Nat.sub_self] at this
  simpa using this
end

set_option maxRecDepth 100000 in
set_option maxHeartbeats 8000000 in
theorem insertion (w : World) (g cap : Nat) (ds : List Nat) (b : Nat) (sec : Int) (v : Value) (l : List Seg) (hI : IntsAt w g ds) (hn : ds.length ≤ 16) (hR : RingAt w b sec v l) (hd : ∀ x ∈ ds, x < l.length)
    (hbg : b ≠ g) (hvg : ∀ k, v.ownBlock = some k → k ≠ g) :
    Calls Tryz.prog 138 #[.slice (some ⟨g, 0, none⟩) ds.length cap, .int .i64 0, .int .i64 ds.length, .func (.func 127) #[] #[.pointer (some ⟨b, 0, none⟩)]] w fun e w' => e = .returned (.tuple #[]) ∧ IntsAt w' g (sortR (gen l) ds) ∧ Frm (fun k => k = g) w w' := by
  obtain ⟨n, hnn⟩ : ∃ n, n = ds.length := ⟨_, rfl⟩
  rw [← hnn] at hn ⊢
  have HI : Hid (IntsAt w g (memF (gen l) ds 1)) := by show IntsAt _ _ _; rw [memF_one]; exact hI
  have HR := Lib.hid hR
  have HD := Lib.hid hd
  have HN := Lib.hid hnn
  have HBG := Lib.hid hbg
  have HVG := Lib.hid hvg
  clear hI hR hd hnn hbg hvg
  go_enter Tryz.func138, Tryz.ntmps138
  go_wp2_with fail
  go_loopg [8, 9] n (fun m iv jv wr => ∃ i : Nat, m = n + 1 - i ∧ 1 ≤ i ∧ (i ≤ n ∨ i = 1) ∧ iv = .int .i64 i ∧ Hid (IntsAt wr g (memF (gen l) ds i) ∧ Frm (fun k => k = g) w wr))
  case atStart => exact ⟨1, rfl, by omega, by omega, rfl, HI.out, Frm.refl _ _⟩
  case round =>
    clear HI
    obtain ⟨i, rfl, h1, h2, rfl, HS⟩ := hrel
    by_cases hlt : i < n
    · have hil : i < ds.length := by rw [← HN.out]; exact hlt
      have HX : Hid (ds.getD i 0 < l.length ∧ preF (gen l) ds (i + 1) = insR (gen l) (ds.getD i 0) (preF (gen l) ds i) ∧ (preF (gen l) ds i).length = i ∧ memF (gen l) ds i = (preF (gen l) ds i).reverse ++ ds.getD i 0 :: ds.drop (i + 1)) :=
        ⟨HD.out _ (by rw [List.getD_eq_getElem?_getD, List.getElem?_eq_getElem hil]; exact List.getElem_mem hil), preF_succ _ _ _ hil, preF_len _ _ _ (by omega), memF_split _ _ _ hil⟩
      obtain ⟨x, hx⟩ : ∃ x, x = ds.getD i 0 := ⟨_, rfl⟩
      rw [← hx] at HX
      clear hx
      go_wp2_with fail
      go_loopg [9] i (fun m jv wr => ∃ (r q : List Nat), m = q.length ∧ jv = .int .i64 q.length ∧ q.length < n ∧ Hid (preF (gen l) ds i = r ++ q ∧ insR (gen l) x (preF (gen l) ds i) = r ++ insR (gen l) x q ∧ IntsAt wr g (q.reverse ++ x :: (r.reverse ++ ds.drop (i + 1))) ∧ Frm (fun k => k = g) w wr))
      case atStart => exact ⟨[], preF (gen l) ds i, HX.out.2.2.1.symm, by rw [HX.out.2.2.1], by rw [HX.out.2.2.1]; exact hlt, rfl, rfl, by have := HS.out.1; rw [HX.out.2.2.2] at this; exact this, HS.out.2⟩
      case round =>
        clear HS
        obtain ⟨r, q, hgk, rfl, hqn, HQ⟩ := hrel
        subst hgk
        have hout : ∀ q' : List Nat, insR (gen l) x q = x :: q' → q = q' → IntsAt wr g (memF (gen l) ds (i + 1)) := fun q' e1 e2 => by
          subst e2
          have := HQ.out.2.2.1
          unfold memF
          rw [HX.out.2.1, HQ.out.2.1, e1]
          simp only [List.reverse_append, List.reverse_cons, List.append_assoc, List.cons_append]
          exact this
        have HOUT := Lib.hid hout
        clear hout
        cases q with
        | nil =>
          go_wp2_with fail
          go_quiet (fail)
          go_wp2_with fail
          go_roundg (n + 1 - (i + 1))
          case measure => omega
          case rel => exact ⟨i + 1, rfl, by omega, .inl (by omega), by go_num, HOUT.out [] rfl rfl, HQ.out.2.2.2.trans ⟨rfl, rfl, rfl, Nat.le_refl _, fun _ _ _ => rfl⟩⟩
        | cons y q =>
          obtain ⟨p, hp⟩ : ∃ p, p = q.length := ⟨_, rfl⟩
          have hmem : IntsAt wr g (q.reverse ++ y :: x :: (r.reverse ++ ds.drop (i + 1))) := by
            have := HQ.out.2.2.1
            rw [List.reverse_cons, List.append_assoc] at this
            exact this
          have hlen : p + 1 < (q.reverse ++ y :: x :: (r.reverse ++ ds.drop (i + 1))).length := by simp; omega
          have c0 : wr.cell? ⟨g, p, none⟩ = some (.int .i64 (y : Nat)) := by
            have := hmem.cell (k := p) (by omega)
            rw [show p = q.reverse.length from by simp [hp], getD_mid] at this
            rw [show p = q.reverse.length from by simp [hp]]; exact this
          have c1 : wr.cell? ⟨g, p + 1, none⟩ = some (.int .i64 (x : Nat)) := by
            have := hmem.cell (k := p + 1) hlen
            rw [show p = q.reverse.length from by simp [hp], getD_mid2] at this
            rw [show p = q.reverse.length from by simp [hp]]; exact this
          have f0 := hmem.frozen p
          have f1 := hmem.frozen (p + 1)
          have hRr := HR.out.frm HQ.out.2.2.2 HBG.out HVG.out
          have hyl : y < l.length := HD.out y (preF_mem (gen l) ds i y (by rw [HQ.out.1]; simp))
          have HO1 : Hid (∀ m, Calls Tryz.prog 127 #[.int .i64 x, .int .i64 y, .pointer (some ⟨b, 0, none⟩)] (wr.drewN m) fun e w' => e = .returned (.int .i64 (cmpF (gen l x) (gen l y))) ∧ ∃ k, w' = (wr.drewN m).drewN k) :=
            fun m => order1 (wr.drewN m) b sec v l x y ⟨hRr.box, hRr.segs.below (drewN_below wr m) (Nat.le_refl _)⟩ HX.out.1 hyl
          have HMEM := Lib.hid hmem
          have HP := Lib.hid hp
          rw [List.length_cons, ← hp]
          rw [List.length_cons, ← hp] at hqn
          clear hmem hlen hRr hp
          by_cases hg : gen l x < gen l y
          · have hcm : cmpF (gen l x) (gen l y) = -1 := by unfold cmpF; rw [if_pos hg]
            rw [hcm] at HO1
            have HG := Lib.hid hg
            clear hcm hg
            go_wp2_with fail
            go_quiet ((go_at_call 127; exact Calls.quiet_of (HO1.out _)))
            go_wp2_with fail
            clear HO1
            have hi0 : (0 : Int) ≤ (p : Int) := Int.natCast_nonneg _
            have hi1 : (p : Int) + 1 < (n : Int) := by omega
            have hi2 : (p : Int) < (n : Int) := by omega
            have hi3 : (0 : Int) ≤ (p : Int) + 1 := by omega
            have hw1 : IntKind.i64.wrap ((p : Int) + 1 - 1) = (p : Int) := by rw [IntWalk.i64_in _ (by omega)]; omega
            have hw2 : ((p : Int) + 1).toNat = p + 1 := by omega
            have hw3 : IntKind.i64.wrap (p : Int) = (p : Int) := IntWalk.i64_in _ (by omega)
            have hi4 : ¬ n ≤ p := by omega
            have hi5 : ¬ n ≤ p + 1 := by omega
            have hi6 : ¬ ((0 : Int) ≤ (p : Int) + 1 → (n : Int) ≤ (p : Int) + 1) := by omega
            -- REGION
            refine wp_region_inv2 (by kernel_rfl) (hord_of2 (by kernel_rfl)) (fun done ac W => ∃ (u : Unit), ac = { tmps := #[.slice (some ⟨g, 0, none⟩) n cap, .int .i64 0, .int .i64 n, .func (.func 127) #[] #[.pointer (some ⟨b, 0, none⟩)], undef, undef, undef, undef, .int .i64 i, .int .i64 ((p + 1 : Nat) : Int), .int .i64 0, .int .i64 1, .int .i64 i, .int .i64 n, .bool true, u15, u16, .int .i64 i, .int .i64 ((p + 1 : Nat) : Int), .int .i64 0, .bool true, .bool true, .func (.func 127) #[] #[.pointer (some ⟨b, 0, none⟩)], .slice (some ⟨g, 0, none⟩) n cap, .int .i64 ((p + 1 : Nat) : Int), .pointer (some ⟨g, p + 1, none⟩), .int .i64 x, .slice (some ⟨g, 0, none⟩) n cap, .int .i64 ((p + 1 : Nat) : Int), .int .i64 p, .pointer (some ⟨g, p, none⟩), .int .i64 y, .int .i64 (-1), .bool true, .bool true, u35, u36, if done 0 then (.slice (some ⟨g, 0, none⟩) n cap) else u37, if done 1 then (.int .i64 ((p + 1 : Nat) : Int)) else u38, if done 2 then (.slice (some ⟨g, 0, none⟩) n cap) else u39, if done 3 then (.int .i64 ((p + 1 : Nat) : Int)) else u40, if done 4 then (.int .i64 p) else u41, if done 5 then (.slice (some ⟨g, 0, none⟩) n cap) else u42, if done 6 then (.int .i64 ((p + 1 : Nat) : Int)) else u43, if done 7 then (.int .i64 p) else u44, if done 8 then (.pointer (some ⟨g, p, none⟩)) else u45, if done 9 then (.int .i64 y) else u46, if done 10 then (.slice (some ⟨g, 0, none⟩) n cap) else u47, if done 11 then (.int .i64 ((p + 1 : Nat) : Int)) else u48, if done 12 then (.pointer (some ⟨g, p + 1, none⟩)) else u49, if done 13 then (.int .i64 x) else u50, if done 14 then (.pointer (some ⟨g, p + 1, none⟩)) else u51, if done 16 then (.pointer (some ⟨g, p, none⟩)) else u52], defers := [] } ∧ SwapI W g q x y (r.reverse ++ ds.drop (i + 1)) done ∧ Frm (fun k => k = g) w W) ?_ ?_ ?_
            · exact ⟨(), by simp, HMEM.out, HQ.out.2.2.2.trans ⟨rfl, rfl, rfl, Nat.le_refl _, fun _ _ _ => rfl⟩⟩
            · intro done ac W j oq ho hd hdep hcl ⟨u, hlit, hI⟩
              have hj : j < 18 := (Array.getElem?_eq_some_iff.1 ho).1
              subst hlit
              obtain rfl | rfl | rfl | rfl | rfl | rfl | rfl | rfl | rfl | rfl | rfl | rfl | rfl | rfl | rfl | rfl | rfl | rfl : j = 0 ∨ j = 1 ∨ j = 2 ∨ j = 3 ∨ j = 4 ∨ j = 5 ∨ j = 6 ∨ j = 7 ∨ j = 8 ∨ j = 9 ∨ j = 10 ∨ j = 11 ∨ j = 12 ∨ j = 13 ∨ j = 14 ∨ j = 15 ∨ j = 16 ∨ j = 17 := by omega
              · refine wpOp_val ho (by cases ho; rfl) (w' := W) (v := (.slice (some ⟨g, 0, none⟩) n cap)) (by cases ho; simp [execOp, go_sem]) ?_
                cases ho
                exact ⟨u, by simp [Act.put], hI.1.quiet 0 (by decide), hI.2⟩
              · refine wpOp_val ho (by cases ho; rfl) (w' := W) (v := (.int .i64 ((p + 1 : Nat) : Int))) (by cases ho; simp [execOp, go_sem]) ?_
                cases ho
                exact ⟨u, by simp [Act.put], hI.1.quiet 1 (by decide), hI.2⟩
              · refine wpOp_val ho (by cases ho; rfl) (w' := W) (v := (.slice (some ⟨g, 0, none⟩) n cap)) (by cases ho; simp [execOp, go_sem]) ?_
                cases ho
                exact ⟨u, by simp [Act.put], hI.1.quiet 2 (by decide), hI.2⟩
              · refine wpOp_val ho (by cases ho; rfl) (w' := W) (v := (.int .i64 ((p + 1 : Nat) : Int))) (by cases ho; simp [execOp, go_sem]) ?_
                cases ho
                exact ⟨u, by simp [Act.put], hI.1.quiet 3 (by decide), hI.2⟩
              · have p3 : done 3 = true := by cases ho; exact hdep ⟨3, .data⟩ (by simp) rfl
                refine wpOp_val ho (by cases ho; rfl) (w' := W) (v := (.int .i64 p)) (by cases ho; simp [execOp, go_sem, p3, hw1, hw3]) ?_
                cases ho
                exact ⟨u, by simp [Act.put], hI.1.quiet 4 (by decide), hI.2⟩
              · refine wpOp_val ho (by cases ho; rfl) (w' := W) (v := (.slice (some ⟨g, 0, none⟩) n cap)) (by cases ho; simp [execOp, go_sem]) ?_
                cases ho
                exact ⟨u, by simp [Act.put], hI.1.quiet 5 (by decide), hI.2⟩
              · refine wpOp_val ho (by cases ho; rfl) (w' := W) (v := (.int .i64 ((p + 1 : Nat) : Int))) (by cases ho; simp [execOp, go_sem]) ?_
                cases ho
                exact ⟨u, by simp [Act.put], hI.1.quiet 6 (by decide), hI.2⟩
              · have p6 : done 6 = true := by cases ho; exact hdep ⟨6, .data⟩ (by simp) rfl
                refine wpOp_val ho (by cases ho; rfl) (w' := W) (v := (.int .i64 p)) (by cases ho; simp [execOp, go_sem, p6, hw1, hw3]) ?_
                cases ho
                exact ⟨u, by simp [Act.put], hI.1.quiet 7 (by decide), hI.2⟩
              · have p5 : done 5 = true := by cases ho; exact hdep ⟨5, .data⟩ (by simp) rfl
                have p7 : done 7 = true := by cases ho; exact hdep ⟨7, .data⟩ (by simp) rfl
                refine wpOp_val ho (by cases ho; rfl) (w' := W) (v := (.pointer (some ⟨g, p, none⟩))) (by cases ho; simp [execOp, go_sem, p5, p7, hi4]) ?_
                cases ho
                exact ⟨u, by simp [Act.put], hI.1.quiet 8 (by decide), hI.2⟩
              · have p8 : done 8 = true := by cases ho; exact hdep ⟨8, .data⟩ (by simp) rfl
                have q17 : done 17 = false := by
                  cases h : done 17 with
                  | false => rfl
                  | true =>
                    have h0 := hcl 17 _ rfl h ⟨9, .phase⟩ (by simp) rfl
                    rw [hd] at h0; cases h0
                have hc : W.cell? ⟨g, p, none⟩ = some (.int .i64 (y : Nat)) := by
                  have := hI.1.cell0 HP.out
                  rw [q17] at this; simpa using this
                refine wpOp_val ho (by cases ho; rfl) (w' := W) (v := .int .i64 (y : Nat)) (by cases ho; simp [execOp, go_sem, p8, hc]) ?_
                cases ho
                exact ⟨(), by simp [Act.put], hI.1.quiet 9 (by decide), hI.2⟩
              · refine wpOp_val ho (by cases ho; rfl) (w' := W) (v := (.slice (some ⟨g, 0, none⟩) n cap)) (by cases ho; simp [execOp, go_sem]) ?_
                cases ho
                exact ⟨u, by simp [Act.put], hI.1.quiet 10 (by decide), hI.2⟩
              · refine wpOp_val ho (by cases ho; rfl) (w' := W) (v := (.int .i64 ((p + 1 : Nat) : Int))) (by cases ho; simp [execOp, go_sem]) ?_
                cases ho
                exact ⟨u, by simp [Act.put], hI.1.quiet 11 (by decide), hI.2⟩
              · have p10 : done 10 = true := by cases ho; exact hdep ⟨10, .data⟩ (by simp) rfl
                have p11 : done 11 = true := by cases ho; exact hdep ⟨11, .data⟩ (by simp) rfl
                refine wpOp_val ho (by cases ho; rfl) (w' := W) (v := (.pointer (some ⟨g, p + 1, none⟩))) (by cases ho; simp [execOp, go_sem, p10, p11, hi5, hw2, hi6]) ?_
                cases ho
                exact ⟨u, by simp [Act.put], hI.1.quiet 12 (by decide), hI.2⟩
              · have p12 : done 12 = true := by cases ho; exact hdep ⟨12, .data⟩ (by simp) rfl
                have q15 : done 15 = false := by
                  cases h : done 15 with
                  | false => rfl
                  | true =>
                    have h0 := hcl 15 _ rfl h ⟨13, .phase⟩ (by simp) rfl
                    rw [hd] at h0; cases h0
                have hc : W.cell? ⟨g, p + 1, none⟩ = some (.int .i64 (x : Nat)) := by
                  have := hI.1.cell1 HP.out
                  rw [q15] at this; simpa using this
                refine wpOp_val ho (by cases ho; rfl) (w' := W) (v := .int .i64 (x : Nat)) (by cases ho; simp [execOp, go_sem, p12, hc]) ?_
                cases ho
                exact ⟨(), by simp [Act.put], hI.1.quiet 13 (by decide), hI.2⟩
              · have p0 : done 0 = true := by cases ho; exact hdep ⟨0, .data⟩ (by simp) rfl
                have p1 : done 1 = true := by cases ho; exact hdep ⟨1, .data⟩ (by simp) rfl
                refine wpOp_val ho (by cases ho; rfl) (w' := W) (v := (.pointer (some ⟨g, p + 1, none⟩))) (by cases ho; simp [execOp, go_sem, p0, p1, hi5, hw2, hi6]) ?_
                cases ho
                exact ⟨u, by simp [Act.put], hI.1.quiet 14 (by decide), hI.2⟩
              · have p9 : done 9 = true := by cases ho; exact hdep ⟨9, .data⟩ (by simp) rfl
                have p14 : done 14 = true := by cases ho; exact hdep ⟨14, .data⟩ (by simp) rfl
                have hc : W.cell? ⟨g, p + 1, none⟩ = some (.int .i64 (x : Nat)) := by
                  have := hI.1.cell1 HP.out
                  rw [hd] at this; simpa using this
                have hfz : W.frozen? ⟨g, p + 1, none⟩ = false := hI.1.frozen _
                refine wpOp_skip ho (by cases ho; rfl) (w' := W.setCell ⟨g, p + 1, none⟩ (.int .i64 (y : Nat))) (by cases ho; simp [execOp, go_sem, p9, p14, stored, hc, hfz]) ?_
                cases ho
                exact ⟨(), by simp [Act.put], hI.1.step15 HP.out, hI.2.setCell (.inl rfl) _⟩
              · have p2 : done 2 = true := by cases ho; exact hdep ⟨2, .data⟩ (by simp) rfl
                have p4 : done 4 = true := by cases ho; exact hdep ⟨4, .data⟩ (by simp) rfl
                refine wpOp_val ho (by cases ho; rfl) (w' := W) (v := (.pointer (some ⟨g, p, none⟩))) (by cases ho; simp [execOp, go_sem, p2, p4, hi4]) ?_
                cases ho
                exact ⟨u, by simp [Act.put], hI.1.quiet 16 (by decide), hI.2⟩
              · have p13 : done 13 = true := by cases ho; exact hdep ⟨13, .data⟩ (by simp) rfl
                have p16 : done 16 = true := by cases ho; exact hdep ⟨16, .data⟩ (by simp) rfl
                have hc : W.cell? ⟨g, p, none⟩ = some (.int .i64 (y : Nat)) := by
                  have := hI.1.cell0 HP.out
                  rw [hd] at this; simpa using this
                have hfz : W.frozen? ⟨g, p, none⟩ = false := hI.1.frozen _
                refine wpOp_skip ho (by cases ho; rfl) (w' := W.setCell ⟨g, p, none⟩ (.int .i64 (x : Nat))) (by cases ho; simp [execOp, go_sem, p13, p16, stored, hc, hfz]) ?_
                cases ho
                exact ⟨(), by simp [Act.put], hI.1.step17 HP.out, hI.2.setCell (.inl rfl) _⟩
            · rintro done ac W hall ⟨u, rfl, hI⟩
              have hl := hall
              clear hall
              have e0 := hl 0 (by decide)
              have e1 := hl 1 (by decide)
              have e2 := hl 2 (by decide)
              have e3 := hl 3 (by decide)
              have e4 := hl 4 (by decide)
              have e5 := hl 5 (by decide)
              have e6 := hl 6 (by decide)
              have e7 := hl 7 (by decide)
              have e8 := hl 8 (by decide)
              have e9 := hl 9 (by decide)
              have e10 := hl 10 (by decide)
              have e11 := hl 11 (by decide)
              have e12 := hl 12 (by decide)
              have e13 := hl 13 (by decide)
              have e14 := hl 14 (by decide)
              have e15 := hl 15 (by decide)
              have e16 := hl 16 (by decide)
              have e17 := hl 17 (by decide)
              have hs : IntsAt W g (q.reverse ++ x :: y :: (r.reverse ++ ds.drop (i + 1))) := by
                have := hI.1
                unfold SwapI at this
                rw [e15, e17] at this
                simpa using this
              have HSW := Lib.hid hs
              have HFW := Lib.hid hI.2
              simp only [e0, e1, e2, e3, e4, e5, e6, e7, e8, e9, e10, e11, e12, e13, e14, e16, if_true]
              clear e0 e1 e2 e3 e4 e5 e6 e7 e8 e9 e10 e11 e12 e13 e14 e15 e16 e17 hl hI hs
              go_wp2_with fail
              go_roundg q.length
              case measure => simp
              case rel =>
                refine ⟨r ++ [y], q, rfl, by rw [← HP.out]; try go_num, by rw [← HP.out]; omega, by rw [HQ.out.1]; simp, ?_, ?_, HFW.out⟩
                · rw [HQ.out.2.1, show insR (gen l) x (y :: q) = y :: insR (gen l) x q from by rw [insR, if_pos HG.out]]
                  simp
                · have := HSW.out
                  rw [List.reverse_append, List.reverse_singleton, List.singleton_append, List.cons_append]
                  exact this
            -- END
          · have hcm : 0 ≤ cmpF (gen l x) (gen l y) := by unfold cmpF; rw [if_neg hg]; split <;> decide
            obtain ⟨c, hc⟩ : ∃ c, c = cmpF (gen l x) (gen l y) := ⟨_, rfl⟩
            rw [← hc] at HO1 hcm
            have HG := Lib.hid hg
            clear hc hg
            have hcd : ¬ c < 0 := by omega
            go_wp2_with fail
            go_quiet ((go_at_call 127; exact Calls.quiet_of (HO1.out _)))
            go_wp2_with fail
            go_roundg (n + 1 - (i + 1))
            case measure => omega
            case rel => exact ⟨i + 1, rfl, by omega, .inl (by omega), by go_num, HOUT.out (y :: q) (by unfold insR; rw [if_neg HG.out]) rfl, HQ.out.2.2.2.trans ⟨rfl, rfl, rfl, Nat.le_refl _, fun _ _ _ => rfl⟩⟩
    · go_wp2_with fail
      go_end0
      refine ⟨rfl, ?_, HS.out.2⟩
      rcases h2 with h2 | h2
      · obtain rfl : i = n := by omega
        have := HS.out.1
        rw [HN.out, memF_all] at this
        exact this
      · subst h2
        have := HS.out.1
        have hs : n ≤ 1 := by omega
        rw [memF_one] at this
        have e : sortR (gen l) ds = ds := by
          match ds, HN.out with
          | [], _ => rfl
          | [z], _ => rfl
          | z :: z' :: ds', hh => simp at hh; omega
        rw [e]; exact this
end Go.Proofs.YtjmocjcjiiopnaaGreat.Rg
namespace Go.Proofs.YtjmocjcjiiopnaaGreat.Rg
open Go.RowKit Go.Ice Go.Ring

/-- With no numbers at all nothing is sorted. -/
theorem insertion0 (w : World) (v f : Value) : Calls Tryz.prog 138 #[v, .int .i64 0, .int .i64 0, f] w fun e w' => e = .returned (.tuple #[]) ∧ w' = w := by
  go_enter Tryz.func138, Tryz.ntmps138
  go_wp2_with fail
  go_loopg [8, 9] 0 (fun m iv jv wr => m = 0 ∧ iv = .int .i64 1 ∧ wr = w)
  case atStart => exact ⟨rfl, rfl, rfl⟩
  case round =>
    obtain ⟨rfl, rfl, rfl⟩ := hrel
    go_wp2_with fail
    go_end0
    exact ⟨rfl, rfl⟩

theorem stableF (w : World) (v f : Value) (n : Nat) (hn : n ≤ 16) {Q : World → Prop} (H : Calls Tryz.prog 138 #[v, .int .i64 0, .int .i64 n, f] w fun e w' => e = .returned (.tuple #[]) ∧ Q w') :
    Calls Tryz.prog 135 #[v, .int .i64 n, f] w fun e w' => e = .returned (.tuple #[]) ∧ Q w' := by
  have H := Lib.hid H
  go_enter Tryz.func135, Tryz.ntmps135
  go_wp2_with fail
  go_loopg [7, 8] 0 (fun m iv jv wr => m = 0 ∧ iv = .int .i64 0 ∧ jv = .int .i64 20 ∧ wr = w)
  case atStart => exact ⟨rfl, rfl, rfl, rfl⟩
  case round =>
    obtain ⟨rfl, rfl, rfl, rfl⟩ := hrel
    go_wp2_with fail
    refine (H.out).mono ?_
    rintro e w1 ⟨rfl, h1⟩
    have H1 := Lib.hid h1
    clear h1
    go_wp2_with fail
    go_loopg [6, 7, 8, 9] 0 (fun m iv jv kv lv wr => m = 0 ∧ iv = .int .i64 20 ∧ wr = w1)
    case atStart => exact ⟨rfl, rfl, rfl⟩
    case round =>
      obtain ⟨rfl, rfl, rfl⟩ := hrel
      go_wp2_with fail
      go_end0
      exact ⟨rfl, H1.out⟩

theorem sorted (w : World) (v f : Value) (b : Option Addr) (n cap : Nat) (hv : v = .slice b n cap) (hn : n ≤ 16) {Q : World → Prop} (H : Calls Tryz.prog 138 #[v, .int .i64 0, .int .i64 n, f] w fun e w' => e = .returned (.tuple #[]) ∧ Q w') :
    Calls Tryz.prog 126 #[v, f] w fun e w' => e = .returned (.tuple #[]) ∧ Q w' := by
  have HS := Lib.hid (stableF w v f n hn H)
  clear H
  subst hv
  go_enter Tryz.func126, Tryz.ntmps126
  go_wp2_with fail
  refine (HS.out).mono ?_
  rintro e w1 ⟨rfl, h1⟩
  have H1 := Lib.hid h1
  clear h1
  go_wp2_with fail
  go_end0
  exact ⟨rfl, H1.out⟩
end Go.Proofs.YtjmocjcjiiopnaaGreat.Rg
namespace Go.Proofs.YtjmocjcjiiopnaaGreat.Rg
open Go.RowKit Go.Ice Go.Ring

theorem elemInt : Elem Tryz.prog 179 3 1 8 (.int .i64 0) :=
  ⟨Tryz.underlying179, by
    obtain ⟨i0, hi, hz0, hz1, hz2⟩ := info_parts (show (Tryz.prog.info? 3).map (fun i => (i.zero, i.size, i.bytes)) = some (some (.int .i64 0), 1, 8) by kernel_rfl)
    exact ⟨i0, hi, hz0, hz1, hz2⟩, rfl, by decide⟩

def ringV (sec : Int) (v : Value) : Value := .agg #[.int .i64 sec, v]
def intV (x : Nat) : Value := .int .i64 x
def nfTo (l : List Seg) (i : Nat) : List Nat := (List.range i).filter fun i => !decide ((at' l i).st = 0)
theorem nfTo_succ (l : List Seg) (i : Nat) : nfTo l (i + 1) = if (at' l i).st = 0 then nfTo l i else nfTo l i ++ [i] := by
  unfold nfTo
  rw [List.range_succ, List.filter_append]
  by_cases h : (at' l i).st = 0 <;> simp [h]
theorem nfTo_len (l : List Seg) (i : Nat) : (nfTo l i).length ≤ i := by
  have := List.length_filter_le (fun i => !decide ((at' l i).st = 0)) (List.range i)
  simpa [nfTo] using this

theorem own_ints {w : World} {base g cap n : Nat} {ds : List Nat} (h : w.ownsRow base 3 1 (.slice (some ⟨g, 0, none⟩) n cap) n (ds.map intV)) : IntsAt w g ds ∧ n = ds.length ∧ base ≤ g ∧ n ≤ cap ∧ cap ≤ maxLen := by
  obtain ⟨c, hc⟩ := own_block h (g := g) rfl
  have hI := own_isSl h
  obtain ⟨hl, h⟩ := h
  have hn : n = ds.length := by simpa using hl.symm
  rcases h with ⟨h, _⟩ | ⟨g', cap', cur, h1, h2, h3, h4, h5, h6, h7⟩
  · cases h
  · injection h1 with e1 e2 e3
    obtain rfl : g = g' := by injection e1 with e1; injection e1
    subst e3
    rw [h3] at hc
    refine ⟨⟨cur, h3, fun k hk => ?_⟩, hn, h2, h4, h5⟩
    have e : (ds.map intV)[k]? = (cur.toList.take (n * 1))[k]? := by rw [h7]
    rw [List.getElem?_take_of_lt (by omega)] at e
    rw [← Array.getElem?_toList, ← e, List.getElem?_map, List.getElem?_eq_getElem hk, List.getD_eq_getElem?_getD, List.getElem?_eq_getElem hk]
    rfl

theorem ints_sl {w : World} {g cap : Nat} {ds : List Nat} (h : IntsAt w g ds) (h1 : ds.length ≤ cap) (h2 : cap ≤ maxLen) : IsSl w (.slice (some ⟨g, 0, none⟩) ds.length cap) (ds.map intV) := by
  have := isSl_mk (w := w) (cs := ds.map intV) (b := g) (off := 0) (cap := cap) (by simpa using h1) h2 (by obtain ⟨c, h, _⟩ := h; exact (Array.getElem?_eq_some_iff.1 h).1) (fun j hj => by
    rw [List.length_map] at hj
    rw [Nat.zero_add, h.cell hj, List.getElem?_map, List.getElem?_eq_getElem hj, List.getD_eq_getElem?_getD, List.getElem?_eq_getElem hj]
    rfl)
  rwa [List.length_map] at this

set_option maxHeartbeats 4000000 in
theorem ordr (w : World) (sec : Int) (v : Value) (l : List Seg) (h : SegsAt w v l) (hl : 0 < l.length) (hn : l.length ≤ 16) :
    Calls Tryz.prog 102 #[ringV sec v] w fun e w' => ∃ u, e = .returned u ∧ IsSl w' u ((order l).map intV) ∧ Below w.heap.size w w' := by
  obtain ⟨bs, off, cap, rfl, h1, h2, h3, h4⟩ := h.cell hl
  have HR := Lib.hid h
  have H4 := Lib.hid h4
  obtain ⟨n, hnn⟩ : ∃ n, n = l.length := ⟨_, rfl⟩
  rw [← hnn] at hn hl h1 ⊢
  have HN := Lib.hid hnn
  have HL := Lib.hid hl
  unfold maxLen at h2
  clear h h4 hnn hl
  unfold ringV
  obtain ⟨B, hB⟩ : ∃ B, B = w.heap.size := ⟨_, rfl⟩
  rw [← hB] at h3
  obtain ⟨W0, hW0⟩ : ∃ W0, W0 = w.alloc (.cells #[.int .i64 sec, .slice (some ⟨bs, off, none⟩) n cap] 54) := ⟨_, rfl⟩
  have HBX : Hid (W0.heap[B]? = some (.cells #[.int .i64 sec, .slice (some ⟨bs, off, none⟩) n cap] 54 (0, 0))) := by show _ = _; rw [hW0, hB]; exact heap_alloc_new w _
  have HBL : Hid (Below B w W0) := by show Below _ _ _; rw [hW0]; exact (Below.refl B w).alloc (by omega) _
  have b1 : W0.cell? ⟨B, 1, none⟩ = some (.slice (some ⟨bs, off, none⟩) n cap) := blk_cell HBX.out 1
  go_enter Tryz.func102, Tryz.ntmps102
  go_upto_region 1 with fail
  rw [← hB, ← hW0]
  have HB := Lib.hid hB
  clear hW0 hB
  go_wp2_with fail
  clear b1
  go_loopg [3, 4, 5, 9] n (fun g vv kv pv iv wr => ∃ i : Nat, g = n - i ∧ i ≤ n ∧ iv = .int .i64 i ∧ Hid (Below B w wr ∧ wr.heap[B]? = some (.cells #[.int .i64 sec, .slice (some ⟨bs, off, none⟩) n cap] 54 (0, 0)) ∧ wr.ownsRow (B + 1) 3 1 vv (nfTo l i).length ((nfTo l i).map intV)))
  case atStart => exact ⟨0, rfl, by omega, rfl, HBL.out, HBX.out, World.ownsRow_nil _ _ _ _⟩
  case round =>
    clear HBL HBX
    obtain ⟨i, rfl, hi, rfl, HS⟩ := hrel
    have b1 : wr.cell? ⟨B, 1, none⟩ = some (.slice (some ⟨bs, off, none⟩) n cap) := blk_cell HS.out.2.1 1
    by_cases hlt : i < n
    · have hil : i < l.length := by rw [← HN.out]; exact hlt
      have hbB : bs < wr.heap.size := by have := HS.out.1.size; have := HB.out; omega
      obtain ⟨q0, q1, q2⟩ := H4.out i hil
      have hbx : ∀ k, wr.cell? ⟨bs, k, none⟩ = w.cell? ⟨bs, k, none⟩ := fun k => (Frm.cell (frm_of_below HS.out.1) (p := ⟨bs, k, none⟩) (by have := HB.out; show bs < _; omega) (by show ¬ B ≤ bs; omega))
      rw [← hbx] at q0 q1 q2
      go_upto_region 5 with fail
      obtain ⟨Wa, hWa⟩ : ∃ Wa, Wa = wr.alloc (.cells #[.int .i64 (at' l i).st, .int .u64 (at' l i).gen, .int .i64 (at' l i).used] 135) := ⟨_, rfl⟩
      rw [← hWa]
      have HBa : Hid (Below B w Wa) := by show Below _ _ _; rw [hWa]; exact HS.out.1.alloc (by have := HS.out.1.size; have := HB.out; omega) _
      have hsz : B + 1 ≤ wr.heap.size := (Array.getElem?_eq_some_iff.1 HS.out.2.1).1
      have HXa : Hid (Wa.heap[B]? = some (.cells #[.int .i64 sec, .slice (some ⟨bs, off, none⟩) n cap] 54 (0, 0))) := by show _ = _; rw [hWa, Below.heap_alloc _ _ _ hsz]; exact HS.out.2.1
      have HOa : Hid (Wa.ownsRow (B + 1) 3 1 u3 (nfTo l i).length ((nfTo l i).map intV)) := by show World.ownsRow _ _ _ _ _ _ _; rw [hWa]; exact HS.out.2.2.alloc _
      have hAa : Wa.heap[wr.heap.size]? = some (.cells #[.int .i64 (at' l i).st, .int .u64 (at' l i).gen, .int .i64 (at' l i).used] 135 (0, 0)) := by rw [hWa]; exact heap_alloc_new wr _
      have a0 : Wa.cell? ⟨wr.heap.size, 0, none⟩ = some (.int .i64 (at' l i).st) := blk_cell hAa 0
      have HSZ : Hid (B + 1 ≤ Wa.heap.size) := by show _ ≤ _; rw [hWa]; simp; omega
      clear hWa hAa q0 q1 q2 hbx b1
      have HSU := nfTo_succ l i
      have hnl := nfTo_len l i
      by_cases hst : (at' l i).st = 0
      · rw [if_pos hst] at HSU
        have HSU := Lib.hid HSU
        rw [hst] at a0 ⊢
        go_wp2_with fail
        go_roundg (n - (i + 1))
        case measure => omega
        case rel => exact ⟨i + 1, rfl, by omega, by go_num, HBa.out, HXa.out, by rw [HSU.out]; exact HOa.out⟩
      · rw [if_neg hst] at HSU
        have HSU := Lib.hid HSU
        generalize (at' l i).st = st at *
        have s1 : (st != 0) = true := by simpa using hst
        have hsl : IsSlK (Wa.alloc (.cells #[.int .i64 i] 3)) 1 1 (.slice (some ⟨Wa.heap.size, 0, none⟩) 1 1) [intV i] :=
          ⟨rfl, .inr ⟨by decide, Wa.heap.size, 0, 1, rfl, by decide, by decide, by simp, fun j hj => by rw [Nat.zero_add, World.cell?_alloc_mark]; simp [intV]⟩⟩
        obtain ⟨v', Wc, hrun, hoc, hgc, _⟩ := app_at (P := Tryz.prog) (ty := 179) elemInt (HOa.out.alloc _) hsl (fun u hu => by
          simp only [List.mem_cons, List.mem_nil_iff, or_false] at hu
          subst hu; rfl) (by omega) (by unfold maxLen; omega) (by have := HSZ.out; simp; omega)
        have hbc : Below (B + 1) Wa Wc := (((Below.refl (B + 1) Wa).alloc HSZ.out _)).grown hgc (by have := HSZ.out; simp; omega) (fun k hk => (HOa.out.lt k hk).1)
        have HRUN := Lib.hid hrun
        have HOC : Hid (Wc.ownsRow (B + 1) 3 1 v' (nfTo l (i + 1)).length ((nfTo l (i + 1)).map intV)) := by
          show World.ownsRow _ _ _ _ _ _ _
          rw [HSU.out]
          simpa using hoc
        have HXc : Hid (Wc.heap[B]? = some (.cells #[.int .i64 sec, .slice (some ⟨bs, off, none⟩) n cap] 54 (0, 0))) := (hbc.block B (by omega)).trans HXa.out
        have HBc : Hid (Below B w Wc) := HBa.out.trans (hbc.mono (by omega))
        obtain ⟨a', c', rfl, _⟩ := own_form hoc
        obtain ⟨a, c, rfl, _⟩ := own_form HOa.out
        clear hsl hrun hoc hgc hbc
        go_wp2_with (at_builtin; refine wpList_append_eq rfl _ _ 179 rfl rfl rfl HRUN.out ?_)
        go_roundg (n - (i + 1))
        case measure => omega
        case rel => exact ⟨i + 1, rfl, by omega, by go_num, HBc.out, HXc.out, HOC.out⟩
    · obtain rfl : i = n := by omega
      clear hlt
      have hnf : nfTo l i = nonfree l := by unfold nfTo nonfree; rw [HN.out]
      have HOr : Hid (wr.ownsRow (B + 1) 3 1 u3 (nonfree l).length ((nonfree l).map intV)) := by show World.ownsRow _ _ _ _ _ _ _; rw [← hnf]; exact HS.out.2.2
      have hle : (nonfree l).length ≤ 16 := by rw [← hnf]; have := nfTo_len l i; omega
      have HRr : Hid (RingAt wr B sec (.slice (some ⟨bs, off, none⟩) i cap) l) := by
        refine ⟨HS.out.2.1, RowAt.frm (show SegsAt w (.slice (some ⟨bs, off, none⟩) i cap) l from by rw [HN.out]; exact HR.out) (frm_of_below HS.out.1) fun k hk => ?_⟩
        simp [Value.ownBlock] at hk
        omega
      have HD : Hid (∀ x ∈ nonfree l, x < l.length) := fun x hx => (mem_nonfree.1 hx).1
      have hcall : ∃ b0 c0, u3 = .slice b0 (nonfree l).length c0 ∧ Calls Tryz.prog 126 #[u3, .func (.func 127) #[] #[.pointer (some ⟨B, 0, none⟩)]] wr fun e w' => e = .returned (.tuple #[]) ∧ IsSl w' u3 ((order l).map intV) ∧ Below B wr w' := by
        obtain ⟨b0, c0, hu, _⟩ := own_form HOr.out
        refine ⟨b0, c0, hu, ?_⟩
        have hown := HOr.out
        rcases Nat.eq_zero_or_pos (nonfree l).length with h0 | h0
        · have hz : nonfree l = [] := List.length_eq_zero_iff.1 h0
          have ho : order l = [] := by unfold order; rw [hz]; rfl
          have := sorted wr u3 (.func (.func 127) #[] #[.pointer (some ⟨B, 0, none⟩)]) b0 0 c0 (by rw [hu, h0]) (by omega) (Q := fun w' => w' = wr) (insertion0 wr u3 _)
          refine this.mono ?_
          rintro e w' ⟨rfl, rfl⟩
          refine ⟨rfl, ?_, Below.refl _ _⟩
          rw [ho]
          have := own_isSl hown
          rw [hz] at this
          exact this
        · rcases hown.2 with ⟨_, h1⟩ | ⟨g, cap', cur, h1, _⟩
          · omega
          · rw [h1] at hown
            obtain ⟨hi1, hi2, hi3, hi4, hi5⟩ := own_ints hown
            rw [h1]
            refine (sorted wr _ _ (some ⟨g, 0, none⟩) (nonfree l).length cap' rfl hle (insertion wr g cap' (nonfree l) B sec _ l hi1 hle HRr.out HD.out (by omega) (fun k hk => by
              simp [Value.ownBlock] at hk; omega))).mono ?_
            rintro e w' ⟨rfl, q1, q2⟩
            have hlen : (order l).length = (nonfree l).length := (sortR_perm _ _).length_eq
            refine ⟨rfl, ?_, q2.below (fun k hk e => by omega) (by have := HS.out.1.size; have := HB.out; omega)⟩
            have := ints_sl (show IntsAt w' g (order l) from q1) (cap := cap') (by omega) hi5
            rwa [hlen] at this
      obtain ⟨b0, c0, rfl, hc⟩ := hcall
      have HC := Lib.hid hc
      have HBr : Hid (Below B w wr) := HS.out.1
      clear hc HOr HRr HD hnf HS b1
      generalize (nonfree l).length = m at *
      go_wp2_with fail
      refine HC.out.mono ?_
      rintro e w1 ⟨rfl, q1, q2⟩
      have HQ := Lib.hid (And.intro q1 (HBr.out.trans q2))
      clear q1 q2
      go_wp2_with fail
      go_ret
      exact ⟨_, rfl, HQ.out.1, by rw [← HB.out]; exact HQ.out.2⟩
end Go.Proofs.YtjmocjcjiiopnaaGreat.Rg
end
