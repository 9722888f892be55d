/- A segment's blocks that came in, read off the argument. No condition. The law LogScans returns true at every input, and leaves its arguments as they were. No condition. -/
import Derived.Test.YtjmocjcjiiopnaaGreatLogScans41

section
set_option linter.unusedVariables false
set_option linter.unusedSimpArgs false
namespace Go.Proofs.YtjmocjcjiiopnaaGreat
open Go.ChangeShapes Go.WideShapes Go.Deep Go.RowKit Go.Ice Go.Oct
section
variable {H : Type} {enc : TypeId × Value → H} {w : World} {base : Nat} {spare : Nat → Bool} {held : Bool}
theorem trod_arr {P : Program} {fuel n : Nat} {t e : TypeId} {cs : List Value} {x : DataW H × List MemPlace} (ht : P.underlying t = some (.array n e)) (h : DataW.trod enc P w base spare held fuel t cs = some x) : ∃ m, cs.length = P.cellsOf t ∧ ∀ i, i < n → ∃ y, DataW.trod enc P w base spare held m e ((cs.drop (i * P.cellsOf e)).take (P.cellsOf e)) = some y := by
  cases fuel with
  | zero => simp [DataW.trod] at h
  | succ m =>
    unfold DataW.trod at h
    rw [ht] at h
    split at h <;> simp_all
    obtain ⟨hl, xs, hp, hd⟩ := h
    refine ⟨m, fun i hi => ?_⟩
    have hlen := mapM_some_length hp
    rw [mapM_some_get hp i i (by rw [List.getElem?_range hi])]
    rw [List.length_range] at hlen
    exact ⟨_, _, List.getElem?_eq_getElem (by omega)⟩
theorem leaf_blocks {v : Value} (h : LeafAt enc Tryz.prog w base spare held 22 v) : ∃ (bs : List (List UInt8)) (a : Option Addr) (c : Nat), v = .slice a bs.length c ∧ (∀ x ∈ bs, x.length = 64) ∧ IsSlK w 64 bs.length (.slice a bs.length c) (bs.flatMap fun x => x.map u8v) := by
  obtain ⟨n, y, hn⟩ := h
  have hc : Tryz.prog.cellsOf 38 = 64 := by kernel_rfl
  have hc1 : Tryz.prog.cellsOf 5 = 1 := by kernel_rfl
  rcases open_slice Tryz.underlying22 hn with ⟨hcs, hx⟩ | ⟨x, len, cap, m, n', D, Pl, hcs, hb, hl, hm, hmm, hx, hel⟩
  · obtain rfl : v = .slice none 0 0 := by simpa using hcs
    exact ⟨[], none, 0, rfl, by simp, rfl, .inl ⟨rfl, .inl rfl⟩⟩
  · obtain rfl : v = .slice (some x) len cap := by simpa using hcs
    rcases Nat.eq_zero_or_pos len with rfl | hpos
    · exact ⟨[], some x, cap, rfl, by simp, rfl, .inl ⟨rfl, .inr ⟨_, _, rfl⟩⟩⟩
    · have hlm : len ≤ m := by rw [hmm]; split <;> omega
      have key : ∀ i, ∃ b : List UInt8, i < len → b.length = 64 ∧ ∀ j, j < 64 → w.cell? (x.add (i * 64 + j)) = (b.map u8v)[j]? := fun i => by
        by_cases hi : i < len
        · obtain ⟨cs', h1, h2⟩ := hel i (by omega)
          rw [hc] at h1
          obtain ⟨_, h3, h4⟩ := World.cells?_some h1
          obtain ⟨m2, h5, h6⟩ := trod_arr Tryz.underlying38 h2
          rw [hc] at h5
          have h7 : ∀ j, ∃ u : UInt8, j < 64 → cs'[j]? = some (u8v u) := fun j => by
            by_cases hj : j < 64
            · obtain ⟨y2, h8⟩ := h6 j hj
              rw [hc1] at h8
              obtain ⟨z, g1, g2, g3⟩ := DataW.trod_int Tryz.underlying5 h8
              have hbd := bounds_u8 g3
              refine ⟨UInt8.ofNat z.toNat, fun _ => ?_⟩
              have g4 := congrArg (·[0]?) g1
              simp only [List.getElem?_take, List.getElem?_drop, Nat.mul_one, Nat.add_zero] at g4
              have g5 : cs'[j]? = some (.int .u8 z) := by simpa using g4
              rw [g5]
              have e9 : (((UInt8.ofNat z.toNat).toNat : Nat) : Int) = z := by rw [UInt8.toNat_ofNat']; omega
              show some (Value.int .u8 z) = some (Value.int .u8 (((UInt8.ofNat z.toNat).toNat : Nat) : Int))
              rw [e9]
            · exact ⟨0, fun h => absurd h hj⟩
          obtain ⟨f, hf⟩ := Classical.axiomOfChoice h7
          refine ⟨(List.range 64).map f, fun _ => ⟨by simp, fun j hj => ?_⟩⟩
          have := h4 j hj
          rw [add_add, hf j hj] at this
          rw [this, List.map_map, List.getElem?_map, List.getElem?_range hj]
          rfl
        · exact ⟨[], fun h => absurd h hi⟩
      obtain ⟨f, hf⟩ := Classical.axiomOfChoice key
      obtain ⟨b, off, spot⟩ := x
      have h00 := (hf 0 hpos).2 0 (by decide)
      have hspot : spot = none := by
        have hs : ∃ u, ((f 0).map u8v)[0]? = some u := ⟨_, List.getElem?_eq_getElem (by rw [List.length_map, (hf 0 hpos).1]; decide)⟩
        obtain ⟨u, hu⟩ := hs
        rw [hu] at h00
        simpa [Addr.add] using World.cell?_spot h00
      subst hspot
      have hbl : b < w.heap.size := by
        have hs : ∃ u, ((f 0).map u8v)[0]? = some u := ⟨_, List.getElem?_eq_getElem (by rw [List.length_map, (hf 0 hpos).1]; decide)⟩
        obtain ⟨u, hu⟩ := hs
        rw [hu] at h00
        have := World.block_lt_of_cell? w _ h00
        simpa [Addr.add] using this
      have hlen : ((List.range len).map f).length = len := by simp
      have h64 : ∀ q ∈ (List.range len).map f, q.length = 64 := fun q hq => by
        obtain ⟨i, hi, rfl⟩ := List.mem_map.1 hq
        exact (hf i (List.mem_range.1 hi)).1
      have hcl : ∀ q ∈ (List.range len).map f, (q.map u8v).length = 64 := fun q hq => by rw [List.length_map]; exact h64 q hq
      have hfl : (((List.range len).map f).flatMap fun q => q.map u8v).length = len * 64 := by rw [flatMap_len hcl, hlen]
      refine ⟨(List.range len).map f, some ⟨b, off, none⟩, cap, by rw [hlen], h64, ?_⟩
      rw [hlen]
      refine ⟨hfl, .inr ⟨hpos, b, off, cap, rfl, hl, hm, hbl, fun j hj => ?_⟩⟩
      rw [hfl] at hj
      have hd : j / 64 < len := by omega
      have hm : j % 64 < 64 := Nat.mod_lt _ (by decide)
      have := (hf (j / 64) hd).2 (j % 64) hm
      obtain ⟨q, m, rfl, hm6⟩ : ∃ q m, j = q * 64 + m ∧ m < 64 := ⟨j / 64, j % 64, by omega, hm⟩
      rw [show (q * 64 + m) / 64 = q by omega, show (q * 64 + m) % 64 = m by omega, Go.WideShapes.add_plain] at this
      rw [this, flatMap_get hcl (x := f q) (by rw [List.getElem?_map, List.getElem?_range (by omega)]; rfl) hm6]
theorem blk_share {v : Value} {n : Nat} {cs : List Value} (h : IsSlK w 64 n v cs) : ∃ F, (slA 64 v n cs).p F w ∧ ∀ b, F b → (fun _ => True) b ∧ b < w.heap.size :=
  ⟨fun b => cs ≠ [] ∧ v.ownBlock = some b, ⟨fun _ => Iff.rfl, by decide, h⟩, fun b hb => ⟨trivial, (slA 64 v n cs).inn _ w ⟨fun _ => Iff.rfl, by decide, h⟩ b hb⟩⟩
set_option maxRecDepth 100000 in
/-- A written segment that came in. -/
theorem open_written {v : Value} {dd : DataW H} {ps : List MemPlace} {b0 : Nat} {r : Reach} (hv : Value.okWide Tryz.prog w r b0 24 v) (h : DataW.Trod enc Tryz.prog w base spare held 24 v dd ps) : ∃ (sg na sa : Int) (a : Option Addr) (c : Nat) (bs : List (List UInt8)), v = .agg #[.int .i64 sg, .int .i64 na, .int .i64 sa, .slice a bs.length c] ∧ (∀ x ∈ bs, x.length = 64) ∧ Shares [slA 64 (.slice a bs.length c) bs.length (bs.flatMap fun x => x.map u8v)] (fun _ => True) w := by
  obtain ⟨cs, rfl, hl, hc⟩ := open_flat (fs := _) (show Tryz.prog.underlying 24 = some (.struct _) from Tryz.underlying24) 5 [3, 3, 3, 22] (by kernel_rfl) (by kernel_rfl) hv h
  obtain ⟨u0, h0, l0⟩ := hc 0 3 rfl
  obtain ⟨u1, h1, l1⟩ := hc 1 3 rfl
  obtain ⟨u2, h2, l2⟩ := hc 2 3 rfl
  obtain ⟨u3, h3, l3⟩ := hc 3 22 rfl
  obtain ⟨sg, rfl, _⟩ := l0.int Tryz.underlying3
  obtain ⟨na, rfl, _⟩ := l1.int Tryz.underlying3
  obtain ⟨sa, rfl, _⟩ := l2.int Tryz.underlying3
  obtain ⟨bs, a, c, rfl, hb, hs⟩ := leaf_blocks l3
  have hcs : cs = [.int .i64 sg, .int .i64 na, .int .i64 sa, .slice a bs.length c] := by
    match cs, hl with
    | [a0, a1, a2, a3], _ => simp at h0 h1 h2 h3; rw [h0, h1, h2, h3]
  subst hcs
  exact ⟨sg, na, sa, a, c, bs, rfl, hb, fun A hA => by
    cases List.mem_singleton.1 hA
    exact blk_share hs⟩
end
end Go.Proofs.YtjmocjcjiiopnaaGreat
end

section
set_option linter.unusedVariables false
namespace Go.Proofs.YtjmocjcjiiopnaaGreat.logScansW
open Go.ChangeShapes Go.WideShapes Go.RowKit Go.Ice Go.Lg
set_option maxRecDepth 100000 in
theorem walk {H : Type} {enc : TypeId × Value → H} {base : Nat} {spare : Nat → Bool} {held : Bool} {b0 : Nat} {d0 : DataW H} {p0 : List MemPlace} {r0 : Reach} (v0 : Value) (w : World) (hv0 : Value.okWide Tryz.prog w r0 b0 24 v0) (h0 : DataW.Trod enc Tryz.prog w base spare held 24 v0 d0 p0) :
    Calls Tryz.prog 3 #[v0] w fun e w' => e = .returned (.bool true) ∧ Below w.heap.size w w' := by
  obtain ⟨sg, na, sa, a, c, bs, rfl, hb, hS⟩ := open_written hv0 h0
  refine (logScans sg na sa a c bs hb w _ (St.init w _ hS)).mono ?_
  rintro e w' ⟨v, L, rfl, ⟨rfl, rfl⟩, h⟩
  exact ⟨rfl, h.done⟩
end Go.Proofs.YtjmocjcjiiopnaaGreat.logScansW
namespace Go.Proofs.YtjmocjcjiiopnaaGreat.logScans
open Go.ChangeShapes Go.WideShapes Go.ChangeAt Go.RowKit Go.Ice
set_option linter.unusedVariables false

set_option maxRecDepth 100000 in
theorem lifted (os : Os) (started : os.Started) (H : Type) (enc : TypeId × Value → H) :
    ReturnsInHanded {} Tryz.checked os 3 .any (Rows.logScansSpec.pre6 enc Tryz.prog Tryz.f3 Rows.logScansRow.domain false) (Rows.logScansSpec.post enc Tryz.prog Tryz.f3 false true false false) := by
  refine returnsInHanded_of_change_sized (C := Tryz.checked) (by kernel_rfl) started (by kernel_rfl) Tryz.func3
    (ChangeSpec.witness6 (enc := enc) (C := Tryz.checked) false ⟨#[], #[.agg #[.int .i64 0, .int .i64 0, .int .i64 0, .slice none 0 0]], []⟩ 8 (by kernel_rfl) (by kernel_rfl) (by kernel_rfl) (by kernel_rfl)) ?_
  intro W base args ds gs before hval0 hW hcnd hsz _
  have hval : ∀ (j : Nat) t v, Tryz.f3.params[j]? = some t → args[j]? = some v → Value.okWide Tryz.prog W .any base t v := hval0
  have hW' := hW
  have hlt := hW.lt
  obtain ⟨p, q, hA0, hV, rfl, hfz, hnd⟩ := hW
  have hA : DataW.TrodAll enc Tryz.prog W 0 (fun _ => true) true Tryz.f3.params.toList args.toList ds p := hA0
  rw [Tryz.params3] at hA hval
  have hAk := hA
  obtain ⟨rfl, rfl⟩ := trodVars_none hV
  simp only [List.append_nil] at hW' hlt
  obtain ⟨v0, vs0, d0, ds0, p0, q0, hargs, rfl, rfl, h0, r0⟩ := trodAll_cons hA
  obtain ⟨rfl, rfl, rfl⟩ := trodAll_nil r0
  obtain rfl : args = #[v0] := by cases args; simp_all
  refine (logScansW.walk v0 W (hval 0 24 v0 rfl rfl) h0).mono fun e W' ⟨he, bel⟩ => ?_
  subst he
  have hB := trodAll_below (by kernel_rfl) bel _ _ _ _ (fun t ht => by
    simp only [List.mem_cons, List.mem_nil_iff, or_false] at ht
    rcases ht with rfl <;> exact ⟨by kernel_rfl, of_decide_eq_true (by kernel_rfl)⟩) hAk hlt
  exact ⟨_, rfl, _, _, _, [], _, [], hW', trodAll_mk1 (shut_bool Tryz.underlying4 _), hB, rfl, bel.frame _, fun h => by cases h⟩

theorem over : Rows.logScansRow.holds Tryz.pinned (OpenSpec.ofChange Rows.logScansSpec) :=
  OpenClaim.holds_of_wide 3 Tryz.f3 rfl rfl rfl rfl rfl rfl rfl ⟨rfl, rfl, rfl, rfl, rfl⟩ rfl rfl rfl rfl rfl (by kernel_rfl) Tryz.func3 (by kernel_rfl)
    (of_decide_eq_true (by kernel_rfl)) (by unfold Func.isWrapper; first | (rw [if_pos (by decide +kernel)]; kernel_rfl) | (rw [if_neg (by decide +kernel)]; exact ⟨rfl, rfl⟩))
    (fun os started H enc _ => lifted os started H enc)

/-- The statement. -/
theorem proved : Rows.LogScansSaid := over
#print axioms proved
end Go.Proofs.YtjmocjcjiiopnaaGreat.logScans
end
