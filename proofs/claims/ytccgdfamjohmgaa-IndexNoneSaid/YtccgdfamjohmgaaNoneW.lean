/- The walk of the law IndexNone. No condition. -/
import Derived.Test.YtccgdfamjohmgaaSeq
import Derived.Test.YtccgdfamjohmgaaWake
import Derived.Test.YtccgdfamjohmgaaApartP
set_option linter.unusedVariables false
namespace Go.Proofs.Ytccgdfamjohmgaa
open Go.RowKit Go.Ice Go.Shelf

section
variable (w : World)
theorem add_nil (f : Int) (a : Adr) : Calls Try.prog 13 #[.pointer none, .int .u32 f, adrV a] w fun e w' => e = .returned (.int .i64 1) ∧ Below w.heap.size w w' := by
  have HB : Hid (Below w.heap.size w (w.alloc (.cells #[.int .i64 a.seg, .int .u64 a.gen, .int .i64 a.sec] 32))) := (Below.refl _ w).alloc (Nat.le_refl _) _
  unfold adrV
  go_enter Try.func13, Try.ntmps13
  go_wp2_with fail
  go_ret
  exact ⟨rfl, HB.out⟩
theorem remove_nil (f : Int) (a : Adr) : Calls Try.prog 14 #[.pointer none, .int .u32 f, adrV a] w fun e w' => e = .returned (.int .i64 1) ∧ Below w.heap.size w w' := by
  have HB : Hid (Below w.heap.size w (w.alloc (.cells #[.int .i64 a.seg, .int .u64 a.gen, .int .i64 a.sec] 32))) := (Below.refl _ w).alloc (Nat.le_refl _) _
  unfold adrV
  go_enter Try.func14, Try.ntmps14
  go_wp2_with fail
  go_ret
  exact ⟨rfl, HB.out⟩
theorem drop_nil (g : Int) : Calls Try.prog 12 #[.pointer none, .int .u64 g] w fun e w' => e = .returned (.int .i64 0) ∧ w = w' := by
  go_enter Try.func12, Try.ntmps12
  go_wp2_with fail
  go_ret
  exact ⟨rfl, rfl⟩
theorem find_nil (f : Int) : Calls Try.prog 16 #[.pointer none, .int .u32 f] w fun e w' => e = .returned (.slice none 0 0) ∧ w = w' := by
  go_enter Try.func16, Try.ntmps16
  go_wp2_with fail
  go_ret
  exact ⟨rfl, rfl⟩
theorem len_nil : Calls Try.prog 17 #[.pointer none] w fun e w' => e = .returned (.int .i64 0) ∧ w = w' := by
  go_enter Try.func17, Try.ntmps17
  go_wp2_with fail
  go_ret
  exact ⟨rfl, rfl⟩
theorem left_nil : Calls Try.prog 18 #[.pointer none] w fun e w' => e = .returned (.int .i64 0) ∧ w = w' := by
  go_enter Try.func18, Try.ntmps18
  go_wp2_with fail
  go_ret
  exact ⟨rfl, rfl⟩
end

attribute [local go_sem] Oper.semAt_some
set_option maxRecDepth 100000 in
set_option maxHeartbeats 8000000 in
theorem indexNone (o : OpV) (w : World) : Calls Try.prog 7 #[opV o] w fun e w' => e = .returned (.bool true) ∧ Below w.heap.size w w' := by
  refine (callsIn_wide (n := 4)).1 ?_
  refine callsIn_of_wp_marks Try.func7 rfl trivial ?_ rfl
  simp only [Try.ntmps7, List.size_toArray, List.length_cons, List.length_nil, Nat.reduceAdd, Nat.reduceSub, Array.replicate_succ, Array.replicate_zero, List.push_toArray, List.append_toArray, List.nil_append, List.cons_append]
  unfold opV
  have HB0 : Hid (Below w.heap.size w ((w.alloc (.cells #[.int .i64 o.kind, .int .u32 o.f, .int .i64 o.a.seg, .int .u64 o.a.gen, .int .i64 o.a.sec] 34)).alloc (.cells #[.bool false] 4))) := ((Below.refl _ w).alloc (Nat.le_refl _) _).alloc (by simp) _
  have HO0 : Hid (OpAt ((w.alloc (.cells #[.int .i64 o.kind, .int .u32 o.f, .int .i64 o.a.seg, .int .u64 o.a.gen, .int .i64 o.a.sec] 34)).alloc (.cells #[.bool false] 4)) w.heap.size o) := (OpAt.new w o 34).below ((Below.refl _ _).alloc (Nat.le_refl _) _)
  have HR0 : Hid (((w.alloc (.cells #[.int .i64 o.kind, .int .u32 o.f, .int .i64 o.a.seg, .int .u64 o.a.gen, .int .i64 o.a.sec] 34)).alloc (.cells #[.bool false] 4)).heap[w.heap.size + 1]? = some (.cells #[.bool false] 4 (0, 0))) := by
    have := heap_alloc_new (w.alloc (.cells #[.int .i64 o.kind, .int .u32 o.f, .int .i64 o.a.seg, .int .u64 o.a.gen, .int .i64 o.a.sec] 34)) (.cells #[.bool false] 4)
    rw [World.size_alloc] at this
    exact this
  gi_wp2_with fail
  refine ⟨trivial, ?_⟩
  refine (callsIn_wide.2 (wakes _)).mono ?_
  rintro e w1 ⟨rfl, hb⟩
  have HB1 : Hid (Below w.heap.size w w1) := HB0.out.trans (hb.mono (by simp; omega))
  have HO1 : Hid (OpAt w1 w.heap.size o) := HO0.out.below hb
  have HR1 : Hid (w1.heap[w.heap.size + 1]? = some (.cells #[.bool false] 4 (0, 0))) := (hb.block _ (by simp)).trans HR0.out
  clear hb HB0 HO0 HR0
  gi_wp2_with fail
  refine ⟨trivial, ?_⟩
  refine (callsIn_wide.2 (all_nil _)).mono ?_
  rintro e w2 ⟨rfl, hs, hb⟩
  have HB2 : Hid (Below w.heap.size w w2) := HB1.out.trans (hb.mono HB1.out.size)
  have HO2 : Hid (OpAt w2 w.heap.size o) := HO1.out.below hb
  have hlt1 : w.heap.size + 1 < w1.heap.size := (Array.getElem?_eq_some_iff.1 HR1.out).1
  have HR2 : Hid (w2.heap[w.heap.size + 1]? = some (.cells #[.bool false] 4 (0, 0))) := (hb.block _ hlt1).trans HR1.out
  have hlt2 : w.heap.size + 1 < w2.heap.size := (Array.getElem?_eq_some_iff.1 HR2.out).1
  have HS := Lib.hid hs
  clear hb hs HB1 HO1 HR1
  gi_wp2_with fail
  refine wpIn_rangeFunc_ownF rfl (by omega) (gf := 29) (lb := #[.pointer (some ⟨w1.heap.size, 0, none⟩), .pointer (some ⟨w1.heap.size + 1, 0, none⟩)]) rfl trivial (enters_of Try.func29 (by kernel_rfl) rfl)
    (all_stops Fence.wide _ trivial rfl (by omega) w1.heap.size (w1.heap.size + 1) w2.heap.size [] w2 (Nat.le_refl _) HS.out) belowK_t (belowK_b (Nat.le_refl _)) (Below.refl _ _) (fun _ => rfl)
    (fun pre W => Below w2.heap.size w2 W) (fun _ _ _ => False) (ownFrom_below (Nat.le_refl _) (Nat.le_refl _)) (fun _ _ _ _ _ hs _ _ => hs) (Below.refl _ _)
    (fun x => { tmps := #[.agg #[.int .i64 o.kind, .int .u32 o.f, .int .i64 o.a.seg, .int .u64 o.a.gen, .int .i64 o.a.sec], .pointer (some ⟨w.heap.size, 0, none⟩), .pointer (some ⟨w.heap.size + 1, 0, none⟩), .pointer none, .bool true, .bool false, .pointer none,
      .func (.func 29) #[] #[.pointer (some ⟨w1.heap.size, 0, none⟩), .pointer (some ⟨w1.heap.size + 1, 0, none⟩)], .int .u32 x.1, .agg #[.int .i64 x.2.seg, .int .u64 x.2.gen, .int .i64 x.2.sec], undef, undef, undef, undef, undef, undef, undef, undef, undef, undef, undef, undef, undef, undef, undef, undef, undef, undef, undef, undef, undef, undef, undef, undef, undef, undef, undef, undef, undef, undef, undef, undef, undef, undef, undef, undef, undef, undef, undef, undef, undef, undef], defers := [] }) ?assign ?body ?done ?stop
  case assign =>
    intro l x W K hK
    unfold encE
    gi_wp2
    exact hK
  case body =>
    intro l pre x W hI hlt
    simp at hlt
  case stop =>
    rintro D c pre W hD _ h _
    exact h.elim
  case done =>
    rintro D ys W3 hD rfl hB hK
    have HB3 := Lib.hid hB
    have HK3 := Lib.hid hK
    have HO3 := Lib.hid (HO2.out.below hB)
    clear hB hK
    have h5 := HO3.out.2
    have c1 := h5 1 (by decide)
    have c2 := h5 2 (by decide)
    have c3 := h5 3 (by decide)
    have c4 := h5 4 (by decide)
    simp only [OpV.cell] at c1 c2 c3 c4
    clear h5
    gi_wp2_with fail
    refine ⟨trivial, ?_⟩
    refine (callsIn_wide.2 (add_nil _ o.f o.a)).mono ?_
    rintro e W4 ⟨rfl, hb⟩
    have HO4 := Lib.hid (HO3.out.below hb)
    have HB4 : Hid (Below w2.heap.size w2 W4) := HB3.out.trans (hb.mono HB3.out.size)
    have HK4 : Hid (W4.heap[D]? = some (.deferred (some []))) := (hb.block D (Array.getElem?_eq_some_iff.1 HK3.out).1).trans HK3.out
    clear hb c1 c2 c3 c4
    have h5 := HO4.out.2
    have c1 := h5 1 (by decide)
    have c2 := h5 2 (by decide)
    have c3 := h5 3 (by decide)
    have c4 := h5 4 (by decide)
    simp only [OpV.cell] at c1 c2 c3 c4
    clear h5
    gi_wp2_with fail
    refine ⟨trivial, ?_⟩
    refine (callsIn_wide.2 (find_nil _ o.f)).mono ?_
    rintro e Wx ⟨rfl, rfl⟩
    clear c1 c2 c3 c4
    have h5 := HO4.out.2
    have c1 := h5 1 (by decide)
    have c2 := h5 2 (by decide)
    have c3 := h5 3 (by decide)
    have c4 := h5 4 (by decide)
    simp only [OpV.cell] at c1 c2 c3 c4
    clear h5
    gi_wp2_with fail
    refine ⟨trivial, ?_⟩
    refine (callsIn_wide.2 (remove_nil _ o.f o.a)).mono ?_
    rintro e W5 ⟨rfl, hb⟩
    have HO5 := Lib.hid (HO4.out.below hb)
    have HB5 : Hid (Below w2.heap.size w2 W5) := HB4.out.trans (hb.mono HB4.out.size)
    have HK5 : Hid (W5.heap[D]? = some (.deferred (some []))) := (hb.block D (Array.getElem?_eq_some_iff.1 HK4.out).1).trans HK4.out
    clear hb c1 c2 c3 c4
    have h5 := HO5.out.2
    have c1 := h5 1 (by decide)
    have c2 := h5 2 (by decide)
    have c3 := h5 3 (by decide)
    have c4 := h5 4 (by decide)
    simp only [OpV.cell] at c1 c2 c3 c4
    clear h5
    gi_wp2_with fail
    refine ⟨trivial, ?_⟩
    refine (callsIn_wide.2 (drop_nil _ o.a.gen)).mono ?_
    rintro e Wx ⟨rfl, rfl⟩
    clear c1 c2 c3 c4
    gi_wp2_with fail
    refine ⟨trivial, ?_⟩
    refine (callsIn_wide.2 (len_nil _)).mono ?_
    rintro e Wx ⟨rfl, rfl⟩
    gi_wp2_with fail
    refine ⟨trivial, ?_⟩
    refine (callsIn_wide.2 (left_nil _)).mono ?_
    rintro e Wx ⟨rfl, rfl⟩
    have hbx := (HB5.out.block _ hlt2).trans HR2.out
    have hr1 : W5.cell? ⟨w.heap.size + 1, 0, none⟩ = some (.bool false) := by simp [World.cell?, hbx]
    have hr2 : W5.frozen? ⟨w.heap.size + 1, 0, none⟩ = false := by simp [World.frozen?, hbx]
    have HBX := Lib.hid hbx
    clear hbx
    gi_wp2_with fail
    have hne : D ≠ w.heap.size + 1 := by omega
    have hK' : (W5.setCell ⟨w.heap.size + 1, 0, none⟩ (.bool true)).heap[D]? = some (.deferred (some [])) := (Below.heap_setCell _ _ _ _ hne).trans HK5.out
    refine ⟨by simp, .inl ⟨_, _, rfl, run_takeDeferred hK', ?_⟩⟩
    have hc5 := cell_kept (World.cell?_setCell_same' W5 ⟨w.heap.size + 1, 0, none⟩ (.bool true) (by rw [hr1]; rfl)) (grownBy_putObj' _ D (.deferred none)) (fun r e => by cases e; exact ⟨_, hK', rfl⟩)
    refine ⟨.bool true, ?_, rfl, ((HB2.out.trans (HB5.out.mono HB2.out.size)).setCell (p := ⟨w.heap.size + 1, 0, none⟩) (by simp) _).trans (belowK_b (w := w) (Nat.le_refl _) _ D _ _ (by omega) hK' rfl rfl)⟩
    simp [results, Try.f7, go_sem, hc5]

theorem indexNoneW.walk (v0 : Value) (w : World) {H : Type} {enc : TypeId × Value → H} {base b0 : Nat} {spare : Nat → Bool} {held : Bool} {dd : DataW H} {ps : List MemPlace} {r : Reach} (w0 : Value.okWide Try.prog w r b0 34 v0) (h0 : DataW.Trod enc Try.prog w base spare held 34 v0 dd ps) :
    Calls Try.prog 7 #[v0] w fun e w' => e = .returned (.bool true) ∧ Below w.heap.size w w' := by
  obtain ⟨cs, rfl, hl, hc⟩ := open_flat Try.underlying34 3 [3, 23, 3, 30, 3] leaves34 (by kernel_rfl) w0 h0
  obtain ⟨o, _, ho⟩ := op_leaves (C := fun j => cs[j]?) hc
  have : Value.agg cs.toArray = opV o := by
    match cs, hl with
    | [c0, c1, c2, c3, c4], _ =>
      have e0 : some c0 = _ := ho 0 (by decide)
      have e1 : some c1 = _ := ho 1 (by decide)
      have e2 : some c2 = _ := ho 2 (by decide)
      have e3 : some c3 = _ := ho 3 (by decide)
      have e4 : some c4 = _ := ho 4 (by decide)
      injection e0 with e0; injection e1 with e1; injection e2 with e2; injection e3 with e3; injection e4 with e4
      subst e0 e1 e2 e3 e4
      rfl
  rw [this]
  exact indexNone o w
end Go.Proofs.Ytccgdfamjohmgaa
