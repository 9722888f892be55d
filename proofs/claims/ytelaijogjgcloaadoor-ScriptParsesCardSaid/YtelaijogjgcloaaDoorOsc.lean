/- Scripts that came in. No condition. -/
import Derived.Test.YtelaijogjgcloaaDoorChk
import Derived.Test.YtelaijogjgcloaaDoorOpen
set_option linter.unusedVariables false
set_option linter.unusedSimpArgs false
namespace Go.Proofs.YtelaijogjgcloaaDoor
open Go.ChangeShapes Go.WideShapes Go.Deep Go.RowKit Go.Ice Go.Scr

section
variable {H : Type} {enc : TypeId × Value → H} {w : World} {base : Nat} {spare : Nat → Bool} {held : Bool}
theorem leaf_bool {v : Value} (h : LeafAt enc Tryd.prog w base spare held 4 v) : ∃ b, v = .bool b := by
  obtain ⟨n, y, h⟩ := h
  obtain ⟨z, h1, h2⟩ := DataW.trod_bool Tryd.underlying4 h
  exact ⟨z, by simpa using h1⟩
theorem leaf_bytes {v : Value} (h : LeafAt enc Tryd.prog w base spare held 38 v) : ∃ l, BytesAt w v l := by
  rcases h.structs Tryd.underlying38 1 [5] (by kernel_rfl) (by kernel_rfl) (by decide) with rfl | ⟨x, len, cap, rfl, k1, k2, k3⟩
  · exact ⟨[], .inl ⟨rfl, .inl rfl⟩⟩
  · rcases Nat.eq_zero_or_pos len with rfl | hpos
    · exact ⟨[], .inl ⟨rfl, .inr ⟨_, _, rfl⟩⟩⟩
    · obtain ⟨b, off, rfl, hb, hcell⟩ := k3 hpos
      have key : ∀ i, ∃ c : UInt8, i < len → w.cell? ⟨b, off + i, none⟩ = some (u8v c) := fun i => by
        by_cases hi : i < len
        · obtain ⟨u, c0, m0⟩ := hcell i hi 0 5 rfl
          obtain ⟨n, rfl, hw⟩ := m0.int Tryd.underlying5
          have hbd := bounds_u8 hw
          refine ⟨UInt8.ofNat n.toNat, fun _ => ?_⟩
          have e : off + (i * [5].length + 0) = off + i := by simp
          rw [e] at c0
          rw [c0]
          unfold u8v
          congr 2
          rw [UInt8.toNat_ofNat']
          omega
        · exact ⟨0, fun h => absurd h hi⟩
      obtain ⟨f, hf⟩ := Classical.axiomOfChoice key
      have hlen : (((List.range len).map f).map u8v).length = len := by simp
      refine ⟨(List.range len).map f, ?_⟩
      show IsSl _ _ _
      have := isSl_mk (w := w) (cs := ((List.range len).map f).map u8v) (b := b) (off := off) (cap := cap) (by rw [hlen]; exact k1) k2 hb (fun j hj => by
        rw [hlen] at hj
        rw [hf j hj]; simp [hj])
      rw [hlen] at this
      exact this
theorem leaf_bools {v : Value} (h : LeafAt enc Tryd.prog w base spare held 39 v) : ∃ l, BoolsAt w v l := by
  rcases h.structs Tryd.underlying39 1 [4] (by kernel_rfl) (by kernel_rfl) (by decide) with rfl | ⟨x, len, cap, rfl, k1, k2, k3⟩
  · exact ⟨[], .inl ⟨rfl, .inl rfl⟩⟩
  · rcases Nat.eq_zero_or_pos len with rfl | hpos
    · exact ⟨[], .inl ⟨rfl, .inr ⟨_, _, rfl⟩⟩⟩
    · obtain ⟨b, off, rfl, hb, hcell⟩ := k3 hpos
      have key : ∀ i, ∃ c : Bool, i < len → w.cell? ⟨b, off + i, none⟩ = some (.bool c) := fun i => by
        by_cases hi : i < len
        · obtain ⟨u, c0, m0⟩ := hcell i hi 0 4 rfl
          obtain ⟨n, rfl⟩ := leaf_bool m0
          refine ⟨n, fun _ => ?_⟩
          have e : off + (i * [4].length + 0) = off + i := by simp
          rw [e] at c0
          exact c0
        · exact ⟨false, fun h => absurd h hi⟩
      obtain ⟨f, hf⟩ := Classical.axiomOfChoice key
      have hlen : (((List.range len).map f).map Value.bool).length = len := by simp
      refine ⟨(List.range len).map f, ?_⟩
      show IsSl _ _ _
      have := isSl_mk (w := w) (cs := ((List.range len).map f).map Value.bool) (b := b) (off := off) (cap := cap) (by rw [hlen]; exact k1) k2 hb (fun j hj => by
        rw [hlen] at hj
        rw [hf j hj]; simp [hj])
      rw [hlen] at this
      exact this
theorem leaf_evs {v : Value} (h : LeafAt enc Tryd.prog w base spare held 24 v) : ∃ l, EvsAt w v l := by
  rcases h.structs Tryd.underlying24 5 [3, 3, 3, 38, 39] (by kernel_rfl) (by kernel_rfl) (by decide) with rfl | ⟨x, len, cap, rfl, k1, k2, k3⟩
  · exact ⟨[], fun _ _ => undef, .inl ⟨rfl, .inl rfl⟩, fun i x h => by simp at h⟩
  · rcases Nat.eq_zero_or_pos len with rfl | hpos
    · exact ⟨[], fun _ _ => undef, .inl ⟨rfl, .inr ⟨_, _, rfl⟩⟩, fun i x h => by simp at h⟩
    · obtain ⟨b, off, rfl, hb, hcell⟩ := k3 hpos
      have key : ∀ i, ∃ c : Ev × Value × Value, i < len → (∀ j, j < 5 → w.cell? ⟨b, off + (i * 5 + j), none⟩ = some ([Value.int .i64 c.1.kind, .int .i64 c.1.conn, .int .i64 c.1.n, c.2.1, c.2.2].getD j undef)) ∧ BytesAt w c.2.1 c.1.bytes ∧ BoolsAt w c.2.2 c.1.keep := fun i => by
        by_cases hi : i < len
        · obtain ⟨v0, c0, m0⟩ := hcell i hi 0 3 rfl
          obtain ⟨v1, c1, m1⟩ := hcell i hi 1 3 rfl
          obtain ⟨v2, c2, m2⟩ := hcell i hi 2 3 rfl
          obtain ⟨v3, c3, m3⟩ := hcell i hi 3 38 rfl
          obtain ⟨v4, c4, m4⟩ := hcell i hi 4 39 rfl
          obtain ⟨n0, rfl, _⟩ := m0.int Tryd.underlying3
          obtain ⟨n1, rfl, _⟩ := m1.int Tryd.underlying3
          obtain ⟨n2, rfl, _⟩ := m2.int Tryd.underlying3
          obtain ⟨l3, h3⟩ := leaf_bytes m3
          obtain ⟨l4, h4⟩ := leaf_bools m4
          refine ⟨(⟨n0, n1, n2, l3, l4⟩, v3, v4), fun _ => ⟨fun j hj => ?_, h3, h4⟩⟩
          rcases (show j = 0 ∨ j = 1 ∨ j = 2 ∨ j = 3 ∨ j = 4 by omega) with rfl | rfl | rfl | rfl | rfl
          · exact c0
          · exact c1
          · exact c2
          · exact c3
          · exact c4
        · exact ⟨(⟨0, 0, 0, [], []⟩, undef, undef), fun h => absurd h hi⟩
      obtain ⟨f, hf⟩ := Classical.axiomOfChoice key
      have hlen : ((List.range len).map fun i => (f i).1).length = len := by simp
      refine ⟨(List.range len).map fun i => (f i).1, fun i j => [Value.int .i64 (f i).1.kind, .int .i64 (f i).1.conn, .int .i64 (f i).1.n, (f i).2.1, (f i).2.2].getD j undef, ?_, fun i x hi => ?_⟩
      · rw [hlen]
        exact .inr ⟨hpos, b, off, cap, rfl, k1, k2, hb, fun i hi j hj => (hf i hi).1 j hj⟩
      · have hil : i < len := by have := (List.getElem?_eq_some_iff.1 hi).1; rwa [hlen] at this
        rw [List.getElem?_map, List.getElem?_range hil] at hi
        injection hi with hi
        subst hi
        exact ⟨(f i).2.1, (f i).2.2, rfl, (hf i hil).2⟩
set_option maxRecDepth 100000 in
theorem open_scr {b0 : Nat} {v : Value} {dd : DataW H} {ps : List MemPlace} {r : Reach} (hv : Value.okWide Tryd.prog w r b0 26 v) (h : DataW.Trod enc Tryd.prog w base spare held 26 v dd ps) : ∃ sc, ScrAt w v sc := by
  obtain ⟨cs, rfl, hl, hc⟩ := open_flat (fs := _) (show Tryd.prog.underlying 26 = some (.struct _) from Tryd.underlying26) 5 [3, 3, 3, 3, 3, 24] (by kernel_rfl) (by kernel_rfl) hv h
  obtain ⟨u0, h0, l0⟩ := hc 0 3 rfl
  obtain ⟨u1, h1, l1⟩ := hc 1 3 rfl
  obtain ⟨u2, h2, l2⟩ := hc 2 3 rfl
  obtain ⟨u3, h3, l3⟩ := hc 3 3 rfl
  obtain ⟨u4, h4, l4⟩ := hc 4 3 rfl
  obtain ⟨u5, h5, l5⟩ := hc 5 24 rfl
  obtain ⟨n0, rfl, _⟩ := l0.int Tryd.underlying3
  obtain ⟨n1, rfl, _⟩ := l1.int Tryd.underlying3
  obtain ⟨n2, rfl, _⟩ := l2.int Tryd.underlying3
  obtain ⟨n3, rfl, _⟩ := l3.int Tryd.underlying3
  obtain ⟨n4, rfl, _⟩ := l4.int Tryd.underlying3
  obtain ⟨l, hle⟩ := leaf_evs l5
  have hcs : cs = [.int .i64 n0, .int .i64 n1, .int .i64 n2, .int .i64 n3, .int .i64 n4, u5] := by
    match cs, hl with
    | [a, b, c, d, e, f], _ => simp at h0 h1 h2 h3 h4 h5; rw [h0, h1, h2, h3, h4, h5]
  subst hcs
  exact ⟨⟨⟨n0, n1, n2, n3, n4⟩, l⟩, u5, rfl, hle⟩
end
end Go.Proofs.YtelaijogjgcloaaDoor
