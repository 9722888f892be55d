/- What is said, that came in: requests, answers. No condition. -/
import Derived.Test.YtngpffmgkponfaaOpen
import Derived.Test.YtngpffmgkponfaaRfd
set_option linter.unusedVariables false
set_option linter.unusedSimpArgs false
namespace Go.Idl
structure Sd where
  q : Rq
  a : An
  later : Int
  crash : Bool
  fit : Int
end Go.Idl
namespace Go.Proofs.Ytngpffmgkponfaa
open Go.ChangeShapes Go.WideShapes Go.Deep Go.RowKit Go.Ice Go.Idl

def sdC (s : Sd) (r : Raw) : List Value := [.int .i64 s.q.op, .bool s.q.quiet, .bool s.q.full, .int .i64 s.q.bad, .int .u32 s.q.opq, .slice r.ka s.q.key.length r.kc, .slice r.va s.q.val.length r.vc, .int .u32 s.q.fl, .int .u32 s.q.ex, .int .u64 s.q.cas, .int .u64 s.q.delta, .int .u64 s.q.ini,
  .int .i64 s.a.st, .slice r.aa s.a.val.length r.ac, .int .u32 s.a.fl, .int .u64 s.a.cas, .int .u64 s.a.num, .slice r.sa s.a.stats.length r.sc, .bool s.a.cl, .int .u32 s.later, .bool s.crash, .int .i64 s.fit]
def statX (l : List (List UInt8 × List UInt8)) (i j : Nat) : Value := if j = 0 then strV (l.getD i ([], [])).1 else strV (l.getD i ([], [])).2
structure SdAt (w : World) (s : Sd) (r : Raw) : Prop where
  q1 : 0 ≤ s.q.fl ∧ s.q.fl ≤ 4294967295
  q2 : 0 ≤ s.q.ex ∧ s.q.ex ≤ 4294967295
  q3 : 0 ≤ s.q.cas ∧ s.q.cas ≤ 18446744073709551615
  q4 : 0 ≤ s.q.delta ∧ s.q.delta ≤ 18446744073709551615
  q5 : 0 ≤ s.q.ini ∧ s.q.ini ≤ 18446744073709551615
  lt : 0 ≤ s.later ∧ s.later ≤ 4294967295
  key : BytesAt w (.slice r.ka s.q.key.length r.kc) s.q.key
  val : BytesAt w (.slice r.va s.q.val.length r.vc) s.q.val
  aval : BytesAt w (.slice r.aa s.a.val.length r.ac) s.a.val
  stats : RowAt w 2 (.slice r.sa s.a.stats.length r.sc) s.a.stats.length (statX s.a.stats)
def saidTs : List TypeId := [3, 4, 4, 3, 32, 23, 23, 32, 32, 29, 29, 29, 3, 23, 32, 29, 29, 36, 4, 32, 4, 3]

section
variable {H : Type} {enc : TypeId × Value → H} {w : World} {base : Nat} {spare : Nat → Bool} {held : Bool}
theorem leaf_bool {v : Value} (h : LeafAt enc Try.prog w base spare held 4 v) : ∃ b, v = .bool b := by
  obtain ⟨n, y, h⟩ := h
  obtain ⟨z, h1, h2⟩ := DataW.trod_bool Try.underlying4 h
  exact ⟨z, by simpa using h1⟩
theorem leaf_str {v : Value} (h : LeafAt enc Try.prog w base spare held 9 v) : ∃ l, v = strV l := by
  obtain ⟨n, y, h⟩ := h
  obtain ⟨s, h1, h2⟩ := DataW.trod_string Try.underlying9 h
  exact ⟨s.data.toList, by unfold strV; simpa using h1⟩
theorem leaf_bytes {v : Value} (h : LeafAt enc Try.prog w base spare held 23 v) : ∃ l, BytesAt w v l := by
  rcases h.structs Try.underlying23 1 [5] (by kernel_rfl) (by kernel_rfl) (by decide) with rfl | ⟨x, len, cap, rfl, k1, k2, k3⟩
  · exact ⟨[], .inl ⟨rfl, .inl rfl⟩⟩
  · rcases Nat.eq_zero_or_pos len with rfl | hpos
    · exact ⟨[], .inl ⟨rfl, .inr ⟨_, _, rfl⟩⟩⟩
    · obtain ⟨b, off, rfl, hb, hcell⟩ := k3 hpos
      have key : ∀ i, ∃ c : UInt8, i < len → w.cell? ⟨b, off + i, none⟩ = some (u8v c) := fun i => by
        by_cases hi : i < len
        · obtain ⟨u, c0, m0⟩ := hcell i hi 0 5 rfl
          obtain ⟨n, rfl, hw⟩ := m0.int Try.underlying5
          have hbd := bounds_u8 hw
          refine ⟨UInt8.ofNat n.toNat, fun _ => ?_⟩
          have e : off + (i * [5].length + 0) = off + i := by simp
          rw [e] at c0
          rw [c0]
          unfold u8v
          congr 2
          rw [UInt8.toNat_ofNat']
          omega
        · exact ⟨0, fun h => absurd h hi⟩
      obtain ⟨f, hf⟩ := Classical.axiomOfChoice key
      have hlen : (((List.range len).map f).map u8v).length = len := by simp
      refine ⟨(List.range len).map f, ?_⟩
      show IsSl _ _ _
      have := isSl_mk (w := w) (cs := ((List.range len).map f).map u8v) (b := b) (off := off) (cap := cap) (by rw [hlen]; exact k1) k2 hb (fun j hj => by
        rw [hlen] at hj
        rw [hf j hj]; simp [hj])
      rw [hlen] at this
      exact this
theorem leaf_bytes' {v : Value} (h : LeafAt enc Try.prog w base spare held 23 v) : ∃ l a c, v = .slice a l.length c ∧ BytesAt w (.slice a l.length c) l := by
  obtain ⟨l, hl⟩ := leaf_bytes h
  obtain ⟨a, c, rfl, _⟩ := BytesAt.form hl
  exact ⟨l, a, c, rfl, hl⟩
theorem leaf_stats {v : Value} (h : LeafAt enc Try.prog w base spare held 36 v) : ∃ l a c, v = .slice a l.length c ∧ RowAt w 2 (.slice a l.length c) l.length (statX l) := by
  rcases h.structs Try.underlying36 3 [9, 9] (by kernel_rfl) (by kernel_rfl) (by decide) with rfl | ⟨x, len, cap, rfl, k1, k2, k3⟩
  · exact ⟨[], none, 0, rfl, .inl ⟨rfl, .inl rfl⟩⟩
  · rcases Nat.eq_zero_or_pos len with rfl | hpos
    · exact ⟨[], _, _, rfl, .inl ⟨rfl, .inr ⟨_, _, rfl⟩⟩⟩
    · obtain ⟨b, off, rfl, hb, hcell⟩ := k3 hpos
      have key : ∀ i, ∃ c : List UInt8 × List UInt8, i < len → w.cell? ⟨b, off + (i * 2 + 0), none⟩ = some (strV c.1) ∧ w.cell? ⟨b, off + (i * 2 + 1), none⟩ = some (strV c.2) := fun i => by
        by_cases hi : i < len
        · obtain ⟨u, c0, m0⟩ := hcell i hi 0 9 rfl
          obtain ⟨u', c1, m1⟩ := hcell i hi 1 9 rfl
          obtain ⟨l, rfl⟩ := leaf_str m0
          obtain ⟨l', rfl⟩ := leaf_str m1
          exact ⟨(l, l'), fun _ => ⟨c0, c1⟩⟩
        · exact ⟨([], []), fun h => absurd h hi⟩
      obtain ⟨f, hf⟩ := Classical.axiomOfChoice key
      have hlen : ((List.range len).map f).length = len := by simp
      refine ⟨(List.range len).map f, some ⟨b, off, none⟩, cap, by rw [hlen], ?_⟩
      rw [hlen]
      refine .inr ⟨hpos, b, off, cap, rfl, k1, k2, hb, fun i hi j hj => ?_⟩
      have e : ((List.range len).map f).getD i ([], []) = f i := by simp [List.getD_eq_getElem?_getD, hi]
      unfold statX
      rw [e]
      rcases (show j = 0 ∨ j = 1 by omega) with rfl | rfl
      · exact (hf i hi).1
      · exact (hf i hi).2
set_option maxRecDepth 20000 in
theorem leaf_said {X : Nat → Value} (h : ∀ (j : Nat) (t' : TypeId), saidTs[j]? = some t' → LeafAt enc Try.prog w base spare held t' (X j)) : ∃ s r, SdAt w s r ∧ (sdC s r).length = 22 ∧ ∀ j, j < 22 → (sdC s r)[j]? = some (X j) := by
  obtain ⟨n0, e0, _⟩ := (h 0 3 rfl).int Try.underlying3
  obtain ⟨n1, e1⟩ := leaf_bool (h 1 4 rfl)
  obtain ⟨n2, e2⟩ := leaf_bool (h 2 4 rfl)
  obtain ⟨n3, e3, _⟩ := (h 3 3 rfl).int Try.underlying3
  obtain ⟨n4, e4, _⟩ := (h 4 32 rfl).int Try.underlying32
  obtain ⟨l5, a5, c5, e5, b5⟩ := leaf_bytes' (h 5 23 rfl)
  obtain ⟨l6, a6, c6, e6, b6⟩ := leaf_bytes' (h 6 23 rfl)
  obtain ⟨n7, e7, w7⟩ := (h 7 32 rfl).int Try.underlying32
  obtain ⟨n8, e8, w8⟩ := (h 8 32 rfl).int Try.underlying32
  obtain ⟨n9, e9, w9⟩ := (h 9 29 rfl).int Try.underlying29
  obtain ⟨n10, e10, w10⟩ := (h 10 29 rfl).int Try.underlying29
  obtain ⟨n11, e11, w11⟩ := (h 11 29 rfl).int Try.underlying29
  obtain ⟨n12, e12, _⟩ := (h 12 3 rfl).int Try.underlying3
  obtain ⟨l13, a13, c13, e13, b13⟩ := leaf_bytes' (h 13 23 rfl)
  obtain ⟨n14, e14, _⟩ := (h 14 32 rfl).int Try.underlying32
  obtain ⟨n15, e15, _⟩ := (h 15 29 rfl).int Try.underlying29
  obtain ⟨n16, e16, _⟩ := (h 16 29 rfl).int Try.underlying29
  obtain ⟨l17, a17, c17, e17, b17⟩ := leaf_stats (h 17 36 rfl)
  obtain ⟨n18, e18⟩ := leaf_bool (h 18 4 rfl)
  obtain ⟨n19, e19, w19⟩ := (h 19 32 rfl).int Try.underlying32
  obtain ⟨n20, e20⟩ := leaf_bool (h 20 4 rfl)
  obtain ⟨n21, e21, _⟩ := (h 21 3 rfl).int Try.underlying3
  refine ⟨⟨⟨n0, n1, n2, n3, n4, l5, l6, n7, n8, n9, n10, n11⟩, ⟨n12, l13, n14, n15, n16, l17, n18⟩, n19, n20, n21⟩, ⟨a5, c5, a6, c6, a13, c13, a17, c17, none, 0, 0⟩, ⟨bounds_u32 w7, bounds_u32 w8, bounds_u64 w9, bounds_u64 w10, bounds_u64 w11, bounds_u32 w19, b5, b6, b13, b17⟩, rfl, fun j hj => ?_⟩
  rcases (show j = 0 ∨ j = 1 ∨ j = 2 ∨ j = 3 ∨ j = 4 ∨ j = 5 ∨ j = 6 ∨ j = 7 ∨ j = 8 ∨ j = 9 ∨ j = 10 ∨ j = 11 ∨ j = 12 ∨ j = 13 ∨ j = 14 ∨ j = 15 ∨ j = 16 ∨ j = 17 ∨ j = 18 ∨ j = 19 ∨ j = 20 ∨ j = 21 by omega) with rfl | rfl | rfl | rfl | rfl | rfl | rfl | rfl | rfl | rfl | rfl | rfl | rfl | rfl | rfl | rfl | rfl | rfl | rfl | rfl | rfl | rfl
  all_goals simp only [*]; rfl
set_option maxRecDepth 20000 in
theorem open_said {b0 : Nat} {v : Value} {dd : DataW H} {ps : List MemPlace} {r : Reach} (hv : Value.okWide Try.prog w r b0 40 v) (h : DataW.Trod enc Try.prog w base spare held 40 v dd ps) : ∃ s r, v = .agg (sdC s r).toArray ∧ SdAt w s r := by
  obtain ⟨cs, rfl, hl, hc⟩ := open_flat (fs := _) (show Try.prog.underlying 40 = some (.struct _) from Try.underlying40) 5 saidTs (by kernel_rfl) (by kernel_rfl) hv h
  obtain ⟨s, r', h1, h2, h3⟩ := leaf_said (w := w) (X := fun j => cs.getD j undef) (fun j t' ht => by
    obtain ⟨u, hu, hlf⟩ := hc j t' ht
    have : cs.getD j undef = u := by rw [List.getD_eq_getElem?_getD, hu]; rfl
    show LeafAt _ _ _ _ _ _ _ _
    rw [this]; exact hlf)
  refine ⟨s, r', ?_, h1⟩
  have hl' : cs.length = 22 := hl
  have : cs = sdC s r' := List.ext_getElem (by rw [hl', h2]) fun j h4 h5 => by
    have := h3 j (by omega)
    rw [List.getElem?_eq_getElem h5] at this
    injection this with this
    rw [this, List.getD_eq_getElem?_getD, List.getElem?_eq_getElem h4]; rfl
  rw [this]
set_option maxRecDepth 20000 in
theorem open_saids {F : Func} {ds : List (DataW H)} {b0 : Nat} {v : Value} {dd : DataW H} {ps : List MemPlace} {r : Reach} (hu : Try.prog.underlying 22 = some (.slice 40)) (hv : Value.okWide Try.prog w r b0 22 v) (h : DataW.Trod enc Try.prog w base spare held 22 v dd ps) :
    ∃ (n : Nat) (S : Nat → Sd) (R : Nat → Raw), RowAt w 22 v n (fun i j => (sdC (S i) (R i)).getD j undef) ∧ ∀ i, i < n → SdAt w (S i) (R i) := by
  have z : Sd := ⟨⟨0, false, false, 0, 0, [], [], 0, 0, 0, 0, 0⟩, ⟨0, [], 0, 0, 0, [], false⟩, 0, false, 0⟩
  have zr : Raw := ⟨none, 0, none, 0, none, 0, none, 0, none, 0, 0⟩
  rcases open_flat_slice (F := F) (ds := ds) hu 5 saidTs (by kernel_rfl) (by kernel_rfl) (by decide) hv h with ⟨rfl, _⟩ | ⟨x, len, cap, _, _, rfl, _, _, k1, k2, k3⟩
  · exact ⟨0, fun _ => z, fun _ => zr, .inl ⟨rfl, .inl rfl⟩, fun i hi => by omega⟩
  · rcases Nat.eq_zero_or_pos len with rfl | hpos
    · exact ⟨0, fun _ => z, fun _ => zr, .inl ⟨rfl, .inr ⟨_, _, rfl⟩⟩, fun i hi => by omega⟩
    · obtain ⟨b, off, rfl, hb, hcell⟩ := k3 hpos
      have key : ∀ i, ∃ c : Sd × Raw, i < len → SdAt w c.1 c.2 ∧ ∀ j, j < 22 → w.cell? ⟨b, off + (i * 22 + j), none⟩ = some ((sdC c.1 c.2).getD j undef) := fun i => by
        by_cases hi : i < len
        · obtain ⟨s, r', h1, h2, h3⟩ := leaf_said (w := w) (enc := enc) (base := base) (spare := spare) (held := held) (X := fun j => (w.cell? ⟨b, off + (i * 22 + j), none⟩).getD undef) (fun j t' ht => by
            obtain ⟨u, hu, hlf⟩ := hcell i hi j t' ht
            show LeafAt _ _ _ _ _ _ _ _
            have hu' : w.cell? ⟨b, off + (i * 22 + j), none⟩ = some u := hu
            rw [hu']; exact hlf)
          refine ⟨(s, r'), fun _ => ⟨h1, fun j hj => ?_⟩⟩
          have ht : ∃ t', saidTs[j]? = some t' := ⟨_, List.getElem?_eq_getElem (show j < saidTs.length from hj)⟩
          obtain ⟨t', ht⟩ := ht
          obtain ⟨u, hu, _⟩ := hcell i hi j t' ht
          have hu' : w.cell? ⟨b, off + (i * 22 + j), none⟩ = some u := hu
          have := h3 j hj
          rw [hu'] at this ⊢
          rw [List.getD_eq_getElem?_getD, this]
          rfl
        · exact ⟨(z, zr), fun h => absurd h hi⟩
      obtain ⟨f, hf⟩ := Classical.axiomOfChoice key
      exact ⟨len, fun i => (f i).1, fun i => (f i).2, .inr ⟨hpos, b, off, cap, rfl, k1, k2, hb, fun i hi j hj => (hf i hi).2 j hj⟩, fun i hi => (hf i hi).1⟩
end
end Go.Proofs.Ytngpffmgkponfaa
