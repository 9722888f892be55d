/- Arguments that came in, read leaf by leaf: structs and slices of structs, nested however deep, whose leaves take one cell each. No condition. Records that came in, read off the argument. No condition. Plain: what is told, by place: for the walk of LogReads. Conditions: nothing fails. For the laws' walks: records that came in and that are told. No condition. -/
import Derived.Test.YtjmocjcjiiopnaaLogReads01
import Derived.Deep.Slices
import Derived.SizedLaws
import Derived.Test.YtjmocjcjiiopnaaLogReads04
import Derived.Test.YtjmocjcjiiopnaaLogReads09
import Derived.Test.YtjmocjcjiiopnaaLogReads32

section
set_option linter.unusedVariables false
namespace Go.Ice
open Go.ChangeShapes Go.WideShapes Go.Deep Go.RowKit

/-- The leaves of a row of fields, one behind the other from a place on. -/
def leavesFs (P : Program) (L : TypeId → Option (List TypeId)) : Nat → List Field → Option (List TypeId)
  | _, [] => some []
  | off, f :: r => match L f.type, leavesFs P L (off + P.cellsOf f.type) r with
    | some a, some b => if f.offset = off ∧ a.length = P.cellsOf f.type then some (a ++ b) else none
    | _, _ => none
/-- The types of a type's leaves, in their order. -/
def leavesOf (P : Program) : Nat → TypeId → Option (List TypeId)
  | 0, _ => none
  | d + 1, t => match P.underlying t with
    | some (.struct fs) => leavesFs P (leavesOf P d) 0 fs.toList
    | some _ => if P.cellsOf t = 1 then some [t] else none
    | none => none

section
variable {H : Type} {enc : TypeId × Value → H} {P : Program} {w : World} {base : Nat} {spare : Nat → Bool} {held : Bool}

/-- A leaf's reading. -/
def LeafAt (enc : TypeId × Value → H) (P : Program) (w : World) (base : Nat) (spare : Nat → Bool) (held : Bool) (t : TypeId) (v : Value) : Prop :=
  ∃ n y, DataW.trod enc P w base spare held n t [v] = some y

theorem leavesFs_trod {L : TypeId → Option (List TypeId)} {n : Nat} {cs : List Value}
    (hL : ∀ t ts cs x, L t = some ts → cs.length = ts.length → DataW.trod enc P w base spare held n t cs = some x → ∀ (j : Nat) (t' : TypeId), ts[j]? = some t' → ∃ v, cs[j]? = some v ∧ LeafAt enc P w base spare held t' v) :
    ∀ (fs : List Field) (off : Nat) (ts : List TypeId), leavesFs P L off fs = some ts → off + ts.length ≤ cs.length → (∀ f ∈ fs, ∃ y, DataW.trod enc P w base spare held n f.type ((cs.drop f.offset).take (P.cellsOf f.type)) = some y) →
      ∀ (j : Nat) (t' : TypeId), ts[j]? = some t' → ∃ v, cs[off + j]? = some v ∧ LeafAt enc P w base spare held t' v
  | [], off, ts, h, _, _, j, t', hj => by simp [leavesFs] at h; subst h; simp at hj
  | f :: r, off, ts, h, hl, hf, j, t', hj => by
    unfold leavesFs at h
    split at h
    · rename_i a b ha hb
      split at h
      · rename_i hab
        obtain ⟨hof, hal⟩ := hab
        obtain rfl : a ++ b = ts := by simpa using h
        rw [List.length_append] at hl
        obtain ⟨y, hy⟩ := hf f (by simp)
        by_cases hja : j < a.length
        · rw [List.getElem?_append_left hja] at hj
          obtain ⟨v, hv, hl2⟩ := hL _ _ _ _ ha (by rw [List.length_take, List.length_drop]; omega) hy j t' hj
          rw [List.getElem?_take_of_lt (by omega), List.getElem?_drop, hof] at hv
          exact ⟨v, hv, hl2⟩
        · rw [List.getElem?_append_right (by omega)] at hj
          obtain ⟨v, hv, hl2⟩ := leavesFs_trod hL r _ _ hb (by omega) (fun g hg => hf g (by simp [hg])) _ t' hj
          rw [show off + P.cellsOf f.type + (j - a.length) = off + j from by omega] at hv
          exact ⟨v, hv, hl2⟩
      · simp at h
    · simp at h

theorem leaves_trod : ∀ (d : Nat) (n : Nat) (t : TypeId) (ts : List TypeId) (cs : List Value) (x : DataW H × List MemPlace), leavesOf P d t = some ts → cs.length = ts.length → DataW.trod enc P w base spare held n t cs = some x →
    ∀ (j : Nat) (t' : TypeId), ts[j]? = some t' → ∃ v, cs[j]? = some v ∧ LeafAt enc P w base spare held t' v
  | 0, n, t, ts, cs, x, h, _, _, _, _, _ => by simp [leavesOf] at h
  | d + 1, n, t, ts, cs, x, h, hl, ht, j, t', hj => by
    unfold leavesOf at h
    split at h
    · rename_i fs hu
      obtain ⟨xs, m, rfl, hx, hlen, hxl, hf⟩ := DataW.trod_struct hu ht
      have := leavesFs_trod (cs := cs) (n := m) (enc := enc) (P := P) (w := w) (base := base) (spare := spare) (held := held) (fun t ts cs x h1 h2 h3 => leaves_trod d m t ts cs x h1 h2 h3) fs.toList 0 ts h (by omega) (fun f hfm => by
        obtain ⟨i, hi, rfl⟩ := List.getElem_of_mem hfm
        have h4 := hf i fs.toList[i] (by simp)
        rw [h4, List.getElem?_eq_getElem (by rw [hxl]; simpa using hi)]
        exact ⟨_, rfl⟩) j t' hj
      simpa using this
    · split at h
      · obtain rfl : [t] = ts := by simpa using h
        match cs, hl with
        | [c], _ =>
          match j, hj with
          | 0, hj =>
            obtain rfl : t = t' := by simpa using hj
            exact ⟨c, rfl, n, x, ht⟩
      · simp at h
    · simp at h

theorem LeafAt.int {t : TypeId} {k : IntKind} {v : Value} (h : LeafAt enc P w base spare held t v) (ht : P.underlying t = some (.int k)) : ∃ n, v = .int k n ∧ (Lit.int k n).wf = true := by
  obtain ⟨n, y, h⟩ := h
  obtain ⟨z, h1, h2, h3⟩ := DataW.trod_int ht h
  exact ⟨z, by simpa using h1, h3⟩

/-- A struct by value: its leaves. -/
theorem open_flat {t : TypeId} {fs : Array Field} {v : Value} {dd : DataW H} {ps : List MemPlace} {b0 : Nat} {r : Reach} (hs : P.underlying t = some (.struct fs)) (d : Nat) (ts : List TypeId) (hts : leavesOf P d t = some ts) (hc : P.cellsOf t = ts.length)
    (hv : Value.okWide P w r b0 t v) (h : DataW.Trod enc P w base spare held t v dd ps) : ∃ cs : List Value, v = .agg cs.toArray ∧ cs.length = ts.length ∧ ∀ (j : Nat) (t' : TypeId), ts[j]? = some t' → ∃ u, cs[j]? = some u ∧ LeafAt enc P w base spare held t' u := by
  obtain ⟨cs, rfl, hsz⟩ := okWide_struct hs hv
  obtain ⟨n, hn⟩ := h
  refine ⟨cs.toList, rfl, by rw [← hc, ← hsz]; simp, ?_⟩
  have : (Value.agg cs).cells.toList = cs.toList := rfl
  rw [this] at hn
  exact leaves_trod d n t ts _ _ hts (by rw [← hc, ← hsz]; simp) hn

/-- A slice of such structs: its elements' leaves; the bytes that it takes. -/
theorem open_flat_slice {F : Func} {ds : List (DataW H)} {t e : TypeId} {v : Value} {dd : DataW H} {ps : List MemPlace} {b0 : Nat} {r : Reach} (hs : P.underlying t = some (.slice e)) (d : Nat) (ts : List TypeId) (hts : leavesOf P d e = some ts) (hc : P.cellsOf e = ts.length) (h0 : 0 < ts.length)
    (hv : Value.okWide P w r b0 t v) (h : DataW.Trod enc P w base spare held t v dd ps) :
    (v = .slice none 0 0 ∧ dd = .nil) ∨ ∃ (x : Addr) (len cap : Nat) (elems sp : List (DataW H)), v = .slice (some x) len cap ∧ dd = .slice elems sp ∧ len ≤ elems.length + sp.length ∧ len ≤ cap ∧ cap ≤ maxLen ∧ (0 < len → ∃ b off, x = ⟨b, off, none⟩ ∧ b < w.heap.size ∧
      ∀ i, i < len → ∀ (j : Nat) (t' : TypeId), ts[j]? = some t' → ∃ u, w.cell? ⟨b, off + (i * ts.length + j), none⟩ = some u ∧ LeafAt enc P w base spare held t' u) := by
  obtain ⟨a, len, cap, rfl⟩ := okWide_slice hs hv
  obtain ⟨n, hn⟩ := h
  rcases open_slice hs hn with ⟨hcs, hx⟩ | ⟨x, l, c, m, n', D, Pl, hcs, hb, hl, hm, hmm, hx, hel⟩
  · simp [Value.cells] at hcs
    obtain ⟨rfl, rfl, rfl⟩ := hcs
    left
    exact ⟨rfl, (Prod.mk.inj hx).1⟩
  · simp [Value.cells] at hcs
    obtain ⟨rfl, rfl, rfl⟩ := hcs
    right
    have hlm : len ≤ m := by rw [hmm]; split <;> omega
    refine ⟨x, len, cap, _, _, rfl, (Prod.mk.inj hx).1, by simp, hl, hm, fun hlen => ?_⟩
    have key : ∀ i, i < len → ∀ (j : Nat) (t' : TypeId), ts[j]? = some t' → ∃ u, w.cell? (x.add (i * ts.length + j)) = some u ∧ LeafAt enc P w base spare held t' u := by
      intro i hi j t' hj
      obtain ⟨cs', h1, h2⟩ := hel i (by omega)
      rw [hc] at h1
      obtain ⟨_, h3, h4⟩ := World.cells?_some h1
      have hjl : j < ts.length := (List.getElem?_eq_some_iff.1 hj).1
      obtain ⟨u, hu, hlf⟩ := leaves_trod d n' e ts cs' _ hts (by omega) h2 j t' hj
      have := h4 j hjl
      rw [add_add, hu] at this
      exact ⟨u, this, hlf⟩
    obtain ⟨u, hu, _⟩ := key 0 hlen 0 ts[0] (List.getElem?_eq_getElem h0)
    obtain ⟨b, off, spot⟩ := x
    have hspot : spot = none := by simpa [Addr.add] using World.cell?_spot hu
    subst hspot
    refine ⟨b, off, rfl, ?_, fun i hi j t' hj => ?_⟩
    · have := World.block_lt_of_cell? w _ hu
      simpa [Addr.add] using this
    · have := key i hi j t' hj
      rw [Go.WideShapes.add_plain] at this
      exact this

/-- A leaf that is a slice of such structs. -/
theorem LeafAt.structs {t e : TypeId} {v : Value} (hlf : LeafAt enc P w base spare held t v) (hs : P.underlying t = some (.slice e)) (d : Nat) (ts : List TypeId) (hts : leavesOf P d e = some ts) (hc : P.cellsOf e = ts.length) (h0 : 0 < ts.length) :
    v = .slice none 0 0 ∨ ∃ (x : Addr) (len cap : Nat), v = .slice (some x) len cap ∧ len ≤ cap ∧ cap ≤ maxLen ∧ (0 < len → ∃ b off, x = ⟨b, off, none⟩ ∧ b < w.heap.size ∧
      ∀ i, i < len → ∀ (j : Nat) (t' : TypeId), ts[j]? = some t' → ∃ u, w.cell? ⟨b, off + (i * ts.length + j), none⟩ = some u ∧ LeafAt enc P w base spare held t' u) := by
  obtain ⟨n, y, hn⟩ := hlf
  rcases open_slice hs hn with ⟨hcs, hx⟩ | ⟨x, l, c, m, n', D, Pl, hcs, hb, hl, hm, hmm, hx, hel⟩
  · left
    simpa using hcs
  · right
    have hlm : l ≤ m := by rw [hmm]; split <;> omega
    refine ⟨x, l, c, by simpa using hcs, hl, hm, fun hlen => ?_⟩
    have key : ∀ i, i < l → ∀ (j : Nat) (t' : TypeId), ts[j]? = some t' → ∃ u, w.cell? (x.add (i * ts.length + j)) = some u ∧ LeafAt enc P w base spare held t' u := by
      intro i hi j t' hj
      obtain ⟨cs', h1, h2⟩ := hel i (by omega)
      rw [hc] at h1
      obtain ⟨_, h3, h4⟩ := World.cells?_some h1
      have hjl : j < ts.length := (List.getElem?_eq_some_iff.1 hj).1
      obtain ⟨u, hu, hlf⟩ := leaves_trod d n' e ts cs' _ hts (by omega) h2 j t' hj
      have := h4 j hjl
      rw [add_add, hu] at this
      exact ⟨u, this, hlf⟩
    obtain ⟨u, hu, _⟩ := key 0 hlen 0 ts[0] (List.getElem?_eq_getElem h0)
    obtain ⟨b, off, spot⟩ := x
    have hspot : spot = none := by simpa [Addr.add] using World.cell?_spot hu
    subst hspot
    refine ⟨b, off, rfl, ?_, fun i hi j t' hj => ?_⟩
    · have := World.block_lt_of_cell? w _ hu
      simpa [Addr.add] using this
    · have := key i hi j t' hj
      rw [Go.WideShapes.add_plain] at this
      exact this
end
end Go.Ice
end

section
set_option linter.unusedVariables false
set_option linter.unusedSimpArgs false
namespace Go.Proofs.Ytjmocjcjiiopnaa
open Go.ChangeShapes Go.WideShapes Go.Deep Go.RowKit Go.Ice Go.Oct
/-- A record that came in: where its bytes lie. -/
structure RIn where
  rc : Rc
  ka : List UInt8
  va : List UInt8
  x : Option Addr
  c : Nat
  y : Option Addr
  d : Nat
instance : Inhabited RIn := ⟨⟨⟨0, 0, 0, 0⟩, [], [], none, 0, none, 0⟩⟩
def rinC (z : RIn) : List Value := [.int .i64 z.rc.k, .int .u32 z.rc.f, .int .u32 z.rc.e, .int .u64 z.rc.s, .slice z.x z.ka.length z.c, .slice z.y z.va.length z.d]
def rinS (l : List RIn) : List Asn := l.flatMap fun z => [bytA (.slice z.x z.ka.length z.c) z.ka, bytA (.slice z.y z.va.length z.d) z.va]
theorem rinS_mem {l : List RIn} {z : RIn} (h : z ∈ l) : bytA (.slice z.x z.ka.length z.c) z.ka ∈ rinS l ∧ bytA (.slice z.y z.va.length z.d) z.va ∈ rinS l := by
  unfold rinS
  exact ⟨List.mem_flatMap.2 ⟨z, h, by simp⟩, List.mem_flatMap.2 ⟨z, h, by simp⟩⟩
section
variable {H : Type} {enc : TypeId × Value → H} {w : World} {base : Nat} {spare : Nat → Bool} {held : Bool}
theorem leaf_bytes {v : Value} (h : LeafAt enc Try.prog w base spare held 31 v) : ∃ l a c, v = .slice a l.length c ∧ BytesAt w (.slice a l.length c) l := by
  have : ∃ l, BytesAt w v l := by
    rcases h.structs Try.underlying31 1 [5] (by kernel_rfl) (by kernel_rfl) (by decide) with rfl | ⟨x, len, cap, rfl, k1, k2, k3⟩
    · exact ⟨[], .inl ⟨rfl, .inl rfl⟩⟩
    · rcases Nat.eq_zero_or_pos len with rfl | hpos
      · exact ⟨[], .inl ⟨rfl, .inr ⟨_, _, rfl⟩⟩⟩
      · obtain ⟨b, off, rfl, hb, hcell⟩ := k3 hpos
        have key : ∀ i, ∃ c : UInt8, i < len → w.cell? ⟨b, off + i, none⟩ = some (u8v c) := fun i => by
          by_cases hi : i < len
          · obtain ⟨u, c0, m0⟩ := hcell i hi 0 5 rfl
            obtain ⟨n, rfl, hw⟩ := m0.int Try.underlying5
            have hbd := bounds_u8 hw
            refine ⟨UInt8.ofNat n.toNat, fun _ => ?_⟩
            have e : off + (i * [5].length + 0) = off + i := by simp
            rw [e] at c0
            rw [c0]
            unfold u8v
            congr 2
            rw [UInt8.toNat_ofNat']
            omega
          · exact ⟨0, fun h => absurd h hi⟩
        obtain ⟨f, hf⟩ := Classical.axiomOfChoice key
        have hlen : (((List.range len).map f).map u8v).length = len := by simp
        refine ⟨(List.range len).map f, ?_⟩
        show IsSl _ _ _
        have := isSl_mk (w := w) (cs := ((List.range len).map f).map u8v) (b := b) (off := off) (cap := cap) (by rw [hlen]; exact k1) k2 hb (fun j hj => by
          rw [hlen] at hj
          rw [hf j hj]; simp [hj])
        rw [hlen] at this
        exact this
  obtain ⟨l, hl⟩ := this
  obtain ⟨a, c, rfl, _⟩ := BytesAt.form hl
  exact ⟨l, a, c, rfl, hl⟩
theorem bytes_share {v : Value} {l : List UInt8} (h : BytesAt w v l) : ∃ F, (bytA v l).p F w ∧ ∀ b, F b → (fun _ => True) b ∧ b < w.heap.size :=
  ⟨fun b => l ≠ [] ∧ v.ownBlock = some b, ⟨fun _ => Iff.rfl, h⟩, fun b hb => ⟨trivial, (bytA v l).inn _ w ⟨fun _ => Iff.rfl, h⟩ b hb⟩⟩
def recTs : List TypeId := [3, 29, 29, 30, 31, 31]
set_option maxRecDepth 100000 in
/-- The records that came in. -/
theorem open_recs {v : Value} {dd : DataW H} {ps : List MemPlace} {b0 : Nat} {r : Reach} (hv : Value.okWide Try.prog w r b0 22 v) (h : DataW.Trod enc Try.prog w base spare held 22 v dd ps) : ∃ (l : List RIn) (a : Option Addr) (c : Nat), v = .slice a l.length c ∧ l.length ≤ maxLen ∧ (∀ z ∈ l, z.rc.fits) ∧ Shares (slA 6 (.slice a l.length c) l.length (l.flatMap rinC) :: rinS l) (fun _ => True) w := by
  rcases open_flat_slice (F := Try.f0) (ds := []) Try.underlying22 5 recTs (by kernel_rfl) (by kernel_rfl) (by decide) hv h with ⟨rfl, _⟩ | ⟨x, len, cap, elems, sp, rfl, _, _, k1, k2, k3⟩
  · refine ⟨[], none, 0, rfl, Nat.zero_le _, by simp, fun A hA => ?_⟩
    cases List.mem_singleton.1 hA
    exact ⟨fun _ => False, ⟨fun x => by simp, by decide, rfl, .inl ⟨rfl, .inl rfl⟩⟩, fun b hb => hb.elim⟩
  · rcases Nat.eq_zero_or_pos len with rfl | hpos
    · refine ⟨[], some x, cap, rfl, Nat.zero_le _, by simp, fun A hA => ?_⟩
      cases List.mem_singleton.1 hA
      exact ⟨fun _ => False, ⟨fun x => by simp, by decide, rfl, .inl ⟨rfl, .inr ⟨_, _, rfl⟩⟩⟩, fun b hb => hb.elim⟩
    · obtain ⟨b, off, rfl, hb, hcell⟩ := k3 hpos
      have key : ∀ i, ∃ z : RIn, i < len → z.rc.fits ∧ (∀ j, j < 6 → w.cell? ⟨b, off + (i * 6 + j), none⟩ = (rinC z)[j]?) ∧ BytesAt w (.slice z.x z.ka.length z.c) z.ka ∧ BytesAt w (.slice z.y z.va.length z.d) z.va := fun i => by
        by_cases hi : i < len
        · have hc := hcell i hi
          obtain ⟨u0, c0, m0⟩ := hc 0 3 rfl
          obtain ⟨u1, c1, m1⟩ := hc 1 29 rfl
          obtain ⟨u2, c2, m2⟩ := hc 2 29 rfl
          obtain ⟨u3, c3, m3⟩ := hc 3 30 rfl
          obtain ⟨u4, c4, m4⟩ := hc 4 31 rfl
          obtain ⟨u5, c5, m5⟩ := hc 5 31 rfl
          obtain ⟨n0, rfl, w0⟩ := m0.int Try.underlying3
          obtain ⟨n1, rfl, w1⟩ := m1.int Try.underlying29
          obtain ⟨n2, rfl, w2⟩ := m2.int Try.underlying29
          obtain ⟨n3, rfl, w3⟩ := m3.int Try.underlying30
          obtain ⟨ka, a4, e4, rfl, h4⟩ := leaf_bytes m4
          obtain ⟨va, a5, e5, rfl, h5⟩ := leaf_bytes m5
          have b1 := bounds_u32 w1
          have b2 := bounds_u32 w2
          have b3 := bounds_u64 w3
          refine ⟨⟨⟨n0, n1.toNat, n2.toNat, n3.toNat⟩, ka, va, a4, e4, a5, e5⟩, fun _ => ⟨?_, ?_, h4, h5⟩⟩
          · unfold Rc.fits
            dsimp only
            omega
          · have q1 : ((n1.toNat : Nat) : Int) = n1 := by omega
            have q2 : ((n2.toNat : Nat) : Int) = n2 := by omega
            have q3 : ((n3.toNat : Nat) : Int) = n3 := by omega
            have hl6 : recTs.length = 6 := rfl
            rw [hl6] at c0 c1 c2 c3 c4 c5
            intro j hj
            unfold rinC
            dsimp only
            rw [q1, q2, q3]
            obtain rfl | rfl | rfl | rfl | rfl | rfl : j = 0 ∨ j = 1 ∨ j = 2 ∨ j = 3 ∨ j = 4 ∨ j = 5 := by omega
            · exact c0
            · exact c1
            · exact c2
            · exact c3
            · exact c4
            · exact c5
        · exact ⟨default, fun h => absurd h hi⟩
      obtain ⟨f, hf⟩ := Classical.axiomOfChoice key
      have hlen : ((List.range len).map f).length = len := by simp
      have hcl : ∀ z ∈ (List.range len).map f, (rinC z).length = 6 := fun z _ => rfl
      have hfl : (((List.range len).map f).flatMap rinC).length = len * 6 := by rw [flatMap_len hcl, hlen]
      refine ⟨(List.range len).map f, some ⟨b, off, none⟩, cap, by rw [hlen], by rw [hlen]; omega, fun z hz => ?_, fun A hA => ?_⟩
      · obtain ⟨i, hi, rfl⟩ := List.mem_map.1 hz
        exact (hf i (List.mem_range.1 hi)).1
      · rcases List.mem_cons.1 hA with rfl | hA
        · have hsl : IsSlK w 6 ((List.range len).map f).length (.slice (some ⟨b, off, none⟩) ((List.range len).map f).length cap) (((List.range len).map f).flatMap rinC) := by
            rw [hlen]
            refine ⟨hfl, .inr ⟨hpos, b, off, cap, rfl, k1, k2, hb, fun j hj => ?_⟩⟩
            rw [hfl] at hj
            have hd : j / 6 < len := by omega
            have hm : j % 6 < 6 := Nat.mod_lt _ (by decide)
            have := (hf (j / 6) hd).2.1 (j % 6) hm
            obtain ⟨q, m, rfl, hm6⟩ : ∃ q m, j = q * 6 + m ∧ m < 6 := ⟨j / 6, j % 6, by omega, hm⟩
            rw [show (q * 6 + m) / 6 = q by omega, show (q * 6 + m) % 6 = m by omega] at this
            rw [this, flatMap_get hcl (x := f q) (by rw [List.getElem?_map, List.getElem?_range (by omega)]; rfl) hm6]
          refine ⟨fun x => x = b, ⟨fun x => ?_, by decide, hsl⟩, fun x hx => ⟨trivial, by rw [hx]; exact hb⟩⟩
          have hne : ((List.range len).map f).flatMap rinC ≠ [] := fun e => by rw [e] at hfl; simp at hfl; omega
          exact ⟨fun e => ⟨hne, by rw [e]; rfl⟩, fun e => by cases e.2; rfl⟩
        · unfold rinS at hA
          obtain ⟨z, hz, hA⟩ := List.mem_flatMap.1 hA
          obtain ⟨i, hi, rfl⟩ := List.mem_map.1 hz
          have := hf i (List.mem_range.1 hi)
          rcases List.mem_cons.1 hA with rfl | hA
          · exact bytes_share this.2.2.1
          · cases List.mem_singleton.1 hA
            exact bytes_share this.2.2.2
end
end Go.Proofs.Ytjmocjcjiiopnaa
end

section
set_option linter.unusedVariables false
set_option linter.unusedSimpArgs false
namespace Go.Lg
open Go.Ring Go.Dsk Go.Oct Go.Proofs.Ytjmocjcjiiopnaa
theorem placed_mid : ∀ (l : List RecT) (u j : Nat) (z : PlT), (placed u l)[j]? = some z → ∃ l1 r l2, l = l1 ++ r :: l2 ∧ l1.length = j ∧ z = (u + usedR l1, r.rc, r.ka, r.va)
  | [], u, j, z, h => by simp [placed] at h
  | r :: l, u, 0, z, h => by
    rw [placed] at h
    simp at h
    exact ⟨[], r, l, rfl, rfl, by rw [← h]; simp [usedR]⟩
  | r :: l, u, j + 1, z, h => by
    rw [placed] at h
    obtain ⟨l1, r1, l2, e, hl, hz⟩ := placed_mid l (u + r.n) j z (by simpa using h)
    exact ⟨r :: l1, r1, l2, by rw [e]; rfl, by simp [hl], by rw [hz, usedR_cons, Nat.add_assoc]⟩
/-- How many stand ahead of a segment. -/
def ahead (C : Nat → List RecT) (i : Nat) : Nat := ((List.range i).flatMap (putAt C)).length
theorem ahead_succ (C : Nat → List RecT) (i : Nat) : ahead C (i + 1) = ahead C i + (C i).length := by
  unfold ahead
  rw [List.range_succ, List.flatMap_append, List.length_append, List.flatMap_singleton]
  unfold putAt
  rw [List.length_map, placed_len]
theorem allPut_at {n i j : Nat} (hi : i < n) (C : Nat → List RecT) (hj : j < (C i).length) : (allPut n C)[ahead C i + j]? = (putAt C i)[j]? := by
  have hsp : List.range n = List.range i ++ i :: (List.range' (i + 1) (n - i - 1)) := by
    rw [List.range_eq_range', List.range_eq_range']
    generalize he : n - i - 1 = d
    rw [show n = i + (1 + d) by omega, ← List.range'_append_1, Nat.add_comm 1 d, List.range'_succ, Nat.zero_add]
  unfold allPut
  rw [hsp, List.flatMap_append, List.flatMap_cons, List.getElem?_append_right (by unfold ahead; omega)]
  rw [show ahead C i + j - ((List.range i).flatMap (putAt C)).length = j by unfold ahead; omega, List.getElem?_append_left (by unfold putAt; rw [List.length_map, placed_len]; exact hj)]
theorem ahead_mono (C : Nat → List RecT) {i n : Nat} (h : i ≤ n) : ahead C i ≤ ahead C n := by
  induction n with
  | zero => have : i = 0 := by omega
            subst this; exact Nat.le_refl _
  | succ n ih =>
    rcases Nat.lt_or_ge n i with h1 | h1
    · have : i = n + 1 := by omega
      subst this; exact Nat.le_refl _
    · rw [ahead_succ]; have := ih h1; omega
section
variable {n sec k : Nat} {L : Lg} {m : Nat} {C : Nat → List RecT} {put : List (AdT × RecT)}
theorem Told.st (h : Told n sec k L m C put) {i : Nat} (hi : i < n) : (i < m ∧ (at' L.segs i).st ≠ 0 ∧ Ring.gen L.segs i = i + 1) ∨ (m ≤ i ∧ C i = [] ∧ readB (L.D.at (2 + i * sec)) = none) := by
  rcases Nat.lt_or_ge i m with h1 | h1
  · left
    have hu := h.good.side.used i h1
    rw [h.good.len, Nat.zero_add, Nat.mod_eq_of_lt hi] at hu
    exact ⟨h1, by rw [hu.1]; split <;> decide, h.gens i h1⟩
  · exact .inr ⟨h1, h.virgin i h1 hi⟩
theorem Told.scan (h : Told n sec k L m C put) (hk : k ≤ 900000000) {i : Nat} (hi : i < n) : ∃ gk uk, scanF L.x L.D i = (L.D, 0, gk, uk, placed 1 (C i)) ∧ (C i ≠ [] → gk = i + 1) := by
  rcases h.st hi with ⟨h1, h2, h3⟩ | ⟨h1, h2, h3⟩
  · exact ⟨_, _, h.good.scan (by omega) hi h2, fun _ => h3⟩
  · refine ⟨0, 0, ?_, fun hne => absurd h2 hne⟩
    rw [scan_none h.good hi h3, h2]; rfl
/-- What stands at a place of what was told. -/
theorem Told.at (h : Told n sec k L m C put) {i j : Nat} (hi : i < n) {z : PlT} (hz : (placed 1 (C i))[j]? = some z) : put[ahead C i + j]? = some ((i, i + 1, (z.1 : Int)), ⟨z.2.1, z.2.2.1, z.2.2.2⟩) := by
  have hj : j < (C i).length := by have := (List.getElem?_eq_some_iff.1 hz).1; rwa [placed_len] at this
  rw [h.put, allPut_at hi C hj]
  unfold putAt
  rw [List.getElem?_map, hz]
  rfl
theorem Told.len (h : Told n sec k L m C put) : put.length = ahead C n := by rw [h.put]; rfl
theorem Told.read (h : Told n sec k L m C put) (hk : k ≤ 900000000) {i j : Nat} (hi : i < n) {z : PlT} (hz : (placed 1 (C i))[j]? = some z) : L.read ((i : Int), i + 1, (z.1 : Int)) = (L.D, (z.2.1, z.2.2.1, z.2.2.2), 0) := by
  obtain ⟨l1, r, l2, e, hl, rfl⟩ := placed_mid _ _ _ _ hz
  rcases h.st hi with ⟨h1, h2, h3⟩ | ⟨h1, h2, h3⟩
  · have := h.good.read (by omega) hi h2 e
    rw [h3] at this
    exact this
  · rw [h2] at e; simp at e
theorem Told.mem (h : Told n sec k L m C put) {q : AdT × RecT} (hq : q ∈ put) : ∃ i l1 l2, i < n ∧ i < m ∧ C i = l1 ++ q.2 :: l2 ∧ q.1 = (i, i + 1, ((1 + usedR l1 : Nat) : Int)) := by
  rw [h.put] at hq
  unfold allPut at hq
  obtain ⟨i, hi, hq⟩ := List.mem_flatMap.1 hq
  have hi := List.mem_range.1 hi
  unfold putAt at hq
  obtain ⟨z, hz, rfl⟩ := List.mem_map.1 hq
  obtain ⟨j, hj⟩ := List.getElem?_of_mem hz
  obtain ⟨l1, r, l2, e, hl, rfl⟩ := placed_mid _ _ _ _ hj
  rcases h.st hi with ⟨h1, h2, h3⟩ | ⟨h1, h2, h3⟩
  · exact ⟨i, l1, l2, hi, h1, e, rfl⟩
  · rw [h2] at e; simp at e
theorem Good.lread {s m : Nat} {o : Bool} (h : Good n sec k L s m o C) : checkB L.x.sec L.segs = true ∧ (L.segs.length : Int) = L.x.seg ∧ L.x.may = true := ⟨by rw [h.xsec]; exact h.side.check, by rw [h.len, h.xseg], h.may⟩
/-- The first segment is freed: what is read then. -/
theorem Told.free (h : Told n sec k L m C put) (hk : k ≤ 900000000) : FreeOk L ∧ ((∃ e, e ≠ 0 ∧ L.free 0 = (L, e)) ∨ ∃ L', L.free 0 = (L', 0) ∧ (checkB L'.x.sec L'.segs = true ∧ (L'.segs.length : Int) = L'.x.seg ∧ L'.x.may = true) ∧ ∀ q ∈ put, (q.1.1 = 0 ∧ L'.read ((q.1.1 : Int), q.1.2.1, q.1.2.2) = (L'.D, (⟨0, 0, 0, 0⟩, [], []), 4)) ∨ (q.1.1 ≠ 0 ∧ L'.read ((q.1.1 : Int), q.1.2.1, q.1.2.2) = (L'.D, (q.2.rc, q.2.ka, q.2.va), 0))) := by
  refine ⟨h.good.freeOk (by omega), ?_⟩
  rcases h.good.free (by omega) 0 with ⟨e, he, _, h1⟩ | ⟨h0, L', e1, hsg, hfar, hg'⟩
  · exact .inl ⟨e, he, h1⟩
  · refine .inr ⟨L', e1, hg'.lread, fun q hq => ?_⟩
    obtain ⟨i, l1, l2, hi, him, hc, hq1⟩ := h.mem hq
    have hn := h.good.len
    have hsl : 0 < L.segs.length := by omega
    by_cases e : i = 0
    · subst e
      left
      refine ⟨by rw [hq1], ?_⟩
      refine read_bad ?_ hsg
      rw [hq1]
      unfold addrBad
      right; right; left
      show (at' (L.segs.set 0 zero) (((0 : Nat) : Int)).toNat).st = 0
      rw [at_set hsl]
      rfl
    · right
      refine ⟨by rw [hq1]; exact e, ?_⟩
      have hat : at' L'.segs i = at' L.segs i := by rw [hsg, at_set hsl, if_neg e]
      rcases h.st hi with ⟨h1, h2, h3⟩ | ⟨h1, _⟩
      · have hgi : Ring.gen L'.segs i = i + 1 := by unfold Ring.gen at h3 ⊢; rw [hat, h3]
        have := hg'.read (by omega) hi (by rw [hat]; exact h2) hc
        rw [hgi] at this
        rw [hq1]
        exact this
      · omega
end
end Go.Lg
end

section
set_option linter.unusedVariables false
set_option linter.unusedSimpArgs false
namespace Go.Proofs.Ytjmocjcjiiopnaa
open Go.RowKit Go.Ice Go.Oct Go.Dsk Go.Ring Go.Lg
def pinC (q : AdT × RIn) : List Value := addrC q.1 ++ rinC q.2
def pinR (q : AdT × RIn) : AdT × RecT := (q.1, ⟨q.2.rc, q.2.ka, q.2.va⟩)
theorem rin_range {w : World} {b off n c : Nat} {l : List RIn} (h : IsSlK w 6 n (.slice (some ⟨b, off, none⟩) n c) (l.flatMap rinC)) (hn : 0 < n) {i : Nat} {z : RIn} (hz : l[i]? = some z) : w.rangeAt b (off + i * 6) (rinC z) := fun j v hv => by
  obtain ⟨b', off', cap, hv', _, _, _, h4⟩ := h.at hn
  cases hv'
  have hj : j < 6 := (List.getElem?_eq_some_iff.1 hv).1
  have hf := flatMap_get (f := rinC) (c := 6) (fun z _ => rfl) hz hj
  rw [Nat.add_assoc, h4 _ (List.getElem?_eq_some_iff.1 (hf.trans hv)).1, hf, hv]
theorem _root_.Go.Lg.Told.up {n sec k k' : Nat} {L : Lg} {m : Nat} {C : Nat → List RecT} {put : List (AdT × RecT)} (h : Go.Lg.Told n sec k L m C put) (hk : k ≤ k') : Go.Lg.Told n sec k' L m C put :=
  ⟨{ h.good with tok := Nat.le_trans h.good.tok hk, gen := Nat.le_trans h.good.gen hk }, h.xgen, h.gens, h.virgin, h.put⟩
theorem St.shareAll {w0 : World} {B : Nat → Prop} {w : World} : ∀ (K : List Asn) {M S : List Asn}, St w0 B (K ++ M) S w → ∃ S', St w0 B M S' w ∧ (∀ A ∈ K, A ∈ S') ∧ ∀ A ∈ S, A ∈ S'
  | [], M, S, h => ⟨S, h, by simp, fun A hA => hA⟩
  | A :: K, M, S, h => by
    obtain ⟨S', h1, h2, h3⟩ := St.shareAll K (St.share (show St w0 B (A :: (K ++ M)) S w from h))
    exact ⟨S', h1, fun X hX => (List.mem_cons.1 hX).elim (fun e => by rw [e]; exact h3 A (by simp)) (h2 X), fun X hX => h3 X (List.mem_cons_of_mem _ hX)⟩
theorem imp_app {S1 S M : List Asn} (h : ∀ A ∈ S1, ∃ A' ∈ S, A'.imp A) : ∀ A ∈ S1, ∃ A' ∈ S ++ M, A'.imp A := fun A hA => by
  obtain ⟨A', h1, h2⟩ := h A hA
  exact ⟨A', List.mem_append_left _ h1, h2⟩
theorem bigPlaced : Big Try.prog 40 9 := ⟨⟨_, Try.underlying40, rfl⟩, by kernel_rfl⟩
theorem sameR_self (r : Rc) (ka va : List UInt8) : sameR r r ka va ka va = true := by unfold sameR; simp
theorem slA_at {w0 w : World} {B : Nat → Prop} {M S : List Asn} {size n b off c : Nat} {cs : List Value} (h : St w0 B M S w) (hm : slA size (.slice (some ⟨b, off, none⟩) n c) n cs ∈ S) (hn : 0 < n) : IsSlK w size n (.slice (some ⟨b, off, none⟩) n c) cs := by
  obtain ⟨F, hF⟩ := h.getS hm
  exact hF.2.2
theorem slk_range {w : World} {b off n c size : Nat} {cs : List Value} (h : IsSlK w size n (.slice (some ⟨b, off, none⟩) n c) cs) (hn : 0 < n) (hs : size ≤ n * size) (hl : cs.length = n * size) : w.rangeAt b off cs := fun j v hv => by
  obtain ⟨b', off', cap, hv', _, _, _, h4⟩ := h.at hn
  cases hv'
  rw [h4 j (by have := (List.getElem?_eq_some_iff.1 hv).1; omega), hv]
end Go.Proofs.Ytjmocjcjiiopnaa
end
