/- Records that came in, read off the argument. No condition. For the laws' walks: records that came in and that are told. No condition. For the walk of LogCuts: what was put and what is told, by the records that came in. Conditions: as many calls as the law makes. Whether a record that is told is one of those that were to be appended: under. Conditions: it is one of them. For the walk of LogCuts: a slice's rest, and parts of what is owned. Conditions: it is long enough. -/
import Derived.Test.YtjmocjcjiiopnaaLogCuts35
import Derived.Test.YtjmocjcjiiopnaaLogCuts04
import Derived.Test.YtjmocjcjiiopnaaLogCuts09
import Derived.Test.YtjmocjcjiiopnaaLogCuts32
import Derived.Test.YtjmocjcjiiopnaaLogCuts16

section
set_option linter.unusedVariables false
set_option linter.unusedSimpArgs false
namespace Go.Proofs.Ytjmocjcjiiopnaa
open Go.ChangeShapes Go.WideShapes Go.Deep Go.RowKit Go.Ice Go.Oct
/-- A record that came in: where its bytes lie. -/
structure RIn where
  rc : Rc
  ka : List UInt8
  va : List UInt8
  x : Option Addr
  c : Nat
  y : Option Addr
  d : Nat
instance : Inhabited RIn := ⟨⟨⟨0, 0, 0, 0⟩, [], [], none, 0, none, 0⟩⟩
def rinC (z : RIn) : List Value := [.int .i64 z.rc.k, .int .u32 z.rc.f, .int .u32 z.rc.e, .int .u64 z.rc.s, .slice z.x z.ka.length z.c, .slice z.y z.va.length z.d]
def rinS (l : List RIn) : List Asn := l.flatMap fun z => [bytA (.slice z.x z.ka.length z.c) z.ka, bytA (.slice z.y z.va.length z.d) z.va]
theorem rinS_mem {l : List RIn} {z : RIn} (h : z ∈ l) : bytA (.slice z.x z.ka.length z.c) z.ka ∈ rinS l ∧ bytA (.slice z.y z.va.length z.d) z.va ∈ rinS l := by
  unfold rinS
  exact ⟨List.mem_flatMap.2 ⟨z, h, by simp⟩, List.mem_flatMap.2 ⟨z, h, by simp⟩⟩
section
variable {H : Type} {enc : TypeId × Value → H} {w : World} {base : Nat} {spare : Nat → Bool} {held : Bool}
theorem leaf_bytes {v : Value} (h : LeafAt enc Try.prog w base spare held 31 v) : ∃ l a c, v = .slice a l.length c ∧ BytesAt w (.slice a l.length c) l := by
  have : ∃ l, BytesAt w v l := by
    rcases h.structs Try.underlying31 1 [5] (by kernel_rfl) (by kernel_rfl) (by decide) with rfl | ⟨x, len, cap, rfl, k1, k2, k3⟩
    · exact ⟨[], .inl ⟨rfl, .inl rfl⟩⟩
    · rcases Nat.eq_zero_or_pos len with rfl | hpos
      · exact ⟨[], .inl ⟨rfl, .inr ⟨_, _, rfl⟩⟩⟩
      · obtain ⟨b, off, rfl, hb, hcell⟩ := k3 hpos
        have key : ∀ i, ∃ c : UInt8, i < len → w.cell? ⟨b, off + i, none⟩ = some (u8v c) := fun i => by
          by_cases hi : i < len
          · obtain ⟨u, c0, m0⟩ := hcell i hi 0 5 rfl
            obtain ⟨n, rfl, hw⟩ := m0.int Try.underlying5
            have hbd := bounds_u8 hw
            refine ⟨UInt8.ofNat n.toNat, fun _ => ?_⟩
            have e : off + (i * [5].length + 0) = off + i := by simp
            rw [e] at c0
            rw [c0]
            unfold u8v
            congr 2
            rw [UInt8.toNat_ofNat']
            omega
          · exact ⟨0, fun h => absurd h hi⟩
        obtain ⟨f, hf⟩ := Classical.axiomOfChoice key
        have hlen : (((List.range len).map f).map u8v).length = len := by simp
        refine ⟨(List.range len).map f, ?_⟩
        show IsSl _ _ _
        have := isSl_mk (w := w) (cs := ((List.range len).map f).map u8v) (b := b) (off := off) (cap := cap) (by rw [hlen]; exact k1) k2 hb (fun j hj => by
          rw [hlen] at hj
          rw [hf j hj]; simp [hj])
        rw [hlen] at this
        exact this
  obtain ⟨l, hl⟩ := this
  obtain ⟨a, c, rfl, _⟩ := BytesAt.form hl
  exact ⟨l, a, c, rfl, hl⟩
theorem bytes_share {v : Value} {l : List UInt8} (h : BytesAt w v l) : ∃ F, (bytA v l).p F w ∧ ∀ b, F b → (fun _ => True) b ∧ b < w.heap.size :=
  ⟨fun b => l ≠ [] ∧ v.ownBlock = some b, ⟨fun _ => Iff.rfl, h⟩, fun b hb => ⟨trivial, (bytA v l).inn _ w ⟨fun _ => Iff.rfl, h⟩ b hb⟩⟩
def recTs : List TypeId := [3, 29, 29, 30, 31, 31]
set_option maxRecDepth 100000 in
/-- The records that came in. -/
theorem open_recs {v : Value} {dd : DataW H} {ps : List MemPlace} {b0 : Nat} {r : Reach} (hv : Value.okWide Try.prog w r b0 22 v) (h : DataW.Trod enc Try.prog w base spare held 22 v dd ps) : ∃ (l : List RIn) (a : Option Addr) (c : Nat), v = .slice a l.length c ∧ l.length ≤ maxLen ∧ (∀ z ∈ l, z.rc.fits) ∧ Shares (slA 6 (.slice a l.length c) l.length (l.flatMap rinC) :: rinS l) (fun _ => True) w := by
  rcases open_flat_slice (F := Try.f0) (ds := []) Try.underlying22 5 recTs (by kernel_rfl) (by kernel_rfl) (by decide) hv h with ⟨rfl, _⟩ | ⟨x, len, cap, elems, sp, rfl, _, _, k1, k2, k3⟩
  · refine ⟨[], none, 0, rfl, Nat.zero_le _, by simp, fun A hA => ?_⟩
    cases List.mem_singleton.1 hA
    exact ⟨fun _ => False, ⟨fun x => by simp, by decide, rfl, .inl ⟨rfl, .inl rfl⟩⟩, fun b hb => hb.elim⟩
  · rcases Nat.eq_zero_or_pos len with rfl | hpos
    · refine ⟨[], some x, cap, rfl, Nat.zero_le _, by simp, fun A hA => ?_⟩
      cases List.mem_singleton.1 hA
      exact ⟨fun _ => False, ⟨fun x => by simp, by decide, rfl, .inl ⟨rfl, .inr ⟨_, _, rfl⟩⟩⟩, fun b hb => hb.elim⟩
    · obtain ⟨b, off, rfl, hb, hcell⟩ := k3 hpos
      have key : ∀ i, ∃ z : RIn, i < len → z.rc.fits ∧ (∀ j, j < 6 → w.cell? ⟨b, off + (i * 6 + j), none⟩ = (rinC z)[j]?) ∧ BytesAt w (.slice z.x z.ka.length z.c) z.ka ∧ BytesAt w (.slice z.y z.va.length z.d) z.va := fun i => by
        by_cases hi : i < len
        · have hc := hcell i hi
          obtain ⟨u0, c0, m0⟩ := hc 0 3 rfl
          obtain ⟨u1, c1, m1⟩ := hc 1 29 rfl
          obtain ⟨u2, c2, m2⟩ := hc 2 29 rfl
          obtain ⟨u3, c3, m3⟩ := hc 3 30 rfl
          obtain ⟨u4, c4, m4⟩ := hc 4 31 rfl
          obtain ⟨u5, c5, m5⟩ := hc 5 31 rfl
          obtain ⟨n0, rfl, w0⟩ := m0.int Try.underlying3
          obtain ⟨n1, rfl, w1⟩ := m1.int Try.underlying29
          obtain ⟨n2, rfl, w2⟩ := m2.int Try.underlying29
          obtain ⟨n3, rfl, w3⟩ := m3.int Try.underlying30
          obtain ⟨ka, a4, e4, rfl, h4⟩ := leaf_bytes m4
          obtain ⟨va, a5, e5, rfl, h5⟩ := leaf_bytes m5
          have b1 := bounds_u32 w1
          have b2 := bounds_u32 w2
          have b3 := bounds_u64 w3
          refine ⟨⟨⟨n0, n1.toNat, n2.toNat, n3.toNat⟩, ka, va, a4, e4, a5, e5⟩, fun _ => ⟨?_, ?_, h4, h5⟩⟩
          · unfold Rc.fits
            dsimp only
            omega
          · have q1 : ((n1.toNat : Nat) : Int) = n1 := by omega
            have q2 : ((n2.toNat : Nat) : Int) = n2 := by omega
            have q3 : ((n3.toNat : Nat) : Int) = n3 := by omega
            have hl6 : recTs.length = 6 := rfl
            rw [hl6] at c0 c1 c2 c3 c4 c5
            intro j hj
            unfold rinC
            dsimp only
            rw [q1, q2, q3]
            obtain rfl | rfl | rfl | rfl | rfl | rfl : j = 0 ∨ j = 1 ∨ j = 2 ∨ j = 3 ∨ j = 4 ∨ j = 5 := by omega
            · exact c0
            · exact c1
            · exact c2
            · exact c3
            · exact c4
            · exact c5
        · exact ⟨default, fun h => absurd h hi⟩
      obtain ⟨f, hf⟩ := Classical.axiomOfChoice key
      have hlen : ((List.range len).map f).length = len := by simp
      have hcl : ∀ z ∈ (List.range len).map f, (rinC z).length = 6 := fun z _ => rfl
      have hfl : (((List.range len).map f).flatMap rinC).length = len * 6 := by rw [flatMap_len hcl, hlen]
      refine ⟨(List.range len).map f, some ⟨b, off, none⟩, cap, by rw [hlen], by rw [hlen]; omega, fun z hz => ?_, fun A hA => ?_⟩
      · obtain ⟨i, hi, rfl⟩ := List.mem_map.1 hz
        exact (hf i (List.mem_range.1 hi)).1
      · rcases List.mem_cons.1 hA with rfl | hA
        · have hsl : IsSlK w 6 ((List.range len).map f).length (.slice (some ⟨b, off, none⟩) ((List.range len).map f).length cap) (((List.range len).map f).flatMap rinC) := by
            rw [hlen]
            refine ⟨hfl, .inr ⟨hpos, b, off, cap, rfl, k1, k2, hb, fun j hj => ?_⟩⟩
            rw [hfl] at hj
            have hd : j / 6 < len := by omega
            have hm : j % 6 < 6 := Nat.mod_lt _ (by decide)
            have := (hf (j / 6) hd).2.1 (j % 6) hm
            obtain ⟨q, m, rfl, hm6⟩ : ∃ q m, j = q * 6 + m ∧ m < 6 := ⟨j / 6, j % 6, by omega, hm⟩
            rw [show (q * 6 + m) / 6 = q by omega, show (q * 6 + m) % 6 = m by omega] at this
            rw [this, flatMap_get hcl (x := f q) (by rw [List.getElem?_map, List.getElem?_range (by omega)]; rfl) hm6]
          refine ⟨fun x => x = b, ⟨fun x => ?_, by decide, hsl⟩, fun x hx => ⟨trivial, by rw [hx]; exact hb⟩⟩
          have hne : ((List.range len).map f).flatMap rinC ≠ [] := fun e => by rw [e] at hfl; simp at hfl; omega
          exact ⟨fun e => ⟨hne, by rw [e]; rfl⟩, fun e => by cases e.2; rfl⟩
        · unfold rinS at hA
          obtain ⟨z, hz, hA⟩ := List.mem_flatMap.1 hA
          obtain ⟨i, hi, rfl⟩ := List.mem_map.1 hz
          have := hf i (List.mem_range.1 hi)
          rcases List.mem_cons.1 hA with rfl | hA
          · exact bytes_share this.2.2.1
          · cases List.mem_singleton.1 hA
            exact bytes_share this.2.2.2
end
end Go.Proofs.Ytjmocjcjiiopnaa
end

section
set_option linter.unusedVariables false
set_option linter.unusedSimpArgs false
namespace Go.Proofs.Ytjmocjcjiiopnaa
open Go.RowKit Go.Ice Go.Oct Go.Dsk Go.Ring Go.Lg
def pinC (q : AdT × RIn) : List Value := addrC q.1 ++ rinC q.2
def pinR (q : AdT × RIn) : AdT × RecT := (q.1, ⟨q.2.rc, q.2.ka, q.2.va⟩)
theorem rin_range {w : World} {b off n c : Nat} {l : List RIn} (h : IsSlK w 6 n (.slice (some ⟨b, off, none⟩) n c) (l.flatMap rinC)) (hn : 0 < n) {i : Nat} {z : RIn} (hz : l[i]? = some z) : w.rangeAt b (off + i * 6) (rinC z) := fun j v hv => by
  obtain ⟨b', off', cap, hv', _, _, _, h4⟩ := h.at hn
  cases hv'
  have hj : j < 6 := (List.getElem?_eq_some_iff.1 hv).1
  have hf := flatMap_get (f := rinC) (c := 6) (fun z _ => rfl) hz hj
  rw [Nat.add_assoc, h4 _ (List.getElem?_eq_some_iff.1 (hf.trans hv)).1, hf, hv]
theorem _root_.Go.Lg.Told.up {n sec k k' : Nat} {L : Lg} {m : Nat} {C : Nat → List RecT} {put : List (AdT × RecT)} (h : Go.Lg.Told n sec k L m C put) (hk : k ≤ k') : Go.Lg.Told n sec k' L m C put :=
  ⟨{ h.good with tok := Nat.le_trans h.good.tok hk, gen := Nat.le_trans h.good.gen hk }, h.xgen, h.gens, h.virgin, h.put⟩
theorem St.shareAll {w0 : World} {B : Nat → Prop} {w : World} : ∀ (K : List Asn) {M S : List Asn}, St w0 B (K ++ M) S w → ∃ S', St w0 B M S' w ∧ (∀ A ∈ K, A ∈ S') ∧ ∀ A ∈ S, A ∈ S'
  | [], M, S, h => ⟨S, h, by simp, fun A hA => hA⟩
  | A :: K, M, S, h => by
    obtain ⟨S', h1, h2, h3⟩ := St.shareAll K (St.share (show St w0 B (A :: (K ++ M)) S w from h))
    exact ⟨S', h1, fun X hX => (List.mem_cons.1 hX).elim (fun e => by rw [e]; exact h3 A (by simp)) (h2 X), fun X hX => h3 X (List.mem_cons_of_mem _ hX)⟩
theorem imp_app {S1 S M : List Asn} (h : ∀ A ∈ S1, ∃ A' ∈ S, A'.imp A) : ∀ A ∈ S1, ∃ A' ∈ S ++ M, A'.imp A := fun A hA => by
  obtain ⟨A', h1, h2⟩ := h A hA
  exact ⟨A', List.mem_append_left _ h1, h2⟩
theorem bigPlaced : Big Try.prog 40 9 := ⟨⟨_, Try.underlying40, rfl⟩, by kernel_rfl⟩
theorem sameR_self (r : Rc) (ka va : List UInt8) : sameR r r ka va ka va = true := by unfold sameR; simp
theorem slA_at {w0 w : World} {B : Nat → Prop} {M S : List Asn} {size n b off c : Nat} {cs : List Value} (h : St w0 B M S w) (hm : slA size (.slice (some ⟨b, off, none⟩) n c) n cs ∈ S) (hn : 0 < n) : IsSlK w size n (.slice (some ⟨b, off, none⟩) n c) cs := by
  obtain ⟨F, hF⟩ := h.getS hm
  exact hF.2.2
theorem slk_range {w : World} {b off n c size : Nat} {cs : List Value} (h : IsSlK w size n (.slice (some ⟨b, off, none⟩) n c) cs) (hn : 0 < n) (hs : size ≤ n * size) (hl : cs.length = n * size) : w.rangeAt b off cs := fun j v hv => by
  obtain ⟨b', off', cap, hv', _, _, _, h4⟩ := h.at hn
  cases hv'
  rw [h4 j (by have := (List.getElem?_eq_some_iff.1 hv).1; omega), hv]
end Go.Proofs.Ytjmocjcjiiopnaa
end

section
set_option linter.unusedVariables false
set_option linter.unusedSimpArgs false
namespace Go.Proofs.Ytjmocjcjiiopnaa
open Go.RowKit Go.Ice Go.Oct Go.Dsk Go.Ring Go.Lg
def RIn.r (z : RIn) : RecT := ⟨z.rc, z.ka, z.va⟩
/-- What was put, by segment, and how much of it is sure. -/
def CutI (l : List RIn) (k : Nat) (L : Lg) (pl : Nat → List (AdT × RIn)) (sf : Nat → Nat) : Prop :=
  ∃ m C X T, Cuts (fun r => ∃ z ∈ l, z.r = r) k L m C X T ∧ (∀ i, i < 5 → (pl i).map pinR = putAt C i) ∧ (∀ i, i < 5 → sf i = (T i).length) ∧ (∀ i, i < 5 → (pl i).length ≤ k) ∧ ∀ i, i < 5 → ∀ q ∈ pl i, q.2 ∈ l
section
variable {l : List RIn} {k : Nat} {L : Lg} {pl : Nat → List (AdT × RIn)} {sf : Nat → Nat}
theorem CutI.born (l : List RIn) {D : Dk} (ok : D.ok) (hs : D.safe = (D0 5 24).safe) (hp : D.pend = []) : CutI l 0 { L0 5 24 with D := D } (fun _ => []) (fun _ => 0) :=
  ⟨0, _, _, _, Cuts.born _ ok hs hp, fun _ _ => rfl, fun _ _ => rfl, fun _ _ => Nat.le_refl _, fun _ _ q hq => by cases hq⟩
theorem CutI.len (h : CutI l k L pl sf) {i : Nat} (hi : i < 5) : (pl i).length ≤ k := by
  obtain ⟨m, C, X, T, h1, h2, h3, h4, h5⟩ := h
  exact h4 i hi
theorem CutI.mem (h : CutI l k L pl sf) {i : Nat} (hi : i < 5) : ∀ q ∈ pl i, q.2 ∈ l := by
  obtain ⟨m, C, X, T, h1, h2, h3, h4, h5⟩ := h
  exact h5 i hi
theorem CutI.append (h : CutI l k L pl sf) (hk : k ≤ 900) {z : RIn} (hz : z ∈ l) (hf : z.rc.fits) :
    L.fit ∧ (z.rc.right z.ka.length z.va.length = true → (L.ready z.r.n).2 = 0 → PutOk (L.ready z.r.n).1 z.r.n) ∧ ((∃ L' e, e ≠ 0 ∧ L.append z.rc z.ka z.va = (L', e, (0, 0, 0)) ∧ CutI l (k + 2) L' pl sf) ∨ ∃ L' i g u, i < 5 ∧ L.append z.rc z.ka z.va = (L', 0, (i, g, u)) ∧ CutI l (k + 2) L' (fun j => if j = i then pl j ++ [((i, g, u), z)] else pl j) sf) := by
  obtain ⟨m, C, X, T, h1, h2, h3, h4, h5⟩ := h
  obtain ⟨hfit, hput, hc⟩ := h1.append hk z.r hf ⟨z, hz, rfl⟩
  refine ⟨hfit, hput, ?_⟩
  rcases hc with ⟨L', m', e, X', he, ha, hC⟩ | ⟨L', m', i, hi, ha, hC⟩
  · exact .inl ⟨L', e, he, ha, m', C, X', T, hC, h2, h3, fun i hi => by have := h4 i hi; omega, h5⟩
  · refine .inr ⟨L', i, i + 1, _, hi, ha, m', _, X, T, hC, fun j hj => ?_, h3, fun j hj => ?_, fun j hj q hq => ?_⟩
    · by_cases e : j = i
      · subst e
        simp only [if_true]
        rw [List.map_append, h2 j hj]
        unfold putAt
        simp only [if_true]
        rw [placed_snoc, List.map_append]
        rfl
      · simp only [if_neg e]
        rw [h2 j hj]
        unfold putAt
        simp only [if_neg e]
    · have := h4 j hj
      dsimp only
      split
      · rw [List.length_append]; show _ + 1 ≤ _; omega
      · omega
    · dsimp only at hq
      split at hq
      · rcases List.mem_append.1 hq with hq | hq
        · exact h5 j hj q hq
        · cases List.mem_singleton.1 hq; exact hz
      · exact h5 j hj q hq
/-- .. in one form. -/
theorem CutI.step (h : CutI l k L pl sf) (hk : k ≤ 900) {z : RIn} (hz : z ∈ l) (hf : z.rc.fits) :
    L.fit ∧ (z.rc.right z.ka.length z.va.length = true → (L.ready z.r.n).2 = 0 → PutOk (L.ready z.r.n).1 z.r.n) ∧ ∃ L' e i g u, L.append z.rc z.ka z.va = (L', e, (i, g, u)) ∧ ((e ≠ 0 ∧ CutI l (k + 2) L' pl sf) ∨ (e = 0 ∧ i < 5 ∧ CutI l (k + 2) L' (fun j => if j = i then pl j ++ [((i, g, u), z)] else pl j) sf)) := by
  obtain ⟨h1, h2, h3⟩ := h.append hk hz hf
  refine ⟨h1, h2, ?_⟩
  rcases h3 with ⟨L', e, he, ha, hC⟩ | ⟨L', i, g, u, hi, ha, hC⟩
  · exact ⟨L', e, 0, 0, 0, ha, .inl ⟨he, hC⟩⟩
  · exact ⟨L', 0, i, g, u, ha, .inr ⟨rfl, hi, hC⟩⟩
theorem CutI.later (h : CutI l k L pl sf) {k' : Nat} (hk : k ≤ k') : CutI l k' L pl sf := by
  obtain ⟨m, C, X, T, h1, h2, h3, h4, h5⟩ := h
  exact ⟨m, C, X, T, h1.later hk, h2, h3, fun i hi => Nat.le_trans (h4 i hi) hk, h5⟩
theorem putAt_len (C : Nat → List RecT) (i : Nat) : (putAt C i).length = (C i).length := by unfold putAt; rw [List.length_map, placed_len]
theorem CutI.sync (h : CutI l k L pl sf) : (L.sync.2 = 0 ∧ CutI l k L.sync.1 pl (fun i => (pl i).length)) ∨ (L.sync.2 ≠ 0 ∧ CutI l k L.sync.1 pl sf) := by
  obtain ⟨m, C, X, T, h1, h2, h3, h4, h5⟩ := h
  obtain ⟨T', h6, h7, h8⟩ := h1.sync
  by_cases e : L.sync.2 = 0
  · refine .inl ⟨e, m, C, X, T', h6, h2, fun i hi => ?_, h4, h5⟩
    have := congrArg List.length (h2 i hi)
    rw [List.length_map, putAt_len] at this
    rw [h7 e]; exact this
  · refine .inr ⟨e, m, C, X, T', h6, h2, fun i hi => ?_, h4, h5⟩
    rw [h8 e]; exact h3 i hi
/-- What a scan tells behind a crash, beside what was put. -/
structure ToldC (l : List RIn) (pl : List (AdT × RIn)) (i gk n : Nat) (ps : List PlT) : Prop where
  sure : n ≤ ps.length
  most : ps.length ≤ 64
  same : ∀ j z, ps[j]? = some z → j < pl.length → ∃ q, pl[j]? = some q ∧ q.1 = (i, gk, (z.1 : Int)) ∧ q.2.rc = z.2.1 ∧ q.2.ka = z.2.2.1 ∧ q.2.va = z.2.2.2
  more : pl.length < ps.length → ps.length = pl.length + 1 ∧ ∃ z, ps[pl.length]? = some z ∧ ∃ y ∈ l, sameR y.rc z.2.1 y.ka y.va z.2.2.1 z.2.2.2 = true
theorem placed_app (l l' : List RecT) : ∀ u, placed u (l ++ l') = placed u l ++ placed (u + usedR l) l' := by
  induction l with
  | nil => intro u; simp [placed, usedR]
  | cons r l ih => intro u; rw [List.cons_append, placed, placed, ih, usedR_cons, List.cons_append, Nat.add_assoc]
theorem CutI.told (h : CutI l k L pl sf) (keep : List Bool) {x : Sp} (hx : x.sec = 24) {i : Nat} (hi : i < 5) : ∃ gk uk ps, scanF x (L.D.crash keep) i = (L.D.crash keep, 0, gk, uk, ps) ∧ ToldC l (pl i) i gk (sf i) ps := by
  obtain ⟨m, C, X, T, h1, h2, h3, h4, h5⟩ := h
  obtain ⟨gk, uk, r, e, hg, hs, hr⟩ := h1.told keep hx hi
  have hpl := h2 i hi
  have hlen := congrArg List.length hpl
  rw [List.length_map, putAt_len] at hlen
  have hC : 1 + usedR (C i) ≤ 24 := by
    have := h1.fit i
    unfold usedR at this ⊢
    rw [List.map_append, List.sum_append] at this
    omega
  have hCl := usedR_len (C i)
  refine ⟨gk, uk, _, e, by rw [placed_len, h3 i hi]; exact hs, ?_, ?_, ?_⟩
  · rw [placed_len]
    rcases hr with hr | ⟨r0, _, rfl⟩
    · have := hr.length_le; omega
    · simp; omega
  · intro j z hz hj
    have hz' : (placed 1 (C i))[j]? = some z := by
      rcases hr with ⟨t, ht⟩ | ⟨r0, _, rfl⟩
      · rw [← ht, placed_app, List.getElem?_append_left (List.getElem?_eq_some_iff.1 hz).1]; exact hz
      · rw [placed_snoc, List.getElem?_append_left (by rw [placed_len]; omega)] at hz; exact hz
    have hne : r ≠ [] := fun e => by rw [e] at hz; simp [placed] at hz
    have hq : ((pl i).map pinR)[j]? = some ((i, i + 1, (z.1 : Int)), ⟨z.2.1, z.2.2.1, z.2.2.2⟩) := by
      rw [hpl]
      unfold putAt
      rw [List.getElem?_map, hz']
      rfl
    rw [List.getElem?_map] at hq
    obtain ⟨q, hq1, hq2⟩ := Option.map_eq_some_iff.1 hq
    refine ⟨q, hq1, ?_⟩
    unfold pinR at hq2
    simp only [Prod.mk.injEq, RecT.mk.injEq] at hq2
    obtain ⟨k1, k2, k3, k4⟩ := hq2
    exact ⟨by rw [k1, hg hne], k2, k3, k4⟩
  · intro hlt
    rw [placed_len] at hlt
    rcases hr with hr | ⟨r0, ⟨y, hy, hyr⟩, rfl⟩
    · have := hr.length_le; omega
    · refine ⟨by rw [placed_len]; simp; omega, (1 + usedR (C i), r0.rc, r0.ka, r0.va), ?_, y, hy, ?_⟩
      · rw [placed_snoc, List.getElem?_append_right (by rw [placed_len]; omega), placed_len, hlen, Nat.sub_self]
        rfl
      · rw [← hyr]
        exact sameR_self _ _ _
theorem CutI.found (h : CutI l k L pl sf) (keep : List Bool) : openR (L.D.crash keep) = (L.D.crash keep, 0) ∧ ∃ x t, openS (L.D.crash keep) = some (x, t) ∧ x.seg = 5 ∧ x.sec = 24 ∧ x.may = true := by
  obtain ⟨m, C, X, T, h1, h2, h3, h4, h5⟩ := h
  exact h1.found keep
end
/-- Assertions of which one is taken out. -/
theorem sep_out {w0 : World} {B : Nat → Prop} {M S : List Asn} {w : World} {f : Nat → Asn} {k n : Nat} (hk : k < n) (h : St w0 B (sepA ((List.range n).map f) :: M) S w) : St w0 B (f k :: sepA (((List.range n).erase k).map f) :: M) S w := by
  have hp : ((List.range n).map f).Perm (f k :: ((List.range n).erase k).map f) := (List.perm_cons_erase (List.mem_range.2 hk)).map f
  have h1 : St w0 B (f k :: (((List.range n).erase k).map f ++ M)) S w := h.flat.perm (hp.append_right M)
  have h2 : St w0 B (((List.range n).erase k).map f ++ (f k :: M)) S w := h1.perm (List.perm_middle.symm)
  exact St.swap (St.bind h2)
theorem sep_in {w0 : World} {B : Nat → Prop} {M S : List Asn} {w : World} {f f' : Nat → Asn} {k n : Nat} (hk : k < n) (hf : ∀ j, j ≠ k → f' j = f j) (h : St w0 B (f' k :: sepA (((List.range n).erase k).map f) :: M) S w) : St w0 B (sepA ((List.range n).map f') :: M) S w := by
  have he : ((List.range n).erase k).map f = ((List.range n).erase k).map f' := List.map_congr_left fun j hj => (hf j fun e => by
    subst e
    exact (List.nodup_range.mem_erase_iff.1 hj).1 rfl).symm
  rw [he] at h
  have hp : ((List.range n).map f').Perm (f' k :: ((List.range n).erase k).map f') := (List.perm_cons_erase (List.mem_range.2 hk)).map f'
  have h1 : St w0 B (((List.range n).erase k).map f' ++ (f' k :: M)) S w := St.flat (St.swap h)
  have h2 : St w0 B ((f' k :: ((List.range n).erase k).map f') ++ M) S w := h1.perm List.perm_middle
  exact St.bind (h2.perm (hp.append_right M).symm)
theorem range_get {n k : Nat} (f : Nat → Value) (hk : k < n) : ((List.range n).map f)[k]? = some (f k) := by
  rw [List.getElem?_map, List.getElem?_range hk]
  rfl
theorem range_set {n k : Nat} (f : Nat → Value) (v : Value) (hk : k < n) : ((List.range n).map f).set k v = (List.range n).map fun j => if j = k then v else f j := by
  apply List.ext_getElem?
  intro j
  rw [List.getElem?_set, List.getElem?_map, List.getElem?_map]
  by_cases hj : j < n
  · rw [List.getElem?_range hj]
    by_cases e : k = j
    · subst e
      rw [if_pos rfl, if_pos (by simpa using hj)]
      simp
    · rw [if_neg e]
      show some (f j) = some (if j = k then v else f j)
      rw [if_neg (fun h => e h.symm)]
  · rw [List.getElem?_eq_none (by simpa using hj)]
    by_cases e : k = j
    · omega
    · rw [if_neg e]
      rfl
end Go.Proofs.Ytjmocjcjiiopnaa
end

section
set_option linter.unusedVariables false
set_option linter.unusedSimpArgs false
namespace Go.Proofs.Ytjmocjcjiiopnaa
open Go.RowKit Go.Ice Go.Oct Go.Dsk Go.Ring Go.Lg
set_option maxHeartbeats 16000000 in
set_option maxRecDepth 100000 in
theorem under (kk gk u : Nat) (r : Rc) (kb vb : List UInt8) (zx zy : Option Addr) (zc zd : Nat) (bp op cp : Nat) (l : List RIn) (a0 : Option Addr) (c0 : Nat) (hlen : l.length ≤ maxLen) (hmem : ∃ y ∈ l, sameR y.rc r y.ka y.va kb vb = true) :
    Meets Try.prog 18 #[.slice (some ⟨bp, op, none⟩) 1 cp, .slice a0 l.length c0] [] (slA 9 (.slice (some ⟨bp, op, none⟩) 1 cp) 1 (plC kk gk ⟨u, r, kb, vb, zx, zc, zy, zd⟩) :: bytA (.slice zx kb.length zc) kb :: bytA (.slice zy vb.length zd) vb :: slA 6 (.slice a0 l.length c0) l.length (l.flatMap rinC) :: rinS l) fun v L => v = .bool true ∧ L = [] := by
  intro w B H
  obtain ⟨qk, qf, qe, qs⟩ := r
  have hss : ∀ z ∈ l, bytA (.slice z.x z.ka.length z.c) z.ka ∈ slA 9 (.slice (some ⟨bp, op, none⟩) 1 cp) 1 (plC kk gk ⟨u, ⟨qk, qf, qe, qs⟩, kb, vb, zx, zc, zy, zd⟩) :: bytA (.slice zx kb.length zc) kb :: bytA (.slice zy vb.length zd) vb :: slA 6 (.slice a0 l.length c0) l.length (l.flatMap rinC) :: rinS l ∧ bytA (.slice z.y z.va.length z.d) z.va ∈ slA 9 (.slice (some ⟨bp, op, none⟩) 1 cp) 1 (plC kk gk ⟨u, ⟨qk, qf, qe, qs⟩, kb, vb, zx, zc, zy, zd⟩) :: bytA (.slice zx kb.length zc) kb :: bytA (.slice zy vb.length zd) vb :: slA 6 (.slice a0 l.length c0) l.length (l.flatMap rinC) :: rinS l := fun z hz => by
    have := rinS_mem hz
    simp [this.1, this.2]
  have hsl : slA 6 (.slice a0 l.length c0) l.length (l.flatMap rinC) ∈ slA 9 (.slice (some ⟨bp, op, none⟩) 1 cp) 1 (plC kk gk ⟨u, ⟨qk, qf, qe, qs⟩, kb, vb, zx, zc, zy, zd⟩) :: bytA (.slice zx kb.length zc) kb :: bytA (.slice zy vb.length zd) vb :: slA 6 (.slice a0 l.length c0) l.length (l.flatMap rinC) :: rinS l := by simp
  have hp9 : slA 9 (.slice (some ⟨bp, op, none⟩) 1 cp) 1 (plC kk gk ⟨u, ⟨qk, qf, qe, qs⟩, kb, vb, zx, zc, zy, zd⟩) ∈ slA 9 (.slice (some ⟨bp, op, none⟩) 1 cp) 1 (plC kk gk ⟨u, ⟨qk, qf, qe, qs⟩, kb, vb, zx, zc, zy, zd⟩) :: bytA (.slice zx kb.length zc) kb :: bytA (.slice zy vb.length zd) vb :: slA 6 (.slice a0 l.length c0) l.length (l.flatMap rinC) :: rinS l := by simp
  have hb1 : bytA (.slice zx kb.length zc) kb ∈ slA 9 (.slice (some ⟨bp, op, none⟩) 1 cp) 1 (plC kk gk ⟨u, ⟨qk, qf, qe, qs⟩, kb, vb, zx, zc, zy, zd⟩) :: bytA (.slice zx kb.length zc) kb :: bytA (.slice zy vb.length zd) vb :: slA 6 (.slice a0 l.length c0) l.length (l.flatMap rinC) :: rinS l := by simp
  have hb2 : bytA (.slice zy vb.length zd) vb ∈ slA 9 (.slice (some ⟨bp, op, none⟩) 1 cp) 1 (plC kk gk ⟨u, ⟨qk, qf, qe, qs⟩, kb, vb, zx, zc, zy, zd⟩) :: bytA (.slice zx kb.length zc) kb :: bytA (.slice zy vb.length zd) vb :: slA 6 (.slice a0 l.length c0) l.length (l.flatMap rinC) :: rinS l := by simp
  generalize slA 9 (.slice (some ⟨bp, op, none⟩) 1 cp) 1 (plC kk gk ⟨u, ⟨qk, qf, qe, qs⟩, kb, vb, zx, zc, zy, zd⟩) :: bytA (.slice zx kb.length zc) kb :: bytA (.slice zy vb.length zd) vb :: slA 6 (.slice a0 l.length c0) l.length (l.flatMap rinC) :: rinS l = S at *
  have hpr : ∀ (W : World) (M : List Asn), St w B M S W → W.rangeAt bp (op + 3) [.int .i64 qk, .int .u32 qf, .int .u32 qe, .int .u64 qs, .slice zx kb.length zc, .slice zy vb.length zd] := fun W M h =>
    (rangeAt_append.1 (show _ from slk_range (slA_at h hp9 (by decide)) (by decide) (by decide) rfl : W.rangeAt bp op ([.int .i64 kk, .int .u64 gk, .int .i64 u] ++ [.int .i64 qk, .int .u32 qf, .int .u32 qe, .int .u64 qs, .slice zx kb.length zc, .slice zy vb.length zd]))).2
  obtain ⟨n, hn⟩ : ∃ n, n = l.length := ⟨_, rfl⟩
  rw [← hn] at hsl hlen ⊢
  unfold maxLen at hlen
  obtain ⟨y, hy, hyr⟩ := hmem
  obtain ⟨i0, hi0⟩ := List.getElem?_of_mem hy
  have hi0n : i0 < n := by rw [hn]; exact (List.getElem?_eq_some_iff.1 hi0).1
  have HSS := Lib.hid hss
  have HSL := Lib.hid hsl
  have HPR := Lib.hid hpr
  have HB1 := Lib.hid hb1
  have HB2 := Lib.hid hb2
  have HN := Lib.hid hn
  have HI0 := Lib.hid hi0
  have HYR := Lib.hid hyr
  clear hss hsl hpr hb1 hb2 hn hi0 hyr hp9 hy
  go_enter Try.func18, Try.ntmps18
  go_wp2_with fail
  go_loopg [12] n (fun gq b12 wr => ∃ i : Nat, i ≤ i0 ∧ gq = n - i ∧ b12 = .int .i64 i ∧ Hid (St w B [] S wr))
  case atStart => exact ⟨0, Nat.zero_le _, rfl, rfl, Lib.hid H⟩
  case round =>
    obtain ⟨i, hi, rfl, rfl, HI⟩ := hrel
    clear H
    have HI := HI.out
    obtain ⟨z, hz⟩ : ∃ z, l[i]? = some z := ⟨_, List.getElem?_eq_getElem (by rw [← HN.out]; omega)⟩
    have HZ := Lib.hid (List.mem_of_getElem? hz)
    obtain ⟨F, hF⟩ := HI.getS HSL.out
    have hK : IsSlK wr 6 n (.slice a0 n c0) (l.flatMap rinC) := hF.2.2
    obtain ⟨b0, o0, cap, hv, _⟩ := hK.at (by omega)
    cases hv
    have HRX := rin_range hK (by omega) hz
    clear hF hK
    have hsz := HSS.out z HZ.out
    have hyz : i = i0 → sameR z.rc ⟨qk, qf, qe, qs⟩ z.ka z.va kb vb = true := fun e => by
      subst e
      have := HI0.out
      rw [hz] at this
      cases this
      exact HYR.out
    clear hz
    obtain ⟨⟨rk, rf, re, rs⟩, ka, va, x, cx, y, cy⟩ := z
    unfold rinC at HRX
    dsimp only at HRX hsz hyz
    have HYZ := Lib.hid hyz
    have HSA := same ⟨rk, rf, re, rs⟩ ⟨qk, qf, qe, qs⟩ x y zx zy ka va kb vb cx cy zc zd
    unfold recV at HSA
    have HSA := Lib.hid HSA
    have him : ∀ A ∈ [bytA (.slice x ka.length cx) ka, bytA (.slice y va.length cy) va, bytA (.slice zx kb.length zc) kb, bytA (.slice zy vb.length zd) vb], ∃ A' ∈ S, A'.imp A := by
      intro A hA
      simp only [List.mem_cons, List.mem_nil_iff, or_false] at hA
      rcases hA with rfl | rfl | rfl | rfl
      · exact ⟨_, hsz.1, Asn.imp.refl _⟩
      · exact ⟨_, hsz.2, Asn.imp.refl _⟩
      · exact ⟨_, HB1.out, Asn.imp.refl _⟩
      · exact ⟨_, HB2.out, Asn.imp.refl _⟩
    have HIM := Lib.hid him
    clear him hsz hyz
    have i0' : (0 : Int) ≤ (i : Int) := by omega
    have i1 : (i : Int) < (n : Int) := by omega
    have H5 := HI.alloc [.int .i64 rk, .int .u32 rf, .int .u32 re, .int .u64 rs, .slice x ka.length cx, .slice y va.length cy] 33
    obtain ⟨xr, hxr⟩ : ∃ xr, xr = wr.heap.size := ⟨_, rfl⟩
    rw [← hxr] at H5
    go_upto_region 6 with (first | (refine wpl_load rfl _ _ rfl b0 (o0 + i * 6) (by rfl) [.int .i64 rk, .int .u32 rf, .int .u32 re, .int .u64 rs, .slice x ka.length cx, .slice y va.length cy] 6 rfl HRX bigRec ?_) | fail)
    rw [← hxr]
    clear hxr
    refine wp_world (fun W => St w B _ _ W) H5 ?_
    intro w5 H6
    clear HI H5 HRX
    refine wp_region_gh (Θ := Unit) (fun _ => [(0, 16, (.agg #[.int .i64 rk, .int .u32 rf, .int .u32 re, .int .u64 rs, .slice x ka.length cx, .slice y va.length cy])), (1, 17, (.slice (some ⟨bp, op, none⟩) 1 cp)), (2, 18, (.pointer (some ⟨bp, op, none⟩))), (3, 19, (.pointer (some ⟨bp, op + 3, none⟩))), (4, 20, (.agg #[.int .i64 qk, .int .u32 qf, .int .u32 qe, .int .u64 qs, .slice zx kb.length zc, .slice zy vb.length zd])), (5, 21, (.bool (sameR ⟨rk, rf, re, rs⟩ ⟨qk, qf, qe, qs⟩ ka va kb vb)))]) (fun _ done WW => St w B ([blkA xr [.int .i64 rk, .int .u32 rf, .int .u32 re, .int .u64 rs, .slice x ka.length cx, .slice y va.length cy] 33]) S WW) (by kernel_rfl) (hord_of2 (by kernel_rfl)) (fun _ => by kernel_rfl) (fun _ => by kernel_rfl) (fun _ => by kernel_rfl) ⟨(), H6.drew⟩ ?_ ?_
    · intro _ done zb WW j oq ho hd hdep hcl HA HJ
      have hj : j < 6 := (Array.getElem?_eq_some_iff.1 ho).1
      obtain rfl | rfl | rfl | rfl | rfl | rfl : j = 0 ∨ j = 1 ∨ j = 2 ∨ j = 3 ∨ j = 4 ∨ j = 5 := by omega
      · have HRg : WW.rangeAt xr (0) ([.int .i64 rk, .int .u32 rf, .int .u32 re, .int .u64 rs, .slice x ka.length cx, .slice y va.length cy]) := by
          have HQ := HJ
          (try simp only [hd, cond_true, cond_false] at HQ) <;> exact (St.range HQ 0)
        exact loadG (θ := _) (v := (.agg #[.int .i64 rk, .int .u32 rf, .int .u32 re, .int .u64 rs, .slice x ka.length cx, .slice y va.length cy])) _ ((.tmp 6)) ho (by cases ho; rfl) (by cases ho; rfl) (by simp [HA.ev, HA.tm, lookT, Act.eval]) (bigRec.load (rfl) HRg) (by cases ho; exact fun d hd => by cases hd; simp) HJ
      · exact valG (θ := _) (.slice (some ⟨bp, op, none⟩) 1 cp) ho (by cases ho; rfl) (by cases ho; simp [execOp, go_sem, HA.tm, lookT]) (by cases ho; exact fun d hd => by cases hd; simp) HJ
      · have p1 : done 1 = true := by cases ho; exact hdep ⟨1, .data⟩ (by simp) rfl
        exact valG (θ := _) (.pointer (some ⟨bp, op, none⟩)) ho (by cases ho; rfl) (by cases ho; simp [execOp, go_sem, HA.tm, lookT, p1]) (by cases ho; exact fun d hd => by cases hd; simp) HJ
      · have p2 : done 2 = true := by cases ho; exact hdep ⟨2, .data⟩ (by simp) rfl
        exact valG (θ := _) (.pointer (some ⟨bp, op + 3, none⟩)) ho (by cases ho; rfl) (by cases ho; simp [execOp, go_sem, HA.tm, lookT, p2]) (by cases ho; exact fun d hd => by cases hd; simp) HJ
      · have p3 : done 3 = true := by cases ho; exact hdep ⟨3, .data⟩ (by simp) rfl
        have HRg : WW.rangeAt bp (op + 3) ([.int .i64 qk, .int .u32 qf, .int .u32 qe, .int .u64 qs, .slice zx kb.length zc, .slice zy vb.length zd]) := by
          have HQ := HJ
          (try simp only [hd, cond_true, cond_false] at HQ) <;> exact HPR.out WW _ HQ
        exact loadG (θ := _) (v := (.agg #[.int .i64 qk, .int .u32 qf, .int .u32 qe, .int .u64 qs, .slice zx kb.length zc, .slice zy vb.length zd])) _ ((.tmp 19)) ho (by cases ho; rfl) (by cases ho; rfl) (by simp [HA.ev, HA.tm, lookT, Act.eval, p3]) (bigRec.load (rfl) HRg) (by cases ho; exact fun d hd => by cases hd; simp) HJ
      · have p0 : done 0 = true := by cases ho; exact hdep ⟨0, .data⟩ (by simp) rfl
        have p4 : done 4 = true := by cases ho; exact hdep ⟨4, .data⟩ (by simp) rfl
        exact callG (θ := _) (f := 10) (args := #[.agg #[.int .i64 rk, .int .u32 rf, .int .u32 re, .int .u64 rs, .slice x ka.length cx, .slice y va.length cy], .agg #[.int .i64 qk, .int .u32 qf, .int .u32 qe, .int .u64 qs, .slice zx kb.length zc, .slice zy vb.length zd]]) ho (by cases ho; rfl) (by cases ho; simp [execOp, go_sem, HA.tm, lookT, p0, p4]) (HSA.out.call (L := []) (M := [_]) HJ (imp_app HIM.out)) (by
          rintro e w' ⟨_, _, rfl, ⟨rfl, rfl⟩, HS'⟩
          exact ⟨_, _, rfl, by cases ho; exact fun d hd => by cases hd; simp, .inl rfl, HS'⟩)
    · intro _ done WW hall HJ
      have HE : St w B [blkA xr [.int .i64 rk, .int .u32 rf, .int .u32 re, .int .u64 rs, .slice x ka.length cx, .slice y va.length cy] 33] S WW := St.cast (by simp []) HJ
      clear HJ hall 
      simp only [putAll, Act.put, List.setIfInBounds_toArray, List.set_cons_succ, List.set_cons_zero]
      have H7 := HE
      clear HE H6
      obtain ⟨b, hb⟩ : ∃ b, b = sameR ⟨rk, rf, re, rs⟩ ⟨qk, qf, qe, qs⟩ ka va kb vb := ⟨_, rfl⟩
      rw [← hb]
      cases b with
      | true =>
        go_wp2_with fail
        exact bodyPost_ret (results_tmp rfl _ _ _) rfl (Back.mk (L' := []) ⟨rfl, rfl⟩ (St.pick H7 []))
      | false =>
        have hne : i ≠ i0 := fun e => by rw [HYZ.out e] at hb; cases hb
        have HNE := Lib.hid hne
        clear hne hb
        go_wp2_with fail
        go_roundg (n - (i + 1))
        case measure => omega
        case rel => exact ⟨i + 1, by have := HNE.out; omega, rfl, by go_num, Lib.hid (St.pick H7 [])⟩
end Go.Proofs.Ytjmocjcjiiopnaa
end

section
set_option linter.unusedVariables false
set_option linter.unusedSimpArgs false
namespace Go.Ice
open Go.RowKit
theorem own_len {w : World} {base e size n : Nat} {v : Value} {xs : List Value} (h : w.ownsRow base e size v n xs) : n ≤ maxLen := by
  obtain ⟨a, c, hv, hm⟩ := own_form h
  exact hm
theorem own_part_imp {T : Type} {f : T → List Value} {e size n g c m : Nat} {zs : List T} {z : T} (h0 : 0 < size) (hf : ∀ x ∈ zs, (f x).length = size) (hz : zs[m]? = some z) :
    (ownA e size (.slice (some ⟨g, 0, none⟩) n c) n (zs.flatMap f)).imp (slA size (.slice (some ⟨g, m * size, none⟩) 1 (c - m)) 1 (f z)) := fun F w h => by
  have hK := own_isSlK h.2
  have hmz := (List.getElem?_eq_some_iff.1 hz).1
  have hl := hK.1
  rw [flatMap_len hf] at hl
  have hn : zs.length = n := Nat.eq_of_mul_eq_mul_right h0 hl
  obtain ⟨b, off, cap, hv, h1, h2, h3, h4⟩ := hK.at (by omega)
  cases hv
  have hfz := hf z (List.mem_of_getElem? hz)
  refine ⟨fun b => f z ≠ [] ∧ some g = some b, ⟨fun x => Iff.rfl, h0, by rw [hfz]; omega, .inr ⟨by decide, g, m * size, c - m, rfl, by omega, by omega, h3, fun j hj => ?_⟩⟩, fun b hb => (h.1 b).2 hb.2⟩
  have h5 := flatMap_get hf hz (j := j) (by omega)
  have h6 := (List.getElem?_eq_some_iff.1 (h5.trans (List.getElem?_eq_getElem hj))).1
  have h7 := h4 (m * size + j) h6
  rw [Nat.zero_add] at h7
  rw [h7, h5]
/-- A slice of such elements, from an element on. -/
theorem run_from {P : Program} {t e size : Nat} (ht : P.underlying t = some (.slice e)) (hs : ∀ w, (sizeOf e).run P w = .ok size w) (w : World) (b n c m : Nat) (h1 : m ≤ n) (h2 : n ≤ c) (h3 : m < c) : (Instr.sliceAt t (.slice (some ⟨b, 0, none⟩) n c) (some (.int .i64 (m : Int))) none none).run P w = .ok (.slice (some ⟨b, m * size, none⟩) (n - m) (c - m)) w := by
  have h4 : ¬ c = m := by omega
  simp [Instr.sliceAt, Instr.slice, Instr.sliceBounds, Instr.sliceBound, go_sem, run_underlying ht, hs, h1, h2, h4, Addr.add]
  intro h; exact h.symm
section
variable {Θ : Type} {P : Program} {ops : Array Oper} {Q : Exit → Act → World → Prop} {i : Nat} {o : Oper} {b : Act} {W : World} {tbl : Θ → List (Nat × Nat × Value)} {done : Nat → Bool} {θ : Θ} {J : Θ → World → Prop}
theorem sliceG1 {vx vl v : Value} (t : TypeId) (x l : Operand) (ho : ops[i]? = some o) (hg : Region.wanted o (yielded ops b.tmps) = true) (hop : o.op = .slice t x (some l) none none) (hx : b.eval x = vx) (hl : b.eval l = vl) (hrun : (Instr.sliceAt t vx (some vl) none none).run P W = .ok v W)
    (hm : ∀ d, o.dst = some d → (i, d, v) ∈ tbl θ) (hJ : J θ W) :
    wpOp P ops Q i (fun a' W' => ∃ v θ', a' = b.put o.dst v ∧ (∀ d, o.dst = some d → (i, d, v) ∈ tbl θ') ∧ (θ' = θ ∨ Agree done (tbl θ) (tbl θ')) ∧ J θ' W') b W :=
  valG v ho hg (by unfold execOp; simp only [hop, hx, hl, Option.map_some, Option.map_none, Sem.run_bind, Sem.run_pure, hrun, Result.andThen_ok]) hm hJ
end
end Go.Ice
namespace Go.Proofs.Ytjmocjcjiiopnaa
open Go.RowKit Go.Ice Go.Oct Go.Dsk Go.Ring Go.Lg
theorem run_fromP (w : World) (b n c m : Nat) (h1 : m ≤ n) (h2 : n ≤ c) (h3 : m < c) : (Instr.sliceAt 28 (.slice (some ⟨b, 0, none⟩) n c) (some (.int .i64 (m : Int))) none none).run Try.prog w = .ok (.slice (some ⟨b, m * 9, none⟩) (n - m) (c - m)) w := by
  exact run_from Try.underlying28 (fun w => by kernel_rfl) w b n c m h1 h2 h3
end Go.Proofs.Ytjmocjcjiiopnaa
end
