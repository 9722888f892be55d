/- The walk of the law RingRounds. No condition. -/
import Derived.Deep.CutBlock
import Derived.Deep.CutRange
import Derived.Test.YtlcdadnfcdjglaaRnd
import Derived.Test.YtlcdadnfcdjglaaSeq
import Derived.Test.YtlcdadnfcdjglaaGoesW
set_option linter.unusedVariables false
set_option linter.unusedSimpArgs false
namespace Go.Proofs.Ytlcdadnfcdjglaa
open Go.RowKit Go.Ice Go.Ring Go.ChangeShapes Go.WideShapes Go.Shelf

attribute [local go_sem] Oper.semAt_some
/-- What never panics may be walked under a post that bears no panic. -/
theorem wp_calm {P : Program} {s : Code} {K : Act → World → Prop} {Q' : Exit → Act → World → Prop} {a : Act} {w : World} (h : s.wp P (Exit.then K fun _ _ _ => False) a w) : s.wp P (Exit.then K Q') a w := by
  refine wp_mono h ?_
  intro e a' w' hq
  cases e with
  | normal => exact hq
  | exit id => exact hq.elim
  | goto l => exact hq.elim
  | ret => exact hq.elim
  | panic ch => exact hq.elim
  | outgrown => exact hq.elim
/-- Marks that range statements leave. -/
structure Marks (n₀ : Nat) (ds : List Deferred) (W : World) : Prop where
  all : ∀ d ∈ ds, ∃ D, d = { target := .collected D, args := #[] } ∧ n₀ ≤ D ∧ W.heap[D]? = some (.deferred (some []))
  nd : ds.Pairwise (· ≠ ·)
theorem Marks.nil (n₀ : Nat) (W : World) : Marks n₀ [] W := ⟨(fun d hd => by cases hd), List.Pairwise.nil⟩
theorem Marks.step {n₀ : Nat} {ds : List Deferred} {W W' : World} (h : Marks n₀ ds W) (hb : ∀ D : Nat, W.heap[D]? = some (Obj.deferred (some [])) → W'.heap[D]? = some (Obj.deferred (some []))) : Marks n₀ ds W' :=
  ⟨fun d hd => by obtain ⟨D, h1, h2, h3⟩ := h.all d hd; exact ⟨D, h1, h2, hb D h3⟩, h.nd⟩
theorem Marks.below {n₀ : Nat} {ds : List Deferred} {W W' : World} (h : Marks n₀ ds W) (hb : Below W.heap.size W W') : Marks n₀ ds W' :=
  h.step fun D hD => (hb.block D (Array.getElem?_eq_some_iff.1 hD).1).trans hD
theorem Marks.leave {F : Fence} {n : Nat} {P : Program} {fn : Func} {tmps : Array Value} {R : Ending → World → Prop} {n₀ : Nat} : ∀ (ds : List Deferred) (W : World), Marks n₀ ds W → n₀ ≤ W.heap.size →
    (∀ W', Below n₀ W W' → CK (fun _ => False) W W' → LeavesInM F n P fn tmps R [] .returning W') → LeavesInM F n P fn tmps R ds .returning W := by
  intro ds
  induction ds with
  | nil => exact fun W _ _ h => h W (Below.refl _ _) (CK.refl _ _)
  | cons d ds ih =>
    intro W hm hn h
    obtain ⟨D, rfl, h2, h3⟩ := hm.all d (.head _)
    have hlt := (Array.getElem?_eq_some_iff.1 h3).1
    have hb : Below n₀ W (W.putObj D (.deferred none)) := (Below.refl n₀ W).grown (grownBy_putObj' W D _) hn (fun k e => by cases e; exact h2)
    have hc : CK (fun _ => False) W (W.putObj D (.deferred none)) := CK.put (n₀ := 0) W D _ _ (Nat.zero_le _) h3 rfl rfl
    refine ⟨by simp, .inl ⟨D, _, rfl, run_takeDeferred h3, ih _ ⟨fun d hd => ?_, (List.pairwise_cons.1 hm.nd).2⟩ (Nat.le_trans hn hb.size) fun W' h4 h5 => h W' (hb.trans h4) (hc.trans h5)⟩⟩
    obtain ⟨D', rfl, k2, k3⟩ := hm.all d (.tail _ hd)
    refine ⟨D', rfl, k2, ?_⟩
    have hne : D' ≠ D := fun e => (List.pairwise_cons.1 hm.nd).1 _ hd (by rw [e])
    rw [World.putObj_heap_other hne]
    exact k3
theorem Marks.cons {n₀ : Nat} {ds : List Deferred} {W : World} {D : Nat} (h : Marks n₀ ds W) (hD : n₀ ≤ D) (hk : W.heap[D]? = some (.deferred (some []))) (hn : ∀ d ∈ ds, d ≠ { target := .collected D, args := #[] }) : Marks n₀ ({ target := .collected D, args := #[] } :: ds) W :=
  ⟨fun d hd => by
    rcases List.mem_cons.1 hd with rfl | hd
    · exact ⟨D, rfl, hD, hk⟩
    · exact h.all d hd, List.pairwise_cons.2 ⟨fun d hd => (hn d hd).symm, h.nd⟩⟩
theorem Marks.lt {n₀ : Nat} {ds : List Deferred} {W : World} (h : Marks n₀ ds W) {D : Nat} (hD : W.heap.size ≤ D) : ∀ d ∈ ds, d ≠ { target := .collected D, args := #[] } := fun d hd e => by
  obtain ⟨D', h1, h2, h3⟩ := h.all d hd
  rw [e] at h1
  injection h1 with h1 _
  injection h1 with h1
  subst h1
  have := (Array.getElem?_eq_some_iff.1 h3).1
  omega

theorem Marks.set {n₀ : Nat} {ds : List Deferred} {W : World} (h : Marks n₀ ds W) {P : Nat} {cs : Array Value} {e : TypeId} (hP : W.heap[P]? = some (.cells cs e (0, 0))) (k : Nat) (u : Value) : Marks n₀ ds (W.setCell ⟨P, k, none⟩ u) :=
  h.step fun D hD => (Below.heap_setCell W ⟨P, k, none⟩ u D (fun e' => by
    have e' : D = P := e'
    subst e'
    rw [hP] at hD
    cases hD)).trans hD
theorem Marks.lay {n₀ : Nat} {ds : List Deferred} {W : World} (h : Marks n₀ ds W) {P : Nat} {cs : Array Value} {e : TypeId} (hP : W.heap[P]? = some (.cells cs e (0, 0))) (u u' : Value) : Marks n₀ ds ((W.setCell ⟨P, 0, none⟩ u).setCell ⟨P, 1, none⟩ u') :=
  (h.set hP 0 u).set (set_heap hP 0 u) 1 u'

theorem openF_zero {sec : Int} {l : List Seg} {g : Nat} (h : (openF sec l g).1 = 0) : ∃ l2 i, openF sec l g = (0, some (l2, i)) := by
  unfold openF at h ⊢
  by_cases h1 : checkB sec l = false
  · rw [if_pos h1] at h; simp at h
  · rw [if_neg h1] at h ⊢
    by_cases h2 : openedP l ≠ none
    · rw [if_pos h2] at h; simp at h
    · rw [if_neg h2] at h ⊢
      by_cases h3 : g ≤ lastGen l
      · rw [if_pos h3] at h; simp at h
      · rw [if_neg h3] at h ⊢
        cases hn : nextP l with
        | none => rw [hn] at h; simp at h
        | some i => exact ⟨_, _, rfl⟩
theorem useF_zero {sec : Int} {l : List Seg} {n : Int} (h : (useF sec l n).1 = 0) : ∃ l2, useF sec l n = (0, some l2) := by
  unfold useF at h ⊢
  by_cases h1 : checkB sec l = false
  · rw [if_pos h1] at h; simp at h
  · rw [if_neg h1] at h ⊢
    cases ho : openedP l with
    | none => rw [ho] at h; simp at h
    | some i =>
      rw [ho] at h
      simp only at h ⊢
      by_cases h2 : n < 0
      · rw [if_pos h2] at h; simp at h
      · rw [if_neg h2] at h ⊢
        by_cases h3 : leftP sec l < n
        · rw [if_pos h3] at h; simp at h
        · rw [if_neg h3]; exact ⟨_, rfl⟩
theorem sealF_zero {sec : Int} {l : List Seg} (h : (sealF sec l).1 = 0) : ∃ l2, sealF sec l = (0, some l2) := by
  unfold sealF at h ⊢
  by_cases h1 : checkB sec l = false
  · rw [if_pos h1] at h; simp at h
  · rw [if_neg h1] at h ⊢
    cases ho : openedP l with
    | none => rw [ho] at h; simp at h
    | some i => exact ⟨_, rfl⟩
theorem freeF_zero {sec : Int} {l : List Seg} {n : Int} (h : (freeF sec l n).1 = 0) : ∃ l2, freeF sec l n = (0, some l2) := by
  unfold freeF at h ⊢
  by_cases h1 : checkB sec l = false
  · rw [if_pos h1] at h; simp at h
  · rw [if_neg h1] at h ⊢
    by_cases h2 : n < 0 ∨ (l.length : Int) ≤ n
    · rw [if_pos h2] at h; simp at h
    · rw [if_neg h2] at h ⊢
      by_cases h3 : (at' l n.toNat).st ≠ 2
      · rw [if_pos h3] at h; simp at h
      · rw [if_neg h3]; exact ⟨_, rfl⟩

/-- The ring at hand, and the marks. -/
structure RdS (w : World) (n P G : Nat) (v : Value) (l : List Seg) (ds : List Deferred) (W : World) : Prop where
  gs : GS w 24 P v l W
  any : Any 24 G l
  len : l.length = n
  mks : Marks w.heap.size ds W
theorem RdS.step {w : World} {n P G : Nat} {v : Value} {l : List Seg} {ds : List Deferred} {W W' : World} (h : RdS w n P G v l ds W) (hb : Below W.heap.size W W') : RdS w n P G v l ds W' :=
  ⟨h.gs.step hb, h.any, h.len, h.mks.below hb⟩
/-- Behind the switch: r may be another ring, or none; before is in block C. -/
structure RdT (w : World) (n P C G : Nat) (E : Int) (v : Value) (l : List Seg) (ds : List Deferred) (W : World) (sec' : Int) (v' : Value) (l' : List Seg) : Prop where
  kp : Kp w [(C, .cells #[.int .i64 24, v] 25), (P, .cells #[.int .i64 sec', v'] 25)] W
  own : OwnSegs W w.heap.size v' l'
  ap : ∀ k, v'.ownBlock = some k → k ≠ P
  old : OwnSegs W w.heap.size v l
  oap : ∀ k, v.ownBlock = some k → k ≠ P
  hP : w.heap.size ≤ P
  mks : Marks w.heap.size ds W
  ok : E = 0 → sec' = 24 ∧ Any 24 G l' ∧ l'.length = n
/-- r is laid anew, behind a call that has answered. -/
theorem RdT.lay {w : World} {n P C G : Nat} {E : Int} {v : Value} {l : List Seg} {ds : List Deferred} {W : World} {sec' : Int} {v' : Value} {l' : List Seg} (hk : Kp w [(C, .cells #[.int .i64 24, v] 25), (P, .cells #[.int .i64 24, v] 25)] W) (hCP : C ≠ P) (hPw : w.heap.size ≤ P)
    (ho : OwnSegs W w.heap.size v l) (hap : ∀ k, v.ownBlock = some k → k ≠ P) (hmk : Marks w.heap.size ds W) (ho' : OwnSegs W (P + 1) v' l') (hok : E = 0 → sec' = 24 ∧ Any 24 G l' ∧ l'.length = n) :
    RdT w n P C G E v l ds ((W.setCell ⟨P, 0, none⟩ (.int .i64 sec')).setCell ⟨P, 1, none⟩ v') sec' v' l' := by
  have hf := frm_two W P (.int .i64 sec') v'
  refine ⟨⟨(hk.below.setCell hPw _).setCell hPw _, fun p hp => ?_⟩, own_base (own_set (own_set ho' (Nat.lt_succ_self P) _) (Nat.lt_succ_self P) _) (by omega), fun k hk' => by have := (ho'.lt k hk').1; omega, own_far ho hf hap, hap, hPw, hmk.lay hk.b1 _ _, hok⟩
  simp only [List.mem_cons, List.mem_nil_iff, or_false] at hp
  rcases hp with rfl | rfl
  · exact (hf.block C (blk_lt hk.b0) hCP).trans hk.b0
  · exact set_two hk.b1 rfl _ _

theorem open_any {G g n : Nat} {l : List Seg} (h : Any 24 G l) (hl : l.length = n) (W : World) (v : Value) (hs : SegsAt W v l) : ∃ (E y x : Int) (l' : List Seg), (E = 0 → x = 24 ∧ Any 24 g l' ∧ l'.length = n) ∧
    Calls Try.prog 31 #[.agg #[.int .i64 24, v], .int .u64 g] W fun e w' => ∃ u, e = .returned (.tuple #[.agg #[.int .i64 x, u], .int .i64 y, .int .i64 E]) ∧ OwnSegs w' W.heap.size u l' ∧ Below W.heap.size W w' :=
  ⟨_, _, _, _, fun hE => by
    obtain ⟨l2, i, h2⟩ := openF_zero hE
    obtain ⟨h3, h4⟩ := h.open h2
    rw [h2]
    exact ⟨rfl, h3, h4.trans hl⟩, openg W 24 v l g hs⟩
theorem use_any {G n : Nat} {l : List Seg} (h : Any 24 G l) (hl : l.length = n) (m : Int) (W : World) (v : Value) (hs : SegsAt W v l) : ∃ (E x : Int) (l' : List Seg), (E = 0 → x = 24 ∧ Any 24 G l' ∧ l'.length = n) ∧
    Calls Try.prog 34 #[.agg #[.int .i64 24, v], .int .i64 m] W fun e w' => ∃ u, e = .returned (.tuple #[.agg #[.int .i64 x, u], .int .i64 E]) ∧ OwnSegs w' W.heap.size u l' ∧ Below W.heap.size W w' :=
  ⟨_, _, _, fun hE => by
    obtain ⟨l2, h2⟩ := useF_zero hE
    obtain ⟨h3, h4⟩ := h.use h2
    rw [h2]
    exact ⟨rfl, h3, h4.trans hl⟩, used W 24 v l m hs⟩
theorem seal_any {G n : Nat} {l : List Seg} (h : Any 24 G l) (hl : l.length = n) (W : World) (v : Value) (hs : SegsAt W v l) : ∃ (E x : Int) (l' : List Seg), (E = 0 → x = 24 ∧ Any 24 G l' ∧ l'.length = n) ∧
    Calls Try.prog 36 #[.agg #[.int .i64 24, v]] W fun e w' => ∃ u, e = .returned (.tuple #[.agg #[.int .i64 x, u], .int .i64 E]) ∧ OwnSegs w' W.heap.size u l' ∧ Below W.heap.size W w' :=
  ⟨_, _, _, fun hE => by
    obtain ⟨l2, h2⟩ := sealF_zero hE
    obtain ⟨h3, h4⟩ := h.seal h2
    rw [h2]
    exact ⟨rfl, h3, h4.trans hl⟩, seald W 24 v l hs⟩
theorem free_any {G n i : Nat} {l : List Seg} (h : Any 24 G l) (hl : l.length = n) (hi : oldestP l = some i) (W : World) (v : Value) (hs : SegsAt W v l) : ∃ (E x : Int) (l' : List Seg), (E = 0 → x = 24 ∧ Any 24 G l' ∧ l'.length = n) ∧
    Calls Try.prog 38 #[.agg #[.int .i64 24, v], .int .i64 i] W fun e w' => ∃ u, e = .returned (.tuple #[.agg #[.int .i64 x, u], .int .i64 E]) ∧ OwnSegs w' W.heap.size u l' ∧ Below W.heap.size W w' :=
  ⟨_, _, _, fun hE => by
    obtain ⟨l2, h2⟩ := freeF_zero hE
    obtain ⟨h3, h4⟩ := h.free hi h2
    rw [h2]
    exact ⟨rfl, h3, h4.trans hl⟩, freed W 24 v l i hs⟩

set_option maxRecDepth 100000 in
set_option maxHeartbeats 20000000 in
theorem ringRounds (n0 : Int) (a : Option Addr) (len cap : Nat) (bs : Nat → Nat) (w : World) (hv : RowAt w 1 (.slice a len cap) len fun i j => .int .u8 (bs i)) (hbs : ∀ i, i < len → bs i < 256) :
    Calls Try.prog 8 #[.int .i64 n0, .slice a len cap] w fun e w' => e = .returned (.bool true) ∧ Below w.heap.size w w' := by
  have HWK := Lib.hid (wakes w)
  have HV := Lib.hid hv
  have HBS := Lib.hid hbs
  have hmx : len ≤ cap ∧ len ≤ maxLen := by
    rcases hv with ⟨rfl, hh | ⟨b, c, hh⟩⟩ | ⟨_, b, off, c, hh, h1, h2, _⟩
    · exact ⟨Nat.zero_le _, Nat.zero_le _⟩
    · exact ⟨Nat.zero_le _, Nat.zero_le _⟩
    · injection hh with _ _ hh; subst hh; exact ⟨h1, by omega⟩
  obtain ⟨hlc, hmx⟩ := hmx
  unfold maxLen at hmx
  clear hv hbs
  refine (callsIn_wide (n := 5)).1 ?_
  refine callsIn_of_wp_marks Try.func8 rfl trivial ?_ rfl
  simp only [Try.ntmps8, List.size_toArray, List.length_cons, List.length_nil, Nat.reduceAdd, Nat.reduceSub, Array.replicate_succ, Array.replicate_zero, List.push_toArray, List.append_toArray, List.nil_append, List.cons_append]
  refine wpIn_wide.2 ?_
  go_wp2_with fail
  refine HWK.out.mono ?_
  rintro e w1 ⟨rfl, hb⟩
  have HK := Lib.hid ((Kp.nil w).step hb)
  clear hb HWK
  obtain ⟨n, hnn, hn4⟩ := sized_n n0
  have HH := Lib.hid hn4
  have HN := Lib.hid (new w1 n 24)
  rw [show sizedI n 24 = true from by unfold sizedI; simp; omega] at HN
  simp only [if_true, Int.toNat_natCast] at HN
  unfold ringV at HN
  rw [← hnn] at HN
  have HNN := Lib.hid hnn
  clear hn4 hnn
  go_wp2_with fail
  refine HN.out.mono ?_
  rintro e w2 ⟨u, rfl, ho, hb⟩
  obtain ⟨ua, un, uc, rfl⟩ := own_sl ho
  have HK2 := Lib.hid (HK.out.step hb)
  have HO := Lib.hid (own_base ho HK.out.below.size)
  clear ho hb HN HK
  go_upto_region 4 with fail
  obtain ⟨P, hP⟩ : ∃ P, P = w2.heap.size := ⟨_, rfl⟩
  obtain ⟨Wp, hWp⟩ : ∃ Wp, Wp = w2.alloc (.cells #[.int .i64 24, .slice ua un uc] 25) := ⟨_, rfl⟩
  have HS : Hid (GS w 24 P (.slice ua un uc) (List.replicate n zero) Wp) := by
    show GS _ _ _ _ _ _
    rw [hWp, hP]; exact GS.new HK2.out HO.out
  have HA : Hid (Any 24 0 (List.replicate n zero)) := Any.new (by have := HH.out; unfold sizedB; simp; omega)
  rw [← hP, ← hWp]
  clear hP hWp HK2 HO
  obtain ⟨M, hM⟩ : ∃ M : Nat, (if (300 : Int) < len then (300 : Int) else len) = (M : Int) := ⟨(if (300 : Int) < len then (300 : Int) else len).toNat, by split <;> omega⟩
  obtain ⟨hM1, hM2⟩ : M ≤ len ∧ M ≤ 300 := by split at hM <;> omega
  have HM := Lib.hid hM
  have HMS : Hid (M ≤ len) := (hM1 : M ≤ len)
  have HM3 : Hid (M ≤ 300) := (hM2 : M ≤ 300)
  have hdec : 0 ≤ M := Nat.zero_le _
  clear hM
  go_upto_region 7 with fail
  go_cut [31, 32, 33] from 27 (fun s31 s32 s33 wc => s31 = .slice a M cap ∧ s32 = .int .i64 M ∧ s33 = .int .i64 0 ∧ wc = Wp)
  case first =>
    go_wp2_with fail
    all_goals
      go_meet
      case rel =>
        have hm := HM.out
        simp only [Value.slice.injEq, Value.int.injEq, true_and, and_true]
        split at hm <;> omega
  case rest =>
    obtain ⟨rfl, rfl, rfl, rfl⟩ := hcut
    go_wp2_with fail
    refine wp_loop_ghost_k (fun g a' W => ∃ (i G : Nat) (v : Value) (l : List Seg) (ds : List Deferred), ∃ z9 z10 z11 z12 z13 z34 z35 z36 z37 z38 z39 z40 z41 z42 z43 z44 z45 z46 z47 z48 z49 z50 z51 z52 z53 z54 z55 z56 z57 z58 z59 z60 z61 z62 z63 z64 z65 z66 z67 z68 z69 z70 z71 z72 z73 z74 z75 z76 z77 z78 z79 z80 z81 z82 z83 z84 z85 z86 z87 z88 z89 z90 z91 z92 z93 z94 z95 z96 z97 z98 z99 z100 z101 z102 z103 z104 z105 z106 z107 z108 z109 z110 z111 z112 : Value, (g = M - i ∧ i ≤ M ∧ G ≤ 64 * i ∧ Hid (RdS w n P G v l ds W)) ∧ a' = { tmps := #[.int .i64 n0, .slice a len cap, undef, undef, .bool false, .pointer (some ⟨P, 0, none⟩), .int .i64 0, .int .u64 (G : Nat), undef, z9, z10, z11, z12, z13, .bool true, .bool false, .tuple #[.agg #[.int .i64 24, .slice ua un uc], .int .i64 0], .int .i64 n0, .int .u64 (IntKind.u64.wrap n0), .int .u64 ((IntKind.u64.wrap n0).tmod 13), .int .i64 (wrap64 ((IntKind.u64.wrap n0).tmod 13)), .int .i64 (wrap64 (4 + wrap64 ((IntKind.u64.wrap n0).tmod 13))), .tuple #[.agg #[.int .i64 24, .slice ua un uc], .int .i64 0], .agg #[.int .i64 24, .slice ua un uc], .int .i64 0, .int .i64 0, .bool false, u27, u28, u29, u30, .slice a M cap, .int .i64 M, .int .i64 (i : Nat), z34, z35, z36, z37, z38, z39, z40, z41, z42, z43, z44, z45, z46, z47, z48, z49, z50, z51, z52, z53, z54, z55, z56, z57, z58, z59, z60, z61, z62, z63, z64, z65, z66, z67, z68, z69, z70, z71, z72, z73, z74, z75, z76, z77, z78, z79, z80, z81, z82, z83, z84, z85, z86, z87, z88, z89, z90, z91, z92, z93, z94, z95, z96, z97, z98, z99, z100, z101, z102, z103, z104, z105, z106, z107, z108, z109, z110, z111, z112], defers := ds }) M ?start ?round
    case start =>
      have HR : Hid (RdS w n P 0 (.slice ua un uc) (List.replicate n zero) [] wc) := ⟨HS.out, HA.out, List.length_replicate, Marks.nil _ _⟩
      refine ⟨0, 0, .slice ua un uc, List.replicate n zero, [], ?_⟩
      (repeat apply Exists.intro)
      refine ⟨?_, rfl⟩
      exact ⟨rfl, Nat.zero_le _, Nat.le_refl _, HR⟩
    case round =>
      intro gk a' wr hinv
      obtain ⟨i, G, v, l, ds, hinv⟩ := hinv
      obtain ⟨z9, hinv⟩ := hinv
      obtain ⟨z10, hinv⟩ := hinv
      obtain ⟨z11, hinv⟩ := hinv
      obtain ⟨z12, hinv⟩ := hinv
      obtain ⟨z13, hinv⟩ := hinv
      obtain ⟨z34, hinv⟩ := hinv
      obtain ⟨z35, hinv⟩ := hinv
      obtain ⟨z36, hinv⟩ := hinv
      obtain ⟨z37, hinv⟩ := hinv
      obtain ⟨z38, hinv⟩ := hinv
      obtain ⟨z39, hinv⟩ := hinv
      obtain ⟨z40, hinv⟩ := hinv
      obtain ⟨z41, hinv⟩ := hinv
      obtain ⟨z42, hinv⟩ := hinv
      obtain ⟨z43, hinv⟩ := hinv
      obtain ⟨z44, hinv⟩ := hinv
      obtain ⟨z45, hinv⟩ := hinv
      obtain ⟨z46, hinv⟩ := hinv
      obtain ⟨z47, hinv⟩ := hinv
      obtain ⟨z48, hinv⟩ := hinv
      obtain ⟨z49, hinv⟩ := hinv
      obtain ⟨z50, hinv⟩ := hinv
      obtain ⟨z51, hinv⟩ := hinv
      obtain ⟨z52, hinv⟩ := hinv
      obtain ⟨z53, hinv⟩ := hinv
      obtain ⟨z54, hinv⟩ := hinv
      obtain ⟨z55, hinv⟩ := hinv
      obtain ⟨z56, hinv⟩ := hinv
      obtain ⟨z57, hinv⟩ := hinv
      obtain ⟨z58, hinv⟩ := hinv
      obtain ⟨z59, hinv⟩ := hinv
      obtain ⟨z60, hinv⟩ := hinv
      obtain ⟨z61, hinv⟩ := hinv
      obtain ⟨z62, hinv⟩ := hinv
      obtain ⟨z63, hinv⟩ := hinv
      obtain ⟨z64, hinv⟩ := hinv
      obtain ⟨z65, hinv⟩ := hinv
      obtain ⟨z66, hinv⟩ := hinv
      obtain ⟨z67, hinv⟩ := hinv
      obtain ⟨z68, hinv⟩ := hinv
      obtain ⟨z69, hinv⟩ := hinv
      obtain ⟨z70, hinv⟩ := hinv
      obtain ⟨z71, hinv⟩ := hinv
      obtain ⟨z72, hinv⟩ := hinv
      obtain ⟨z73, hinv⟩ := hinv
      obtain ⟨z74, hinv⟩ := hinv
      obtain ⟨z75, hinv⟩ := hinv
      obtain ⟨z76, hinv⟩ := hinv
      obtain ⟨z77, hinv⟩ := hinv
      obtain ⟨z78, hinv⟩ := hinv
      obtain ⟨z79, hinv⟩ := hinv
      obtain ⟨z80, hinv⟩ := hinv
      obtain ⟨z81, hinv⟩ := hinv
      obtain ⟨z82, hinv⟩ := hinv
      obtain ⟨z83, hinv⟩ := hinv
      obtain ⟨z84, hinv⟩ := hinv
      obtain ⟨z85, hinv⟩ := hinv
      obtain ⟨z86, hinv⟩ := hinv
      obtain ⟨z87, hinv⟩ := hinv
      obtain ⟨z88, hinv⟩ := hinv
      obtain ⟨z89, hinv⟩ := hinv
      obtain ⟨z90, hinv⟩ := hinv
      obtain ⟨z91, hinv⟩ := hinv
      obtain ⟨z92, hinv⟩ := hinv
      obtain ⟨z93, hinv⟩ := hinv
      obtain ⟨z94, hinv⟩ := hinv
      obtain ⟨z95, hinv⟩ := hinv
      obtain ⟨z96, hinv⟩ := hinv
      obtain ⟨z97, hinv⟩ := hinv
      obtain ⟨z98, hinv⟩ := hinv
      obtain ⟨z99, hinv⟩ := hinv
      obtain ⟨z100, hinv⟩ := hinv
      obtain ⟨z101, hinv⟩ := hinv
      obtain ⟨z102, hinv⟩ := hinv
      obtain ⟨z103, hinv⟩ := hinv
      obtain ⟨z104, hinv⟩ := hinv
      obtain ⟨z105, hinv⟩ := hinv
      obtain ⟨z106, hinv⟩ := hinv
      obtain ⟨z107, hinv⟩ := hinv
      obtain ⟨z108, hinv⟩ := hinv
      obtain ⟨z109, hinv⟩ := hinv
      obtain ⟨z110, hinv⟩ := hinv
      obtain ⟨z111, hinv⟩ := hinv
      obtain ⟨z112, hinv⟩ := hinv
      obtain ⟨⟨hgk, hi, hG, HR⟩, ha⟩ := hinv
      subst hgk
      subst ha
      try dsimp only
      intro J K hJ hK
      clear HS HA
      by_cases hlt : i < M
      · obtain ⟨b, off, cap', hsl, hb1, hb2, hb3, hc⟩ := HV.out.at (by omega)
        obtain ⟨rfl, rfl⟩ : a = some ⟨b, off, none⟩ ∧ cap = cap' := by injection hsl with x1 x2 x3; exact ⟨x1, x3⟩
        have hc0 := hc i (by omega) 0 (by decide)
        rw [← HR.out.gs.kp.below.cell (p := ⟨b, _, none⟩) hb3] at hc0
        simp only [Nat.mul_one, Nat.add_zero] at hc0
        have hbi := HBS.out i (by omega)
        generalize bs i = c at hc0 hbi
        obtain ⟨va, vn, vc, rfl⟩ := own_sl HR.out.gs.own
        have p0 := HR.out.gs.c0
        have p1 := HR.out.gs.c1
        clear hc hsl
        obtain ⟨r4, hr4⟩ : ∃ r4 : Nat, (c : Int) % 4 = (r4 : Int) := ⟨c % 4, by omega⟩
        obtain ⟨q4, hq4⟩ : ∃ q4 : Nat, (c : Int) / 4 = (q4 : Int) := ⟨c / 4, by omega⟩
        have HQ4 : Hid (r4 < 4 ∧ q4 < 64) := ⟨by omega, by omega⟩
        go_upto_block 2 with fail
        obtain ⟨C, hC⟩ : ∃ C, C = wr.heap.size := ⟨_, rfl⟩
        obtain ⟨Wc, hWc⟩ : ∃ Wc, Wc = wr.alloc (.cells #[.int .i64 24, .slice va vn vc] 25) := ⟨_, rfl⟩
        have HKC : Hid (Kp w [(C, .cells #[.int .i64 24, .slice va vn vc] 25), (P, .cells #[.int .i64 24, .slice va vn vc] 25)] Wc) := by show Kp _ _ _; rw [hWc, hC]; exact HR.out.gs.kp.alloc _
        have HOC : Hid (OwnSegs Wc w.heap.size (.slice va vn vc) l) := by show World.ownsRow _ _ _ _ _ _ _; rw [hWc]; exact HR.out.gs.own.alloc _
        have HMC : Hid (Marks w.heap.size ds Wc) := by show Marks _ _ _; rw [hWc]; exact HR.out.mks.below ((Below.refl _ _).alloc (Nat.le_refl _) _)
        have HCP : Hid (C ≠ P ∧ w.heap.size ≤ P ∧ ∀ k, (Value.slice va vn vc).ownBlock = some k → k ≠ P) := ⟨by rw [hC]; have := HR.out.gs.plt; omega, HR.out.gs.hP, HR.out.gs.ap⟩
        have HAN : Hid (Any 24 G l ∧ l.length = n) := ⟨HR.out.any, HR.out.len⟩
        rw [← hC, ← hWc]
        clear hC hWc p0 p1 hc0 HR
        rw [hr4]
        have HR4 := Lib.hid hr4
        have HQQ := Lib.hid hq4
        clear hr4 hq4
        go_cut [7, 11, 12] from 39 to 84 (fun s7 s11 s12 W => ∃ (G' : Nat) (E sec' : Int) (v' : Value) (l' : List Seg), s7 = .int .u64 (G' : Nat) ∧ s11 = .int .i64 E ∧ G ≤ G' ∧ G' ≤ 64 * (i + 1) ∧ Hid (RdT w n P C G' E (.slice va vn vc) l ds W sec' v' l'))
        case first =>
          have p0 : Wc.cell? ⟨P, 0, none⟩ = some (.int .i64 24) := blk_cell HKC.out.b1 0
          have p1 : Wc.cell? ⟨P, 1, none⟩ = some (.slice va vn vc) := blk_cell HKC.out.b1 1
          have r4c : r4 = 0 ∨ r4 = 1 ∨ r4 = 2 ∨ r4 = 3 := by have := HQ4.out; omega
          rcases r4c with rfl | rfl | rfl | rfl
          · have hgw : (G : Int) + ((c : Int) / 4 + 1) = ((G + (q4 + 1) : Nat) : Int) := by rw [HQQ.out]; omega
            have HGW := Lib.hid hgw
            obtain ⟨E, y, x, l', hok, hcl⟩ := open_any (g := G + (q4 + 1)) HAN.out.1 HAN.out.2 Wc (.slice va vn vc) HOC.out.segs
            have HCL := Lib.hid hcl
            have HOK := Lib.hid hok
            obtain ⟨_, hq64⟩ := HQ4.out
            clear hgw hcl hok
            go_upto_region 19 with fail
            rw [HGW.out]
            go_wp2_with fail
            refine HCL.out.mono ?_
            rintro e Wd ⟨u, rfl, ho, hb⟩
            obtain ⟨xa, xn, xc, rfl⟩ := own_sl ho
            have HTT := Lib.hid (RdT.lay (w := w) (E := E) (G := G + (q4 + 1)) (n := n) (ds := ds) (sec' := x) (HKC.out.step hb) HCP.out.1 HCP.out.2.1 (own_below HOC.out hb) HCP.out.2.2 (HMC.out.below hb) (own_base ho (blk_lt HKC.out.b1)) HOK.out)
            have p0 : Wd.cell? ⟨P, 0, none⟩ = some (.int .i64 24) := blk_cell (HKC.out.step hb).b1 0
            have p1 : Wd.cell? ⟨P, 1, none⟩ = some (.slice va vn vc) := blk_cell (HKC.out.step hb).b1 1
            have fp := fun r => blk_frozen (HKC.out.step hb).b1 r
            clear ho hb HCL
            go_wp2_with fail
            go_meet
            case rel => exact ⟨G + (q4 + 1), E, x, _, l', rfl, rfl, by omega, by omega, HTT⟩
          · obtain ⟨E, x, l', hok, hcl⟩ := use_any HAN.out.1 HAN.out.2 ((c : Int) / 4) Wc (.slice va vn vc) HOC.out.segs
            have HCL := Lib.hid hcl
            have HOK := Lib.hid hok
            clear hcl hok
            go_wp2_with fail
            refine HCL.out.mono ?_
            rintro e Wd ⟨u, rfl, ho, hb⟩
            obtain ⟨xa, xn, xc, rfl⟩ := own_sl ho
            have HTT := Lib.hid (RdT.lay (w := w) (E := E) (G := G) (n := n) (ds := ds) (sec' := x) (HKC.out.step hb) HCP.out.1 HCP.out.2.1 (own_below HOC.out hb) HCP.out.2.2 (HMC.out.below hb) (own_base ho (blk_lt HKC.out.b1)) HOK.out)
            have p0 : Wd.cell? ⟨P, 0, none⟩ = some (.int .i64 24) := blk_cell (HKC.out.step hb).b1 0
            have p1 : Wd.cell? ⟨P, 1, none⟩ = some (.slice va vn vc) := blk_cell (HKC.out.step hb).b1 1
            have fp := fun r => blk_frozen (HKC.out.step hb).b1 r
            clear ho hb HCL
            go_wp2_with fail
            go_meet
            case rel => exact ⟨G, E, x, _, l', rfl, rfl, by omega, by omega, HTT⟩
          · obtain ⟨E, x, l', hok, hcl⟩ := seal_any HAN.out.1 HAN.out.2 Wc (.slice va vn vc) HOC.out.segs
            have HCL := Lib.hid hcl
            have HOK := Lib.hid hok
            clear hcl hok
            go_wp2_with fail
            refine HCL.out.mono ?_
            rintro e Wd ⟨u, rfl, ho, hb⟩
            obtain ⟨xa, xn, xc, rfl⟩ := own_sl ho
            have HTT := Lib.hid (RdT.lay (w := w) (E := E) (G := G) (n := n) (ds := ds) (sec' := x) (HKC.out.step hb) HCP.out.1 HCP.out.2.1 (own_below HOC.out hb) HCP.out.2.2 (HMC.out.below hb) (own_base ho (blk_lt HKC.out.b1)) HOK.out)
            have p0 : Wd.cell? ⟨P, 0, none⟩ = some (.int .i64 24) := blk_cell (HKC.out.step hb).b1 0
            have p1 : Wd.cell? ⟨P, 1, none⟩ = some (.slice va vn vc) := blk_cell (HKC.out.step hb).b1 1
            have fp := fun r => blk_frozen (HKC.out.step hb).b1 r
            clear ho hb HCL
            go_wp2_with fail
            go_meet
            case rel => exact ⟨G, E, x, _, l', rfl, rfl, by omega, by omega, HTT⟩
          · have HOL := Lib.hid (oldst Wc 24 (.slice va vn vc) l HOC.out.segs)
            rw [HAN.out.1.check] at HOL
            unfold ringV seekV at HOL
            simp only [if_true] at HOL
            cases hol : oldestP l with
            | none =>
              rw [hol] at HOL
              simp only at HOL
              clear hol
              go_wp2_with fail
              refine HOL.out.mono ?_
              rintro e Wd ⟨rfl, hb⟩
              have HTT : Hid (RdT w n P C G 4 (.slice va vn vc) l ds Wd 24 (.slice va vn vc) l) := ⟨HKC.out.step hb, own_below HOC.out hb, HCP.out.2.2, own_below HOC.out hb, HCP.out.2.2, HCP.out.2.1, HMC.out.below hb, fun h => by cases h⟩
              clear hb p0 p1 HOL
              go_wp2_with fail
              go_meet
              case rel => exact ⟨G, 4, 24, _, l, rfl, rfl, by omega, by omega, HTT⟩
            | some ix =>
              rw [hol] at HOL
              simp only at HOL
              have HOLE := Lib.hid hol
              clear hol
              go_wp2_with fail
              refine HOL.out.mono ?_
              rintro e Wd ⟨rfl, hb⟩
              have HKD := Lib.hid (HKC.out.step hb)
              have HOD : Hid (OwnSegs Wd w.heap.size (.slice va vn vc) l) := own_below HOC.out hb
              have HMD := Lib.hid (HMC.out.below hb)
              obtain ⟨E, x, l', hok, hcl⟩ := free_any HAN.out.1 HAN.out.2 HOLE.out Wd (.slice va vn vc) HOD.out.segs
              have HCL := Lib.hid hcl
              have HOK := Lib.hid hok
              clear hcl hok hb p0 p1 HOL HKC HOC HMC
              have p0 : Wd.cell? ⟨P, 0, none⟩ = some (.int .i64 24) := blk_cell HKD.out.b1 0
              have p1 : Wd.cell? ⟨P, 1, none⟩ = some (.slice va vn vc) := blk_cell HKD.out.b1 1
              go_wp2_with fail
              refine HCL.out.mono ?_
              rintro e We ⟨u, rfl, ho, hb⟩
              obtain ⟨xa, xn, xc, rfl⟩ := own_sl ho
              have HTT := Lib.hid (RdT.lay (w := w) (E := E) (G := G) (n := n) (ds := ds) (sec' := x) (HKD.out.step hb) HCP.out.1 HCP.out.2.1 (own_below HOD.out hb) HCP.out.2.2 (HMD.out.below hb) (own_base ho (blk_lt HKD.out.b1)) HOK.out)
              have p0 : We.cell? ⟨P, 0, none⟩ = some (.int .i64 24) := blk_cell (HKD.out.step hb).b1 0
              have p1 : We.cell? ⟨P, 1, none⟩ = some (.slice va vn vc) := blk_cell (HKD.out.step hb).b1 1
              have fp := fun r => blk_frozen (HKD.out.step hb).b1 r
              clear ho hb HCL
              go_wp2_with fail
              go_meet
              case rel => exact ⟨G, E, x, _, l', rfl, rfl, by omega, by omega, HTT⟩
        case rest =>
          clear HKC HOC HMC
          obtain ⟨wq, hwq⟩ : ∃ wq : World, wq = wc := ⟨_, rfl⟩
          obtain ⟨G', E, sec', v', l', rfl, rfl, hG1, hG2, HT⟩ := hcut
          rw [← hwq] at HT ⊢
          clear hwq
          go_upto_if 86 with fail
          go_cut [] from 85 to 87 (fun W => ∃ (v2 : Value) (l2 : List Seg), Hid (RdS w n P G' v2 l2 ds W))
          case first =>
            by_cases hE : E = 0
            · obtain ⟨rfl, ha, hl⟩ := HT.out.ok hE
              have HRR : Hid (RdS w n P G' v' l' ds wq) := ⟨⟨HT.out.kp.tail, HT.out.own, HT.out.hP, HT.out.ap⟩, ha, hl, HT.out.mks⟩
              subst hE
              clear ha hl
              go_wp2_with fail
              go_meet
              case rel => exact ⟨_, _, HRR⟩
            · have he : (E != 0) = true := by simpa using hE
              have c0 : wq.cell? ⟨C, 0, none⟩ = some (.int .i64 24) := blk_cell HT.out.kp.b0 0
              have c1 : wq.cell? ⟨C, 1, none⟩ = some (.slice va vn vc) := blk_cell HT.out.kp.b0 1
              have p0 : wq.cell? ⟨P, 0, none⟩ = some (.int .i64 sec') := blk_cell HT.out.kp.b1 0
              have p1 : wq.cell? ⟨P, 1, none⟩ = some v' := blk_cell HT.out.kp.b1 1
              have fp := fun r => blk_frozen HT.out.kp.b1 r
              have HRR : Hid (RdS w n P G' (.slice va vn vc) l ds ((wq.setCell ⟨P, 0, none⟩ (.int .i64 24)).setCell ⟨P, 1, none⟩ (.slice va vn vc))) :=
                ⟨⟨⟨(HT.out.kp.below.setCell HT.out.hP _).setCell HT.out.hP _, fun p hp => by
                    simp only [List.mem_cons, List.mem_nil_iff, or_false] at hp
                    subst hp
                    exact set_two HT.out.kp.b1 rfl _ _⟩, own_far HT.out.old (frm_two wq P _ _) HT.out.oap, HT.out.hP, HT.out.oap⟩, HAN.out.1.mono hG1, HAN.out.2, HT.out.mks.lay HT.out.kp.b1 _ _⟩
              clear hE
              go_wp2_with fail
              go_meet
              case rel => exact ⟨_, _, HRR⟩
          case rest =>
            clear HT HAN HCP
            obtain ⟨wy, hwy⟩ : ∃ wy : World, wy = wc := ⟨_, rfl⟩
            obtain ⟨v2, l2, HR⟩ := hcut
            rw [← hwy] at HR ⊢
            clear hwy
            obtain ⟨ya, yn, yc, rfl⟩ := own_sl HR.out.gs.own
            go_upto_region 27 with fail
            obtain ⟨Nb, hNb⟩ : ∃ x, x = wy.heap.size := ⟨_, rfl⟩
            obtain ⟨Wn, hWn⟩ : ∃ x, x = wy.alloc (.cells #[.int .i64 0] 3) := ⟨_, rfl⟩
            have hbn : Below wy.heap.size wy Wn := by rw [hWn]; exact (Below.refl _ _).alloc (Nat.le_refl _) _
            have HRn : Hid (RdS w n P G' (.slice ya yn yc) l2 ds Wn) := ⟨HR.out.gs.step hbn, HR.out.any, HR.out.len, HR.out.mks.below hbn⟩
            have HBn : Hid (Boxed Wn Nb 3 (.int .i64 0)) := by show Boxed _ _ _ _; rw [hWn, hNb]; exact Boxed.new wy 3 _
            have HNP : Hid (P < Nb ∧ Nb < Wn.heap.size ∧ w.heap.size ≤ P) := ⟨by rw [hNb]; exact HR.out.gs.plt, HBn.out.lt, HR.out.gs.hP⟩
            have HCN : Hid (∀ b o, b < Nb → wy.heap[b]? = some o → Wn.heap[b]? = some o) := fun b o hb h => blk_below h hbn (by rw [← hNb]; exact hb)
            have HNN2 : Hid (4 ≤ n ∧ n ≤ 16) := HH.out
            have HOV := Lib.hid (orderV Wn 24 (.slice ya yn yc) l2 HRn.out.gs.segs (by rw [HRn.out.len]; have := HH.out; omega))
            rw [← hNb, ← hWn]
            have HBN : Hid (Below wy.heap.size wy Wn) := hbn
            have HNB : Hid (Nb = wy.heap.size) := hNb
            clear hNb hWn hbn
            have p0 : Wn.cell? ⟨P, 0, none⟩ = some (.int .i64 24) := HRn.out.gs.c0
            have p1 : Wn.cell? ⟨P, 1, none⟩ = some (.slice ya yn yc) := HRn.out.gs.c1
            unfold ringV at HOV
            go_wp2_with fail
            refine HOV.out.mono ?_
            rintro e V0 ⟨Bq, uq, rfl, ho, hk, hq1, hq2⟩
            have HBV0 : Hid (Below wy.heap.size wy V0) := HBN.out.trans (hk.below.mono HBN.out.size)
            have HBV : Hid (Boxed V0 Nb 3 (.int .i64 0)) := (hk.below.block _ HBn.out.lt).trans HBn.out
            have HSQ : Hid (SeqStopsK Fence.wide 4 Try.prog 48 #[.pointer (some ⟨Bq, 0, none⟩)] encS (CK (· = Nb)) (fun ys => ys = tellL 24 l2) (fun pre => pre <+: tellL 24 l2) (tellL 24 l2).length V0) :=
              order_stops 4 (by omega) Bq 24 uq l2 (· = Nb) V0 hk.b0 ho.segs (by have := HNP.out; omega) (fun k hk' => by have := (ho.lt k hk').1; have := HNP.out; omega) (fun k hk' => by have := HNP.out; have := hk.below.size; omega)
            have hnv : Nb < V0.heap.size := HBV.out.lt
            clear ho hk hq1 hq2 HOV p0 p1 HRn HBn
            go_wp2_with fail
            obtain ⟨ol, hol⟩ : ∃ ol, ol = (order l2).length := ⟨_, rfl⟩
            have HTL : Hid ((tellL 24 l2).length = ol) := by show _ = _; unfold tellL; rw [HR.out.any.check, if_pos rfl, List.length_map, hol]
            have HOLN : Hid (ol ≤ n) := by show ol ≤ n; rw [hol, ← HR.out.len]; exact HR.out.any.olen
            have HOLE := Lib.hid hol
            clear hol
            refine (wpIn_wide (n := 5)).1 ?_
            refine wpIn_rangeFunc_ownF rfl (by omega) (gf := 48) (lb := #[.pointer (some ⟨Bq, 0, none⟩)]) rfl trivial (enters_of Try.func48 (by kernel_rfl) rfl)
              HSQ.out (fun h k => CK.trans h k) (fun W l o o' hl h hc hw => CK.put W l o o' hl h hc hw) (Below.refl _ _) (fun _ => rfl)
              (fun pre W => Below Nb V0 W ∧ Boxed W Nb 3 (.int .i64 pre.length)) (fun _ _ _ => False)
              (OwnFrom.and (ownFrom_below (by omega) (by omega)) (Own.from (boxed_own _ _ (fun (pre : List (Nat × Seg)) => .int .i64 (pre.length : Int))) _)) (fun _ _ _ _ _ hs _ _ => hs) ⟨Below.refl _ _, HBV.out⟩
              (fun x => { tmps := #[.int .i64 n0, .slice (some ⟨b, off, none⟩) len cap, undef, undef, .bool false, .pointer (some ⟨P, 0, none⟩), .int .i64 0, (.int .u64 (G' : Nat)), undef, .int .u8 c, .pointer (some ⟨C, 0, none⟩), .int .i64 E, u12, .pointer (some ⟨Nb, 0, none⟩), .bool true, .bool false, .tuple #[.agg #[.int .i64 24, .slice ua un uc], .int .i64 0], .int .i64 n0, .int .u64 (IntKind.u64.wrap n0), .int .u64 ((IntKind.u64.wrap n0).tmod 13), .int .i64 (wrap64 ((IntKind.u64.wrap n0).tmod 13)), .int .i64 (wrap64 (4 + wrap64 ((IntKind.u64.wrap n0).tmod 13))), .tuple #[.agg #[.int .i64 24, .slice ua un uc], .int .i64 0], .agg #[.int .i64 24, .slice ua un uc], .int .i64 0, .int .i64 0, .bool false, u27, u28, u29, u30, .slice (some ⟨b, off, none⟩) M cap, .int .i64 M, .int .i64 (i : Nat), .bool true, .pointer (some ⟨b, off + i, none⟩), .int .u8 c, .agg #[.int .i64 24, .slice va vn vc], .int .u8 c, u39, u40, u41, u42, u43, u44, u45, u46, u47, u48, u49, u50, u51, u52, u53, u54, u55, u56, u57, u58, u59, u60, u61, u62, u63, u64, u65, u66, u67, u68, u69, u70, u71, u72, u73, u74, u75, u76, u77, u78, u79, u80, u81, u82, u83, u84, u85, u86, u87, .agg #[.int .i64 24, .slice ya yn yc], .func (.func 48) #[] #[.pointer (some ⟨Bq, 0, none⟩)], .int .i64 x.1, .agg #[.int .i64 x.2.st, .int .u64 x.2.gen, .int .i64 x.2.used], z92, z93, z94, z95, z96, z97, z98, z99, z100, z101, z102, z103, z104, z105, z106, z107, z108, z109, z110, z111, z112], defers := [] }) ?assign ?body ?done ?stop
            case assign =>
              intro l x W K hK
              unfold encS segV
              gi_wp2
              exact hK
            case body =>
              rintro l pre x W ⟨hI1, hI2⟩ hlt
              have c0 : W.cell? ⟨Nb, 0, none⟩ = some (.int .i64 pre.length) := hI2.cell
              have c1 : W.frozen? ⟨Nb, 0, none⟩ = false := hI2.frozen
              have hpl : pre.length < 1000 := by rw [HTL.out] at hlt; have := HOLN.out; have := HNN2.out; omega
              obtain ⟨pl, hpl'⟩ : ∃ pl, pl = pre.length := ⟨_, rfl⟩
              rw [← hpl'] at c0 hpl
              have HPL := Lib.hid hpl'
              have HI1 := Lib.hid hI1
              have HI2 := Lib.hid hI2
              clear hI1 hI2 hlt hpl'
              gi_wp2
              have hbx : Boxed (W.setCell ⟨Nb, 0, none⟩ (.int .i64 ((pl : Int) + 1))) Nb 3 (.int .i64 ((pre ++ [x]).length : Nat)) := by
                have h1 := HI2.out.set (.int .i64 ((pl : Int) + 1))
                rw [List.length_append, ← HPL.out]
                simpa using h1
              exact ⟨KeepsOthers.setCell _ _ _, CK.frm (frm_set W Nb 0 _), HI1.out.setCell (p := ⟨Nb, 0, none⟩) (Nat.le_refl _) _, hbx⟩
            case stop =>
              rintro D c pre W hD _ h _
              exact h.elim
            case done =>
              rintro D ys W hD hys ⟨hI1, hI2⟩ hmk
              rw [hys, HTL.out] at hI2
              have hbw : Below wy.heap.size wy W := HBV0.out.trans (hI1.mono (by rw [← HNB.out]; omega))
              have HRW : Hid (RdS w n P G' (.slice ya yn yc) l2 ({ target := .collected D, args := #[] } :: ds) W) := ⟨HR.out.gs.step hbw, HR.out.any, HR.out.len, (HR.out.mks.below hbw).cons (by have := HBV0.out.size; have := HR.out.gs.kp.below.size; omega) hmk (HR.out.mks.lt (by have := HBV0.out.size; omega))⟩
              have HNW : Hid (W.heap[Nb]? = some (.cells #[.int .i64 ol] 3 (0, 0))) := hI2
              clear hbw hI1 hI2 hmk hys HBN HNB HBV0 HSQ HBV HCN hnv HR hD
              have HCE : Hid (∀ X, Below W.heap.size W X → X.cell? ⟨P, 0, none⟩ = some (.int .i64 24) ∧ X.cell? ⟨P, 1, none⟩ = some (.slice ya yn yc) ∧ X.cell? ⟨Nb, 0, none⟩ = some (.int .i64 ol)) := fun X hX =>
                ⟨(HRW.out.gs.step hX).c0, (HRW.out.gs.step hX).c1, blk_cell (blk_below HNW.out hX (blk_lt HNW.out)) 0⟩
              have HC1 : Hid (∀ X, Below W.heap.size W X → Calls Try.prog 13 #[.agg #[.int .i64 24, .slice ya yn yc]] X fun e w' => e = .returned (.int .i64 0) ∧ Below W.heap.size W w') := fun X hX => by
                have := chek X 24 (.slice ya yn yc) l2 (HRW.out.gs.step hX).segs
                rw [HRW.out.any.check] at this
                exact this.mono fun e w' ⟨h1, h2⟩ => ⟨h1, hX.trans (h2.mono hX.size)⟩
              have HC2 : Hid (∀ X, Below W.heap.size W X → Calls Try.prog 40 #[.agg #[.int .i64 24, .slice ya yn yc]] X fun e w' => e = .returned (.bool true) ∧ Below W.heap.size W w') := fun X hX => by
                obtain ⟨s, m, o, hs⟩ := HRW.out.any.side
                exact (roundW X 24 (.slice ya yn yc) l2 s m o (HRW.out.gs.step hX).segs hs).mono fun e w' ⟨h1, h2⟩ => ⟨h1, hX.trans (h2.mono hX.size)⟩
              have HC3 : Hid (∀ X, Below W.heap.size W X → Calls Try.prog 20 #[.agg #[.int .i64 24, .slice ya yn yc]] X fun e w' => e = .returned (.int .i64 ((n : Int) - (ol : Int))) ∧ Below W.heap.size W w') := fun X hX => by
                have := frees X 24 (.slice ya yn yc) l2 (HRW.out.gs.step hX).segs
                rw [HRW.out.any.check, HRW.out.len, ← HOLE.out] at this
                exact this.mono fun e w' ⟨h1, h2⟩ => ⟨h1, hX.trans (h2.mono hX.size)⟩
              obtain ⟨rfl, hncap⟩ : yn = n ∧ n ≤ 16 := by
                obtain ⟨a', c', h1, _⟩ := own_form HRW.out.gs.own
                injection h1 with h1 h2 h3
                exact ⟨h2.trans HRW.out.len, HNN2.out.2⟩
              have hwr : IntKind.i64.wrap ((ol : Int) + ((yn : Int) - (ol : Int))) = (yn : Int) := by rw [IntKind.wrap_i64]; omega
              have hne : ((yn : Int) != (yn : Int)) = false := by simp
              obtain ⟨p0, p1, q0⟩ := HCE.out W (Below.refl _ _)
              go_upto_region 29 with fail
              refine wp_calm ?_
              go_region_with (first
                | (go_at_call 13
                   refine (HC1.out _ (drewN_below W 1)).mono ?_
                   rintro e X1 ⟨rfl, hx⟩
                   have HX1 := Lib.hid hx
                   obtain ⟨d0, d1, d2⟩ := HCE.out X1 HX1.out
                   clear hx)
                | (go_at_call 40
                   refine (HC2.out _ HX1.out).mono ?_
                   rintro e X2 ⟨rfl, hx⟩
                   have HX2 := Lib.hid hx
                   obtain ⟨f0, f1, f2⟩ := HCE.out X2 HX2.out
                   clear hx)
                | (go_at_call 20
                   refine (HC3.out _ HX2.out).mono ?_
                   rintro e X3 ⟨rfl, hx⟩
                   have HX3 := Lib.hid hx
                   obtain ⟨g0, g1, g2⟩ := HCE.out X3 HX3.out
                   clear hx))
              all_goals
                have HRY := Lib.hid (HRW.out.step HX3.out)
                clear HX1 HX2 HX3 d0 d1 d2 f0 f1 f2 g0 g1 g2 p0 p1 q0 hwr hne HCE HC1 HC2 HC3 HNW HRW
                go_wp2_with fail
                refine Handed.intro (M - (i + 1)) (by omega) ?_
                go_step
                refine ⟨i + 1, G', .slice ya yn yc, l2, { target := .collected D, args := #[] } :: ds, ?_⟩
                (repeat apply Exists.intro)
                refine ⟨?_, rfl⟩
                exact ⟨rfl, by omega, hG2, HRY⟩
      · obtain rfl : i = M := by omega
        go_wp2_with fail
        exact Marks.leave ds wr HR.out.mks HR.out.gs.kp.below.size fun W' hb hc => ⟨.bool true, by simp [results, Try.f8, go_sem], rfl, HR.out.gs.kp.below.trans hb⟩

theorem ringRoundsW.walk (n0 : Int) (a : Option Addr) (len cap : Nat) (zs : List Int) (w : World) (w0 : (Lit.int .i64 n0).wf = true) (w1 : IsRow .u8 w a len cap zs) (s1 : len * 1 ≤ 140737488351232) :
    Calls Try.prog 8 #[.int .i64 n0, .slice a len cap] w fun e w' => e = .returned (.bool true) ∧ Below w.heap.size w w' := by
  obtain ⟨bs, hl, h⟩ := w1.bytes
  refine ringRounds n0 a len cap (fun i => (bs.getD i 0).toNat) w ?_ (fun i _ => UInt8.toNat_lt _)
  rcases h with ⟨h0, h⟩ | ⟨h0, b, off, c, h1, h2, h3, h4, h5⟩
  · rw [List.map_eq_nil_iff] at h0
    subst h0
    simp at hl
    subst hl
    exact .inl ⟨rfl, h⟩
  · rw [List.length_map, hl] at h0 h1 h2 h5
    refine .inr ⟨h0, b, off, c, h1, h2, h3, h4, fun i hi j hj => ?_⟩
    obtain rfl : j = 0 := by omega
    rw [Nat.mul_one, Nat.add_zero, h5 i hi, List.getElem?_map, List.getElem?_eq_getElem (by omega)]
    simp [u8v, List.getD_eq_getElem?_getD, hl ▸ hi]
end Go.Proofs.Ytlcdadnfcdjglaa
