/- Structs by ranges inside a fence (iterators, the rounds of a range over a function). No condition. slices.Backward at pending writes, run by a range statement. Condition: the row lies below a bound that the rounds keep. The disk: Read. Conditions: the disk is there. Superblocks: may. No condition. -/
import Derived.RangeFuncNested
import Derived.RangeFuncBound
import Derived.RangeFuncCalls
import Derived.RangeFuncLeaves
import Derived.Shelf.Abstract
import Derived.Shelf.RegionOpen
import Derived.OwnWalkIn
import Derived.TacticsInMore
import Derived.LoopNIn
import Derived.LoopIn
import Derived.Test.YtjmocjcjiiopnaaLogCuts04
import Derived.Test.YtjmocjcjiiopnaaLogCuts12
import Derived.Test.YtjmocjcjiiopnaaLogCuts11

section
set_option linter.unusedVariables false
namespace Go.Ice
open Go.RowKit
theorem semAt_nd (r : Option Nat) (ρ : Operand → Value) (o : Oper) (h : ∀ c, o.op ≠ .defer c) : Oper.semAt r ρ o = execOp ρ o := by
  cases r with
  | none => rfl
  | some l => exact Oper.semAt_some l ρ o h
section
variable {F : Fence} {n : Nat} {P : Program} {ops : Array Oper} {rest : List Oper} {op : Oper} {a : Act} {w : World} {Q : Exit → Act → World → Prop} {m : Nat} {cs : List Value}
theorem wpli_load (hgd : op.guard = none) (ty : TypeId) (x : Operand) (ho : op.op = .load ty x) (b o : Nat) (hx : a.eval x = .pointer (some ⟨b, o, none⟩)) (hl : cs.length = m) (hr : w.rangeAt b o cs) (T : Big P ty m)
    (h : wpListIn F n P ops Q rest (a.put op.dst (.agg cs.toArray)) w) : wpListIn F n P ops Q (op :: rest) a w :=
  wpListIn_plain hgd fun _ hK => by
    refine ⟨fun f hf => by simp [Oper.about, ho] at hf, ?_⟩
    rw [semAt_nd _ _ _ (by rw [ho]; intro c hc; cases hc)]
    unfold execOp
    simp only [ho, hx, Sem.run_bind, Sem.run_pure, Result.andThen_ok, T.load hl hr, Oper.uponIn_value]
    exact hK _ _ h
theorem wpli_store (hgd : op.guard = none) (ty : TypeId) (x y : Operand) (ho : op.op = .store ty x y) (b o : Nat) (hx : a.eval x = .pointer (some ⟨b, o, none⟩)) (hy : a.eval y = .agg cs.toArray) (hl : cs.length = m) (ht : w.there b o m) (T : Big P ty m) (h1 : ∀ u ∈ cs, u.oneCell' = true)
    (h : wpListIn F n P ops Q rest (a.put op.dst undef) (w.setCells b o cs)) : wpListIn F n P ops Q (op :: rest) a w :=
  wpListIn_plain hgd fun _ hK => by
    refine ⟨fun f hf => by simp [Oper.about, ho] at hf, ?_⟩
    rw [semAt_nd _ _ _ (by rw [ho]; intro c hc; cases hc)]
    unfold execOp
    simp only [ho, hx, hy, Sem.run_bind, Sem.run_pure, Result.andThen_ok, T.store hl ht h1, Oper.uponIn_skip]
    exact hK _ _ h
end
theorem rangeAt_below {w w' : World} {n b o : Nat} {l : List Value} (h : w.rangeAt b o l) (hb : Below n w w') (hlt : b < n) : w'.rangeAt b o l := fun j v hv => (hb.cell (p := ⟨b, o + j, none⟩) hlt).trans (h j v hv)
section
variable {w0 : World} {B : Nat → Prop} {M S : List Asn} {w w' : World}
/-- Three blocks hold something else. -/
theorem St.re3 {b1 b2 b3 : Nat} {c1 c2 c3 d1 d2 d3 : List Value} {t1 t2 t3 : TypeId} (h : St w0 B (blkA b1 c1 t1 :: blkA b2 c2 t2 :: blkA b3 c3 t3 :: M) S w) (hf : Frm (fun b => b = b1 ∨ b = b2 ∨ b = b3) w w')
    (h1 : w'.heap[b1]? = some (.cells d1.toArray t1 (0, 0))) (h2 : w'.heap[b2]? = some (.cells d2.toArray t2 (0, 0))) (h3 : w'.heap[b3]? = some (.cells d3.toArray t3 (0, 0))) : St w0 B (blkA b1 d1 t1 :: blkA b2 d2 t2 :: blkA b3 d3 t3 :: M) S w' := by
  refine St.step (L := [blkA b1 c1 t1, blkA b2 c2 t2, blkA b3 c3 t3]) (L' := [blkA b1 d1 t1, blkA b2 d2 t2, blkA b3 d3 t3]) (M := M) h fun F hF => ?_
  obtain ⟨F1, G1, k1, ⟨F2, G2, k2, ⟨F3, G3, k3, g3, e3, d3'⟩, e2, d2'⟩, e1, d1'⟩ := hF
  refine ⟨F, ⟨F1, G1, ⟨k1.1, h1⟩, ⟨F2, G2, ⟨k2.1, h2⟩, ⟨F3, G3, ⟨k3.1, h3⟩, g3, e3, d3'⟩, e2, d2'⟩, e1, d1'⟩, hf.mono fun b _ hb => ?_, fun b hb => .inl hb⟩
  rcases hb with rfl | rfl | rfl
  · exact (e1 _).2 (.inl ((k1.1 _).2 rfl))
  · exact (e1 _).2 (.inr ((e2 _).2 (.inl ((k2.1 _).2 rfl))))
  · exact (e1 _).2 (.inr ((e2 _).2 (.inr ((e3 _).2 (.inl ((k3.1 _).2 rfl))))))
/-- A block that lies behind what was. -/
theorem St.newObj (h : St w0 B M S w) (hb : Below w.heap.size w w') {D : Nat} {o : Obj} (hD : w.heap.size ≤ D) (ho : w'.heap[D]? = some o) : St w0 B (objA D o :: M) S w' :=
  h.new hb (F' := fun b => b = D) ⟨fun _ => Iff.rfl, ho⟩ (fun b e => by rw [e]; exact hD)
theorem St.putObj {D : Nat} {o o' : Obj} (h : St w0 B (objA D o :: M) S w) : St w0 B (objA D o' :: M) S (w.putObj D o') :=
  h.stepAt 0 (A := objA D o) (A' := objA D o') rfl fun F hF => ⟨F, ⟨hF.1, by
    have := blk_lt hF.2
    simp [World.putObj, this]⟩, ⟨rfl, rfl, rfl, by simp [World.putObj], fun k _ hk => World.putObj_heap_other fun e => hk ((hF.1 k).2 e)⟩, fun b hb => .inl hb⟩
theorem St.obj {D : Nat} {o : Obj} (h : St w0 B M S w) (i : Nat) (hi : M[i]? = some (objA D o) := by rfl) : w.heap[D]? = some o := by
  obtain ⟨F, hF⟩ := h.get i hi
  exact hF.2
end
theorem results2 {P : Program} {fn : Func} {tmps : Array Value} {w : World} {s1 s2 rb eb n : Nat} {ty ty2 : TypeId} {cs : List Value} {v : Value} (hr : fn.results = #[.cell s1 ty, .cell s2 ty2]) (h1 : tmps.getD s1 undef = .pointer (some ⟨rb, 0, none⟩)) (h2 : tmps.getD s2 undef = .pointer (some ⟨eb, 0, none⟩))
    (hl : cs.length = n) (T : Big P ty n) (hrg : w.rangeAt rb 0 cs) (hv : (loadVar ty2 ⟨eb, 0, none⟩).run P w = .ok v w) : (results fn tmps).run P w = .ok (.tuple #[.agg cs.toArray, v]) w := by
  have h1' : tmps[s1]?.getD undef = .pointer (some ⟨rb, 0, none⟩) := by simpa using h1
  have h2' : tmps[s2]?.getD undef = .pointer (some ⟨eb, 0, none⟩) := by simpa using h2
  simp [results, hr, h1', h2', asAddr, T.loadVar hl hrg, hv]
theorem wpli_world {F : Fence} {n : Nat} {P : Program} {ops : Array Oper} {l : List Oper} {Q : Exit → Act → World → Prop} {a : Act} {w : World} (R : World → Prop) (h : R w) (k : ∀ w', R w' → wpListIn F n P ops Q l a w') : wpListIn F n P ops Q l a w := k w h
theorem grown_frm {W W' : World} {row : Option Nat} (hg : W.grownBy W' row) : Frm (fun b => row = some b) W W' := ⟨hg.os, hg.tape, hg.output, hg.size, fun k hk h => hg.block k hk fun e => h e.symm⟩
theorem keepsFrom_frm {W W' : World} {S : Nat → Prop} {n : Nat} (h : Frm S W W') (hS : ∀ b, S b → b < n) : KeepsFrom n W W' := ⟨h.size, fun k o hk ho _ => (h.block k (blk_lt ho) fun e => by have := hS k e; omega).trans ho⟩
theorem putObj_frm (W : World) (D : Nat) (o : Obj) : Frm (fun b => b = D) W (W.putObj D o) := ⟨rfl, rfl, rfl, by simp [World.putObj], fun k _ hk => World.putObj_heap_other hk⟩
end Go.Ice
end

section
set_option linter.unusedVariables false
set_option linter.unusedSimpArgs false
namespace Go.Dsk
/-- The writes, the last one first, each with its place. -/
def bwd (l : List (Nat × List UInt8)) : List (Nat × (Nat × List UInt8)) := (List.range l.length).map fun k => (l.length - 1 - k, l.getD (l.length - 1 - k) (0, []))
theorem bwd_len (l : List (Nat × List UInt8)) : (bwd l).length = l.length := by simp [bwd]
theorem bwd_get {l : List (Nat × List UInt8)} {k : Nat} (h : k < l.length) : (bwd l).getD k (0, 0, []) = (l.length - 1 - k, l.getD (l.length - 1 - k) (0, [])) := by
  unfold bwd
  simp [List.getD_eq_getElem?_getD, h]
/-- 64 bytes, whatever was. -/
def fix64 (l : List UInt8) : List UInt8 := (l ++ List.replicate 64 0).take 64
theorem fix64_len (l : List UInt8) : (fix64 l).length = 64 := by simp [fix64]
theorem fix64_eq {l : List UInt8} (h : l.length = 64) : fix64 l = l := by unfold fix64; rw [List.take_append_of_le_length (by omega), List.take_of_length_le (by omega)]
end Go.Dsk
namespace Go.Proofs.Ytjmocjcjiiopnaa
open Go.RowKit Go.Ice Go.Oct Go.Dsk Go.Shelf
attribute [local go_sem] Oper.semAt_some
structure BwAt (n₀ : Nat) (w : World) (bq : Nat) (l : List (Nat × List UInt8)) : Prop where
  lt : bq < n₀
  p64 : ∀ x ∈ l, x.2.length = 64
  len : l.length ≤ 1000000
  ex : (l = [] ∧ ∃ a c, w.cell? ⟨bq, 0, none⟩ = some (.slice a 0 c)) ∨ (0 < l.length ∧ ∃ g c, w.cell? ⟨bq, 0, none⟩ = some (.slice (some ⟨g, 0, none⟩) l.length c) ∧ g < n₀ ∧ w.rangeAt g 0 (flatW l))
theorem BwAt.below {n₀ bq : Nat} {w w' : World} {l : List (Nat × List UInt8)} (h : BwAt n₀ w bq l) (hb : Below n₀ w w') : BwAt n₀ w' bq l := by
  obtain ⟨h1, h2, h2', h3⟩ := h
  refine ⟨h1, h2, h2', ?_⟩
  rcases h3 with ⟨e, a, c, h⟩ | ⟨h0, g, c, h, hg, hr⟩
  · exact .inl ⟨e, a, c, (hb.cell (p := ⟨bq, 0, none⟩) h1).trans h⟩
  · exact .inr ⟨h0, g, c, (hb.cell (p := ⟨bq, 0, none⟩) h1).trans h, hg, rangeAt_below hr hb hg⟩
def wrF (x : Nat × List UInt8) : List Value := wrC (x.1, fix64 x.2)
theorem wrF_len (x : Nat × List UInt8) : (wrF x).length = 65 := by simp [wrF, wrC, fix64_len]
def encW (x : Nat × (Nat × List UInt8)) : Array Value := #[.int .i64 x.1, .agg (wrF x.2).toArray]
set_option maxRecDepth 100000 in
set_option maxHeartbeats 8000000 in
theorem bwd_in (F : Fence) (n : Nat) (h7 : F.fn 92) (hro : F.round = none) (hn : 1 ≤ n) (l bq n₀ : Nat) (L : List (Nat × List UInt8)) (J Jx : List (Nat × (Nat × List UInt8)) → World → Prop)
    (hY : ∀ pre x W, J pre W → pre.length < L.length → YieldAt F (n - 1) Try.prog l (encW x) W fun e W' =>
      (e = .returned (.bool true) ∧ J (pre ++ [x]) W' ∧ Below n₀ W W') ∨ (e = .returned (.bool false) ∧ Jx (pre ++ [x]) W'))
    (W : World) (hS : BwAt n₀ W bq L) (h0 : J [] W) :
    CallsIn F n Try.prog 92 #[.func (.yield l) #[] #[], .pointer (some ⟨bq, 0, none⟩)] W fun e W' => (∃ v, e = .returned v) ∧
      ((∃ ys, ys = bwd L ∧ J ys W') ∨ (∃ pre, pre <+: bwd L ∧ Jx pre W')) := by
  have hS0 := hS
  obtain ⟨l1, p64, hlen, hcase⟩ := hS
  rcases hcase with ⟨rfl, a, cap, c1⟩ | ⟨k0, g, c, c1, l3, hr⟩
  · refine callsIn_of_wp Try.func92 rfl h7 ?_ hro
    simp only [Try.ntmps92, List.size_toArray, List.length_cons, List.length_nil, Nat.reduceAdd, Nat.reduceSub, Array.replicate_succ, Array.replicate_zero, List.push_toArray, List.append_toArray, List.nil_append, List.cons_append]
    gi_wp2
    gi_loopw [3] (fun i wr => i = .int .i64 (-1) ∧ J [] wr) (fun _ _ => 0)
    case atStart => exact ⟨rfl, h0⟩
    case round =>
      obtain ⟨rfl, hJs⟩ := hrel
      gi_wp2
      go_end0
      exact ⟨⟨_, rfl⟩, .inl ⟨_, rfl, hJs⟩⟩
  · refine callsIn_of_wp Try.func92 rfl h7 ?_ hro
    simp only [Try.ntmps92, List.size_toArray, List.length_cons, List.length_nil, Nat.reduceAdd, Nat.reduceSub, Array.replicate_succ, Array.replicate_zero, List.push_toArray, List.append_toArray, List.nil_append, List.cons_append]
    gi_wp2
    gi_loopw [3] (fun i wr => ∃ k : Nat, k ≤ L.length ∧ i = .int .i64 ((L.length : Int) - 1 - k) ∧ J ((bwd L).take k) wr ∧ Below n₀ W wr) (fun i _ => ((intOf i) + 1).toNat)
    case atStart => exact ⟨0, Nat.zero_le _, by first | rfl | (congr 1; omega), h0, Below.refl _ _⟩
    case round =>
      obtain ⟨k, hk, rfl, hJs, hnx⟩ := hrel
      by_cases hlt : k < L.length
      · have hxg := bwd_get hlt
        obtain ⟨x, hx⟩ : ∃ x, L[L.length - 1 - k]? = some x := ⟨_, List.getElem?_eq_getElem (by omega)⟩
        have hxd : L.getD (L.length - 1 - k) (0, []) = x := by simp [List.getD_eq_getElem?_getD, hx]
        rw [hxd] at hxg
        obtain ⟨fn, tmps, assign, body, hy, hR⟩ := hY _ ((bwd L).getD k (0, 0, [])) wr hJs (by rw [List.length_take, bwd_len]; omega)
        rw [hxg] at hy hR
        have HR : wr.rangeAt g ((L.length - 1 - k) * 65) (wrC x) := rangeAt_flat (rangeAt_below hr hnx l3) (fun y hy => by simp [wrC, p64 y hy]) hx
        have c2 : wr.cell? ⟨bq, 0, none⟩ = some (.slice (some ⟨g, 0, none⟩) L.length c) := (hnx.cell (p := ⟨bq, 0, none⟩) l1).trans c1
        have hx64 : (wrC x).length = 65 := by simp [wrC, p64 x (List.mem_of_getElem? hx)]
        have hwf : wrF x = wrC x := by unfold wrF; rw [fix64_eq (p64 x (List.mem_of_getElem? hx))]
        unfold encW at hy
        dsimp only at hy
        rw [hwf] at hy
        have HTS : Hid ((bwd L).take (k + 1) = (bwd L).take k ++ [(L.length - 1 - k, x)]) := by
          have : k < (bwd L).length := by rw [bwd_len]; exact hlt
          rw [Hid, List.take_succ_eq_append_getElem this]
          congr 2
          rw [← hxg, List.getD_eq_getElem?_getD, List.getElem?_eq_getElem this]; rfl
        obtain ⟨m, hm⟩ : ∃ m : Nat, m = L.length - 1 - k := ⟨_, rfl⟩
        rw [← hm] at hy hR HR HTS
        have hmi : (L.length : Int) - 1 - k = (m : Int) := by omega
        rw [hmi]
        have hm0 : (0 : Int) ≤ (m : Int) := by omega
        have hm1 : (m : Int) < (L.length : Int) := by omega
        have hm2 : (m : Int) ≤ 1000000 := by omega
        have HM := Lib.hid hm
        clear hr hxg hxd hm hmi hJs
        gi_wp2_with (refine wpli_load rfl _ _ rfl g (m * 65) (by rfl) hx64 HR bigWrote ?_)
        refine hR.mono ?_
        rintro e W3 (⟨rfl, hJ3, hk3⟩ | ⟨rfl, hJx3⟩)
        · clear c2 c1
          gi_wp2
          go_roundw
          case rel => exact ⟨k + 1, by omega, by have := HM.out; congr 1; omega, by rw [HTS.out]; exact hJ3, hnx.trans hk3⟩
          case measure => simp [intOf] <;> omega
        · gi_wp2
          refine bodyPost_ret (results_none rfl _ _ _) rfl ?_
          exact ⟨⟨_, rfl⟩, .inr ⟨(bwd L).take (k + 1), List.take_prefix _ _, by rw [HTS.out]; exact hJx3⟩⟩
      · obtain rfl : k = L.length := by omega
        have e1 : (L.length : Int) - 1 - L.length = -1 := by omega
        rw [e1]
        gi_wp2
        go_end0
        exact ⟨⟨_, rfl⟩, .inl ⟨_, by rw [← bwd_len, List.take_length], hJs⟩⟩
theorem bwd_stops (F : Fence) (n : Nat) (h7 : F.fn 92) (hro : F.round = none) (hn : 1 ≤ n) (bq n₀ : Nat) (L : List (Nat × List UInt8)) (w : World) (hn₀ : n₀ ≤ w.heap.size) (hS : BwAt n₀ w bq L) :
    SeqStopsK F n Try.prog 92 #[.pointer (some ⟨bq, 0, none⟩)] encW (Below n₀) (fun ys => ys = bwd L) (fun pre => pre <+: bwd L) L.length w := fun l J Jx W hW _ _ hY h0 =>
  bwd_in F n h7 hro hn l bq n₀ L J Jx hY W (hS.below (hW.mono hn₀)) h0
end Go.Proofs.Ytjmocjcjiiopnaa
end

section
set_option linter.unusedVariables false
set_option linter.unusedSimpArgs false
namespace Go.Dsk
/-- What a sector holds: the last pending write of it, or what is safe. -/
def Dk.at (D : Dk) (i : Nat) : List UInt8 := match (bwd D.pend).find? (fun y => y.2.1 == i) with
  | some y => y.2.2
  | none => D.safe.getD i []
def Dk.read (D : Dk) (i : Int) : Dk × List UInt8 × Nat := ((D.ready i).1, (if (D.ready i).2 = 0 then D.at i.toNat else List.replicate 64 0), (D.ready i).2)
theorem Dk.at_hit {D : Dk} {i : Nat} {pre : List (Nat × (Nat × List UInt8))} {x : Nat × (Nat × List UInt8)} (hp : pre ++ [x] <+: bwd D.pend) (h : ∀ y ∈ pre, y.2.1 ≠ i) (hx : x.2.1 = i) : D.at i = x.2.2 := by
  obtain ⟨s, hs⟩ := hp
  have : (bwd D.pend).find? (fun y => y.2.1 == i) = some x := by
    rw [← hs, List.append_assoc, List.find?_append]
    have : pre.find? (fun y => y.2.1 == i) = none := by
      rw [List.find?_eq_none]; intro y hy; simpa using h y hy
    rw [this]
    simp [hx]
  unfold Dk.at
  rw [this]
theorem Dk.at_miss {D : Dk} {i : Nat} (h : ∀ y ∈ bwd D.pend, y.2.1 ≠ i) : D.at i = D.safe.getD i [] := by
  have : (bwd D.pend).find? (fun y => y.2.1 == i) = none := by
    rw [List.find?_eq_none]; intro y hy; simpa using h y hy
  unfold Dk.at
  rw [this]
theorem bwd_mem {l : List (Nat × List UInt8)} {y : Nat × (Nat × List UInt8)} (h : y ∈ bwd l) : y.2 ∈ l := by
  unfold bwd at h
  obtain ⟨k, hk, rfl⟩ := List.mem_map.1 h
  have hk' := List.mem_range.1 hk
  simp only [List.getD_eq_getElem?_getD]
  rw [List.getElem?_eq_getElem (by omega)]
  exact List.getElem_mem _
end Go.Dsk
namespace Go.Proofs.Ytjmocjcjiiopnaa
open Go.RowKit Go.Ice Go.Oct Go.Dsk Go.Shelf
attribute [local go_sem] Oper.semAt_some
def zL64 : List Value := [.int .u8 0, .int .u8 0, .int .u8 0, .int .u8 0, .int .u8 0, .int .u8 0, .int .u8 0, .int .u8 0, .int .u8 0, .int .u8 0, .int .u8 0, .int .u8 0, .int .u8 0, .int .u8 0, .int .u8 0, .int .u8 0, .int .u8 0, .int .u8 0, .int .u8 0, .int .u8 0, .int .u8 0, .int .u8 0, .int .u8 0, .int .u8 0, .int .u8 0, .int .u8 0, .int .u8 0, .int .u8 0, .int .u8 0, .int .u8 0, .int .u8 0, .int .u8 0, .int .u8 0, .int .u8 0, .int .u8 0, .int .u8 0, .int .u8 0, .int .u8 0, .int .u8 0, .int .u8 0, .int .u8 0, .int .u8 0, .int .u8 0, .int .u8 0, .int .u8 0, .int .u8 0, .int .u8 0, .int .u8 0, .int .u8 0, .int .u8 0, .int .u8 0, .int .u8 0, .int .u8 0, .int .u8 0, .int .u8 0, .int .u8 0, .int .u8 0, .int .u8 0, .int .u8 0, .int .u8 0, .int .u8 0, .int .u8 0, .int .u8 0, .int .u8 0]
theorem zL_one : ∀ u ∈ zL64, u.oneCell' = true := u8v_one (List.replicate 64 0)
theorem zeroBlock : zL64 = (List.replicate 64 (0 : UInt8)).map u8v := rfl
theorem build_zeroB (w : World) : (Instr.build 89 #[]).run Try.prog w = .ok (.agg zL64.toArray) w := run_build w _ _ _ (by kernel_rfl)
/-- What Read leaves: its boxes, its results. -/
def rdA (e5 t4 t3 t2 : Nat) (r : List Value) (ev : Value) (i : Int) (p : Nat) : List Asn := [blkA e5 [ev] 36, blkA t4 r 89, blkA t3 [.int .i64 i] 3, blkA t2 [.pointer (some ⟨p, 0, none⟩)] 25]
set_option maxRecDepth 100000 in
set_option maxHeartbeats 16000000 in
theorem dread_err (p : Nat) (D : Dk) (i : Int) (h0 : (D.ready i).2 ≠ 0) : Meets Try.prog 34 #[.pointer (some ⟨p, 0, none⟩), .int .i64 i] [dskA p D] [] fun v L => v = .tuple #[blkV (List.replicate 64 0), .int .i64 (D.ready i).2] ∧ L = [dskA p (D.ready i).1] := by
  intro w B H
  have hbx := (((H.alloc [.pointer (some ⟨p, 0, none⟩)] 25).alloc [.int .i64 i] 3).alloc zL64 89).alloc [.int .i64 0] 36
  simp only [World.size_alloc] at hbx
  refine (callsIn_wide (n := 5)).1 ?_
  refine callsIn_of_wp_marks Try.func34 rfl trivial ?_ rfl
  simp only [Try.ntmps34, List.size_toArray, List.length_cons, List.length_nil, Nat.reduceAdd, Nat.reduceSub, Array.replicate_succ, Array.replicate_zero, List.push_toArray, List.append_toArray, List.nil_append, List.cons_append]
  refine wpIn_wide.2 ?_
  go_wp2_with fail
  refine ((ready p D i).call (M := [blkA _ _ _, blkA _ _ _, blkA _ _ _, blkA _ _ _]) (St.pick hbx [4, 0, 1, 2, 3]) (by simp)).mono ?_
  rintro e w1 ⟨v, L, rfl, ⟨rfl, rfl⟩, H1⟩
  have h0' : (((D.ready i).2 : Int) == 0) = false := by simp; omega
  clear h0
  generalize her : (D.ready i).2 = er at *
  have HER := Lib.hid her
  clear her
  have HT : w1.there (w.heap.size + 1 + 1) 0 64 := St.there H1 2 64
  obtain ⟨hce, hfe⟩ := St.cells H1 1
  go_upto_region 3 with fail
  go_step
  refine wpl_build rfl _ _ rfl (vals := #[]) (by simp) (build_zeroB w1) ?_
  simp only [Act.put, List.setIfInBounds_toArray, List.set_cons_succ, List.set_cons_zero]
  generalize hz : zL64 = zl at *
  have hz64 : zl.length = 64 := by rw [← hz]; rfl
  have hz1 : ∀ u ∈ zl, u.oneCell' = true := by rw [← hz]; exact zL_one
  have H3 := St.setAllAt H1 2 (vs := zl)
  clear hce hfe
  go_wp2_with ((refine wpl_store rfl _ _ _ rfl (w.heap.size + 1 + 1) 0 (by rfl) zl (by rfl) 64 hz64 HT bigBlock hz1 ?_); (refine wpl_world _ H3 ?_); intro w2 H2; (obtain ⟨hce, hfe⟩ := St.cells H2 1))
  have H4 := H2.set1 0 (.int .i64 er)
  obtain ⟨hc4, hf4⟩ := St.cells H4 1
  refine ⟨_, results2 (n := 64) rfl rfl rfl hz64 bigBlock (St.range H4 2) (v := .int .i64 er) (by simp [loadVar, go_sem, hc4]), ?_⟩
  rw [← hz]
  exact Back.mk ⟨by rw [HER.out]; rfl, rfl⟩ (St.pick H4 [0])
end Go.Proofs.Ytjmocjcjiiopnaa
end

section
set_option linter.unusedVariables false
set_option linter.unusedSimpArgs false
namespace Go.Oct
/-- What is known of a disk. -/
structure Sp where
  seg : Int
  sec : Int
  gen : Nat
  ret : Nat
  resv : Nat
  flush : Nat
/-- Whether it may be. -/
def Sp.may (x : Sp) : Bool := decide (4 ≤ x.seg ∧ x.seg ≤ 16 ∧ 24 ≤ x.sec ∧ x.sec ≤ 64 ∧ x.ret ≤ x.gen)
def Sp.fits (x : Sp) : Prop := x.gen ≤ 18446744073709551615 ∧ x.ret ≤ 18446744073709551615 ∧ x.resv ≤ 18446744073709551615 ∧ x.flush ≤ 18446744073709551615
def supH (x : Sp) (turn : Nat) : List UInt8 := [105, 99, 101, 104, 111, 117, 115, 101] ++ beB turn 8 ++ beB x.seg.toNat 2 ++ beB x.sec.toNat 2 ++ beB x.gen 8 ++ beB x.ret 8 ++ beB x.resv 8 ++ beB x.flush 8
def supA (x : Sp) (turn : Nat) : List UInt8 := supH x turn ++ [0, 0, 0, 0]
/-- A superblock. -/
def supB (x : Sp) (turn : Nat) : List UInt8 := supA x turn ++ beB (hashB (supA x turn)) 8
end Go.Oct
namespace Go.Proofs.Ytjmocjcjiiopnaa
open Go.RowKit Go.Ice Go.Oct
theorem supH_len (x : Sp) (t : Nat) : (supH x t).length = 52 := by unfold supH; simp [beB_len]
theorem supA_len (x : Sp) (t : Nat) : (supA x t).length = 56 := by unfold supA; simp [supH_len]
theorem supB_len (x : Sp) (t : Nat) : (supB x t).length = 64 := by unfold supB; simp [supA_len, beB_len]
def supC (x : Sp) : List Value := [.int .i64 x.seg, .int .i64 x.sec, .int .u64 x.gen, .int .u64 x.ret, .int .u64 x.resv, .int .u64 x.flush]
def supV (x : Sp) : Value := .agg (supC x).toArray
set_option maxHeartbeats 8000000 in
set_option maxRecDepth 20000 in
theorem may (x : Sp) : Meets Try.prog 82 #[supV x] [] [] fun v L => v = .bool x.may ∧ L = [] := by
  intro w B H
  obtain ⟨seg, sec, gen, ret, resv, flush⟩ := x
  obtain ⟨q, hq⟩ : ∃ q, q = Sp.may ⟨seg, sec, gen, ret, resv, flush⟩ := ⟨_, rfl⟩
  rw [← hq]
  unfold supV supC
  have H1 := H.alloc [.int .i64 seg, .int .i64 sec, .int .u64 gen, .int .u64 ret, .int .u64 resv, .int .u64 flush] 101
  have HQ := Lib.hid hq
  clear hq
  go_enter Try.func82, Try.ntmps82
  go_upto_region 1 with fail
  refine wp_world (fun W => St w B _ _ W) H1 ?_
  intro w1 H2
  clear H1
  obtain ⟨hc, hf⟩ := St.cells H2 0
  go_wp2_with fail
  all_goals
    refine bodyPost_ret (results_tmp rfl _ _ _) rfl (Back.mk ⟨?_, rfl⟩ (St.pick H2 []))
    have e := HQ.out
    show Value.bool _ = Value.bool q
    rw [e]
    congr 1
    unfold Sp.may
    rw [Bool.eq_iff_iff, decide_eq_true_eq]
    simp
    clear e hc hf H2 H HQ
    try simp only [beq_iff_eq, beq_eq_false_iff_ne, ne_eq] at *
    omega
end Go.Proofs.Ytjmocjcjiiopnaa
end
