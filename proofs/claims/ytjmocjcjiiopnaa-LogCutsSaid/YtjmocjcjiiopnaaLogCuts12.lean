/- The disk: Sync, Write, Crash, Arm, Fail, New, Len. Conditions: the disk is there. The disk: Write, Crash, Arm, Fail, New, Len. Conditions: the disk is there. The disk: Crash, Write. Conditions: the disk is there. The disk: Write. Conditions: the disk is there. -/
import Derived.Test.YtjmocjcjiiopnaaLogCuts11
import Derived.Test.YtjmocjcjiiopnaaLogCuts08
import Derived.Test.YtjmocjcjiiopnaaLogCuts06

section
set_option linter.unusedVariables false
set_option linter.unusedSimpArgs false
namespace Go.Dsk
/-- A write or a sync. -/
def Dk.op (D : Dk) (i : Int) (f : Dk → Dk) : Dk × Nat :=
  if (D.ready i).2 = 0 then (match (D.ready i).1.go with
    | none => ((D.ready i).1.out, 7)
    | some D2 => (f D2, 0))
  else D.ready i
theorem Dk.op_cases (D : Dk) (i : Int) (f : Dk → Dk) : ((((D.ready i).2 : Int) == 0) = false ∧ D.op i f = D.ready i) ∨ ((D.ready i).2 = 0 ∧ (D.ready i).1.go = none ∧ D.op i f = ((D.ready i).1.out, 7)) ∨ (∃ D2, (D.ready i).2 = 0 ∧ (D.ready i).1.go = some D2 ∧ D.op i f = (f D2, 0)) := by
  unfold Dk.op
  by_cases h : (D.ready i).2 = 0
  · rw [if_pos h]
    cases hg : (D.ready i).1.go with
    | none => exact .inr (.inl ⟨h, rfl, rfl⟩)
    | some D2 => exact .inr (.inr ⟨D2, h, rfl, rfl⟩)
  · rw [if_neg h]
    exact .inl ⟨by simp; omega, rfl⟩
def Dk.sync (D : Dk) : Dk × Nat := D.op 0 fun D => D.settle fun _ => true
def Dk.write (D : Dk) (i : Int) (b : List UInt8) : Dk × Nat := D.op i fun D => { D with pend := D.pend ++ [(i.toNat, b)] }
end Go.Dsk
namespace Go.Proofs.Ytjmocjcjiiopnaa
open Go.RowKit Go.Ice Go.Oct Go.Dsk
set_option maxHeartbeats 8000000 in
set_option maxRecDepth 20000 in
theorem sync1 (p bx : Nat) (D : Dk) : Meets Try.prog 80 #[.pointer (some ⟨bx, 0, none⟩)] [dskA p D, blkA bx [.pointer (some ⟨p, 0, none⟩)] 25] [] fun v L => v = .tuple #[] ∧ L = [dskA p (D.settle fun _ => true), blkA bx [.pointer (some ⟨p, 0, none⟩)] 25] := by
  intro w B H
  obtain ⟨hc, hf⟩ := H.cells 1
  have hs : ∀ i : Nat, i < D.pend.length → Meets Try.prog 81 (#[.int .i64 i] ++ #[]) [] [] fun v L => v = .bool true ∧ L = [] := by
    intro i hi w B H
    go_enter Try.func81, Try.ntmps81
    go_wp2_with fail
    go_ret
    exact Back.mk ⟨rfl, rfl⟩ H
  have hS := settle p D 81 #[] (fun w i => by kernel_rfl) [] [] (fun _ => true) hs
  go_enter Try.func80, Try.ntmps80
  go_wp2_with fail
  refine (hS.call (M := [blkA bx _ _]) H (by simp)).mono ?_
  rintro e w1 ⟨v, L, rfl, ⟨rfl, rfl⟩, H1⟩
  go_wp2_with fail
  go_end0
  exact Back.mk ⟨rfl, rfl⟩ H1
set_option maxHeartbeats 8000000 in
set_option maxRecDepth 20000 in
theorem sync (p : Nat) (D : Dk) : Meets Try.prog 44 #[.pointer (some ⟨p, 0, none⟩)] [dskA p D] [] fun v L => v = .int .i64 D.sync.2 ∧ L = [dskA p D.sync.1] := by
  intro w B H
  have hb := H.alloc [.pointer (some ⟨p, 0, none⟩)] 25
  rcases D.op_cases 0 fun D => D.settle fun _ => true with ⟨h0, e0⟩ | ⟨h0, h1, e0⟩ | ⟨D2, h0, h1, e0⟩ <;> unfold Dk.sync <;> rw [e0]
  all_goals
    go_enter Try.func44, Try.ntmps44
    go_wp2_with fail
    refine ((ready p D 0).call (M := [blkA _ _ _]) hb.swap (by simp)).mono ?_
    rintro e w1 ⟨v, L, rfl, ⟨rfl, rfl⟩, H1⟩
    obtain ⟨hc, hf⟩ := St.cells H1 1
  · go_wp2_with fail
    go_ret
    exact Back.mk ⟨rfl, rfl⟩ (St.pick H1 [0])
  · rw [h0]
    go_wp2_with fail
    refine ((do_none p _ _ h1).call (M := [blkA _ _ _]) H1 (by simp)).mono ?_
    rintro e w2 ⟨v, L, rfl, ⟨rfl, rfl⟩, H2⟩
    go_wp2_with fail
    go_ret
    exact Back.mk ⟨rfl, rfl⟩ (St.pick H2 [0])
  · rw [h0]
    go_wp2_with fail
    refine ((do_some p _ _ _ _ h1 (fun w => by kernel_rfl) [blkA _ _ _] [] _ (sync1 p _ D2)).all H1).mono ?_
    rintro e w2 ⟨v, L, rfl, ⟨rfl, u, rfl, rfl⟩, H2⟩
    go_wp2_with fail
    go_ret
    exact Back.mk ⟨rfl, rfl⟩ (St.pick H2 [0])
end Go.Proofs.Ytjmocjcjiiopnaa
end

section
set_option linter.unusedVariables false
set_option linter.unusedSimpArgs false
namespace Go.Dsk
def Dk.new (n : Nat) : Dk := ⟨List.replicate n (List.replicate 64 0), [], false, false, 0, 0⟩
def Dk.arm (D : Dk) (n : Int) : Dk × Nat := if D.dead then (D, 7) else ({ D with armed := decide (0 ≤ n), left := n }, 0)
def Dk.fail (D : Dk) (n : Int) : Dk × Nat := if D.dead then (D, 7) else ({ D with fails := if 0 ≤ n ∧ n < 4611686018427387904 then n + 1 else 0 }, 0)
def Dk.crash (D : Dk) (keep : List Bool) : Dk := { D.settle (fun i => keep.getD i false) with dead := false, armed := false, fails := 0 }
theorem Dk.new_ok {n : Nat} (h : 1 ≤ n ∧ n ≤ 2048) : (Dk.new n).ok :=
  ⟨fun b hb => (by rw [List.eq_of_mem_replicate hb]; simp), fun x hx => (by cases hx), by simpa [Dk.new] using h, by simp [Dk.new], fun e => (by cases e), by simp [Dk.new]⟩
theorem Dk.crash_ok {D : Dk} (h : D.ok) (keep : List Bool) : (D.crash keep).ok := by
  have := Dk.settle_ok h fun i => keep.getD i false
  exact ⟨this.s64, this.p64, this.len, this.plen, fun e => (by cases e), by simp [Dk.crash]⟩
end Go.Dsk
namespace Go.Proofs.Ytjmocjcjiiopnaa
open Go.RowKit Go.Ice Go.Oct Go.Dsk
set_option maxHeartbeats 8000000 in
set_option maxRecDepth 20000 in
theorem len (p : Nat) (D : Dk) : Meets Try.prog 47 #[.pointer (some ⟨p, 0, none⟩)] [dskA p D] [] fun v L => v = .int .i64 D.safe.length ∧ L = [dskA p D] := by
  intro w B H
  obtain ⟨s, q, o, ok, H⟩ := dskA.open H
  obtain ⟨sa, sc, rfl, hsm⟩ := own_form (H.own 1)
  obtain ⟨hc, hf⟩ := H.cells 0
  unfold dskC at hc
  go_enter Try.func47, Try.ntmps47
  go_wp2_with fail
  go_ret
  exact Back.mk ⟨rfl, rfl⟩ (dskA.close ok H)
theorem arm_dead (p : Nat) (D : Dk) (n : Int) (hd : D.dead = true) : Meets Try.prog 14 #[.pointer (some ⟨p, 0, none⟩), .int .i64 n] [dskA p D] [] fun v L => v = .int .i64 7 ∧ L = [dskA p D] := by
  intro w B H
  go_enter Try.func14, Try.ntmps14
  go_wp2_with fail
  refine ((power_dead p hd).call0 H (by simp)).mono ?_
  rintro e w1 ⟨v, L, rfl, ⟨rfl, rfl⟩, H1⟩
  go_wp2_with fail
  go_ret
  exact Back.mk ⟨rfl, rfl⟩ H1
set_option maxHeartbeats 8000000 in
set_option maxRecDepth 20000 in
theorem arm_up (p : Nat) (D : Dk) (n : Int) (hn : n ≤ 9223372036854775807) (hd : D.dead = false) : Meets Try.prog 14 #[.pointer (some ⟨p, 0, none⟩), .int .i64 n] [dskA p D] [] fun v L => v = .int .i64 0 ∧ L = [dskA p { D with armed := decide (0 ≤ n), left := n }] := by
  intro w B H
  go_enter Try.func14, Try.ntmps14
  go_wp2_with fail
  refine ((power_up p hd).call0 H (by simp)).mono ?_
  rintro e w1 ⟨v, L, rfl, ⟨rfl, rfl⟩, H1⟩
  obtain ⟨s, q, o, ok, H1⟩ := dskA.open H1
  obtain ⟨hc, hf⟩ := H1.cells 0
  unfold dskC at hc
  go_wp2_with fail
  go_ret
  exact Back.mk ⟨rfl, rfl⟩ (dskA.close (D := { D with armed := decide (0 ≤ n), left := n }) ⟨ok.s64, ok.p64, ok.len, ok.plen, fun h => ⟨by simpa using h, hn⟩, ok.fails0⟩ ((H1.set0 3 _).set0 4 _))
theorem arm (p : Nat) (D : Dk) (n : Int) (hn : n ≤ 9223372036854775807) : Meets Try.prog 14 #[.pointer (some ⟨p, 0, none⟩), .int .i64 n] [dskA p D] [] fun v L => v = .int .i64 (D.arm n).2 ∧ L = [dskA p (D.arm n).1] := by
  unfold Dk.arm
  obtain hd | hd : D.dead = false ∨ D.dead = true := by cases D.dead <;> simp
  · rw [if_neg (by rw [hd]; decide)]; exact arm_up p D n hn hd
  · rw [if_pos hd]; exact arm_dead p D n hd
theorem fail_dead (p : Nat) (D : Dk) (n : Int) (hd : D.dead = true) : Meets Try.prog 13 #[.pointer (some ⟨p, 0, none⟩), .int .i64 n] [dskA p D] [] fun v L => v = .int .i64 7 ∧ L = [dskA p D] := by
  intro w B H
  go_enter Try.func13, Try.ntmps13
  go_wp2_with fail
  refine ((power_dead p hd).call0 H (by simp)).mono ?_
  rintro e w1 ⟨v, L, rfl, ⟨rfl, rfl⟩, H1⟩
  go_wp2_with fail
  go_ret
  exact Back.mk ⟨rfl, rfl⟩ H1
set_option maxHeartbeats 8000000 in
set_option maxRecDepth 20000 in
theorem fail_up (p : Nat) (D : Dk) (n : Int) (hd : D.dead = false) : Meets Try.prog 13 #[.pointer (some ⟨p, 0, none⟩), .int .i64 n] [dskA p D] [] fun v L => v = .int .i64 0 ∧ L = [dskA p { D with fails := if 0 ≤ n ∧ n < 4611686018427387904 then n + 1 else 0 }] := by
  intro w B H
  have hk : (0 ≤ n ∧ n < 4611686018427387904 ∧ (if 0 ≤ n ∧ n < 4611686018427387904 then n + 1 else 0) = n + 1) ∨ (0 ≤ n ∧ 4611686018427387904 ≤ n ∧ (if 0 ≤ n ∧ n < 4611686018427387904 then n + 1 else 0) = 0) ∨ (n < 0 ∧ (if 0 ≤ n ∧ n < 4611686018427387904 then n + 1 else 0) = 0) := by
    split <;> omega
  rcases hk with ⟨h0, h1, e⟩ | ⟨h0, h1, e⟩ | ⟨h0, e⟩ <;> rw [e] <;> clear e
  all_goals
    go_enter Try.func13, Try.ntmps13
    go_wp2_with fail
    refine ((power_up p hd).call0 H (by simp)).mono ?_
    rintro e w1 ⟨v, L, rfl, ⟨rfl, rfl⟩, H1⟩
    have hdd := Lib.hid hd
    clear hd
    obtain ⟨s, q, o, ok, H1⟩ := dskA.open H1
    obtain ⟨hc, hf⟩ := H1.cells 0
    unfold dskC at hc
    go_wp2_with fail
    go_ret
  · exact Back.mk ⟨rfl, rfl⟩ (dskA.close (D := { D with fails := n + 1 }) ⟨ok.s64, ok.p64, ok.len, ok.plen, ok.left0, by simp; omega⟩ ((H1.set0 5 _).set0 5 _))
  · exact Back.mk ⟨rfl, rfl⟩ (dskA.close (D := { D with fails := 0 }) ⟨ok.s64, ok.p64, ok.len, ok.plen, ok.left0, by simp⟩ (H1.set0 5 _))
  · exact Back.mk ⟨rfl, rfl⟩ (dskA.close (D := { D with fails := 0 }) ⟨ok.s64, ok.p64, ok.len, ok.plen, ok.left0, by simp⟩ (H1.set0 5 _))
theorem fail (p : Nat) (D : Dk) (n : Int) : Meets Try.prog 13 #[.pointer (some ⟨p, 0, none⟩), .int .i64 n] [dskA p D] [] fun v L => v = .int .i64 (D.fail n).2 ∧ L = [dskA p (D.fail n).1] := by
  unfold Dk.fail
  obtain hd | hd : D.dead = false ∨ D.dead = true := by cases D.dead <;> simp
  · rw [if_neg (by rw [hd]; decide)]; exact fail_up p D n hd
  · rw [if_pos hd]; exact fail_dead p D n hd
set_option maxHeartbeats 8000000 in
set_option maxRecDepth 20000 in
theorem new (n : Nat) (hn : 1 ≤ n ∧ n ≤ 2048) : Meets Try.prog 19 #[.int .i64 n] [] [] fun v L => ∃ p, v = .tuple #[.pointer (some ⟨p, 0, none⟩), .int .i64 0] ∧ L = [dskA p (Dk.new n)] := by
  intro w B H
  obtain ⟨g, w1, hr, H1⟩ := H.make elemBlock (f := fun b : List UInt8 => b.map u8v) (List.replicate 64 0) rfl n (by omega) (by unfold maxLen; omega)
  have HR := Lib.hid hr
  clear hr
  obtain ⟨hn0, hn1⟩ := hn
  have h0 : (1 : Int) ≤ (n : Int) := by omega
  have h1 : (n : Int) ≤ 2048 := by omega
  go_enter Try.func19, Try.ntmps19
  go_wp2_with (refine wpl_make rfl _ _ _ rfl rfl rfl HR.out ?_)
  go_ret2
  exact Back.mk ⟨w1.heap.size, rfl, rfl⟩ (dskA.close (D := Dk.new n) (Dk.new_ok ⟨hn0, hn1⟩) (by
    have e1 : (Dk.new n).safe.length = n := by simp [Dk.new]
    rw [e1]
    exact ((H1.newNil _ _).alloc _ _).pick [0, 2, 1]))
end Go.Proofs.Ytjmocjcjiiopnaa
end

section
set_option linter.unusedVariables false
set_option linter.unusedSimpArgs false
namespace Go.Proofs.Ytjmocjcjiiopnaa
open Go.RowKit Go.Ice Go.Oct Go.Dsk
set_option maxHeartbeats 8000000 in
set_option maxRecDepth 20000 in
theorem crash1 (kb : Nat) (kv : Value) (keep : List Bool) (i : Nat) (hi : i ≤ 1000000) : Meets Try.prog 46 (#[.int .i64 i] ++ #[.pointer (some ⟨kb, 0, none⟩)]) [blkA kb [kv] 52] [slA 1 kv keep.length (keep.map .bool)] fun v L => v = .bool (keep.getD i false) ∧ L = [blkA kb [kv] 52] := by
  intro w B H
  have hsl := H.sl 0
  obtain ⟨ka, kc, rfl, hkm⟩ := hsl.form
  obtain ⟨hc, hf⟩ := H.cells 0
  unfold maxLen at hkm
  by_cases hlt : i < keep.length
  · obtain ⟨b, off, cap, hv, h1, h2, h3, h4⟩ := hsl.at (by omega)
    cases hv
    have hcell : w.cell? ⟨b, off + i, none⟩ = some (.bool (keep.getD i false)) := by
      rw [h4 i (by simpa using hlt), List.getElem?_map, List.getElem?_eq_getElem hlt]
      simp [List.getD, hlt]
    clear h4 hsl
    generalize keep.getD i false = kk at *
    go_enter Try.func46, Try.ntmps46
    go_wp2_with fail
    go_ret
    exact Back.mk ⟨rfl, rfl⟩ H
  · have e : keep.getD i false = false := by simp [List.getD, List.getElem?_eq_none (by omega : keep.length ≤ i)]
    rw [e]
    clear e hsl
    go_enter Try.func46, Try.ntmps46
    go_wp2_with fail
    go_ret
    exact Back.mk ⟨rfl, rfl⟩ H
set_option maxHeartbeats 8000000 in
set_option maxRecDepth 20000 in
theorem crash (p : Nat) (D : Dk) (kv : Value) (keep : List Bool) : Meets Try.prog 16 #[.pointer (some ⟨p, 0, none⟩), kv] [dskA p D] [slA 1 kv keep.length (keep.map .bool)] fun v L => v = .int .i64 0 ∧ L = [dskA p (D.crash keep)] := by
  intro w B H
  obtain ⟨ka, kc, rfl, hkm⟩ := (H.sl 0).form
  have hb := H.alloc [.slice ka keep.length kc] 52
  have hpl : D.pend.length ≤ 1000000 := by obtain ⟨s, q, o, ok, H1⟩ := dskA.open H; exact ok.plen
  have hS := settle p D 46 #[.pointer (some ⟨w.heap.size, 0, none⟩)] (fun w i => by kernel_rfl) [blkA w.heap.size [.slice ka keep.length kc] 52] [slA 1 (.slice ka keep.length kc) keep.length (keep.map .bool)] (fun i => keep.getD i false) (fun i hi => crash1 _ _ keep i (by omega))
  go_enter Try.func16, Try.ntmps16
  go_wp2_with fail
  refine (hS.all hb.swap).mono ?_
  rintro e w1 ⟨v, L, rfl, ⟨rfl, rfl⟩, H1⟩
  obtain ⟨s, q, o, ok, H1⟩ := dskA.open H1
  obtain ⟨hc, hf⟩ := H1.cells 0
  unfold dskC at hc
  go_wp2_with fail
  go_ret
  have ok2 : (D.crash keep).ok := ⟨ok.s64, ok.p64, ok.len, ok.plen, fun e => (by cases e), by simp [Dk.crash]⟩
  exact Back.mk ⟨rfl, rfl⟩ (dskA.close (D := D.crash keep) ok2 (((H1.set0 2 _).set0 3 _).set0 5 _ |>.pick [0, 1, 2]))
end Go.Proofs.Ytjmocjcjiiopnaa
end

section
set_option linter.unusedVariables false
set_option linter.unusedSimpArgs false
namespace Go.Proofs.Ytjmocjcjiiopnaa
open Go.RowKit Go.Ice Go.Oct Go.Dsk
theorem elemWrote : Elem Try.prog 109 138 65 72 (.agg (.int .i64 0 :: List.replicate 64 (.int .u8 0)).toArray) :=
  ⟨Try.underlying109, by
    obtain ⟨i0, hi, hz0, hz1, hz2⟩ := info_parts (show (Try.prog.info? 138).map (fun i => (i.zero, i.size, i.bytes)) = some (some (.agg (.int .i64 0 :: List.replicate 64 (.int .u8 0)).toArray), 65, 72) by kernel_rfl)
    exact ⟨i0, hi, hz0, hz1, hz2⟩, rfl, by decide⟩
theorem built_wrote (x y : Value) : Try.prog.built 138 [(0, x), (1, y)] = Instr.fill (([(0, 1), (1, 64)] : List (Nat × Nat)).toArray[·]?) (Value.int .i64 0 :: List.replicate 64 (Value.int .u8 0)).toArray [(0, x), (1, y)] := by kernel_rfl
theorem build_wrote (w : World) (i : Nat) (b : List UInt8) (hb : b.length = 64) : (Instr.build 138 #[(0, .int .i64 i), (1, .agg (b.map u8v).toArray)]).run Try.prog w = .ok (.agg (wrC (i, b)).toArray) w := by
  refine run_build w _ _ _ ?_
  show Try.prog.built 138 [(0, .int .i64 i), (1, .agg (b.map u8v).toArray)] = _
  rw [built_wrote]
  exact fill_pair rfl (by rw [List.length_map, hb]; rfl) rfl (by simp [hb])
set_option maxHeartbeats 8000000 in
set_option maxRecDepth 20000 in
theorem write1 (p bp bi bb : Nat) (D : Dk) (i : Nat) (b : List UInt8) (hi : i < D.safe.length) (hb : b.length = 64) (hpl : D.pend.length < 1000000) : Meets Try.prog 66 #[.pointer (some ⟨bp, 0, none⟩), .pointer (some ⟨bi, 0, none⟩), .pointer (some ⟨bb, 0, none⟩)]
    [dskA p D, blkA bp [.pointer (some ⟨p, 0, none⟩)] 25, blkA bi [.int .i64 i] 3, blkA bb (b.map u8v) 89] [] fun v L => v = .tuple #[] ∧ ∃ l, L = dskA p { D with pend := D.pend ++ [(i, b)] } :: l := by
  intro w B H
  obtain ⟨s, q, o, ok, H⟩ := dskA.open H
  obtain ⟨qa, qc, rfl, hqm⟩ := own_form (H.own 2)
  have hb64 : (b.map u8v).length = 64 := by rw [List.length_map]; exact hb
  have hwr65 : (wrC (i, b)).length = 65 := by simp [wrC, hb]
  go_enter Try.func66, Try.ntmps66
  refine wp_region_gh (Θ := Nat × Option Addr × Nat) (fun (ab, a2, c2) => [(0, 3, (.pointer (some ⟨p, 0, none⟩))), (1, 4, (.pointer (some ⟨p, 0, none⟩))), (2, 5, (.pointer (some ⟨p, 0, none⟩))), (3, 6, (.pointer (some ⟨p, 1, none⟩))), (4, 7, (.slice qa D.pend.length qc)), (5, 8, (.int .i64 i)), (6, 9, (.agg (b.map u8v).toArray)), (7, 10, (.agg (wrC (i, b)).toArray)), (8, 11, (.slice (some ⟨ab, 0, none⟩) 1 1)), (9, 12, (.slice a2 (D.pend.length + 1) c2)), (10, 13, (.pointer (some ⟨p, 0, none⟩))), (11, 14, (.pointer (some ⟨p, 1, none⟩)))]) (fun (ab, a2, c2) done WW => St w B (bif done 12 then [blkA p (dskC s (.slice a2 (D.pend.length + 1) c2) D o) 111, ownA 89 64 s D.safe.length (flatB D.safe), ownA 138 65 (.slice a2 (D.pend.length + 1) c2) (D.pend.length + 1) (flatW D.pend ++ wrC (i, b)), blkA bp [.pointer (some ⟨p, 0, none⟩)] 25, blkA bi [.int .i64 i] 3, blkA bb (b.map u8v) 89] else (bif done 9 then (blkA ab (wrC (i, b)) 138 :: [blkA p (dskC s (.slice qa D.pend.length qc) D o) 111, ownA 89 64 s D.safe.length (flatB D.safe), ownA 138 65 (.slice a2 (D.pend.length + 1) c2) (D.pend.length + 1) (flatW D.pend ++ wrC (i, b)), blkA bp [.pointer (some ⟨p, 0, none⟩)] 25, blkA bi [.int .i64 i] 3, blkA bb (b.map u8v) 89]) else (bif done 8 then (blkA ab (wrC (i, b)) 138 :: [blkA p (dskC s (.slice qa D.pend.length qc) D o) 111, ownA 89 64 s D.safe.length (flatB D.safe), ownA 138 65 (.slice qa D.pend.length qc) D.pend.length (flatW D.pend), blkA bp [.pointer (some ⟨p, 0, none⟩)] 25, blkA bi [.int .i64 i] 3, blkA bb (b.map u8v) 89]) else ([blkA p (dskC s (.slice qa D.pend.length qc) D o) 111, ownA 89 64 s D.safe.length (flatB D.safe), ownA 138 65 (.slice qa D.pend.length qc) D.pend.length (flatW D.pend), blkA bp [.pointer (some ⟨p, 0, none⟩)] 25, blkA bi [.int .i64 i] 3, blkA bb (b.map u8v) 89])))) [] WW) (by kernel_rfl) (hord_of2 (by kernel_rfl)) (fun _ => by kernel_rfl) (fun _ => by kernel_rfl) (fun _ => by kernel_rfl) ⟨(0, none, 0), H.drew⟩ ?_ ?_
  · intro (ab, a2, c2) done zb WW j oq ho hd hdep hcl HA HJ
    have hj : j < 13 := (Array.getElem?_eq_some_iff.1 ho).1
    obtain rfl | rfl | rfl | rfl | rfl | rfl | rfl | rfl | rfl | rfl | rfl | rfl | rfl : j = 0 ∨ j = 1 ∨ j = 2 ∨ j = 3 ∨ j = 4 ∨ j = 5 ∨ j = 6 ∨ j = 7 ∨ j = 8 ∨ j = 9 ∨ j = 10 ∨ j = 11 ∨ j = 12 := by omega
    · have n10 : done 10 = false := by cases hx : done 10 with | false => rfl | true => have := hcl 10 _ rfl hx ⟨0, .data⟩ (by simp) rfl; rw [hd] at this; cases this
      have n11 : done 11 = false := by cases hx : done 11 with | false => rfl | true => have := hcl 11 _ rfl hx ⟨10, .data⟩ (by simp) rfl; rw [n10] at this; cases this
      have n12 : done 12 = false := by cases hx : done 12 with | false => rfl | true => have := hcl 12 _ rfl hx ⟨11, .data⟩ (by simp) rfl; rw [n11] at this; cases this
      have hcl_ : ∀ k, WW.cell? ⟨bp, k, none⟩ = ([.pointer (some ⟨p, 0, none⟩)])[k]? := by
        have HQ := HJ
        cases g8 : done 8 <;> cases g9 : done 9 <;> simp only [n12, g8, g9, hd, cond_true, cond_false] at HQ <;> first | exact (St.cells HQ 0).1 | exact (St.cells HQ 1).1 | exact (St.cells HQ 2).1 | exact (St.cells HQ 3).1 | exact (St.cells HQ 4).1 | exact (St.cells HQ 5).1 | exact (St.cells HQ 6).1 | exact (St.cells HQ 7).1
      exact valG (θ := (ab, a2, c2)) (.pointer (some ⟨p, 0, none⟩)) ho (by cases ho; rfl) (by cases ho; simp [execOp, go_sem, HA.tm, lookT, hcl_]) (by cases ho; exact fun d hd => by cases hd; simp) HJ
    · have n2 : done 2 = false := by cases hx : done 2 with | false => rfl | true => have := hcl 2 _ rfl hx ⟨1, .data⟩ (by simp) rfl; rw [hd] at this; cases this
      have n3 : done 3 = false := by cases hx : done 3 with | false => rfl | true => have := hcl 3 _ rfl hx ⟨2, .data⟩ (by simp) rfl; rw [n2] at this; cases this
      have n4 : done 4 = false := by cases hx : done 4 with | false => rfl | true => have := hcl 4 _ rfl hx ⟨3, .data⟩ (by simp) rfl; rw [n3] at this; cases this
      have n9 : done 9 = false := by cases hx : done 9 with | false => rfl | true => have := hcl 9 _ rfl hx ⟨4, .data⟩ (by simp) rfl; rw [n4] at this; cases this
      have n10 : done 10 = false := by cases hx : done 10 with | false => rfl | true => have := hcl 10 _ rfl hx ⟨1, .phase⟩ (by simp) rfl; rw [hd] at this; cases this
      have n11 : done 11 = false := by cases hx : done 11 with | false => rfl | true => have := hcl 11 _ rfl hx ⟨10, .data⟩ (by simp) rfl; rw [n10] at this; cases this
      have n12 : done 12 = false := by cases hx : done 12 with | false => rfl | true => have := hcl 12 _ rfl hx ⟨11, .data⟩ (by simp) rfl; rw [n11] at this; cases this
      have hcl_ : ∀ k, WW.cell? ⟨bp, k, none⟩ = ([.pointer (some ⟨p, 0, none⟩)])[k]? := by
        have HQ := HJ
        cases g8 : done 8 <;> simp only [n9, n12, g8, hd, cond_true, cond_false] at HQ <;> first | exact (St.cells HQ 0).1 | exact (St.cells HQ 1).1 | exact (St.cells HQ 2).1 | exact (St.cells HQ 3).1 | exact (St.cells HQ 4).1 | exact (St.cells HQ 5).1 | exact (St.cells HQ 6).1 | exact (St.cells HQ 7).1
      exact valG (θ := (ab, a2, c2)) (.pointer (some ⟨p, 0, none⟩)) ho (by cases ho; rfl) (by cases ho; simp [execOp, go_sem, HA.tm, lookT, hcl_]) (by cases ho; exact fun d hd => by cases hd; simp) HJ
    · have p1 : done 1 = true := by cases ho; exact hdep ⟨1, .data⟩ (by simp) rfl
      exact valG (θ := (ab, a2, c2)) (.pointer (some ⟨p, 0, none⟩)) ho (by cases ho; rfl) (by cases ho; simp [execOp, go_sem, HA.tm, lookT, p1]) (by cases ho; exact fun d hd => by cases hd; simp) HJ
    · have p2 : done 2 = true := by cases ho; exact hdep ⟨2, .data⟩ (by simp) rfl
      exact valG (θ := (ab, a2, c2)) (.pointer (some ⟨p, 1, none⟩)) ho (by cases ho; rfl) (by cases ho; simp [execOp, go_sem, HA.tm, lookT, p2]) (by cases ho; exact fun d hd => by cases hd; simp) HJ
    · have p3 : done 3 = true := by cases ho; exact hdep ⟨3, .data⟩ (by simp) rfl
      have n9 : done 9 = false := by cases hx : done 9 with | false => rfl | true => have := hcl 9 _ rfl hx ⟨4, .data⟩ (by simp) rfl; rw [hd] at this; cases this
      have n10 : done 10 = false := by cases hx : done 10 with | false => rfl | true => have := hcl 10 _ rfl hx ⟨4, .phase⟩ (by simp) rfl; rw [hd] at this; cases this
      have n11 : done 11 = false := by cases hx : done 11 with | false => rfl | true => have := hcl 11 _ rfl hx ⟨10, .data⟩ (by simp) rfl; rw [n10] at this; cases this
      have n12 : done 12 = false := by cases hx : done 12 with | false => rfl | true => have := hcl 12 _ rfl hx ⟨11, .data⟩ (by simp) rfl; rw [n11] at this; cases this
      have hcl_ : ∀ k, WW.cell? ⟨p, k, none⟩ = (dskC s (.slice qa D.pend.length qc) D o)[k]? := by
        have HQ := HJ
        cases g8 : done 8 <;> simp only [n9, n12, g8, hd, cond_true, cond_false] at HQ <;> first | exact (St.cells HQ 0).1 | exact (St.cells HQ 1).1 | exact (St.cells HQ 2).1 | exact (St.cells HQ 3).1 | exact (St.cells HQ 4).1 | exact (St.cells HQ 5).1 | exact (St.cells HQ 6).1 | exact (St.cells HQ 7).1
      unfold dskC at hcl_
      exact valG (θ := (ab, a2, c2)) (.slice qa D.pend.length qc) ho (by cases ho; rfl) (by cases ho; simp [execOp, go_sem, HA.tm, lookT, p3, hcl_]) (by cases ho; exact fun d hd => by cases hd; simp) HJ
    · have n7 : done 7 = false := by cases hx : done 7 with | false => rfl | true => have := hcl 7 _ rfl hx ⟨5, .data⟩ (by simp) rfl; rw [hd] at this; cases this
      have n8 : done 8 = false := by cases hx : done 8 with | false => rfl | true => have := hcl 8 _ rfl hx ⟨7, .data⟩ (by simp) rfl; rw [n7] at this; cases this
      have n9 : done 9 = false := by cases hx : done 9 with | false => rfl | true => have := hcl 9 _ rfl hx ⟨8, .data⟩ (by simp) rfl; rw [n8] at this; cases this
      have n10 : done 10 = false := by cases hx : done 10 with | false => rfl | true => have := hcl 10 _ rfl hx ⟨5, .phase⟩ (by simp) rfl; rw [hd] at this; cases this
      have n11 : done 11 = false := by cases hx : done 11 with | false => rfl | true => have := hcl 11 _ rfl hx ⟨10, .data⟩ (by simp) rfl; rw [n10] at this; cases this
      have n12 : done 12 = false := by cases hx : done 12 with | false => rfl | true => have := hcl 12 _ rfl hx ⟨11, .data⟩ (by simp) rfl; rw [n11] at this; cases this
      have hcl_ : ∀ k, WW.cell? ⟨bi, k, none⟩ = ([.int .i64 i])[k]? := by
        have HQ := HJ
        simp only [n8, n9, n12, hd, cond_true, cond_false] at HQ <;> first | exact (St.cells HQ 0).1 | exact (St.cells HQ 1).1 | exact (St.cells HQ 2).1 | exact (St.cells HQ 3).1 | exact (St.cells HQ 4).1 | exact (St.cells HQ 5).1 | exact (St.cells HQ 6).1 | exact (St.cells HQ 7).1
      exact valG (θ := (ab, a2, c2)) (.int .i64 i) ho (by cases ho; rfl) (by cases ho; simp [execOp, go_sem, HA.tm, lookT, hcl_]) (by cases ho; exact fun d hd => by cases hd; simp) HJ
    · have n7 : done 7 = false := by cases hx : done 7 with | false => rfl | true => have := hcl 7 _ rfl hx ⟨6, .data⟩ (by simp) rfl; rw [hd] at this; cases this
      have n8 : done 8 = false := by cases hx : done 8 with | false => rfl | true => have := hcl 8 _ rfl hx ⟨7, .data⟩ (by simp) rfl; rw [n7] at this; cases this
      have n9 : done 9 = false := by cases hx : done 9 with | false => rfl | true => have := hcl 9 _ rfl hx ⟨8, .data⟩ (by simp) rfl; rw [n8] at this; cases this
      have n10 : done 10 = false := by cases hx : done 10 with | false => rfl | true => have := hcl 10 _ rfl hx ⟨6, .phase⟩ (by simp) rfl; rw [hd] at this; cases this
      have n11 : done 11 = false := by cases hx : done 11 with | false => rfl | true => have := hcl 11 _ rfl hx ⟨10, .data⟩ (by simp) rfl; rw [n10] at this; cases this
      have n12 : done 12 = false := by cases hx : done 12 with | false => rfl | true => have := hcl 12 _ rfl hx ⟨11, .data⟩ (by simp) rfl; rw [n11] at this; cases this
      have HRg : WW.rangeAt bb (0) (b.map u8v) := by
        have HQ := HJ
        simp only [n8, n9, n12, hd, cond_true, cond_false] at HQ <;> exact St.range HQ 5
      exact loadG (θ := (ab, a2, c2)) (v := (.agg (b.map u8v).toArray)) _ ((.tmp 2)) ho (by cases ho; rfl) (by cases ho; rfl) (by simp [HA.ev, HA.tm, lookT, Act.eval]) (bigBlock.load (hb64) HRg) (by cases ho; exact fun d hd => by cases hd; simp) HJ
    · have p5 : done 5 = true := by cases ho; exact hdep ⟨5, .data⟩ (by simp) rfl
      have p6 : done 6 = true := by cases ho; exact hdep ⟨6, .data⟩ (by simp) rfl
      exact buildG (θ := (ab, a2, c2)) (vals := #[(0, .int .i64 i), (1, .agg (b.map u8v).toArray)]) (v := (.agg (wrC (i, b)).toArray)) _ _ ho (by cases ho; rfl) (by cases ho; rfl) (by simp [HA.ev, HA.tm, lookT, Act.eval, p5, p6]) (build_wrote WW i b hb) (by cases ho; exact fun d hd => by cases hd; simp) HJ
    · have p7 : done 7 = true := by cases ho; exact hdep ⟨7, .data⟩ (by simp) rfl
      have n9 : done 9 = false := by cases hx : done 9 with | false => rfl | true => have := hcl 9 _ rfl hx ⟨8, .data⟩ (by simp) rfl; rw [hd] at this; cases this
      have n10 : done 10 = false := by cases hx : done 10 with | false => rfl | true => have := hcl 10 _ rfl hx ⟨8, .phase⟩ (by simp) rfl; rw [hd] at this; cases this
      have n11 : done 11 = false := by cases hx : done 11 with | false => rfl | true => have := hcl 11 _ rfl hx ⟨10, .data⟩ (by simp) rfl; rw [n10] at this; cases this
      have n12 : done 12 = false := by cases hx : done 12 with | false => rfl | true => have := hcl 12 _ rfl hx ⟨11, .data⟩ (by simp) rfl; rw [n11] at this; cases this
      have HS : St w B [blkA p (dskC s (.slice qa D.pend.length qc) D o) 111, ownA 89 64 s D.safe.length (flatB D.safe), ownA 138 65 (.slice qa D.pend.length qc) D.pend.length (flatW D.pend), blkA bp [.pointer (some ⟨p, 0, none⟩)] 25, blkA bi [.int .i64 i] 3, blkA bb (b.map u8v) 89] [] WW := St.cast (by simp only [n9, n12, hd, cond_true, cond_false]) HJ
      exact buildSliceG (θ := (ab, a2, c2)) (WW.heap.size, a2, c2) (vals := #[(0, .agg (wrC (i, b)).toArray)]) _ _ _ ho (by cases ho; rfl) (by cases ho; rfl) (by simp [HA.ev, HA.tm, lookT, Act.eval, p7]) (elemWrote.lit1 (wrC (i, b)) hwr65 (by omega) WW) (by cases ho; exact fun d hd => by cases hd; simp) (.inr (.cons (.inl rfl) (.cons (.inl rfl) (.cons (.inl rfl) (.cons (.inl rfl) (.cons (.inl rfl) (.cons (.inl rfl) (.cons (.inl rfl) (.cons (.inl rfl) (.cons (.inr ⟨rfl, hd⟩) (.cons (.inr ⟨rfl, n9⟩) (.cons (.inl rfl) (.cons (.inl rfl) (.nil)))))))))))))) (St.cast (by simp [n9, n12, n9, n12] <;> rfl) (HS.alloc _ _))
    · have p4 : done 4 = true := by cases ho; exact hdep ⟨4, .data⟩ (by simp) rfl
      have p8 : done 8 = true := by cases ho; exact hdep ⟨8, .data⟩ (by simp) rfl
      have n10 : done 10 = false := by cases hx : done 10 with | false => rfl | true => have := hcl 10 _ rfl hx ⟨9, .phase⟩ (by simp) rfl; rw [hd] at this; cases this
      have n11 : done 11 = false := by cases hx : done 11 with | false => rfl | true => have := hcl 11 _ rfl hx ⟨10, .data⟩ (by simp) rfl; rw [n10] at this; cases this
      have n12 : done 12 = false := by cases hx : done 12 with | false => rfl | true => have := hcl 12 _ rfl hx ⟨11, .data⟩ (by simp) rfl; rw [n11] at this; cases this
      have HS : St w B (blkA ab (wrC (i, b)) 138 :: [blkA p (dskC s (.slice qa D.pend.length qc) D o) 111, ownA 89 64 s D.safe.length (flatB D.safe), ownA 138 65 (.slice qa D.pend.length qc) D.pend.length (flatW D.pend), blkA bp [.pointer (some ⟨p, 0, none⟩)] 25, blkA bi [.int .i64 i] 3, blkA bb (b.map u8v) 89]) [] WW := St.cast (by simp only [p8, n12, hd, cond_true, cond_false]) HJ
      obtain ⟨v', w', hr, HS'⟩ := St.app elemWrote HS 3 rfl (isSlK_of_blk HS 0 rfl 1 (by omega) (by rw [hwr65]) (by decide)) (wrC_one _) (by omega) (by unfold maxLen; omega)
      obtain ⟨a', c', rfl, _⟩ := own_form (St.own HS' 3)
      exact appG (θ := (ab, a2, c2)) (v := (.slice qa D.pend.length qc)) (vx := (.slice (some ⟨ab, 0, none⟩) 1 1)) (ab, a', c') (.tmp 7) (.tmp 11) _ ho (by cases ho; rfl) (by cases ho; rfl) (by simp [HA.ev, HA.tm, lookT, Act.eval, p4, p8]) (by simp [HA.ev, HA.tm, lookT, Act.eval, p4, p8]) hr (by cases ho; exact fun d hd => by cases hd; simp) (.inr (.cons (.inl rfl) (.cons (.inl rfl) (.cons (.inl rfl) (.cons (.inl rfl) (.cons (.inl rfl) (.cons (.inl rfl) (.cons (.inl rfl) (.cons (.inl rfl) (.cons (.inl rfl) (.cons (.inr ⟨rfl, hd⟩) (.cons (.inl rfl) (.cons (.inl rfl) (.nil)))))))))))))) (St.cast (by simp [p8, n12, n12] <;> rfl) HS')
    · have p0 : done 0 = true := by cases ho; exact hdep ⟨0, .data⟩ (by simp) rfl
      exact valG (θ := (ab, a2, c2)) (.pointer (some ⟨p, 0, none⟩)) ho (by cases ho; rfl) (by cases ho; simp [execOp, go_sem, HA.tm, lookT, p0]) (by cases ho; exact fun d hd => by cases hd; simp) HJ
    · have p10 : done 10 = true := by cases ho; exact hdep ⟨10, .data⟩ (by simp) rfl
      exact valG (θ := (ab, a2, c2)) (.pointer (some ⟨p, 1, none⟩)) ho (by cases ho; rfl) (by cases ho; simp [execOp, go_sem, HA.tm, lookT, p10]) (by cases ho; exact fun d hd => by cases hd; simp) HJ
    · have p11 : done 11 = true := by cases ho; exact hdep ⟨11, .data⟩ (by simp) rfl
      have p10 : done 10 = true := hcl 11 _ rfl p11 ⟨10, .data⟩ (by simp) rfl
      have p9 : done 9 = true := hcl 10 _ rfl p10 ⟨9, .phase⟩ (by simp) rfl
      have p8 : done 8 = true := hcl 10 _ rfl p10 ⟨8, .phase⟩ (by simp) rfl
      have HS : St w B (blkA ab (wrC (i, b)) 138 :: [blkA p (dskC s (.slice qa D.pend.length qc) D o) 111, ownA 89 64 s D.safe.length (flatB D.safe), ownA 138 65 (.slice a2 (D.pend.length + 1) c2) (D.pend.length + 1) (flatW D.pend ++ wrC (i, b)), blkA bp [.pointer (some ⟨p, 0, none⟩)] 25, blkA bi [.int .i64 i] 3, blkA bb (b.map u8v) 89]) [] WW := St.cast (by simp only [p8, p9, hd, cond_true, cond_false]) HJ
      have hcl_ : ∀ k, WW.cell? ⟨p, k, none⟩ = (dskC s (.slice qa D.pend.length qc) D o)[k]? := by
        have HQ := HJ
        simp only [p8, p9, hd, cond_true, cond_false] at HQ <;> first | exact (St.cells HQ 0).1 | exact (St.cells HQ 1).1 | exact (St.cells HQ 2).1 | exact (St.cells HQ 3).1 | exact (St.cells HQ 4).1 | exact (St.cells HQ 5).1 | exact (St.cells HQ 6).1 | exact (St.cells HQ 7).1
      unfold dskC at hcl_
      have hfl_ : ∀ k, WW.frozen? ⟨p, k, none⟩ = false := by
        have HQ := HJ
        simp only [p8, p9, hd, cond_true, cond_false] at HQ <;> first | exact (St.cells HQ 0).2 | exact (St.cells HQ 1).2 | exact (St.cells HQ 2).2 | exact (St.cells HQ 3).2 | exact (St.cells HQ 4).2 | exact (St.cells HQ 5).2 | exact (St.cells HQ 6).2 | exact (St.cells HQ 7).2
      exact skipG (θ := (ab, a2, c2)) ho (by cases ho; rfl) (by cases ho; rfl) (by cases ho; first | (simp [execOp, go_sem, HA.tm, lookT, hcl_, hfl_, p8, p9, p10, p11]; done) | (simp [execOp, go_sem, HA.tm, lookT, hcl_, hfl_, p8, p9, p10, p11]; rfl)) (St.cast (by simp [p8, p9] <;> rfl) (HS.set_ 1 1 (.slice a2 (D.pend.length + 1) c2) rfl).tail)
  · intro (ab, a2, c2) done WW hall HJ
    have z8 := hall 8 (by decide)
    have z9 := hall 9 (by decide)
    have z12 := hall 12 (by decide)
    have HE : St w B [blkA p (dskC s (.slice a2 (D.pend.length + 1) c2) D o) 111, ownA 89 64 s D.safe.length (flatB D.safe), ownA 138 65 (.slice a2 (D.pend.length + 1) c2) (D.pend.length + 1) (flatW D.pend ++ wrC (i, b)), blkA bp [.pointer (some ⟨p, 0, none⟩)] 25, blkA bi [.int .i64 i] 3, blkA bb (b.map u8v) 89] [] WW := St.cast (by simp [z8, z9, z12]) HJ
    clear HJ hall z8 z9 z12
    simp only [putAll, Act.put, List.setIfInBounds_toArray, List.set_cons_succ, List.set_cons_zero]
    go_wp2_with fail
    go_end0
    have e1 : (D.pend ++ [(i, b)]).length = D.pend.length + 1 := by simp
    have e2 : flatW (D.pend ++ [(i, b)]) = flatW D.pend ++ wrC (i, b) := by simp [flatW_eq]
    rw [← e1, ← e2] at HE
    refine Back.mk ⟨rfl, _, rfl⟩ (dskA.close (D := { D with pend := D.pend ++ [(i, b)] }) ⟨ok.s64, fun x hx => ?_, ok.len, by simp; omega, ok.left0, ok.fails0⟩ HE)
    rcases List.mem_append.1 hx with hx | hx
    · exact ok.p64 x hx
    · rw [List.mem_singleton.1 hx]; exact ⟨hb, hi⟩
set_option maxHeartbeats 8000000 in
set_option maxRecDepth 20000 in
theorem write (p : Nat) (D : Dk) (i : Int) (b : List UInt8) (hb : b.length = 64) (hpl : D.pend.length < 1000000) : Meets Try.prog 32 #[.pointer (some ⟨p, 0, none⟩), .int .i64 i, blkV b] [dskA p D] [] fun v L => v = .int .i64 (D.write i b).2 ∧ L = [dskA p (D.write i b).1] := by
  intro w B H
  rcases D.op_cases i fun D => { D with pend := D.pend ++ [(i.toNat, b)] } with ⟨h0, e0⟩ | ⟨h0, h1, e0⟩ | ⟨D2, h0, h1, e0⟩ <;> unfold Dk.write <;> rw [e0] <;> unfold blkV
  all_goals
    have hb3 := ((H.alloc [.pointer (some ⟨p, 0, none⟩)] 25).alloc [.int .i64 i] 3).alloc (b.map u8v) 89
    simp only [World.size_alloc] at hb3
    go_enter Try.func32, Try.ntmps32
    go_wp2_with fail
    refine ((ready p D i).call (M := [blkA _ _ _, blkA _ _ _, blkA _ _ _]) hb3.rot4 (by simp)).mono ?_
    rintro e w1 ⟨v, L, rfl, ⟨rfl, rfl⟩, H1⟩
    obtain ⟨hc, hf⟩ := St.cells H1 3
  · go_wp2_with fail
    go_ret
    exact Back.mk ⟨rfl, rfl⟩ (St.pick H1 [0])
  · rw [h0]
    go_wp2_with fail
    refine ((do_none p _ _ h1).call (M := [blkA _ _ _, blkA _ _ _, blkA _ _ _]) H1 (by simp)).mono ?_
    rintro e w2 ⟨v, L, rfl, ⟨rfl, rfl⟩, H2⟩
    go_wp2_with fail
    go_ret
    exact Back.mk ⟨rfl, rfl⟩ (St.pick H2 [0])
  · obtain ⟨g1, g2, g3, g4⟩ := Dk.ready_zero h0
    obtain ⟨k1, k2, _⟩ := Dk.go_same h1
    obtain ⟨n, rfl⟩ : ∃ n : Nat, i = n := ⟨i.toNat, by omega⟩
    rw [h0]
    go_wp2_with fail
    refine ((do_some p _ _ _ _ h1 (fun w => by kernel_rfl) [blkA _ _ _, blkA _ _ _, blkA _ _ _] [] _ (write1 p _ _ _ D2 n b (by rw [k1, g3]; omega) hb (by rw [k2, g4]; exact hpl))).all (St.pick H1 [0, 3, 2, 1])).mono ?_
    rintro e w2 ⟨v, L, rfl, ⟨rfl, u, rfl, l, rfl⟩, H2⟩
    go_wp2_with fail
    go_ret
    exact Back.mk ⟨rfl, rfl⟩ (St.left (M := [_]) H2)
end Go.Proofs.Ytjmocjcjiiopnaa
end
