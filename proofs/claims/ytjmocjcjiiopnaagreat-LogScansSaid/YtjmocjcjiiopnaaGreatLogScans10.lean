/- Records as bytes: head, Need, Decode. Conditions: the bytes lie in memory, at most a million. Records as bytes: Need, Decode. Conditions: the bytes lie in memory, at most a million. -/
import Derived.Test.YtjmocjcjiiopnaaGreatLogScans09

section
set_option linter.unusedVariables false
set_option linter.unusedSimpArgs false
namespace Go.Oct
/-- What stands ahead of a record's key. -/
def headR (b : List UInt8) : Rc := ⟨numB (b.take 1), numB ((b.drop 1).take 4), numB ((b.drop 5).take 4), numB ((b.drop 9).take 8)⟩
def headN (b : List UInt8) : Nat := numB ((b.drop 17).take 2)
def headM (b : List UInt8) : Nat := numB ((b.drop 19).take 2)
/-- Whether a record can begin so. -/
def headE (b : List UInt8) : Nat := if b.length < 21 then 9 else if (headR b).right (headN b) (headM b) then 0 else 160
end Go.Oct
namespace Go.Proofs.YtjmocjcjiiopnaaGreat
open Go.RowKit Go.Ice Go.Oct
theorem bigRec : Big Tryz.prog 62 6 := ⟨⟨_, Tryz.underlying62, rfl⟩, by kernel_rfl⟩
theorem results_cttt {P : Program} {fn : Func} {tmps : Array Value} {w : World} {s1 s2 s3 s4 rb n : Nat} {ty : TypeId} {cs : List Value} (hr : fn.results = #[.cell s1 ty, .tmp s2, .tmp s3, .tmp s4]) (h1 : tmps.getD s1 undef = .pointer (some ⟨rb, 0, none⟩)) (T : Big P ty n) (hrg : w.rangeAt rb 0 cs) (hl : cs.length = n) : (results fn tmps).run P w = .ok (.tuple #[.agg cs.toArray, tmps.getD s2 undef, tmps.getD s3 undef, tmps.getD s4 undef]) w := by
  have h1' : tmps[s1]?.getD undef = .pointer (some ⟨rb, 0, none⟩) := by simpa using h1
  simp [results, hr, h1', asAddr, T.loadVar hl hrg]
/-- What head answers. -/
def headV (b : List UInt8) : Value := if headE b = 0 then .tuple #[recV (headR b) (.slice none 0 0) (.slice none 0 0), .int .i64 (headN b), .int .i64 (headM b), .int .i64 0] else .tuple #[recV ⟨0, 0, 0, 0⟩ (.slice none 0 0) (.slice none 0 0), .int .i64 0, .int .i64 0, .int .i64 (headE b)]
set_option maxHeartbeats 8000000 in
set_option maxRecDepth 20000 in
theorem head (a : Option Addr) (c : Nat) (b : List UInt8) (hm : b.length ≤ 1000000) : Meets Tryz.prog 123 #[.slice a b.length c] [] [bytA (.slice a b.length c) b] fun v L => v = headV b ∧ L = [] := by
  intro w B H
  have H1 := H.alloc [.int .i64 0, .int .u32 0, .int .u32 0, .int .u64 0, .slice none 0 0, .slice none 0 0] 62
  obtain ⟨rb, hrb⟩ : ∃ rb, rb = w.heap.size := ⟨_, rfl⟩
  rw [← hrb] at H1
  by_cases hs : b.length < 21
  · have HV : Hid (headV b = .tuple #[recV ⟨0, 0, 0, 0⟩ (.slice none 0 0) (.slice none 0 0), .int .i64 0, .int .i64 0, .int .i64 9]) := Lib.hid (by unfold headV headE; rw [if_pos hs]; rfl)
    go_enter Tryz.func123, Tryz.ntmps123
    go_upto_region 1 with fail
    rw [← hrb]
    clear hrb
    refine wp_world (fun W => St w B _ _ W) H1 ?_
    intro w1 H2
    obtain ⟨hc, hf⟩ := St.cells H2 0
    go_wp2_with fail
    have H3 := (((((H2.set0 0 (.int .i64 0)).set0 1 (.int .u32 0)).set0 2 (.int .u32 0)).set0 3 (.int .u64 0)).set0 4 (.slice none 0 0)).set0 5 (.slice none 0 0)
    exact bodyPost_ret (results_cttt rfl rfl bigRec (H3.range 0) rfl) rfl (Back.mk (L' := []) ⟨HV.out.symm, rfl⟩ (St.pick H3 []))
  · obtain ⟨n, hn⟩ : ∃ n, n = b.length := ⟨_, rfl⟩
    have hb := H.bytes 0
    rw [← hn] at hb hs H1 ⊢
    have HN := Lib.hid hn
    clear hn
    go_enter Tryz.func123, Tryz.ntmps123
    go_upto_region 1 with fail
    rw [← hrb]
    have HRB := Lib.hid hrb
    clear hrb hb
    refine wp_world (fun W => St w B _ _ W) H1 ?_
    intro w1 H2
    clear H1
    have hb1 : BytesAt w1 (.slice a n c) b := H2.bytes 0
    have hl21 : 21 ≤ b.length := by rw [← HN.out]; omega
    go_wp2_with fail
    refine (read w1 _ b hb1 hm H2).mono ?_
    rintro e w2 ⟨xb, rfl, H3⟩
    clear hb1 H2
    have HU8 := u8_ok xb b 0 (by omega)
    have HF := u32_ok xb b 1 (by omega)
    have HX := u32_ok xb b 5 (by omega)
    have HS := u64_ok xb b 9 (by omega)
    have HY := u16_ok xb b 17 (by omega)
    have HZ := u16_ok xb b 19 (by omega)
    have l1 : numB ((b.drop 0).take 1) < 256 := numB_take (b.drop 0) 1 (by rw [List.length_drop]; omega)
    have l2 : numB ((b.drop 1).take 4) < 4294967296 := numB_take (b.drop 1) 4 (by rw [List.length_drop]; omega)
    have l3 : numB ((b.drop 5).take 4) < 4294967296 := numB_take (b.drop 5) 4 (by rw [List.length_drop]; omega)
    have l4 : numB ((b.drop 9).take 8) < 18446744073709551616 := numB_take (b.drop 9) 8 (by rw [List.length_drop]; omega)
    have l5 : numB ((b.drop 17).take 2) < 65536 := numB_take (b.drop 17) 2 (by rw [List.length_drop]; omega)
    have l6 : numB ((b.drop 19).take 2) < 65536 := numB_take (b.drop 19) 2 (by rw [List.length_drop]; omega)
    have HV : Hid (headV b = if (Rc.right ⟨numB ((b.drop 0).take 1), numB ((b.drop 1).take 4), numB ((b.drop 5).take 4), numB ((b.drop 9).take 8)⟩ (numB ((b.drop 17).take 2)) (numB ((b.drop 19).take 2))) then .tuple #[recV ⟨numB ((b.drop 0).take 1), numB ((b.drop 1).take 4), numB ((b.drop 5).take 4), numB ((b.drop 9).take 8)⟩ (.slice none 0 0) (.slice none 0 0), .int .i64 (numB ((b.drop 17).take 2)), .int .i64 (numB ((b.drop 19).take 2)), .int .i64 0] else .tuple #[recV ⟨0, 0, 0, 0⟩ (.slice none 0 0) (.slice none 0 0), .int .i64 0, .int .i64 0, .int .i64 160]) := Lib.hid (by
      have e1 : headE b = if (headR b).right (headN b) (headM b) then 0 else 160 := by unfold headE; rw [if_neg (by omega)]
      unfold headV
      rw [e1, List.drop_zero]
      show _ = if (headR b).right (headN b) (headM b) = true then _ else _
      cases (headR b).right (headN b) (headM b) <;> rfl)
    generalize numB ((b.drop 0).take 1) = k at *
    generalize numB ((b.drop 1).take 4) = f at *
    generalize numB ((b.drop 5).take 4) = x at *
    generalize numB ((b.drop 9).take 8) = s at *
    generalize numB ((b.drop 17).take 2) = kn at *
    generalize numB ((b.drop 19).take 2) = km at *
    have HU8 := Lib.hid HU8
    have HF := Lib.hid HF
    have HX := Lib.hid HX
    have HS := Lib.hid HS
    have HY := Lib.hid HY
    have HZ := Lib.hid HZ
    go_wp2_with fail
    refine (HU8.out.call (L := [_]) (M := [_]) H3 (by simp)).mono ?_
    rintro e w3 ⟨v, L, rfl, ⟨rfl, rfl⟩, H4⟩
    go_wp2_with fail
    refine (HF.out.call (L := [_]) (M := [_]) H4 (by simp)).mono ?_
    rintro e w4 ⟨v, L, rfl, ⟨rfl, rfl⟩, H5⟩
    go_wp2_with fail
    refine (HX.out.call (L := [_]) (M := [_]) H5 (by simp)).mono ?_
    rintro e w5 ⟨v, L, rfl, ⟨rfl, rfl⟩, H6⟩
    go_wp2_with fail
    refine (HS.out.call (L := [_]) (M := [_]) H6 (by simp)).mono ?_
    rintro e w6 ⟨v, L, rfl, ⟨rfl, rfl⟩, H7⟩
    clear H3 H4 H5 H6
    obtain ⟨hc, hf⟩ := St.cells H7 1
    have H8 := (((((H7.set1 0 (.int .i64 k)).set1 1 (.int .u32 f)).set1 2 (.int .u32 x)).set1 3 (.int .u64 s)).set1 4 (.slice none 0 0)).set1 5 (.slice none 0 0)
    go_upto_region 5 with fail
    refine wp_world (fun W => St w B _ _ W) H8 ?_
    intro w7 H9
    clear H7 H8 hc hf
    go_wp2_with fail
    refine (HY.out.call (L := [_]) (M := [_]) H9 (by simp)).mono ?_
    rintro e w8 ⟨v, L, rfl, ⟨rfl, rfl⟩, H10⟩
    go_wp2_with fail
    refine (HZ.out.call (L := [_]) (M := [_]) H10 (by simp)).mono ?_
    rintro e w9 ⟨v, L, rfl, ⟨rfl, rfl⟩, H11⟩
    clear H9 H10
    have H12 := St.pick H11 [1]
    clear H11
    have HR := right ⟨k, f, x, s⟩ (.slice none 0 0) (.slice none 0 0) ⟨_, _, _, rfl⟩ ⟨_, _, _, rfl⟩ kn km (by unfold maxLen; omega) (by unfold maxLen; omega)
    obtain ⟨hc, hf⟩ := St.cells H12 0
    unfold recV at HR
    have HV2 := HV.out
    clear HV
    cases hq : Rc.right ⟨k, f, x, s⟩ kn km
    all_goals
      rw [hq] at HR HV2
      have HVV := Lib.hid HV2
      clear hq HV2
      go_wp2_with fail
      refine (HR.call (L := []) (M := [_]) H12 (by simp)).mono ?_
      rintro e w10 ⟨v, L, rfl, ⟨rfl, rfl⟩, H13⟩
      clear hc hf
      obtain ⟨hc, hf⟩ := St.cells H13 0
      go_wp2_with fail
    · have H14 := (((((H13.set_ 0 0 (.int .i64 0)).set_ 0 1 (.int .u32 0)).set_ 0 2 (.int .u32 0)).set_ 0 3 (.int .u64 0)).set_ 0 4 (.slice none 0 0)).set_ 0 5 (.slice none 0 0)
      exact bodyPost_ret (results_cttt rfl rfl bigRec (H14.range 0) rfl) rfl (Back.mk (L' := []) ⟨HVV.out.symm, rfl⟩ (St.pick H14 []))
    · have H14 := (((((H13.set_ 0 0 (.int .i64 k)).set_ 0 1 (.int .u32 f)).set_ 0 2 (.int .u32 x)).set_ 0 3 (.int .u64 s)).set_ 0 4 (.slice none 0 0)).set_ 0 5 (.slice none 0 0)
      exact bodyPost_ret (results_cttt rfl rfl bigRec (H14.range 0) rfl) rfl (Back.mk (L' := []) ⟨HVV.out.symm, rfl⟩ (St.pick H14 []))
end Go.Proofs.YtjmocjcjiiopnaaGreat
end

section
set_option linter.unusedVariables false
set_option linter.unusedSimpArgs false
namespace Go.Oct
/-- How many bytes the record has that begins so. -/
def needB (b : List UInt8) : Nat := if headE b = 0 then 21 + headN b + headM b else 0
/-- Whether a record stands there. -/
def decE (b : List UInt8) : Nat := if headE b = 0 then (if b.length < needB b then 9 else 0) else headE b
theorem headE_cases (b : List UInt8) : headE b = 0 ∨ headE b = 9 ∨ headE b = 160 := by
  unfold headE
  split
  · simp
  · split <;> simp
theorem headNM (b : List UInt8) (h : headE b = 0) : 21 ≤ b.length ∧ 1 ≤ headN b ∧ headN b ≤ 250 ∧ headM b ≤ 512 := by
  unfold headE at h
  split at h
  · cases h
  · split at h
    · rename_i h1 h2
      have := of_decide_eq_true h2
      omega
    · cases h
end Go.Oct
namespace Go.Ice
open Go.RowKit
section
variable {Θ : Type} {P : Program} {ops : Array Oper} {Q : Exit → Act → World → Prop} {i : Nat} {o : Oper} {b : Act} {W : World} {tbl : Θ → List (Nat × Nat × Value)} {J : Θ → World → Prop} {θ : Θ} {done : Nat → Bool}
/-- A slice expression whose run is known. -/
theorem sliceG {vx vl vh v : Value} (t : TypeId) (x l h : Operand) (ho : ops[i]? = some o) (hg : Region.wanted o (yielded ops b.tmps) = true) (hop : o.op = .slice t x (some l) (some h) none) (hx : b.eval x = vx) (hl : b.eval l = vl) (hh : b.eval h = vh) (hrun : (Instr.sliceAt t vx (some vl) (some vh) none).run P W = .ok v W)
    (hm : ∀ d, o.dst = some d → (i, d, v) ∈ tbl θ) (hJ : J θ W) :
    wpOp P ops Q i (fun a' W' => ∃ v θ', a' = b.put o.dst v ∧ (∀ d, o.dst = some d → (i, d, v) ∈ tbl θ') ∧ (θ' = θ ∨ Agree done (tbl θ) (tbl θ')) ∧ J θ' W') b W :=
  valG v ho hg (by unfold execOp; simp only [hop, hx, hl, hh, Option.map_some, Option.map_none, Sem.run_bind, Sem.run_pure, hrun, Result.andThen_ok]) hm hJ
end
/-- A part of a slice of elements of one cell. -/
theorem run_sub {P : Program} {t e : TypeId} (ht : P.underlying t = some (.slice e)) (hs : ∀ w, (sizeOf e).run P w = .ok 1 w) (w : World) (a : Option Addr) (n c i j : Nat) (h1 : i ≤ j) (h2 : j ≤ c) (h3 : a = none → c = 0) : (Instr.sliceAt t (.slice a n c) (some (.int .i64 (i : Int))) (some (.int .i64 (j : Int))) none).run P w = .ok (subV a c i (j - i)) w := by
  cases a with
  | none =>
    have := h3 rfl
    subst this
    obtain rfl : j = 0 := by omega
    obtain rfl : i = 0 := by omega
    simp [Instr.sliceAt, Instr.slice, Instr.sliceBounds, Instr.sliceBound, go_sem, run_underlying ht, hs, subV]
  | some a =>
    simp [Instr.sliceAt, Instr.slice, Instr.sliceBounds, Instr.sliceBound, go_sem, run_underlying ht, hs, subV, h1, h2]
/-- A part of bytes may be read where the bytes may. -/
theorem byt_sub_imp {a : Option Addr} {c i n : Nat} {l : List UInt8} (hs : ∀ w, BytesAt w (.slice a l.length c) l → BytesAt w (subV a c i n) ((l.drop i).take n)) : (bytA (.slice a l.length c) l).imp (bytA (subV a c i n) ((l.drop i).take n)) := fun F w h =>
  ⟨fun x => (l.drop i).take n ≠ [] ∧ (subV a c i n).ownBlock = some x, ⟨fun _ => Iff.rfl, hs w h.2⟩, fun x hx => (h.1 x).2 ⟨fun e => hx.1 (by rw [e]; simp), by
    have := hx.2
    unfold subV at this
    cases a with
    | none => split at this <;> simp [Value.ownBlock] at this
    | some a =>
      have hb : (a.add i).block = a.block := by unfold Addr.add; split <;> rfl
      split at this <;> simpa [Value.ownBlock, hb] using this⟩⟩
end Go.Ice
namespace Go.Proofs.YtjmocjcjiiopnaaGreat
open Go.RowKit Go.Ice Go.Oct
theorem run_subB (w : World) (a : Option Addr) (n c i j : Nat) (h1 : i ≤ j) (h2 : j ≤ c) (h3 : a = none → c = 0) : (Instr.sliceAt 60 (.slice a n c) (some (.int .i64 (i : Int))) (some (.int .i64 (j : Int))) none).run Tryz.prog w = .ok (subV a c i (j - i)) w := by
  obtain ⟨i0, hi, _, hz1, _⟩ := info_parts (show (Tryz.prog.info? 5).map (fun i => (i.zero, i.size, i.bytes)) = some (some (.int .u8 0), 1, 1) by kernel_rfl)
  exact run_sub Tryz.underlying60 (fun w => by simp [sizeOf, typeInfo, go_sem, hi, hz1]) w a n c i j h1 h2 h3
theorem clonem (v : Value) (l : List UInt8) (hm : l.length ≤ 1000000) : Meets Tryz.prog 120 #[v] [] [bytA v l] fun u L => ∃ a c, u = .slice a l.length c ∧ L = [ownA 5 1 (.slice a l.length c) l.length (l.map u8v)] := by
  intro w B H
  refine (clone w v l (H.bytes 0) hm).mono ?_
  rintro e w1 ⟨u, rfl, ho1, hb⟩
  obtain ⟨a, c, rfl, _⟩ := own_form ho1
  exact Back.mk ⟨a, c, rfl, rfl⟩ (H.newOwn hb ho1)
set_option maxHeartbeats 8000000 in
set_option maxRecDepth 20000 in
theorem need (a : Option Addr) (c : Nat) (b : List UInt8) (hm : b.length ≤ 1000000) : Meets Tryz.prog 88 #[.slice a b.length c] [] [bytA (.slice a b.length c) b] fun v L => v = .tuple #[.int .i64 (needB b), .int .i64 (headE b)] ∧ L = [] := by
  intro w B H
  have HH := head a c b hm
  unfold headV at HH
  rcases headE_cases b with h0 | h0 | h0
  · have h1 := headNM b h0
    have hn : needB b = 21 + headN b + headM b := by unfold needB; rw [if_pos h0]
    rw [h0] at HH ⊢
    rw [hn]
    rw [if_pos rfl] at HH
    unfold recV at HH
    generalize headN b = kn at *
    generalize headM b = km at *
    clear hn h0
    go_enter Tryz.func88, Tryz.ntmps88
    go_wp2_with fail
    refine (HH.call (L := []) (M := []) H (sub_imp (by simp))).mono ?_
    rintro e w1 ⟨v, L, rfl, ⟨rfl, rfl⟩, H1⟩
    go_wp2_with fail
    exact bodyPost_ret (results_tmp2 rfl _ _ _) rfl (Back.mk ⟨by simp, rfl⟩ (St.pick (H1.alloc [.int .i64 (headR b).k, .int .u32 (headR b).f, .int .u32 (headR b).e, .int .u64 (headR b).s, .slice none 0 0, .slice none 0 0] 62) []))
  all_goals
    have hn : needB b = 0 := by unfold needB; rw [if_neg (by omega)]
    rw [h0] at HH ⊢
    rw [hn]
    rw [if_neg (by decide)] at HH
    unfold recV at HH
    clear hn h0
    go_enter Tryz.func88, Tryz.ntmps88
    go_wp2_with fail
    refine (HH.call (L := []) (M := []) H (sub_imp (by simp))).mono ?_
    rintro e w1 ⟨v, L, rfl, ⟨rfl, rfl⟩, H1⟩
    go_wp2_with fail
    exact bodyPost_ret (results_tmp2 rfl _ _ _) rfl (Back.mk ⟨rfl, rfl⟩ (St.pick (H1.alloc [.int .i64 0, .int .u32 0, .int .u32 0, .int .u64 0, .slice none 0 0, .slice none 0 0] 62) []))
/-- What Decode answers. -/
def decQ (b : List UInt8) (u : Value) (L : List Asn) : Prop :=
  if decE b = 0 then ∃ x y c d, u = .tuple #[recV (headR b) (.slice x (headN b) c) (.slice y (headM b) d), .int .i64 (needB b), .int .i64 0] ∧ L = [ownA 5 1 (.slice x (headN b) c) (headN b) (((b.drop 21).take (headN b)).map u8v), ownA 5 1 (.slice y (headM b) d) (headM b) (((b.drop (21 + headN b)).take (headM b)).map u8v)]
  else u = .tuple #[recV ⟨0, 0, 0, 0⟩ (.slice none 0 0) (.slice none 0 0), .int .i64 0, .int .i64 (decE b)] ∧ L = []
set_option maxHeartbeats 8000000 in
set_option maxRecDepth 20000 in
theorem decode (a : Option Addr) (c : Nat) (b : List UInt8) (hm : b.length ≤ 1000000) : Meets Tryz.prog 90 #[.slice a b.length c] [] [bytA (.slice a b.length c) b] fun v L => decQ b v L := by
  intro w B H
  have HH := head a c b hm
  unfold headV at HH
  have H1 := H.alloc [.int .i64 0, .int .u32 0, .int .u32 0, .int .u64 0, .slice none 0 0, .slice none 0 0] 62
  obtain ⟨rb, hrb⟩ : ∃ rb, rb = w.heap.size := ⟨_, rfl⟩
  rw [← hrb] at H1
  rcases headE_cases b with h0 | h0 | h0
  · have h1 := headNM b h0
    have hn : needB b = 21 + headN b + headM b := by unfold needB; rw [if_pos h0]
    have hd : decE b = if b.length < needB b then 9 else 0 := by unfold decE; rw [if_pos h0]
    rw [h0, if_pos rfl] at HH
    have HQ1 : b.length < 21 + headN b + headM b → decQ b (.tuple #[recV ⟨0, 0, 0, 0⟩ (.slice none 0 0) (.slice none 0 0), .int .i64 0, .int .i64 9]) [] := fun h => by
      unfold decQ
      rw [hd, hn, if_pos h, if_neg (by decide)]
      exact ⟨rfl, rfl⟩
    have HQ2 : ¬ b.length < 21 + headN b + headM b → ∀ x y c d, decQ b (.tuple #[recV (headR b) (.slice x (headN b) c) (.slice y (headM b) d), .int .i64 (21 + headN b + headM b : Nat), .int .i64 0]) [ownA 5 1 (.slice x (headN b) c) (headN b) (((b.drop 21).take (headN b)).map u8v), ownA 5 1 (.slice y (headM b) d) (headM b) (((b.drop (21 + headN b)).take (headM b)).map u8v)] := fun h x y c d => by
      unfold decQ
      rw [hd, hn, if_neg h, if_pos rfl]
      exact ⟨x, y, c, d, rfl, rfl⟩
    unfold recV at HH HQ1 HQ2
    clear hn h0 hd
    obtain ⟨rc, hrc⟩ : ∃ rc, rc = headR b := ⟨_, rfl⟩
    rw [← hrc] at HH HQ2
    clear hrc
    obtain ⟨kn, hkn⟩ : ∃ kn, kn = headN b := ⟨_, rfl⟩
    obtain ⟨km, hkm⟩ : ∃ km, km = headM b := ⟨_, rfl⟩
    rw [← hkn, ← hkm] at HH h1 HQ1 HQ2
    clear hkn hkm
    obtain ⟨k, f, x, s⟩ := rc
    dsimp only at HH HQ1 HQ2
    have HQ1 := Lib.hid HQ1
    have HQ2 := Lib.hid HQ2
    have HHH := Lib.hid HH
    clear HH
    go_enter Tryz.func90, Tryz.ntmps90
    go_upto_region 1 with fail
    rw [← hrb]
    have HRB := Lib.hid hrb
    clear hrb
    refine wp_world (fun W => St w B _ _ W) H1 ?_
    intro w1 H2
    clear H1
    go_wp2_with fail
    refine (HHH.out.call (L := []) (M := [_]) H2 (sub_imp (by simp))).mono ?_
    rintro e w2 ⟨v, L, rfl, ⟨rfl, rfl⟩, H3⟩
    have H5 := H3.alloc [.int .i64 k, .int .u32 f, .int .u32 x, .int .u64 s, .slice none 0 0, .slice none 0 0] 62
    obtain ⟨rr, hrr⟩ : ∃ rr, rr = w2.heap.size := ⟨_, rfl⟩
    rw [← hrr] at H5
    clear H2 HHH
    go_upto_region 2 with fail
    rw [← hrr]
    have HRR := Lib.hid hrr
    clear hrr
    refine wp_world (fun W => St w B _ _ W) H5 ?_
    intro w3 H6
    clear H3 H5
    simp only [List.nil_append] at H6
    by_cases hlt : b.length < 21 + kn + km
    · have HQ := Lib.hid (HQ1.out hlt)
      obtain ⟨hc, hf⟩ := St.cells H6 1
      have hlt2 : decide ((b.length : Int) < 21 + (kn : Int) + (km : Int)) = true := by simp; omega
      go_wp2_with fail
      have H7 := (((((H6.set_ 1 0 (.int .i64 0)).set_ 1 1 (.int .u32 0)).set_ 1 2 (.int .u32 0)).set_ 1 3 (.int .u64 0)).set_ 1 4 (.slice none 0 0)).set_ 1 5 (.slice none 0 0)
      exact bodyPost_ret (results_ctt rfl rfl bigRec (H7.range 1) rfl) rfl (Back.mk (L' := []) HQ.out (St.pick H7 []))
    · have HQ := HQ2.out hlt
      have hlt2 : decide ((b.length : Int) < 21 + (kn : Int) + (km : Int)) = false := by simp; omega
      obtain ⟨hcap, hnil⟩ : b.length ≤ c ∧ (a = none → c = 0) := ⟨bytes_cap (H6.bytes 0), fun h => by
        obtain ⟨b', o', e, _⟩ := byt_cell (H6.bytes 0) (by omega)
        rw [h] at e; cases e⟩
      obtain ⟨hkn, hkn2, hkm2⟩ := h1.2
      have hl21 := h1.1
      obtain ⟨n, hnn⟩ : ∃ n, n = 21 + kn + km := ⟨_, rfl⟩
      obtain ⟨q, hqq⟩ : ∃ q, q = 21 + kn := ⟨_, rfl⟩
      have hsub : (n : Int) - (km : Int) = (q : Int) := by omega
      have hsum : (21 : Int) + (kn : Int) + (km : Int) = (n : Int) := by omega
      rw [← hnn, ← hqq] at HQ
      have HQ := Lib.hid HQ
      have HSUM := Lib.hid hsum
      have HNN := Lib.hid hnn
      have HQQ := Lib.hid hqq
      have HSUB := Lib.hid hsub
      have HNIL := Lib.hid hnil
      have HGE := Lib.hid hlt
      clear hsum hnn hqq hsub hnil hlt
      go_upto_region 7 with fail
      rw [HSUM.out]
      have hnil := HNIL.out
      have hln : n ≤ b.length := by have := HGE.out; have := HNN.out; omega
      clear hlt2
      have R1 : ∀ W, (Instr.sliceAt 60 (.slice a b.length c) (some (.int .i64 (21 : Int))) (some (.int .i64 (q : Int))) none).run Tryz.prog W = .ok (subV a c 21 kn) W := fun W => by
        have := run_subB W a b.length c 21 q (by rw [HQQ.out]; omega) (by rw [HQQ.out]; have := HNN.out; omega) hnil
        rw [show q - 21 = kn by rw [HQQ.out]; omega] at this
        exact this
      have R2 : ∀ W, (Instr.sliceAt 60 (.slice a b.length c) (some (.int .i64 (q : Int))) (some (.int .i64 (n : Int))) none).run Tryz.prog W = .ok (subV a c q km) W := fun W => by
        have := run_subB W a b.length c q n (by rw [HQQ.out, HNN.out]; omega) (by omega) hnil
        rw [show n - q = km by rw [HQQ.out, HNN.out]; omega] at this
        exact this
      have hwq : IntKind.i64.wrap (q : Int) = (q : Int) := by rw [IntKind.wrap_i64]; have := HQQ.out; omega
      have C1 : Meets Tryz.prog 120 #[subV a c 21 kn] [] [bytA (subV a c 21 kn) ((b.drop 21).take kn)] fun u L => ∃ a' c', u = .slice a' kn c' ∧ L = [ownA 5 1 (.slice a' kn c') kn (((b.drop 21).take kn).map u8v)] := by
        have hl : ((b.drop 21).take kn).length = kn := by rw [List.length_take, List.length_drop]; have := HNN.out; omega
        have := clonem (subV a c 21 kn) ((b.drop 21).take kn) (by rw [hl]; omega)
        rwa [hl] at this
      have C2 : Meets Tryz.prog 120 #[subV a c q km] [] [bytA (subV a c q km) ((b.drop q).take km)] fun u L => ∃ a' c', u = .slice a' km c' ∧ L = [ownA 5 1 (.slice a' km c') km (((b.drop q).take km).map u8v)] := by
        have hl : ((b.drop q).take km).length = km := by rw [List.length_take, List.length_drop]; have := HNN.out; have := HQQ.out; omega
        have := clonem (subV a c q km) ((b.drop q).take km) (by rw [hl]; omega)
        rwa [hl] at this
      have I1 : (bytA (.slice a b.length c) b).imp (bytA (subV a c 21 kn) ((b.drop 21).take kn)) := byt_sub_imp fun w h => sub_bytes h (by have := HNN.out; omega)
      have I2 : (bytA (.slice a b.length c) b).imp (bytA (subV a c q km) ((b.drop q).take km)) := byt_sub_imp fun w h => sub_bytes h (by have := HNN.out; have := HQQ.out; omega)
      obtain ⟨X1, hX1⟩ : ∃ X1, X1 = (b.drop 21).take kn := ⟨_, rfl⟩
      obtain ⟨X2, hX2⟩ : ∃ X2, X2 = (b.drop q).take km := ⟨_, rfl⟩
      have HQ := HQ.out
      rw [← hX1] at C1 I1 HQ
      rw [← hX2] at C2 I2 HQ
      have HQ := Lib.hid HQ
      clear hX1 hX2
      refine wp_region_gh (Θ := Option Addr × Nat × Option Addr × Nat) (fun (a1, c1, a2, c2) => [(0, 30, (.slice a b.length c)), (1, 31, (.int .i64 n)), (2, 32, (.int .i64 km)), (3, 33, (.int .i64 q)), (4, 34, (subV a c 21 kn)), (5, 35, (.slice a1 kn c1)), (6, 36, (.slice a b.length c)), (7, 37, (.int .i64 n)), (8, 38, (.int .i64 km)), (9, 39, (.int .i64 q)), (10, 40, (.int .i64 n)), (11, 41, (subV a c q km)), (12, 42, (.slice a2 km c2)), (13, 43, (.pointer (some ⟨rr, 4, none⟩))), (15, 44, (.pointer (some ⟨rr, 5, none⟩)))]) (fun (a1, c1, a2, c2) done WW => St w B (bif done 16 then [ownA 5 1 (.slice a2 km c2) km (X2.map u8v), ownA 5 1 (.slice a1 kn c1) kn (X1.map u8v), blkA rr [.int .i64 k, .int .u32 f, .int .u32 x, .int .u64 s, (.slice a1 kn c1), (.slice a2 km c2)] 62, blkA rb [.int .i64 0, .int .u32 0, .int .u32 0, .int .u64 0, .slice none 0 0, .slice none 0 0] 62] else (bif done 14 then [ownA 5 1 (.slice a2 km c2) km (X2.map u8v), ownA 5 1 (.slice a1 kn c1) kn (X1.map u8v), blkA rr [.int .i64 k, .int .u32 f, .int .u32 x, .int .u64 s, (.slice a1 kn c1), .slice none 0 0] 62, blkA rb [.int .i64 0, .int .u32 0, .int .u32 0, .int .u64 0, .slice none 0 0, .slice none 0 0] 62] else (bif done 12 then [ownA 5 1 (.slice a2 km c2) km (X2.map u8v), ownA 5 1 (.slice a1 kn c1) kn (X1.map u8v), blkA rr [.int .i64 k, .int .u32 f, .int .u32 x, .int .u64 s, .slice none 0 0, .slice none 0 0] 62, blkA rb [.int .i64 0, .int .u32 0, .int .u32 0, .int .u64 0, .slice none 0 0, .slice none 0 0] 62] else (bif done 5 then [ownA 5 1 (.slice a1 kn c1) kn (X1.map u8v), blkA rr [.int .i64 k, .int .u32 f, .int .u32 x, .int .u64 s, .slice none 0 0, .slice none 0 0] 62, blkA rb [.int .i64 0, .int .u32 0, .int .u32 0, .int .u64 0, .slice none 0 0, .slice none 0 0] 62] else ([blkA rr [.int .i64 k, .int .u32 f, .int .u32 x, .int .u64 s, .slice none 0 0, .slice none 0 0] 62, blkA rb [.int .i64 0, .int .u32 0, .int .u32 0, .int .u64 0, .slice none 0 0, .slice none 0 0] 62]))))) [bytA (.slice a b.length c) b] WW) (by kernel_rfl) (hord_of2 (by kernel_rfl)) (fun _ => by kernel_rfl) (fun _ => by kernel_rfl) (fun _ => by kernel_rfl) ⟨(none, 0, none, 0), H6.drew⟩ ?_ ?_
      · intro (a1, c1, a2, c2) done zb WW j oq ho hd hdep hcl HA HJ
        have hj : j < 17 := (Array.getElem?_eq_some_iff.1 ho).1
        obtain rfl | rfl | rfl | rfl | rfl | rfl | rfl | rfl | rfl | rfl | rfl | rfl | rfl | rfl | rfl | rfl | rfl : j = 0 ∨ j = 1 ∨ j = 2 ∨ j = 3 ∨ j = 4 ∨ j = 5 ∨ j = 6 ∨ j = 7 ∨ j = 8 ∨ j = 9 ∨ j = 10 ∨ j = 11 ∨ j = 12 ∨ j = 13 ∨ j = 14 ∨ j = 15 ∨ j = 16 := by omega
        · exact valG (θ := (a1, c1, a2, c2)) (.slice a b.length c) ho (by cases ho; rfl) (by cases ho; simp [execOp, go_sem, HA.tm, lookT]) (by cases ho; exact fun d hd => by cases hd; simp) HJ
        · exact valG (θ := (a1, c1, a2, c2)) (.int .i64 n) ho (by cases ho; rfl) (by cases ho; simp [execOp, go_sem, HA.tm, lookT]) (by cases ho; exact fun d hd => by cases hd; simp) HJ
        · exact valG (θ := (a1, c1, a2, c2)) (.int .i64 km) ho (by cases ho; rfl) (by cases ho; simp [execOp, go_sem, HA.tm, lookT]) (by cases ho; exact fun d hd => by cases hd; simp) HJ
        · have p1 : done 1 = true := by cases ho; exact hdep ⟨1, .data⟩ (by simp) rfl
          have p2 : done 2 = true := by cases ho; exact hdep ⟨2, .data⟩ (by simp) rfl
          exact valG (θ := (a1, c1, a2, c2)) (.int .i64 q) ho (by cases ho; rfl) (by cases ho; simp [execOp, go_sem, HA.tm, lookT, p1, p2, HSUB.out, hwq]) (by cases ho; exact fun d hd => by cases hd; simp) HJ
        · have p0 : done 0 = true := by cases ho; exact hdep ⟨0, .data⟩ (by simp) rfl
          have p3 : done 3 = true := by cases ho; exact hdep ⟨3, .data⟩ (by simp) rfl
          exact sliceG (θ := (a1, c1, a2, c2)) (v := (subV a c 21 kn)) _ _ _ _ ho (by cases ho; rfl) (by cases ho; rfl) (by simp [HA.ev, HA.tm, lookT, Act.eval, p0, p3]) (by simp [HA.ev, HA.tm, lookT, Act.eval, p0, p3]; try rfl) (by simp [HA.ev, HA.tm, lookT, Act.eval, p0, p3]; try rfl) (R1 WW) (by cases ho; exact fun d hd => by cases hd; simp) HJ
        · have p4 : done 4 = true := by cases ho; exact hdep ⟨4, .data⟩ (by simp) rfl
          have n12 : done 12 = false := by cases hx : done 12 with | false => rfl | true => have := hcl 12 _ rfl hx ⟨5, .chain⟩ (by simp) rfl; rw [hd] at this; cases this
          have n13 : done 13 = false := by cases hx : done 13 with | false => rfl | true => have := hcl 13 _ rfl hx ⟨5, .phase⟩ (by simp) rfl; rw [hd] at this; cases this
          have n14 : done 14 = false := by cases hx : done 14 with | false => rfl | true => have := hcl 14 _ rfl hx ⟨13, .data⟩ (by simp) rfl; rw [n13] at this; cases this
          have n15 : done 15 = false := by cases hx : done 15 with | false => rfl | true => have := hcl 15 _ rfl hx ⟨5, .phase⟩ (by simp) rfl; rw [hd] at this; cases this
          have n16 : done 16 = false := by cases hx : done 16 with | false => rfl | true => have := hcl 16 _ rfl hx ⟨15, .data⟩ (by simp) rfl; rw [n15] at this; cases this
          have HS : St w B [blkA rr [.int .i64 k, .int .u32 f, .int .u32 x, .int .u64 s, .slice none 0 0, .slice none 0 0] 62, blkA rb [.int .i64 0, .int .u32 0, .int .u32 0, .int .u64 0, .slice none 0 0, .slice none 0 0] 62] [bytA (.slice a b.length c) b] WW := St.cast (by simp only [n12, n14, n16, hd, cond_true, cond_false]) HJ
          exact callG (θ := (a1, c1, a2, c2)) (f := 120) (args := #[subV a c 21 kn]) ho (by cases ho; rfl) (by cases ho; simp [execOp, go_sem, HA.tm, lookT, p4]) (C1.call (L := []) HS (share1 I1 (List.mem_append_left _ (List.Mem.head _)))) (by
            rintro e w' ⟨_, _, rfl, ⟨a', c', rfl, rfl⟩, HS'⟩
            exact ⟨_, (a', c', a2, c2), rfl, by cases ho; exact fun d hd => by cases hd; simp, (.inr (.cons (.inl rfl) (.cons (.inl rfl) (.cons (.inl rfl) (.cons (.inl rfl) (.cons (.inl rfl) (.cons (.inr ⟨rfl, hd⟩) (.cons (.inl rfl) (.cons (.inl rfl) (.cons (.inl rfl) (.cons (.inl rfl) (.cons (.inl rfl) (.cons (.inl rfl) (.cons (.inr ⟨rfl, n12⟩) (.cons (.inl rfl) (.cons (.inl rfl) (.nil))))))))))))))))), (St.cast (by simp [n12, n14, n16, n12, n14, n16] <;> rfl) HS')⟩)
        · exact valG (θ := (a1, c1, a2, c2)) (.slice a b.length c) ho (by cases ho; rfl) (by cases ho; simp [execOp, go_sem, HA.tm, lookT]) (by cases ho; exact fun d hd => by cases hd; simp) HJ
        · exact valG (θ := (a1, c1, a2, c2)) (.int .i64 n) ho (by cases ho; rfl) (by cases ho; simp [execOp, go_sem, HA.tm, lookT]) (by cases ho; exact fun d hd => by cases hd; simp) HJ
        · exact valG (θ := (a1, c1, a2, c2)) (.int .i64 km) ho (by cases ho; rfl) (by cases ho; simp [execOp, go_sem, HA.tm, lookT]) (by cases ho; exact fun d hd => by cases hd; simp) HJ
        · have p7 : done 7 = true := by cases ho; exact hdep ⟨7, .data⟩ (by simp) rfl
          have p8 : done 8 = true := by cases ho; exact hdep ⟨8, .data⟩ (by simp) rfl
          exact valG (θ := (a1, c1, a2, c2)) (.int .i64 q) ho (by cases ho; rfl) (by cases ho; simp [execOp, go_sem, HA.tm, lookT, p7, p8, HSUB.out, hwq]) (by cases ho; exact fun d hd => by cases hd; simp) HJ
        · exact valG (θ := (a1, c1, a2, c2)) (.int .i64 n) ho (by cases ho; rfl) (by cases ho; simp [execOp, go_sem, HA.tm, lookT]) (by cases ho; exact fun d hd => by cases hd; simp) HJ
        · have p6 : done 6 = true := by cases ho; exact hdep ⟨6, .data⟩ (by simp) rfl
          have p9 : done 9 = true := by cases ho; exact hdep ⟨9, .data⟩ (by simp) rfl
          have p10 : done 10 = true := by cases ho; exact hdep ⟨10, .data⟩ (by simp) rfl
          exact sliceG (θ := (a1, c1, a2, c2)) (v := (subV a c q km)) _ _ _ _ ho (by cases ho; rfl) (by cases ho; rfl) (by simp [HA.ev, HA.tm, lookT, Act.eval, p6, p9, p10]) (by simp [HA.ev, HA.tm, lookT, Act.eval, p6, p9, p10]; try rfl) (by simp [HA.ev, HA.tm, lookT, Act.eval, p6, p9, p10]; try rfl) (R2 WW) (by cases ho; exact fun d hd => by cases hd; simp) HJ
        · have p11 : done 11 = true := by cases ho; exact hdep ⟨11, .data⟩ (by simp) rfl
          have p5 : done 5 = true := by cases ho; exact hdep ⟨5, .chain⟩ (by simp) rfl
          have n14 : done 14 = false := by cases hx : done 14 with | false => rfl | true => have := hcl 14 _ rfl hx ⟨12, .chain⟩ (by simp) rfl; rw [hd] at this; cases this
          have n15 : done 15 = false := by cases hx : done 15 with | false => rfl | true => have := hcl 15 _ rfl hx ⟨12, .phase⟩ (by simp) rfl; rw [hd] at this; cases this
          have n16 : done 16 = false := by cases hx : done 16 with | false => rfl | true => have := hcl 16 _ rfl hx ⟨15, .data⟩ (by simp) rfl; rw [n15] at this; cases this
          have HS : St w B [ownA 5 1 (.slice a1 kn c1) kn (X1.map u8v), blkA rr [.int .i64 k, .int .u32 f, .int .u32 x, .int .u64 s, .slice none 0 0, .slice none 0 0] 62, blkA rb [.int .i64 0, .int .u32 0, .int .u32 0, .int .u64 0, .slice none 0 0, .slice none 0 0] 62] [bytA (.slice a b.length c) b] WW := St.cast (by simp only [p5, n14, n16, hd, cond_true, cond_false]) HJ
          exact callG (θ := (a1, c1, a2, c2)) (f := 120) (args := #[subV a c q km]) ho (by cases ho; rfl) (by cases ho; simp [execOp, go_sem, HA.tm, lookT, p5, p11]) (C2.call (L := []) HS (share1 I2 (List.mem_append_left _ (List.Mem.head _)))) (by
            rintro e w' ⟨_, _, rfl, ⟨a', c', rfl, rfl⟩, HS'⟩
            exact ⟨_, (a1, c1, a', c'), rfl, by cases ho; exact fun d hd => by cases hd; simp, (.inr (.cons (.inl rfl) (.cons (.inl rfl) (.cons (.inl rfl) (.cons (.inl rfl) (.cons (.inl rfl) (.cons (.inl rfl) (.cons (.inl rfl) (.cons (.inl rfl) (.cons (.inl rfl) (.cons (.inl rfl) (.cons (.inl rfl) (.cons (.inl rfl) (.cons (.inr ⟨rfl, hd⟩) (.cons (.inl rfl) (.cons (.inl rfl) (.nil))))))))))))))))), (St.cast (by simp [p5, n14, n16, n14, n16] <;> rfl) HS')⟩)
        · exact valG (θ := (a1, c1, a2, c2)) (.pointer (some ⟨rr, 4, none⟩)) ho (by cases ho; rfl) (by cases ho; simp [execOp, go_sem, HA.tm, lookT]) (by cases ho; exact fun d hd => by cases hd; simp) HJ
        · have p13 : done 13 = true := by cases ho; exact hdep ⟨13, .data⟩ (by simp) rfl
          have p5 : done 5 = true := hcl 13 _ rfl p13 ⟨5, .phase⟩ (by simp) rfl
          have p12 : done 12 = true := by cases ho; exact hdep ⟨12, .chain⟩ (by simp) rfl
          have n15 : done 15 = false := by cases hx : done 15 with | false => rfl | true => have := hcl 15 _ rfl hx ⟨14, .phase⟩ (by simp) rfl; rw [hd] at this; cases this
          have n16 : done 16 = false := by cases hx : done 16 with | false => rfl | true => have := hcl 16 _ rfl hx ⟨15, .data⟩ (by simp) rfl; rw [n15] at this; cases this
          have HS : St w B [ownA 5 1 (.slice a2 km c2) km (X2.map u8v), ownA 5 1 (.slice a1 kn c1) kn (X1.map u8v), blkA rr [.int .i64 k, .int .u32 f, .int .u32 x, .int .u64 s, .slice none 0 0, .slice none 0 0] 62, blkA rb [.int .i64 0, .int .u32 0, .int .u32 0, .int .u64 0, .slice none 0 0, .slice none 0 0] 62] [bytA (.slice a b.length c) b] WW := St.cast (by simp only [p5, p12, n16, hd, cond_true, cond_false]) HJ
          obtain ⟨hcl_, hfl_⟩ := St.cells HS 2
          exact skipG (θ := (a1, c1, a2, c2)) ho (by cases ho; rfl) (by cases ho; rfl) (by cases ho; first | (simp [execOp, go_sem, HA.tm, lookT, hcl_, hfl_, p5, p12, p13]; done) | (simp [execOp, go_sem, HA.tm, lookT, hcl_, hfl_, p5, p12, p13]; rfl)) (St.cast (by simp [p5, p12, n16, n16] <;> rfl) (HS.set_ 2 4 (.slice a1 kn c1) rfl))
        · exact valG (θ := (a1, c1, a2, c2)) (.pointer (some ⟨rr, 5, none⟩)) ho (by cases ho; rfl) (by cases ho; simp [execOp, go_sem, HA.tm, lookT]) (by cases ho; exact fun d hd => by cases hd; simp) HJ
        · have p15 : done 15 = true := by cases ho; exact hdep ⟨15, .data⟩ (by simp) rfl
          have p12 : done 12 = true := hcl 15 _ rfl p15 ⟨12, .phase⟩ (by simp) rfl
          have p5 : done 5 = true := hcl 15 _ rfl p15 ⟨5, .phase⟩ (by simp) rfl
          have p14 : done 14 = true := hcl 15 _ rfl p15 ⟨14, .phase⟩ (by simp) rfl
          have HS : St w B [ownA 5 1 (.slice a2 km c2) km (X2.map u8v), ownA 5 1 (.slice a1 kn c1) kn (X1.map u8v), blkA rr [.int .i64 k, .int .u32 f, .int .u32 x, .int .u64 s, (.slice a1 kn c1), .slice none 0 0] 62, blkA rb [.int .i64 0, .int .u32 0, .int .u32 0, .int .u64 0, .slice none 0 0, .slice none 0 0] 62] [bytA (.slice a b.length c) b] WW := St.cast (by simp only [p5, p12, p14, hd, cond_true, cond_false]) HJ
          obtain ⟨hcl_, hfl_⟩ := St.cells HS 2
          exact skipG (θ := (a1, c1, a2, c2)) ho (by cases ho; rfl) (by cases ho; rfl) (by cases ho; first | (simp [execOp, go_sem, HA.tm, lookT, hcl_, hfl_, p5, p12, p14, p15]; done) | (simp [execOp, go_sem, HA.tm, lookT, hcl_, hfl_, p5, p12, p14, p15]; rfl)) (St.cast (by simp [p5, p12, p14] <;> rfl) (HS.set_ 2 5 (.slice a2 km c2) rfl))
      · intro (a1, c1, a2, c2) done WW hall HJ
        have z5 := hall 5 (by decide)
        have z12 := hall 12 (by decide)
        have z14 := hall 14 (by decide)
        have z16 := hall 16 (by decide)
        have HE : St w B [ownA 5 1 (.slice a2 km c2) km (X2.map u8v), ownA 5 1 (.slice a1 kn c1) kn (X1.map u8v), blkA rr [.int .i64 k, .int .u32 f, .int .u32 x, .int .u64 s, (.slice a1 kn c1), (.slice a2 km c2)] 62, blkA rb [.int .i64 0, .int .u32 0, .int .u32 0, .int .u64 0, .slice none 0 0, .slice none 0 0] 62] [bytA (.slice a b.length c) b] WW := St.cast (by simp [z5, z12, z14, z16]) HJ
        clear HJ hall z5 z12 z14 z16
        simp only [putAll, Act.put, List.setIfInBounds_toArray, List.set_cons_succ, List.set_cons_zero]
        have H7 := HE
        clear HE H6
        obtain ⟨hc, hf⟩ := St.cells H7 2
        obtain ⟨hc2, hf2⟩ := St.cells H7 3
        go_wp2_with fail
        have H8 := (((((H7.set_ 3 0 (.int .i64 k)).set_ 3 1 (.int .u32 f)).set_ 3 2 (.int .u32 x)).set_ 3 3 (.int .u64 s)).set_ 3 4 (.slice a1 kn c1)).set_ 3 5 (.slice a2 km c2)
        exact bodyPost_ret (results_ctt rfl rfl bigRec (H8.range 3) rfl) rfl (Back.mk (L' := [_, _]) (HQ.out a1 a2 c1 c2) (St.pick H8 [1, 0]))
  all_goals
    have hd : decE b = headE b := by unfold decE; rw [if_neg (by omega)]
    rw [h0, if_neg (by decide)] at HH
    have HQ : decQ b (.tuple #[recV ⟨0, 0, 0, 0⟩ (.slice none 0 0) (.slice none 0 0), .int .i64 0, .int .i64 (headE b)]) [] := by
      unfold decQ
      rw [hd, if_neg (by omega)]
      exact ⟨rfl, rfl⟩
    rw [h0] at HQ
    unfold recV at HH HQ
    clear hd h0
    dsimp only at HH HQ
    have HQ := Lib.hid HQ
    have HHH := Lib.hid HH
    clear HH
    go_enter Tryz.func90, Tryz.ntmps90
    go_upto_region 1 with fail
    rw [← hrb]
    have HRB := Lib.hid hrb
    clear hrb
    refine wp_world (fun W => St w B _ _ W) H1 ?_
    intro w1 H2
    clear H1
    go_wp2_with fail
    refine (HHH.out.call (L := []) (M := [_]) H2 (sub_imp (by simp))).mono ?_
    rintro e w2 ⟨v, L, rfl, ⟨rfl, rfl⟩, H3⟩
    have H5 := H3.alloc [.int .i64 0, .int .u32 0, .int .u32 0, .int .u64 0, .slice none 0 0, .slice none 0 0] 62
    obtain ⟨rr, hrr⟩ : ∃ rr, rr = w2.heap.size := ⟨_, rfl⟩
    rw [← hrr] at H5
    clear H2 HHH
    go_upto_region 2 with fail
    rw [← hrr]
    have HRR := Lib.hid hrr
    clear hrr
    refine wp_world (fun W => St w B _ _ W) H5 ?_
    intro w3 H6
    clear H3 H5
    obtain ⟨hc, hf⟩ := St.cells H6 1
    go_wp2_with fail
    have H7 := (((((H6.set_ 1 0 (.int .i64 0)).set_ 1 1 (.int .u32 0)).set_ 1 2 (.int .u32 0)).set_ 1 3 (.int .u64 0)).set_ 1 4 (.slice none 0 0)).set_ 1 5 (.slice none 0 0)
    exact bodyPost_ret (results_ctt rfl rfl bigRec (H7.range 1) rfl) rfl (Back.mk (L' := []) HQ.out (St.pick H7 []))
end Go.Proofs.YtjmocjcjiiopnaaGreat
end
