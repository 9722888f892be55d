/- ideal.step.written, seen of nothing. Conditions: the step lies in memory. -/
import Derived.Test.YtngpffmgkponfaaStp
set_option linter.unusedVariables false
set_option linter.unusedSimpArgs false
namespace Go.Idl
def Tv.withCas (c : Int) (t : Tv) : Tv := ⟨t.val, t.fl, t.ex, c⟩
end Go.Idl
namespace Go.Proofs.Ytngpffmgkponfaa
open Go.RowKit Go.Ice Go.Idl

set_option maxHeartbeats 4000000 in
set_option maxRecDepth 20000 in
theorem seen60_nil (w : World) (sb : Nat) (v : Value) (a : Option Addr) (c : Nat) : Calls Try.prog 60 #[.pointer (some ⟨sb, 0, none⟩), .slice a 0 c] w fun e w' => e = .returned (.bool false) ∧ w' = w := by
  go_enter Try.func60, Try.ntmps60
  go_wp2_with fail
  go_ret
  exact ⟨rfl, rfl⟩

theorem cellB {w W : World} {p : Addr} {v : Value} (hb : Below w.heap.size w W) (h : w.cell? p = some v) : W.cell? p = some v := (hb.cell (World.block_lt_of_cell? w p h)).trans h

def anBare (a : An) : Bool := bareB a.val.length a.fl a.cas a.num a.stats.length a.cl
/-- Bare but for the token. -/
def anBare0 (a : An) : Bool := bareB a.val.length a.fl 0 a.num a.stats.length a.cl

def casR (c : Int) (p : Value × Tv) : Value × Tv := (p.1, p.2.withCas c)
def casX (c : Int) (rl : List (Value × Tv)) (k : Nat) : List (Value × Tv) := (rl.take k).map (casR c) ++ rl.drop k
theorem casX_len (c : Int) (rl : List (Value × Tv)) (k : Nat) : (casX c rl k).length = rl.length := by unfold casX; simp; omega
theorem casX_succ {c : Int} {rl : List (Value × Tv)} {k : Nat} {p : Value × Tv} (hp : rl[k]? = some p) : casX c rl (k + 1) = (casX c rl k).set k (casR c p) := by
  unfold casX
  have hk : k < rl.length := (List.getElem?_eq_some_iff.1 hp).1
  have hl : ((rl.take k).map (casR c)).length = k := by simp; omega
  have e : (rl.drop k).set 0 (casR c p) = casR c p :: rl.drop (k + 1) := by rw [List.drop_eq_getElem_cons hk]; rfl
  rw [List.take_add_one, hp, List.set_append_right _ _ (by omega), hl, Nat.sub_self, e]
  simp
theorem casX_all (c : Int) (rl : List (Value × Tv)) : casX c rl rl.length = rl.map (casR c) := by unfold casX; simp
theorem casX_at {c : Int} {rl : List (Value × Tv)} {k : Nat} {p : Value × Tv} (hp : rl[k]? = some p) : (casX c rl k)[k]? = some p := by
  unfold casX
  have hk : k < rl.length := (List.getElem?_eq_some_iff.1 hp).1
  rw [List.getElem?_append_right (by simp; omega)]
  simp
  rw [show k - min k rl.length = 0 by omega]
  simpa using hp
theorem RowR.setCas {w : World} {b m k : Nat} {e : TypeId} {X : List (Value × Tv)} {p : Value × Tv} {c : Int} (hb : Blk w b e m) (h : RowR w b 0 X) (hm : X.length * 4 ≤ m) (hp : X[k]? = some p) : RowR (w.setCell ⟨b, k * 4 + 3, none⟩ (.int .u64 c)) b 0 (X.set k (casR c p)) := by
  have hk : k < X.length := (List.getElem?_eq_some_iff.1 hp).1
  intro i q hq
  simp only [Nat.zero_add]
  have ne : ∀ (x : Nat), x ≠ k * 4 + 3 → (w.setCell ⟨b, k * 4 + 3, none⟩ (.int .u64 c)).cell? ⟨b, x, none⟩ = w.cell? ⟨b, x, none⟩ := fun x hxy => World.cell?_setCell_other _ _ _ _ (by intro e; injection e with _ e2 _; omega)
  by_cases hik : i = k
  · subst hik
    rw [List.getElem?_set_self (by omega)] at hq
    cases hq
    have h1 := h i p hp
    simp only [Nat.zero_add] at h1
    refine ⟨?_, ?_, ?_, cell_set_self hb (by omega) _⟩
    · rw [ne _ (by omega)]; exact h1.1
    · rw [ne _ (by omega)]; exact h1.2.1
    · rw [ne _ (by omega)]; exact h1.2.2.1
  · rw [List.getElem?_set_ne (Ne.symm hik)] at hq
    have h1 := h i q hq
    simp only [Nat.zero_add] at h1
    refine ⟨?_, ?_, ?_, ?_⟩ <;> (rw [ne _ (by omega)]; first | exact h1.1 | exact h1.2.1 | exact h1.2.2.1 | exact h1.2.2.2)
theorem Cpt.setCas {W w : World} {b n k : Nat} {X : List (Value × Tv)} {p : Value × Tv} {c : Int} (h : Cpt W b n X w) (hn : X.length = n) (hp : X[k]? = some p) : Cpt W b n (X.set k (casR c p)) (w.setCell ⟨b, k * 4 + 3, none⟩ (.int .u64 c)) :=
  ⟨h.frm.trans (Frm.setCell (Frm.refl (fun x => x = b) w) (p := ⟨b, _, none⟩) (.inl rfl) _), h.blk.set _ _, h.row.setCas h.blk (by omega) hp⟩

set_option maxHeartbeats 4000000 in
set_option maxRecDepth 20000 in
theorem written68_no (w : World) (C : Nat → Prop) (sb mb kb : Nat) (q : Rq) (a : An) (now : Int) (r : Raw) (hs : List Tv) (Y : St) (F : List UInt8 → Option Value) (h : SW w C sb mb kb q a now r hs Y F)
    (va : Option Addr) (n vc : Nat) (hx : n = 0 ∨ anBare0 a = false ∨ a.cas ≤ Y.tok) :
    Calls Try.prog 68 #[.pointer (some ⟨sb, 0, none⟩), .slice va n vc] w fun e w' => e = .returned (.bool false) ∧ Below w.heap.size w w' := by
  have H := Lib.hid h
  have q0 := h.cell 0
  have q13 := h.cell 13
  have q14 := h.cell 14
  have q15 := h.cell 15
  have q16 := h.cell 16
  have q17 := h.cell 17
  have q18 := h.cell 18
  have q19 := h.cell 19
  have q1 := h.mcell.2
  simp only [stepC] at q0 q13 q14 q15 q16 q17 q18 q19
  simp at q0 q13 q14 q15 q16 q17 q18 q19
  clear h
  obtain ⟨B, W0, HB, HW, HK, HZ⟩ := boxed1 w #[.int .i64 a.st, .slice r.aa a.val.length r.ac, .int .u32 a.fl, .int .u64 0, .int .u64 a.num, .slice r.sa a.stats.length r.sc, .bool a.cl] 38
  have b0 : W0.cell? ⟨B, 0, none⟩ = some (.int .i64 a.st) := blk_cell HK.out.b0 0
  have b1 : W0.cell? ⟨B, 1, none⟩ = some (.slice r.aa a.val.length r.ac) := blk_cell HK.out.b0 1
  have b2 : W0.cell? ⟨B, 2, none⟩ = some (.int .u32 a.fl) := blk_cell HK.out.b0 2
  have b3 : W0.cell? ⟨B, 3, none⟩ = some (.int .u64 0) := blk_cell HK.out.b0 3
  have b4 : W0.cell? ⟨B, 4, none⟩ = some (.int .u64 a.num) := blk_cell HK.out.b0 4
  have b5 : W0.cell? ⟨B, 5, none⟩ = some (.slice r.sa a.stats.length r.sc) := blk_cell HK.out.b0 5
  have b6 : W0.cell? ⟨B, 6, none⟩ = some (.bool a.cl) := blk_cell HK.out.b0 6
  have HQ0 : Hid (W0.cell? ⟨sb, 0, none⟩ = some (.pointer (some ⟨mb, 0, none⟩))) := cellB HK.out.below q0
  have HQ16 : Hid (W0.cell? ⟨sb, 16, none⟩ = some (.int .u64 a.cas)) := cellB HK.out.below q16
  have HQ1 : Hid (W0.cell? ⟨mb, 1, none⟩ = some (.int .u64 Y.tok)) := cellB HK.out.below q1
  by_cases hn : n = 0
  · have hd : ((n : Int) == 0) = true := by simp [hn]
    clear hx hn
    go_enter Try.func68, Try.ntmps68
    go_upto_region 3 with fail
    rw [HB.out, HW.out]
    clear q0 q13 q14 q15 q16 q17 q18 q19 q1
    go_quiet (fail)
    go_wp2_with fail
    go_ret
    exact ⟨rfl, HK.out.below.trans ((drewN_below W0 nq).mono HK.out.below.size)⟩
  · have hd : ((n : Int) == 0) = false := by simp [hn]
    have HN0 := Lib.hid hn
    have hb := fun W => bare43 W a.st a.fl 0 a.num r.aa r.sa a.val.length r.ac a.stats.length r.sc a.cl
    unfold ansV at hb
    by_cases hba : anBare0 a = false
    · have hbx : bareB a.val.length a.fl 0 a.num a.stats.length a.cl = false := hba
      rw [hbx] at hb
      have HBR := Lib.hid hb
      clear hx hn hb hbx hba
      go_enter Try.func68, Try.ntmps68
      go_upto_region 3 with fail
      rw [HB.out, HW.out]
      clear q0 q13 q14 q15 q16 q17 q18 q19 q1
-- REGION A
      refine wp_region_inv2 (by kernel_rfl) (hord_of2 (by kernel_rfl)) (fun done ac W => ac = { tmps := #[(.pointer (some ⟨sb, 0, none⟩)), (.slice va n vc), undef, undef, (.bool false), (.pointer (some ⟨B, 0, none⟩)), undef, (.pointer (some ⟨sb, 0, none⟩)), (.pointer (some ⟨sb, 0, none⟩)), (.pointer (some ⟨sb, 13, none⟩)), (.agg #[.int .i64 a.st, .slice r.aa a.val.length r.ac, .int .u32 a.fl, .int .u64 a.cas, .int .u64 a.num, .slice r.sa a.stats.length r.sc, .bool a.cl]), (.pointer (some ⟨B, 3, none⟩)), if done 0 then (.slice va n vc) else undef, if done 1 then (.int .i64 (n : Nat)) else undef, if done 2 then (.bool false) else undef, if done 3 then (.bool false) else undef, if done 4 then (.agg #[.int .i64 a.st, .slice r.aa a.val.length r.ac, .int .u32 a.fl, .int .u64 0, .int .u64 a.num, .slice r.sa a.stats.length r.sc, .bool a.cl]) else undef, if done 5 then (.bool false) else undef, if done 6 then (.bool true) else undef, if done 7 then (.bool true) else undef, if done 8 then (.bool true) else undef, if done 9 then undef else undef, if done 10 then undef else undef, if done 11 then undef else undef, if done 12 then undef else undef, if done 13 then undef else undef, if done 14 then undef else undef, if done 15 then undef else undef, if done 16 then undef else undef, if done 17 then undef else undef, if done 18 then undef else undef, if done 19 then undef else undef, if done 20 then undef else undef, if done 21 then undef else undef, if done 22 then (.bool true) else undef, undef, undef, undef, undef, undef, undef, undef, undef, undef, undef, undef, undef, undef, undef, undef, undef, undef, undef, undef, undef, undef, undef, undef, undef, undef, undef, undef, undef, undef, undef, undef, undef, undef, undef, undef, undef, undef, undef, undef, undef, undef, undef, undef, undef], defers := [] } ∧ Hid (Below W0.heap.size W0 W)) ?_ ?_ ?_
      · exact ⟨by simp, (Below.refl _ _).drew⟩
      · intro done ac W j oq ho hd hdep hcl ⟨hlit, HBW⟩
        have hj : j < 23 := (Array.getElem?_eq_some_iff.1 ho).1
        subst hlit
        obtain rfl | rfl | rfl | rfl | rfl | rfl | rfl | rfl | rfl | rfl | rfl | rfl | rfl | rfl | rfl | rfl | rfl | rfl | rfl | rfl | rfl | rfl | rfl : j = 0 ∨ j = 1 ∨ j = 2 ∨ j = 3 ∨ j = 4 ∨ j = 5 ∨ j = 6 ∨ j = 7 ∨ j = 8 ∨ j = 9 ∨ j = 10 ∨ j = 11 ∨ j = 12 ∨ j = 13 ∨ j = 14 ∨ j = 15 ∨ j = 16 ∨ j = 17 ∨ j = 18 ∨ j = 19 ∨ j = 20 ∨ j = 21 ∨ j = 22 := by omega
        · refine wpOp_val ho (by cases ho; rfl) (w' := W) (v := (.slice va n vc)) (by cases ho; simp [execOp, go_sem]) ?_
          cases ho
          exact ⟨by simp [Act.put], HBW⟩
        · have p0 : done 0 = true := by cases ho; exact hdep ⟨0, .data⟩ (by simp) rfl
          refine wpOp_val ho (by cases ho; rfl) (w' := W) (v := (.int .i64 (n : Nat))) (by cases ho; simp [execOp, go_sem, p0]) ?_
          cases ho
          exact ⟨by simp [Act.put], HBW⟩
        · have p1 : done 1 = true := by cases ho; exact hdep ⟨1, .data⟩ (by simp) rfl
          refine wpOp_val ho (by cases ho; rfl) (w' := W) (v := (.bool false)) (by cases ho; simp [execOp, go_sem, p1, hd, HN0.out]) ?_
          cases ho
          exact ⟨by simp [Act.put], HBW⟩
        · have p2 : done 2 = true := by cases ho; exact hdep ⟨2, .data⟩ (by simp) rfl
          refine wpOp_val ho (by cases ho; rfl) (w' := W) (v := (.bool false)) (by cases ho; simp [execOp, go_sem, p2]) ?_
          cases ho
          exact ⟨by simp [Act.put], HBW⟩
        · have p3 : done 3 = true := by cases ho; exact hdep ⟨3, .guard⟩ (by simp) rfl
          refine wpOp_valW ho (by cases ho; simp [Region.wanted, yielded, go_sem, p3]) (w' := W) (v := (.agg #[.int .i64 a.st, .slice r.aa a.val.length r.ac, .int .u32 a.fl, .int .u64 0, .int .u64 a.num, .slice r.sa a.stats.length r.sc, .bool a.cl])) (by cases ho; simp [execOp, go_sem, p3, cellB HBW.out b0, cellB HBW.out b1, cellB HBW.out b2, cellB HBW.out b3, cellB HBW.out b4, cellB HBW.out b5, cellB HBW.out b6]) ?_
          cases ho
          exact ⟨by simp [Act.put], HBW⟩
        · have p3 : done 3 = true := by cases ho; exact hdep ⟨3, .guard⟩ (by simp) rfl
          have p4 : done 4 = true := by cases ho; exact hdep ⟨4, .data⟩ (by simp) rfl
          refine wpOp_callW ho (by cases ho; simp [Region.wanted, yielded, go_sem, p3, p4]) (f := 43) (args := #[.agg #[.int .i64 a.st, .slice r.aa a.val.length r.ac, .int .u32 a.fl, .int .u64 0, .int .u64 a.num, .slice r.sa a.stats.length r.sc, .bool a.cl]]) (by cases ho; simp [execOp, go_sem, p3, p4]) (HBR.out _) ?_
          rintro e w' ⟨rfl, hb1⟩
          cases ho
          exact ⟨_, rfl, by simp [Act.put], HBW.out.trans (hb1.mono HBW.out.size)⟩
        · have p3 : done 3 = true := by cases ho; exact hdep ⟨3, .guard⟩ (by simp) rfl
          have p5 : done 5 = true := by cases ho; exact hdep ⟨5, .data⟩ (by simp) rfl
          refine wpOp_valW ho (by cases ho; simp [Region.wanted, yielded, go_sem, p3, p5]) (w' := W) (v := (.bool true)) (by cases ho; simp [execOp, go_sem, p3, p5]) ?_
          cases ho
          exact ⟨by simp [Act.put], HBW⟩
        · have p3 : done 3 = true := by cases ho; exact hdep ⟨3, .data⟩ (by simp) rfl
          have p6 : done 6 = true := by cases ho; exact hdep ⟨6, .data⟩ (by simp) rfl
          refine wpOp_val ho (by cases ho; rfl) (w' := W) (v := (.bool true)) (by cases ho; simp [execOp, go_sem, p3, p6]) ?_
          cases ho
          exact ⟨by simp [Act.put], HBW⟩
        · have p7 : done 7 = true := by cases ho; exact hdep ⟨7, .data⟩ (by simp) rfl
          refine wpOp_val ho (by cases ho; rfl) (w' := W) (v := (.bool true)) (by cases ho; simp [execOp, go_sem, p7]) ?_
          cases ho
          exact ⟨by simp [Act.put], HBW⟩
        · have p8 : done 8 = true := by cases ho; exact hdep ⟨8, .guard⟩ (by simp) rfl
          refine wpOp_pass ho (by cases ho; simp [Region.wanted, yielded, go_sem, p8]) ?_
          cases ho
          exact ⟨by simp [Act.put], HBW⟩
        · have p8 : done 8 = true := by cases ho; exact hdep ⟨8, .guard⟩ (by simp) rfl
          have p9 : done 9 = true := by cases ho; exact hdep ⟨9, .data⟩ (by simp) rfl
          refine wpOp_pass ho (by cases ho; simp [Region.wanted, yielded, go_sem, p8, p9]) ?_
          cases ho
          exact ⟨by simp [Act.put], HBW⟩
        · have p8 : done 8 = true := by cases ho; exact hdep ⟨8, .guard⟩ (by simp) rfl
          have p10 : done 10 = true := by cases ho; exact hdep ⟨10, .data⟩ (by simp) rfl
          refine wpOp_pass ho (by cases ho; simp [Region.wanted, yielded, go_sem, p8, p10]) ?_
          cases ho
          exact ⟨by simp [Act.put], HBW⟩
        · have p8 : done 8 = true := by cases ho; exact hdep ⟨8, .guard⟩ (by simp) rfl
          have p11 : done 11 = true := by cases ho; exact hdep ⟨11, .data⟩ (by simp) rfl
          refine wpOp_pass ho (by cases ho; simp [Region.wanted, yielded, go_sem, p8, p11]) ?_
          cases ho
          exact ⟨by simp [Act.put], HBW⟩
        · have p8 : done 8 = true := by cases ho; exact hdep ⟨8, .guard⟩ (by simp) rfl
          have p12 : done 12 = true := by cases ho; exact hdep ⟨12, .data⟩ (by simp) rfl
          refine wpOp_pass ho (by cases ho; simp [Region.wanted, yielded, go_sem, p8, p12]) ?_
          cases ho
          exact ⟨by simp [Act.put], HBW⟩
        · have p8 : done 8 = true := by cases ho; exact hdep ⟨8, .guard⟩ (by simp) rfl
          refine wpOp_pass ho (by cases ho; simp [Region.wanted, yielded, go_sem, p8]) ?_
          cases ho
          exact ⟨by simp [Act.put], HBW⟩
        · have p8 : done 8 = true := by cases ho; exact hdep ⟨8, .guard⟩ (by simp) rfl
          have p14 : done 14 = true := by cases ho; exact hdep ⟨14, .data⟩ (by simp) rfl
          refine wpOp_pass ho (by cases ho; simp [Region.wanted, yielded, go_sem, p8, p14]) ?_
          cases ho
          exact ⟨by simp [Act.put], HBW⟩
        · have p8 : done 8 = true := by cases ho; exact hdep ⟨8, .guard⟩ (by simp) rfl
          have p15 : done 15 = true := by cases ho; exact hdep ⟨15, .data⟩ (by simp) rfl
          refine wpOp_pass ho (by cases ho; simp [Region.wanted, yielded, go_sem, p8, p15]) ?_
          cases ho
          exact ⟨by simp [Act.put], HBW⟩
        · have p8 : done 8 = true := by cases ho; exact hdep ⟨8, .guard⟩ (by simp) rfl
          have p16 : done 16 = true := by cases ho; exact hdep ⟨16, .data⟩ (by simp) rfl
          refine wpOp_pass ho (by cases ho; simp [Region.wanted, yielded, go_sem, p8, p16]) ?_
          cases ho
          exact ⟨by simp [Act.put], HBW⟩
        · have p8 : done 8 = true := by cases ho; exact hdep ⟨8, .guard⟩ (by simp) rfl
          have p17 : done 17 = true := by cases ho; exact hdep ⟨17, .data⟩ (by simp) rfl
          refine wpOp_pass ho (by cases ho; simp [Region.wanted, yielded, go_sem, p8, p17]) ?_
          cases ho
          exact ⟨by simp [Act.put], HBW⟩
        · have p8 : done 8 = true := by cases ho; exact hdep ⟨8, .guard⟩ (by simp) rfl
          have p18 : done 18 = true := by cases ho; exact hdep ⟨18, .data⟩ (by simp) rfl
          refine wpOp_pass ho (by cases ho; simp [Region.wanted, yielded, go_sem, p8, p18]) ?_
          cases ho
          exact ⟨by simp [Act.put], HBW⟩
        · have p8 : done 8 = true := by cases ho; exact hdep ⟨8, .guard⟩ (by simp) rfl
          have p19 : done 19 = true := by cases ho; exact hdep ⟨19, .data⟩ (by simp) rfl
          refine wpOp_pass ho (by cases ho; simp [Region.wanted, yielded, go_sem, p8, p19]) ?_
          cases ho
          exact ⟨by simp [Act.put], HBW⟩
        · have p8 : done 8 = true := by cases ho; exact hdep ⟨8, .guard⟩ (by simp) rfl
          have p13 : done 13 = true := by cases ho; exact hdep ⟨13, .data⟩ (by simp) rfl
          have p20 : done 20 = true := by cases ho; exact hdep ⟨20, .data⟩ (by simp) rfl
          refine wpOp_pass ho (by cases ho; simp [Region.wanted, yielded, go_sem, p8, p13, p20]) ?_
          cases ho
          exact ⟨by simp [Act.put], HBW⟩
        · have p8 : done 8 = true := by cases ho; exact hdep ⟨8, .data⟩ (by simp) rfl
          have p21 : done 21 = true := by cases ho; exact hdep ⟨21, .data⟩ (by simp) rfl
          refine wpOp_val ho (by cases ho; rfl) (w' := W) (v := (.bool true)) (by cases ho; simp [execOp, go_sem, p8, p21]) ?_
          cases ho
          exact ⟨by simp [Act.put], HBW⟩
      · rintro done ac W hall ⟨rfl, HBW⟩
        have e0 := hall 0 (by decide)
        have e1 := hall 1 (by decide)
        have e2 := hall 2 (by decide)
        have e3 := hall 3 (by decide)
        have e4 := hall 4 (by decide)
        have e5 := hall 5 (by decide)
        have e6 := hall 6 (by decide)
        have e7 := hall 7 (by decide)
        have e8 := hall 8 (by decide)
        have e9 := hall 9 (by decide)
        have e10 := hall 10 (by decide)
        have e11 := hall 11 (by decide)
        have e12 := hall 12 (by decide)
        have e13 := hall 13 (by decide)
        have e14 := hall 14 (by decide)
        have e15 := hall 15 (by decide)
        have e16 := hall 16 (by decide)
        have e17 := hall 17 (by decide)
        have e18 := hall 18 (by decide)
        have e19 := hall 19 (by decide)
        have e20 := hall 20 (by decide)
        have e21 := hall 21 (by decide)
        have e22 := hall 22 (by decide)
        simp only [e0, e1, e2, e3, e4, e5, e6, e7, e8, e9, e10, e11, e12, e13, e14, e15, e16, e17, e18, e19, e20, e21, e22, if_true]
        clear hall e0 e1 e2 e3 e4 e5 e6 e7 e8 e9 e10 e11 e12 e13 e14 e15 e16 e17 e18 e19 e20 e21 e22
        go_wp2_with fail
        go_ret
        exact ⟨rfl, HK.out.below.trans (HBW.out.mono HK.out.below.size)⟩
-- END
    · have hbx : bareB a.val.length a.fl 0 a.num a.stats.length a.cl = true := by
        have : anBare0 a = true := by simpa using hba
        exact this
      rw [hbx] at hb
      have HBR := Lib.hid hb
      have hle : decide (a.cas ≤ Y.tok) = true := by
        rcases hx with h | h | h
        · exact absurd h hn
        · exact absurd h hba
        · exact decide_eq_true h
      clear hx hn hb hbx hba
      go_enter Try.func68, Try.ntmps68
      go_upto_region 3 with fail
      rw [HB.out, HW.out]
      clear q0 q13 q14 q15 q16 q17 q18 q19 q1
-- REGION B
      refine wp_region_inv2 (by kernel_rfl) (hord_of2 (by kernel_rfl)) (fun done ac W => ac = { tmps := #[(.pointer (some ⟨sb, 0, none⟩)), (.slice va n vc), undef, undef, (.bool false), (.pointer (some ⟨B, 0, none⟩)), undef, (.pointer (some ⟨sb, 0, none⟩)), (.pointer (some ⟨sb, 0, none⟩)), (.pointer (some ⟨sb, 13, none⟩)), (.agg #[.int .i64 a.st, .slice r.aa a.val.length r.ac, .int .u32 a.fl, .int .u64 a.cas, .int .u64 a.num, .slice r.sa a.stats.length r.sc, .bool a.cl]), (.pointer (some ⟨B, 3, none⟩)), if done 0 then (.slice va n vc) else undef, if done 1 then (.int .i64 (n : Nat)) else undef, if done 2 then (.bool false) else undef, if done 3 then (.bool false) else undef, if done 4 then (.agg #[.int .i64 a.st, .slice r.aa a.val.length r.ac, .int .u32 a.fl, .int .u64 0, .int .u64 a.num, .slice r.sa a.stats.length r.sc, .bool a.cl]) else undef, if done 5 then (.bool true) else undef, if done 6 then (.bool false) else undef, if done 7 then (.bool false) else undef, if done 8 then (.bool false) else undef, if done 9 then (.pointer (some ⟨sb, 0, none⟩)) else undef, if done 10 then (.pointer (some ⟨sb, 0, none⟩)) else undef, if done 11 then (.pointer (some ⟨sb, 13, none⟩)) else undef, if done 12 then (.pointer (some ⟨sb, 16, none⟩)) else undef, if done 13 then (.int .u64 a.cas) else undef, if done 14 then (.pointer (some ⟨sb, 0, none⟩)) else undef, if done 15 then (.pointer (some ⟨sb, 0, none⟩)) else undef, if done 16 then (.pointer (some ⟨sb, 0, none⟩)) else undef, if done 17 then (.pointer (some ⟨mb, 0, none⟩)) else undef, if done 18 then (.pointer (some ⟨mb, 0, none⟩)) else undef, if done 19 then (.pointer (some ⟨mb, 1, none⟩)) else undef, if done 20 then (.int .u64 Y.tok) else undef, if done 21 then (.bool true) else undef, if done 22 then (.bool true) else undef, undef, undef, undef, undef, undef, undef, undef, undef, undef, undef, undef, undef, undef, undef, undef, undef, undef, undef, undef, undef, undef, undef, undef, undef, undef, undef, undef, undef, undef, undef, undef, undef, undef, undef, undef, undef, undef, undef, undef, undef, undef, undef, undef, undef], defers := [] } ∧ Hid (Below W0.heap.size W0 W)) ?_ ?_ ?_
      · exact ⟨by simp, (Below.refl _ _).drew⟩
      · intro done ac W j oq ho hd hdep hcl ⟨hlit, HBW⟩
        have hj : j < 23 := (Array.getElem?_eq_some_iff.1 ho).1
        subst hlit
        obtain rfl | rfl | rfl | rfl | rfl | rfl | rfl | rfl | rfl | rfl | rfl | rfl | rfl | rfl | rfl | rfl | rfl | rfl | rfl | rfl | rfl | rfl | rfl : j = 0 ∨ j = 1 ∨ j = 2 ∨ j = 3 ∨ j = 4 ∨ j = 5 ∨ j = 6 ∨ j = 7 ∨ j = 8 ∨ j = 9 ∨ j = 10 ∨ j = 11 ∨ j = 12 ∨ j = 13 ∨ j = 14 ∨ j = 15 ∨ j = 16 ∨ j = 17 ∨ j = 18 ∨ j = 19 ∨ j = 20 ∨ j = 21 ∨ j = 22 := by omega
        · refine wpOp_val ho (by cases ho; rfl) (w' := W) (v := (.slice va n vc)) (by cases ho; simp [execOp, go_sem]) ?_
          cases ho
          exact ⟨by simp [Act.put], HBW⟩
        · have p0 : done 0 = true := by cases ho; exact hdep ⟨0, .data⟩ (by simp) rfl
          refine wpOp_val ho (by cases ho; rfl) (w' := W) (v := (.int .i64 (n : Nat))) (by cases ho; simp [execOp, go_sem, p0]) ?_
          cases ho
          exact ⟨by simp [Act.put], HBW⟩
        · have p1 : done 1 = true := by cases ho; exact hdep ⟨1, .data⟩ (by simp) rfl
          refine wpOp_val ho (by cases ho; rfl) (w' := W) (v := (.bool false)) (by cases ho; simp [execOp, go_sem, p1, hd, HN0.out]) ?_
          cases ho
          exact ⟨by simp [Act.put], HBW⟩
        · have p2 : done 2 = true := by cases ho; exact hdep ⟨2, .data⟩ (by simp) rfl
          refine wpOp_val ho (by cases ho; rfl) (w' := W) (v := (.bool false)) (by cases ho; simp [execOp, go_sem, p2]) ?_
          cases ho
          exact ⟨by simp [Act.put], HBW⟩
        · have p3 : done 3 = true := by cases ho; exact hdep ⟨3, .guard⟩ (by simp) rfl
          refine wpOp_valW ho (by cases ho; simp [Region.wanted, yielded, go_sem, p3]) (w' := W) (v := (.agg #[.int .i64 a.st, .slice r.aa a.val.length r.ac, .int .u32 a.fl, .int .u64 0, .int .u64 a.num, .slice r.sa a.stats.length r.sc, .bool a.cl])) (by cases ho; simp [execOp, go_sem, p3, cellB HBW.out b0, cellB HBW.out b1, cellB HBW.out b2, cellB HBW.out b3, cellB HBW.out b4, cellB HBW.out b5, cellB HBW.out b6]) ?_
          cases ho
          exact ⟨by simp [Act.put], HBW⟩
        · have p3 : done 3 = true := by cases ho; exact hdep ⟨3, .guard⟩ (by simp) rfl
          have p4 : done 4 = true := by cases ho; exact hdep ⟨4, .data⟩ (by simp) rfl
          refine wpOp_callW ho (by cases ho; simp [Region.wanted, yielded, go_sem, p3, p4]) (f := 43) (args := #[.agg #[.int .i64 a.st, .slice r.aa a.val.length r.ac, .int .u32 a.fl, .int .u64 0, .int .u64 a.num, .slice r.sa a.stats.length r.sc, .bool a.cl]]) (by cases ho; simp [execOp, go_sem, p3, p4]) (HBR.out _) ?_
          rintro e w' ⟨rfl, hb1⟩
          cases ho
          exact ⟨_, rfl, by simp [Act.put], HBW.out.trans (hb1.mono HBW.out.size)⟩
        · have p3 : done 3 = true := by cases ho; exact hdep ⟨3, .guard⟩ (by simp) rfl
          have p5 : done 5 = true := by cases ho; exact hdep ⟨5, .data⟩ (by simp) rfl
          refine wpOp_valW ho (by cases ho; simp [Region.wanted, yielded, go_sem, p3, p5]) (w' := W) (v := (.bool false)) (by cases ho; simp [execOp, go_sem, p3, p5]) ?_
          cases ho
          exact ⟨by simp [Act.put], HBW⟩
        · have p3 : done 3 = true := by cases ho; exact hdep ⟨3, .data⟩ (by simp) rfl
          have p6 : done 6 = true := by cases ho; exact hdep ⟨6, .data⟩ (by simp) rfl
          refine wpOp_val ho (by cases ho; rfl) (w' := W) (v := (.bool false)) (by cases ho; simp [execOp, go_sem, p3, p6]) ?_
          cases ho
          exact ⟨by simp [Act.put], HBW⟩
        · have p7 : done 7 = true := by cases ho; exact hdep ⟨7, .data⟩ (by simp) rfl
          refine wpOp_val ho (by cases ho; rfl) (w' := W) (v := (.bool false)) (by cases ho; simp [execOp, go_sem, p7]) ?_
          cases ho
          exact ⟨by simp [Act.put], HBW⟩
        · have p8 : done 8 = true := by cases ho; exact hdep ⟨8, .guard⟩ (by simp) rfl
          refine wpOp_valW ho (by cases ho; simp [Region.wanted, yielded, go_sem, p8]) (w' := W) (v := (.pointer (some ⟨sb, 0, none⟩))) (by cases ho; simp [execOp, go_sem, p8]) ?_
          cases ho
          exact ⟨by simp [Act.put], HBW⟩
        · have p8 : done 8 = true := by cases ho; exact hdep ⟨8, .guard⟩ (by simp) rfl
          have p9 : done 9 = true := by cases ho; exact hdep ⟨9, .data⟩ (by simp) rfl
          refine wpOp_valW ho (by cases ho; simp [Region.wanted, yielded, go_sem, p8, p9]) (w' := W) (v := (.pointer (some ⟨sb, 0, none⟩))) (by cases ho; simp [execOp, go_sem, p8, p9]) ?_
          cases ho
          exact ⟨by simp [Act.put], HBW⟩
        · have p8 : done 8 = true := by cases ho; exact hdep ⟨8, .guard⟩ (by simp) rfl
          have p10 : done 10 = true := by cases ho; exact hdep ⟨10, .data⟩ (by simp) rfl
          refine wpOp_valW ho (by cases ho; simp [Region.wanted, yielded, go_sem, p8, p10]) (w' := W) (v := (.pointer (some ⟨sb, 13, none⟩))) (by cases ho; simp [execOp, go_sem, p8, p10]) ?_
          cases ho
          exact ⟨by simp [Act.put], HBW⟩
        · have p8 : done 8 = true := by cases ho; exact hdep ⟨8, .guard⟩ (by simp) rfl
          have p11 : done 11 = true := by cases ho; exact hdep ⟨11, .data⟩ (by simp) rfl
          refine wpOp_valW ho (by cases ho; simp [Region.wanted, yielded, go_sem, p8, p11]) (w' := W) (v := (.pointer (some ⟨sb, 16, none⟩))) (by cases ho; simp [execOp, go_sem, p8, p11]) ?_
          cases ho
          exact ⟨by simp [Act.put], HBW⟩
        · have p8 : done 8 = true := by cases ho; exact hdep ⟨8, .guard⟩ (by simp) rfl
          have p12 : done 12 = true := by cases ho; exact hdep ⟨12, .data⟩ (by simp) rfl
          refine wpOp_valW ho (by cases ho; simp [Region.wanted, yielded, go_sem, p8, p12]) (w' := W) (v := (.int .u64 a.cas)) (by cases ho; simp [execOp, go_sem, p8, p12, cellB HBW.out HQ16.out]) ?_
          cases ho
          exact ⟨by simp [Act.put], HBW⟩
        · have p8 : done 8 = true := by cases ho; exact hdep ⟨8, .guard⟩ (by simp) rfl
          refine wpOp_valW ho (by cases ho; simp [Region.wanted, yielded, go_sem, p8]) (w' := W) (v := (.pointer (some ⟨sb, 0, none⟩))) (by cases ho; simp [execOp, go_sem, p8]) ?_
          cases ho
          exact ⟨by simp [Act.put], HBW⟩
        · have p8 : done 8 = true := by cases ho; exact hdep ⟨8, .guard⟩ (by simp) rfl
          have p14 : done 14 = true := by cases ho; exact hdep ⟨14, .data⟩ (by simp) rfl
          refine wpOp_valW ho (by cases ho; simp [Region.wanted, yielded, go_sem, p8, p14]) (w' := W) (v := (.pointer (some ⟨sb, 0, none⟩))) (by cases ho; simp [execOp, go_sem, p8, p14]) ?_
          cases ho
          exact ⟨by simp [Act.put], HBW⟩
        · have p8 : done 8 = true := by cases ho; exact hdep ⟨8, .guard⟩ (by simp) rfl
          have p15 : done 15 = true := by cases ho; exact hdep ⟨15, .data⟩ (by simp) rfl
          refine wpOp_valW ho (by cases ho; simp [Region.wanted, yielded, go_sem, p8, p15]) (w' := W) (v := (.pointer (some ⟨sb, 0, none⟩))) (by cases ho; simp [execOp, go_sem, p8, p15]) ?_
          cases ho
          exact ⟨by simp [Act.put], HBW⟩
        · have p8 : done 8 = true := by cases ho; exact hdep ⟨8, .guard⟩ (by simp) rfl
          have p16 : done 16 = true := by cases ho; exact hdep ⟨16, .data⟩ (by simp) rfl
          refine wpOp_valW ho (by cases ho; simp [Region.wanted, yielded, go_sem, p8, p16]) (w' := W) (v := (.pointer (some ⟨mb, 0, none⟩))) (by cases ho; simp [execOp, go_sem, p8, p16, cellB HBW.out HQ0.out]) ?_
          cases ho
          exact ⟨by simp [Act.put], HBW⟩
        · have p8 : done 8 = true := by cases ho; exact hdep ⟨8, .guard⟩ (by simp) rfl
          have p17 : done 17 = true := by cases ho; exact hdep ⟨17, .data⟩ (by simp) rfl
          refine wpOp_valW ho (by cases ho; simp [Region.wanted, yielded, go_sem, p8, p17]) (w' := W) (v := (.pointer (some ⟨mb, 0, none⟩))) (by cases ho; simp [execOp, go_sem, p8, p17]) ?_
          cases ho
          exact ⟨by simp [Act.put], HBW⟩
        · have p8 : done 8 = true := by cases ho; exact hdep ⟨8, .guard⟩ (by simp) rfl
          have p18 : done 18 = true := by cases ho; exact hdep ⟨18, .data⟩ (by simp) rfl
          refine wpOp_valW ho (by cases ho; simp [Region.wanted, yielded, go_sem, p8, p18]) (w' := W) (v := (.pointer (some ⟨mb, 1, none⟩))) (by cases ho; simp [execOp, go_sem, p8, p18]) ?_
          cases ho
          exact ⟨by simp [Act.put], HBW⟩
        · have p8 : done 8 = true := by cases ho; exact hdep ⟨8, .guard⟩ (by simp) rfl
          have p19 : done 19 = true := by cases ho; exact hdep ⟨19, .data⟩ (by simp) rfl
          refine wpOp_valW ho (by cases ho; simp [Region.wanted, yielded, go_sem, p8, p19]) (w' := W) (v := (.int .u64 Y.tok)) (by cases ho; simp [execOp, go_sem, p8, p19, cellB HBW.out HQ1.out]) ?_
          cases ho
          exact ⟨by simp [Act.put], HBW⟩
        · have p8 : done 8 = true := by cases ho; exact hdep ⟨8, .guard⟩ (by simp) rfl
          have p13 : done 13 = true := by cases ho; exact hdep ⟨13, .data⟩ (by simp) rfl
          have p20 : done 20 = true := by cases ho; exact hdep ⟨20, .data⟩ (by simp) rfl
          refine wpOp_valW ho (by cases ho; simp [Region.wanted, yielded, go_sem, p8, p13, p20]) (w' := W) (v := (.bool true)) (by cases ho; simp [execOp, go_sem, p8, p13, p20, hle]) ?_
          cases ho
          exact ⟨by simp [Act.put], HBW⟩
        · have p8 : done 8 = true := by cases ho; exact hdep ⟨8, .data⟩ (by simp) rfl
          have p21 : done 21 = true := by cases ho; exact hdep ⟨21, .data⟩ (by simp) rfl
          refine wpOp_val ho (by cases ho; rfl) (w' := W) (v := (.bool true)) (by cases ho; simp [execOp, go_sem, p8, p21]) ?_
          cases ho
          exact ⟨by simp [Act.put], HBW⟩
      · rintro done ac W hall ⟨rfl, HBW⟩
        have e0 := hall 0 (by decide)
        have e1 := hall 1 (by decide)
        have e2 := hall 2 (by decide)
        have e3 := hall 3 (by decide)
        have e4 := hall 4 (by decide)
        have e5 := hall 5 (by decide)
        have e6 := hall 6 (by decide)
        have e7 := hall 7 (by decide)
        have e8 := hall 8 (by decide)
        have e9 := hall 9 (by decide)
        have e10 := hall 10 (by decide)
        have e11 := hall 11 (by decide)
        have e12 := hall 12 (by decide)
        have e13 := hall 13 (by decide)
        have e14 := hall 14 (by decide)
        have e15 := hall 15 (by decide)
        have e16 := hall 16 (by decide)
        have e17 := hall 17 (by decide)
        have e18 := hall 18 (by decide)
        have e19 := hall 19 (by decide)
        have e20 := hall 20 (by decide)
        have e21 := hall 21 (by decide)
        have e22 := hall 22 (by decide)
        simp only [e0, e1, e2, e3, e4, e5, e6, e7, e8, e9, e10, e11, e12, e13, e14, e15, e16, e17, e18, e19, e20, e21, e22, if_true]
        clear hall e0 e1 e2 e3 e4 e5 e6 e7 e8 e9 e10 e11 e12 e13 e14 e15 e16 e17 e18 e19 e20 e21 e22
        go_wp2_with fail
        go_ret
        exact ⟨rfl, HK.out.below.trans (HBW.out.mono HK.out.below.size)⟩
-- END

end Go.Proofs.Ytngpffmgkponfaa
