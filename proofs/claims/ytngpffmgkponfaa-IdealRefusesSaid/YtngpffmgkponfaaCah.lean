/- The law's cache: found, write, fail, keyed. Conditions: the cache lies in memory. -/
import Derived.Test.YtngpffmgkponfaaMpo
import Derived.Test.YtngpffmgkponfaaSai
import Derived.Test.YtngpffmgkponfaaRegD
set_option linter.unusedVariables false
set_option linter.unusedSimpArgs false
namespace Go.Idl
open Go.Proofs.Ytngpffmgkponfaa
/-- What each key has, the last token. -/
structure Ca where
  keys : List UInt8 → Option Tv
  last : Int
def Ca.put (c : Ca) (k : List UInt8) (t : Tv) : Ca := ⟨fun k' => if k' = k then some (t.withCas (c.last + 1)) else c.keys k', c.last + 1⟩
def Ca.del (c : Ca) (k : List UInt8) : Ca := ⟨fun k' => if k' = k then none else c.keys k', c.last⟩
def zeroT : Tv := ⟨[], 0, 0, 0⟩
/-- What a key has, whether or not it has expired. -/
def Ca.raw (c : Ca) (k : List UInt8) : Tv := (c.keys k).getD zeroT
def Ca.has (c : Ca) (k : List UInt8) (now : Int) : Bool := (c.keys k).isSome && !expiredB now (c.raw k).ex
end Go.Idl
namespace Go.Proofs.Ytngpffmgkponfaa
open Go.RowKit Go.Ice Go.Idl

structure CaAt (w : World) (E : Nat → Prop) (cb ck : Nat) (c : Ca) : Prop where
  blk : w.heap[cb]? = some (.cells #[.map (some ck), .int .u64 c.last] 31 (0, 0))
  map : ∃ G, MapAt strV w ck G ∧ ∀ k, (c.keys k = none ∧ G k = none) ∨ ∃ t x, c.keys k = some t ∧ G k = some (.agg (boxC x t)) ∧ BytesIn w E x t.val ∧ Tv.ok t
  bnd : 0 ≤ c.last ∧ c.last ≤ 1000000
  eb : ¬ E cb
  ek : ¬ E ck
section
variable {w w' : World} {E S : Nat → Prop} {cb ck : Nat} {c : Ca}
theorem CaAt.ne (h : CaAt w E cb ck c) : cb ≠ ck := by
  obtain ⟨G, hm, _⟩ := h.map
  exact fun e => mapAt_block hm ((congrArg (fun b => w.heap[b]?) e.symm).trans h.blk)
theorem CaAt.frm (h : CaAt w E cb ck c) (hf : Frm S w w') (h1 : ¬ S cb) (h2 : ¬ S ck) (hE : ∀ b, E b → ¬ S b) : CaAt w' E cb ck c := by
  obtain ⟨G, hm, ha⟩ := h.map
  refine ⟨(hf.block cb (blk_lt h.blk) h1).trans h.blk, ⟨G, hm.frm hf h2, fun k => ?_⟩, h.bnd, h.eb, h.ek⟩
  rcases ha k with h3 | ⟨t, x, h3, h4, h5, h6⟩
  · exact .inl h3
  · exact .inr ⟨t, x, h3, h4, h5.frm hf hE, h6⟩
theorem CaAt.below (h : CaAt w E cb ck c) (hb : Below w.heap.size w w') : CaAt w' E cb ck c :=
  h.frm (S := fun _ => False) (frm_below hb) (fun h => h) (fun h => h) (fun _ _ h => h)
theorem zero49 (w : World) : (zeroValue 49).run Try.prog w = .ok (.agg #[.slice none 0 0, .int .u32 0, .int .u32 0, .int .u64 0]) w := by kernel_rfl
theorem zeroT_ok : Tv.ok zeroT := by unfold Tv.ok zeroT; decide
/-- A look-up with 'ok'. -/
theorem CaAt.look (h : CaAt w E cb ck c) (k : List UInt8) : ∃ x, (∀ W : World, W.heap[ck]? = w.heap[ck]? → (Instr.lookup 28 (.map (some ck)) (.string ⟨k.toArray⟩) true).run Try.prog W = .ok (.tuple #[.agg (boxC x (c.raw k)), .bool (c.keys k).isSome]) W) ∧ BytesIn w E x (c.raw k).val ∧ Tv.ok (c.raw k) := by
  obtain ⟨G, hm, ha⟩ := h.map
  rcases ha k with ⟨h3, h4⟩ | ⟨t, x, h3, h4, h5, h6⟩
  · refine ⟨.slice none 0 0, fun W hW => ?_, by unfold Ca.raw; rw [h3]; exact BytesIn.nil _ _, by unfold Ca.raw; rw [h3]; exact zeroT_ok⟩
    have := hm.look (w' := W) strKey Try.underlying28 Try.underlying9 zero49 k true hW
    unfold strV at this
    rw [this, h4]
    unfold Ca.raw
    rw [h3]
    rfl
  · refine ⟨x, fun W hW => ?_, by unfold Ca.raw; rw [h3]; exact h5, by unfold Ca.raw; rw [h3]; exact h6⟩
    have := hm.look (w' := W) strKey Try.underlying28 Try.underlying9 zero49 k true hW
    unfold strV at this
    rw [this, h4]
    unfold Ca.raw
    rw [h3]
    rfl
end

theorem keepv {W : World} {a b j i : Nat} (h : a ≠ b) (v : Value) {x : Value} (hc : W.cell? ⟨a, j, none⟩ = some x) : (W.setCell ⟨b, i, none⟩ v).cell? ⟨a, j, none⟩ = some x :=
  (World.cell?_setCell_other _ _ _ _ (by intro e; injection e with e1; exact h e1.symm)).trans hc

set_option maxHeartbeats 4000000 in
theorem fail9 (w : World) (st : Int) : Calls Try.prog 9 #[.int .i64 st] w fun e w' => e = .returned (ansV st (.slice none 0 0) 0 0 0 (.slice none 0 0) false) ∧ Below w.heap.size w w' := by
  unfold ansV
  go_enter Try.func9, Try.ntmps9
  go_wp2_with fail
  exact bodyPost_ret (by simp [results, Try.f9, go_sem]) rfl ⟨rfl, (Below.refl _ w).alloc (Nat.le_refl _) _⟩
set_option maxHeartbeats 8000000 in
set_option maxRecDepth 20000 in
theorem found24 (w : World) (E : Nat → Prop) (cb ck : Nat) (c : Ca) (h : CaAt w E cb ck c) (ka : Option Addr) (kc : Nat) (key : List UInt8) (hkey : BytesAt w (.slice ka key.length kc) key) (now : Int) (hnow : 0 ≤ now ∧ now ≤ 4294967295) :
    Calls Try.prog 24 #[.pointer (some ⟨cb, 0, none⟩), .slice ka key.length kc, .int .u32 now] w fun e w' => ∃ x, e = .returned (.tuple #[.agg (boxC x (c.raw key)), .bool (c.has key now)]) ∧ BytesIn w' E x (c.raw key).val ∧ Tv.ok (c.raw key) ∧ Below w.heap.size w w' := by
  obtain ⟨x, hlk, hbx, hok⟩ := h.look key
  obtain ⟨RB, W, HB, HW, HK, HZ⟩ := boxed1 w #[.slice none 0 0, .int .u32 0, .int .u32 0, .int .u64 0] 49
  have hb := HK.out.below
  obtain ⟨G, hm, _⟩ := h.map
  have hck : W.heap[ck]? = w.heap[ck]? := hb.block ck hm.lt
  have q0 : W.cell? ⟨cb, 0, none⟩ = some (.map (some ck)) := blk_cell ((hb.block cb (blk_lt h.blk)).trans h.blk) 0
  have hcv1 := convert_sl (P := Try.prog) (w := W.drew) 23 5 Try.underlying23 Try.underlying5 (hkey.below hb.drew (Nat.le_refl _)) 9 Try.underlying9
  have hal : ∀ o : Obj, Below W.heap.size W (W.alloc o) := fun o => (Below.refl _ W).alloc (Nat.le_refl _) _
  have hcv2 := fun o : Obj => convert_sl (P := Try.prog) (w := (W.alloc o).drew) 23 5 Try.underlying23 Try.underlying5 ((hkey.below hb (Nat.le_refl _)).below (hal o).drew (Nat.le_refl _)) 9 Try.underlying9
  have hlk1 := hlk W.drew hck
  have hlk2 := fun o : Obj => hlk (W.alloc o).drew (((hal o).block ck (by have := hm.lt; have := hb.size; omega)).trans hck)
  obtain ⟨xa, xc, rfl, _⟩ := hbx.1.form
  obtain ⟨t, ht⟩ : ∃ t, t = c.raw key := ⟨_, rfl⟩
  obtain ⟨is, his⟩ : ∃ b, b = (c.keys key).isSome := ⟨_, rfl⟩
  obtain ⟨hv, hhv⟩ : ∃ b, b = c.has key now := ⟨_, rfl⟩
  rw [← ht, ← his] at hlk1 hlk2
  rw [← ht] at hbx hok
  rw [← ht, ← hhv]
  have HHV : Hid (hv = (is && !expiredB now t.ex)) := by show _ = _; rw [hhv, his, ht]; rfl
  unfold boxC at hlk1 hlk2
  obtain ⟨xn, hxn⟩ : ∃ n, n = t.val.length := ⟨_, rfl⟩
  have HBX := Lib.hid hbx
  rw [← hxn] at hlk1 hlk2 HBX
  have HOK := Lib.hid hok
  have HNOW := Lib.hid hnow
  obtain ⟨kn, hkn⟩ : ∃ n, n = key.length := ⟨_, rfl⟩
  rw [← hkn] at hcv1 hcv2 ⊢
  have HXP := Lib.hid (fun W1 : World => expired16 now t.ex W1 hnow.1 hnow.2 hok.2.2.2.1 hok.2.2.2.2.1)
  obtain ⟨xp, hxp⟩ : ∃ b, b = expiredB now t.ex := ⟨_, rfl⟩
  rw [← hxp] at HXP HHV
  clear hlk hbx hok h hkey hnow hck hm ht his hhv hxn hkn hxp hb
  go_enter Try.func24, Try.ntmps24
  go_upto_region 1 with fail
  rw [HB.out, HW.out]
  go_cut [8, 9] from 10 to 20 (fun s8 s9 W6 => ∃ vb : Nat, s8 = .pointer (some ⟨vb, 0, none⟩) ∧ s9 = .bool is ∧ Hid (Below W.heap.size W W6 ∧ W6.heap[vb]? = some (.cells #[.slice xa xn xc, .int .u32 t.fl, .int .u32 t.ex, .int .u64 t.cas] 49 (0, 0)) ∧ W.heap.size ≤ vb))
  case first =>
    have hlt := World.block_lt_of_cell? _ _ q0
    have q1 : ∀ o : Obj, (W.alloc o).cell? ⟨cb, 0, none⟩ = some (.map (some ck)) := fun o => cellB (hal o) q0
    go_region_held3 (fun w' => w'.cell? ⟨cb, 0, none⟩ = some (.map (some ck)) ∧ (convert 23 9 (.slice ka kn kc)).run Try.prog w' = .ok (.string ⟨key.toArray⟩) w' ∧ (Instr.lookup 28 (.map (some ck)) (.string ⟨key.toArray⟩) true).run Try.prog w' = .ok (.tuple #[.agg #[.slice xa xn xc, .int .u32 t.fl, .int .u32 t.ex, .int .u64 t.cas], .bool is]) w') (first | exact ⟨q0, hcv1, hlk1⟩ | exact ⟨q1 _, hcv2 _, hlk2 _⟩) (first | fail)
    all_goals
      go_wp2_with fail
      go_meet
      case rel => exact ⟨_, rfl, rfl, ((Below.refl _ _).alloc (Nat.le_refl _) _).drew, heap_alloc_new _ _, Nat.le_refl _⟩
  case rest =>
    obtain ⟨vb, hs8, hs9, HC⟩ := hcut
    subst hs8 hs9
    clear hcv1 hcv2 hlk1 hlk2 q0
    have v0 : wc.cell? ⟨vb, 0, none⟩ = some (.slice xa xn xc) := blk_cell HC.out.2.1 0
    have v1 : wc.cell? ⟨vb, 1, none⟩ = some (.int .u32 t.fl) := blk_cell HC.out.2.1 1
    have v2 : wc.cell? ⟨vb, 2, none⟩ = some (.int .u32 t.ex) := blk_cell HC.out.2.1 2
    have v3 : wc.cell? ⟨vb, 3, none⟩ = some (.int .u64 t.cas) := blk_cell HC.out.2.1 3
    have hR := (HC.out.1.block RB (blk_lt HK.out.b0)).trans HK.out.b0
    have r0 : wc.cell? ⟨RB, 0, none⟩ = some (.slice none 0 0) := blk_cell hR 0
    have r1 : wc.cell? ⟨RB, 1, none⟩ = some (.int .u32 0) := blk_cell hR 1
    have r2 : wc.cell? ⟨RB, 2, none⟩ = some (.int .u32 0) := blk_cell hR 2
    have r3 : wc.cell? ⟨RB, 3, none⟩ = some (.int .u64 0) := blk_cell hR 3
    have f0 : wc.frozen? ⟨RB, 0, none⟩ = false := blk_frozen hR 0
    have f1 : wc.frozen? ⟨RB, 1, none⟩ = false := blk_frozen hR 1
    have f2 : wc.frozen? ⟨RB, 2, none⟩ = false := blk_frozen hR 2
    have f3 : wc.frozen? ⟨RB, 3, none⟩ = false := blk_frozen hR 3
    have hrl := blk_lt hR
    have hvr : vb ≠ RB := by have := HC.out.2.2; have := blk_lt HK.out.b0; omega
    have k4 : ∀ (j : Nat) (x : Value), wc.cell? ⟨vb, j, none⟩ = some x → ((((wc.setCell ⟨RB, 0, none⟩ (.slice xa xn xc)).setCell ⟨RB, 1, none⟩ (.int .u32 t.fl)).setCell ⟨RB, 2, none⟩ (.int .u32 t.ex)).setCell ⟨RB, 3, none⟩ (.int .u64 t.cas)).cell? ⟨vb, j, none⟩ = some x := fun j x h => keepv hvr _ (keepv hvr _ (keepv hvr _ (keepv hvr _ h)))
    have HRB : Hid (((((wc.setCell ⟨RB, 0, none⟩ (.slice xa xn xc)).setCell ⟨RB, 1, none⟩ (.int .u32 t.fl)).setCell ⟨RB, 2, none⟩ (.int .u32 t.ex)).setCell ⟨RB, 3, none⟩ (.int .u64 t.cas)).heap[RB]? = some (.cells #[.slice xa xn xc, .int .u32 t.fl, .int .u32 t.ex, .int .u64 t.cas] 49 (0, 0))) := blk_setAt (blk_setAt (blk_setAt (blk_setAt hR _) _) _) _
    have hwRB : w.heap.size ≤ RB := by have := HB.out; omega
    have HBE : Hid (Below w.heap.size w ((((wc.setCell ⟨RB, 0, none⟩ (.slice xa xn xc)).setCell ⟨RB, 1, none⟩ (.int .u32 t.fl)).setCell ⟨RB, 2, none⟩ (.int .u32 t.ex)).setCell ⟨RB, 3, none⟩ (.int .u64 t.cas)).drew) :=
      (((((HK.out.below.trans (HC.out.1.mono HK.out.below.size)).setCell hwRB _).setCell hwRB _).setCell hwRB _).setCell hwRB _).drew
    have R0 : Hid (∀ (b : Bool) (tmps : Array Value), tmps.getD 6 undef = .pointer (some ⟨RB, 0, none⟩) → tmps.getD 7 undef = .bool b → (results Try.f24 tmps).run Try.prog ((((wc.setCell ⟨RB, 0, none⟩ (.slice xa xn xc)).setCell ⟨RB, 1, none⟩ (.int .u32 t.fl)).setCell ⟨RB, 2, none⟩ (.int .u32 t.ex)).setCell ⟨RB, 3, none⟩ (.int .u64 t.cas)).drew = .ok (.tuple #[.agg #[.slice xa xn xc, .int .u32 t.fl, .int .u32 t.ex, .int .u64 t.cas], .bool b]) ((((wc.setCell ⟨RB, 0, none⟩ (.slice xa xn xc)).setCell ⟨RB, 1, none⟩ (.int .u32 t.fl)).setCell ⟨RB, 2, none⟩ (.int .u32 t.ex)).setCell ⟨RB, 3, none⟩ (.int .u64 t.cas)).drew) := by
      intro b tmps h6 h7
      have z0 := blk_cell HRB.out 0
      have z1 := blk_cell HRB.out 1
      have z2 := blk_cell HRB.out 2
      have z3 := blk_cell HRB.out 3
      have h6' : tmps[6]?.getD undef = .pointer (some ⟨RB, 0, none⟩) := by simpa using h6
      have h7' : tmps[7]?.getD undef = .bool b := by simpa using h7
      simp [results, Try.f24, go_sem, h6', h7', z0, z1, z2, z3]
    clear hR
    cases is with
    | false =>
      go_wp2_with fail
      refine wp_region_tbl [(0, 20, (.agg #[.slice xa xn xc, .int .u32 t.fl, .int .u32 t.ex, .int .u64 t.cas])), (1, 21, (.bool false)), (2, 22, (.bool false)), (3, 23, undef), (4, 24, undef), (5, 25, undef), (6, 26, undef), (7, 27, undef), (8, 28, (.bool false)), (10, 7, (.bool false))] (fun done WW => WW = (if done 9 then ((((wc.setCell ⟨RB, 0, none⟩ (.slice xa xn xc)).setCell ⟨RB, 1, none⟩ (.int .u32 t.fl)).setCell ⟨RB, 2, none⟩ (.int .u32 t.ex)).setCell ⟨RB, 3, none⟩ (.int .u64 t.cas)).drew else wc.drew)) (by kernel_rfl) (hord_of2 (by kernel_rfl)) (by kernel_rfl) (by kernel_rfl) (by kernel_rfl) rfl ?_ ?_
      · intro done zb WW j oq ho hd hdep hcl HA hww
        have hj : j < 11 := (Array.getElem?_eq_some_iff.1 ho).1
        obtain rfl | rfl | rfl | rfl | rfl | rfl | rfl | rfl | rfl | rfl | rfl : j = 0 ∨ j = 1 ∨ j = 2 ∨ j = 3 ∨ j = 4 ∨ j = 5 ∨ j = 6 ∨ j = 7 ∨ j = 8 ∨ j = 9 ∨ j = 10 := by omega
        · have n9 : done 9 = false := by cases hx : done 9 with | false => rfl | true => have := hcl 9 _ rfl hx ⟨0, .data⟩ (by simp) rfl; rw [hd] at this; cases this
          have hcell0 : WW.cell? ⟨vb, 0, none⟩ = some (.slice xa xn xc) := by rw [hww]; first | assumption | (simp only [n9, if_true, Bool.false_eq_true, if_false]; first | assumption | (repeat' split) <;> first | assumption | (exfalso; simp_all))
          have hcell1 : WW.cell? ⟨vb, 1, none⟩ = some (.int .u32 t.fl) := by rw [hww]; first | assumption | (simp only [n9, if_true, Bool.false_eq_true, if_false]; first | assumption | (repeat' split) <;> first | assumption | (exfalso; simp_all))
          have hcell2 : WW.cell? ⟨vb, 2, none⟩ = some (.int .u32 t.ex) := by rw [hww]; first | assumption | (simp only [n9, if_true, Bool.false_eq_true, if_false]; first | assumption | (repeat' split) <;> first | assumption | (exfalso; simp_all))
          have hcell3 : WW.cell? ⟨vb, 3, none⟩ = some (.int .u64 t.cas) := by rw [hww]; first | assumption | (simp only [n9, if_true, Bool.false_eq_true, if_false]; first | assumption | (repeat' split) <;> first | assumption | (exfalso; simp_all))
          exact valT (W' := WW) (.agg #[.slice xa xn xc, .int .u32 t.fl, .int .u32 t.ex, .int .u64 t.cas]) ho (by cases ho; rfl) (by cases ho; simp [execOp, go_sem, HA.tm, lookT, hcell0, hcell1, hcell2, hcell3]) (by cases ho; exact fun d hd => by cases hd; simp) (by rw [hww]; simp)
        · have n2 : done 2 = false := by cases hx : done 2 with | false => rfl | true => have := hcl 2 _ rfl hx ⟨1, .data⟩ (by simp) rfl; rw [hd] at this; cases this
          have n3 : done 3 = false := by cases hx : done 3 with | false => rfl | true => have := hcl 3 _ rfl hx ⟨2, .guard⟩ (by simp) rfl; rw [n2] at this; cases this
          have n6 : done 6 = false := by cases hx : done 6 with | false => rfl | true => have := hcl 6 _ rfl hx ⟨3, .data⟩ (by simp) rfl; rw [n3] at this; cases this
          have n9 : done 9 = false := by cases hx : done 9 with | false => rfl | true => have := hcl 9 _ rfl hx ⟨6, .chain⟩ (by simp) rfl; rw [n6] at this; cases this
          exact valT (W' := WW) (.bool false) ho (by cases ho; rfl) (by cases ho; simp [execOp, go_sem, HA.tm, lookT]) (by cases ho; exact fun d hd => by cases hd; simp) (by rw [hww]; simp)
        · have p1 : done 1 = true := by cases ho; exact hdep ⟨1, .data⟩ (by simp) rfl
          have n3 : done 3 = false := by cases hx : done 3 with | false => rfl | true => have := hcl 3 _ rfl hx ⟨2, .guard⟩ (by simp) rfl; rw [hd] at this; cases this
          have n6 : done 6 = false := by cases hx : done 6 with | false => rfl | true => have := hcl 6 _ rfl hx ⟨3, .data⟩ (by simp) rfl; rw [n3] at this; cases this
          have n9 : done 9 = false := by cases hx : done 9 with | false => rfl | true => have := hcl 9 _ rfl hx ⟨6, .chain⟩ (by simp) rfl; rw [n6] at this; cases this
          exact valT (W' := WW) (.bool false) ho (by cases ho; rfl) (by cases ho; simp [execOp, go_sem, HA.tm, lookT, p1]) (by cases ho; exact fun d hd => by cases hd; simp) (by rw [hww]; simp)
        · have p2 : done 2 = true := by cases ho; exact hdep ⟨2, .guard⟩ (by simp) rfl
          have n6 : done 6 = false := by cases hx : done 6 with | false => rfl | true => have := hcl 6 _ rfl hx ⟨3, .data⟩ (by simp) rfl; rw [hd] at this; cases this
          have n9 : done 9 = false := by cases hx : done 9 with | false => rfl | true => have := hcl 9 _ rfl hx ⟨6, .chain⟩ (by simp) rfl; rw [n6] at this; cases this
          exact passT ho (by cases ho; simp [Region.wanted, yielded, HA.tm, lookT, go_sem, p2]) (by cases ho; exact fun d hd => by cases hd; simp) (by rw [hww]; simp)
        · have p2 : done 2 = true := by cases ho; exact hdep ⟨2, .guard⟩ (by simp) rfl
          have n5 : done 5 = false := by cases hx : done 5 with | false => rfl | true => have := hcl 5 _ rfl hx ⟨4, .data⟩ (by simp) rfl; rw [hd] at this; cases this
          have n6 : done 6 = false := by cases hx : done 6 with | false => rfl | true => have := hcl 6 _ rfl hx ⟨5, .data⟩ (by simp) rfl; rw [n5] at this; cases this
          have n9 : done 9 = false := by cases hx : done 9 with | false => rfl | true => have := hcl 9 _ rfl hx ⟨6, .chain⟩ (by simp) rfl; rw [n6] at this; cases this
          exact passT ho (by cases ho; simp [Region.wanted, yielded, HA.tm, lookT, go_sem, p2]) (by cases ho; exact fun d hd => by cases hd; simp) (by rw [hww]; simp)
        · have p4 : done 4 = true := by cases ho; exact hdep ⟨4, .data⟩ (by simp) rfl
          have p2 : done 2 = true := by cases ho; exact hdep ⟨2, .guard⟩ (by simp) rfl
          have n6 : done 6 = false := by cases hx : done 6 with | false => rfl | true => have := hcl 6 _ rfl hx ⟨5, .data⟩ (by simp) rfl; rw [hd] at this; cases this
          have n9 : done 9 = false := by cases hx : done 9 with | false => rfl | true => have := hcl 9 _ rfl hx ⟨6, .chain⟩ (by simp) rfl; rw [n6] at this; cases this
          exact passT ho (by cases ho; simp [Region.wanted, yielded, HA.tm, lookT, go_sem, p2, p4]) (by cases ho; exact fun d hd => by cases hd; simp) (by rw [hww]; simp)
        · have p3 : done 3 = true := by cases ho; exact hdep ⟨3, .data⟩ (by simp) rfl
          have p5 : done 5 = true := by cases ho; exact hdep ⟨5, .data⟩ (by simp) rfl
          have p2 : done 2 = true := by cases ho; exact hdep ⟨2, .guard⟩ (by simp) rfl
          have n9 : done 9 = false := by cases hx : done 9 with | false => rfl | true => have := hcl 9 _ rfl hx ⟨6, .chain⟩ (by simp) rfl; rw [hd] at this; cases this
          exact passT ho (by cases ho; simp [Region.wanted, yielded, HA.tm, lookT, go_sem, p2, p3, p5]) (by cases ho; exact fun d hd => by cases hd; simp) (by rw [hww]; simp)
        · have p6 : done 6 = true := by cases ho; exact hdep ⟨6, .data⟩ (by simp) rfl
          have p2 : done 2 = true := by cases ho; exact hdep ⟨2, .guard⟩ (by simp) rfl
          exact passT ho (by cases ho; simp [Region.wanted, yielded, HA.tm, lookT, go_sem, p2, p6]) (by cases ho; exact fun d hd => by cases hd; simp) (by rw [hww]; simp)
        · have p2 : done 2 = true := by cases ho; exact hdep ⟨2, .data⟩ (by simp) rfl
          have p7 : done 7 = true := by cases ho; exact hdep ⟨7, .data⟩ (by simp) rfl
          exact valT (W' := WW) (.bool false) ho (by cases ho; rfl) (by cases ho; simp [execOp, go_sem, HA.tm, lookT, p2, p7]) (by cases ho; exact fun d hd => by cases hd; simp) (by rw [hww]; simp)
        · have p0 : done 0 = true := by cases ho; exact hdep ⟨0, .data⟩ (by simp) rfl
          have hw : WW = wc.drew := by rw [hww]; simp [hd]
          rw [hw]
          exact skipT (W' := ((((wc.setCell ⟨RB, 0, none⟩ (.slice xa xn xc)).setCell ⟨RB, 1, none⟩ (.int .u32 t.fl)).setCell ⟨RB, 2, none⟩ (.int .u32 t.ex)).setCell ⟨RB, 3, none⟩ (.int .u64 t.cas)).drew) ho (by cases ho; rfl) (by cases ho; rfl) (by cases ho; simp [execOp, go_sem, HA.tm, lookT, p0, r0, r1, r2, r3, f0, f1, f2, f3, hrl]) (by simp)
        · have p8 : done 8 = true := by cases ho; exact hdep ⟨8, .data⟩ (by simp) rfl
          have p9 : done 9 = true := by cases ho; exact hdep ⟨9, .chain⟩ (by simp) rfl
          exact valT (W' := WW) (.bool false) ho (by cases ho; rfl) (by cases ho; simp [execOp, go_sem, HA.tm, lookT, p8, p9]) (by cases ho; exact fun d hd => by cases hd; simp) (by rw [hww]; simp)
      · intro done WW hall hww
        have z9 := hall 9 (by decide)
        simp only [z9, if_true] at hww
        subst hww
        clear hall z9
        simp only [putAll, Act.put, List.setIfInBounds_toArray, List.set_cons_succ, List.set_cons_zero]
        go_wp2_with fail
        exact bodyPost_ret (R0.out _ _ rfl rfl) rfl ⟨_, by rw [HHV.out]; rfl, HBX.out.frm (frm_below HBE.out) (fun _ _ h => h), HOK.out, HBE.out⟩
    | true =>
      go_wp2_with fail
      refine wp_region_tbl [(0, 20, (.agg #[.slice xa xn xc, .int .u32 t.fl, .int .u32 t.ex, .int .u64 t.cas])), (1, 21, (.bool true)), (2, 22, (.bool true)), (3, 23, (.int .u32 now)), (4, 24, (.pointer (some ⟨vb, 2, none⟩))), (5, 25, (.int .u32 t.ex)), (6, 26, (.bool xp)), (7, 27, (.bool (!xp))), (8, 28, (.bool (!xp))), (10, 7, (.bool (!xp)))] (fun done WW => WW = (if done 9 then ((((wc.setCell ⟨RB, 0, none⟩ (.slice xa xn xc)).setCell ⟨RB, 1, none⟩ (.int .u32 t.fl)).setCell ⟨RB, 2, none⟩ (.int .u32 t.ex)).setCell ⟨RB, 3, none⟩ (.int .u64 t.cas)).drew else wc.drew)) (by kernel_rfl) (hord_of2 (by kernel_rfl)) (by kernel_rfl) (by kernel_rfl) (by kernel_rfl) rfl ?_ ?_
      · intro done zb WW j oq ho hd hdep hcl HA hww
        have hj : j < 11 := (Array.getElem?_eq_some_iff.1 ho).1
        obtain rfl | rfl | rfl | rfl | rfl | rfl | rfl | rfl | rfl | rfl | rfl : j = 0 ∨ j = 1 ∨ j = 2 ∨ j = 3 ∨ j = 4 ∨ j = 5 ∨ j = 6 ∨ j = 7 ∨ j = 8 ∨ j = 9 ∨ j = 10 := by omega
        · have n9 : done 9 = false := by cases hx : done 9 with | false => rfl | true => have := hcl 9 _ rfl hx ⟨0, .data⟩ (by simp) rfl; rw [hd] at this; cases this
          have hcell0 : WW.cell? ⟨vb, 0, none⟩ = some (.slice xa xn xc) := by rw [hww]; first | assumption | (simp only [n9, if_true, Bool.false_eq_true, if_false]; first | assumption | (repeat' split) <;> first | assumption | (exfalso; simp_all))
          have hcell1 : WW.cell? ⟨vb, 1, none⟩ = some (.int .u32 t.fl) := by rw [hww]; first | assumption | (simp only [n9, if_true, Bool.false_eq_true, if_false]; first | assumption | (repeat' split) <;> first | assumption | (exfalso; simp_all))
          have hcell2 : WW.cell? ⟨vb, 2, none⟩ = some (.int .u32 t.ex) := by rw [hww]; first | assumption | (simp only [n9, if_true, Bool.false_eq_true, if_false]; first | assumption | (repeat' split) <;> first | assumption | (exfalso; simp_all))
          have hcell3 : WW.cell? ⟨vb, 3, none⟩ = some (.int .u64 t.cas) := by rw [hww]; first | assumption | (simp only [n9, if_true, Bool.false_eq_true, if_false]; first | assumption | (repeat' split) <;> first | assumption | (exfalso; simp_all))
          exact valT (W' := WW) (.agg #[.slice xa xn xc, .int .u32 t.fl, .int .u32 t.ex, .int .u64 t.cas]) ho (by cases ho; rfl) (by cases ho; simp [execOp, go_sem, HA.tm, lookT, hcell0, hcell1, hcell2, hcell3]) (by cases ho; exact fun d hd => by cases hd; simp) (by rw [hww]; simp)
        · have n2 : done 2 = false := by cases hx : done 2 with | false => rfl | true => have := hcl 2 _ rfl hx ⟨1, .data⟩ (by simp) rfl; rw [hd] at this; cases this
          have n3 : done 3 = false := by cases hx : done 3 with | false => rfl | true => have := hcl 3 _ rfl hx ⟨2, .guard⟩ (by simp) rfl; rw [n2] at this; cases this
          have n6 : done 6 = false := by cases hx : done 6 with | false => rfl | true => have := hcl 6 _ rfl hx ⟨3, .data⟩ (by simp) rfl; rw [n3] at this; cases this
          have n9 : done 9 = false := by cases hx : done 9 with | false => rfl | true => have := hcl 9 _ rfl hx ⟨6, .chain⟩ (by simp) rfl; rw [n6] at this; cases this
          exact valT (W' := WW) (.bool true) ho (by cases ho; rfl) (by cases ho; simp [execOp, go_sem, HA.tm, lookT]) (by cases ho; exact fun d hd => by cases hd; simp) (by rw [hww]; simp)
        · have p1 : done 1 = true := by cases ho; exact hdep ⟨1, .data⟩ (by simp) rfl
          have n3 : done 3 = false := by cases hx : done 3 with | false => rfl | true => have := hcl 3 _ rfl hx ⟨2, .guard⟩ (by simp) rfl; rw [hd] at this; cases this
          have n6 : done 6 = false := by cases hx : done 6 with | false => rfl | true => have := hcl 6 _ rfl hx ⟨3, .data⟩ (by simp) rfl; rw [n3] at this; cases this
          have n9 : done 9 = false := by cases hx : done 9 with | false => rfl | true => have := hcl 9 _ rfl hx ⟨6, .chain⟩ (by simp) rfl; rw [n6] at this; cases this
          exact valT (W' := WW) (.bool true) ho (by cases ho; rfl) (by cases ho; simp [execOp, go_sem, HA.tm, lookT, p1]) (by cases ho; exact fun d hd => by cases hd; simp) (by rw [hww]; simp)
        · have p2 : done 2 = true := by cases ho; exact hdep ⟨2, .guard⟩ (by simp) rfl
          have n6 : done 6 = false := by cases hx : done 6 with | false => rfl | true => have := hcl 6 _ rfl hx ⟨3, .data⟩ (by simp) rfl; rw [hd] at this; cases this
          have n9 : done 9 = false := by cases hx : done 9 with | false => rfl | true => have := hcl 9 _ rfl hx ⟨6, .chain⟩ (by simp) rfl; rw [n6] at this; cases this
          exact valT (W' := WW) (.int .u32 now) ho (by cases ho; simp [Region.wanted, yielded, HA.tm, lookT, go_sem, p2]) (by cases ho; simp [execOp, go_sem, HA.tm, lookT, p2]) (by cases ho; exact fun d hd => by cases hd; simp) (by rw [hww]; simp)
        · have p2 : done 2 = true := by cases ho; exact hdep ⟨2, .guard⟩ (by simp) rfl
          have n5 : done 5 = false := by cases hx : done 5 with | false => rfl | true => have := hcl 5 _ rfl hx ⟨4, .data⟩ (by simp) rfl; rw [hd] at this; cases this
          have n6 : done 6 = false := by cases hx : done 6 with | false => rfl | true => have := hcl 6 _ rfl hx ⟨5, .data⟩ (by simp) rfl; rw [n5] at this; cases this
          have n9 : done 9 = false := by cases hx : done 9 with | false => rfl | true => have := hcl 9 _ rfl hx ⟨6, .chain⟩ (by simp) rfl; rw [n6] at this; cases this
          exact valT (W' := WW) (.pointer (some ⟨vb, 2, none⟩)) ho (by cases ho; simp [Region.wanted, yielded, HA.tm, lookT, go_sem, p2]) (by cases ho; simp [execOp, go_sem, HA.tm, lookT, p2]) (by cases ho; exact fun d hd => by cases hd; simp) (by rw [hww]; simp)
        · have p4 : done 4 = true := by cases ho; exact hdep ⟨4, .data⟩ (by simp) rfl
          have p2 : done 2 = true := by cases ho; exact hdep ⟨2, .guard⟩ (by simp) rfl
          have n6 : done 6 = false := by cases hx : done 6 with | false => rfl | true => have := hcl 6 _ rfl hx ⟨5, .data⟩ (by simp) rfl; rw [hd] at this; cases this
          have n9 : done 9 = false := by cases hx : done 9 with | false => rfl | true => have := hcl 9 _ rfl hx ⟨6, .chain⟩ (by simp) rfl; rw [n6] at this; cases this
          have hcell0 : WW.cell? ⟨vb, 2, none⟩ = some ((.int .u32 t.ex)) := by rw [hww]; first | assumption | (simp only [n9, if_true, Bool.false_eq_true, if_false]; first | assumption | (repeat' split) <;> first | assumption | (exfalso; simp_all))
          exact valT (W' := WW) (.int .u32 t.ex) ho (by cases ho; simp [Region.wanted, yielded, HA.tm, lookT, go_sem, p2, p4]) (by cases ho; simp [execOp, go_sem, HA.tm, lookT, p2, p4, hcell0]) (by cases ho; exact fun d hd => by cases hd; simp) (by rw [hww]; simp)
        · have p3 : done 3 = true := by cases ho; exact hdep ⟨3, .data⟩ (by simp) rfl
          have p5 : done 5 = true := by cases ho; exact hdep ⟨5, .data⟩ (by simp) rfl
          have p2 : done 2 = true := by cases ho; exact hdep ⟨2, .guard⟩ (by simp) rfl
          have n9 : done 9 = false := by cases hx : done 9 with | false => rfl | true => have := hcl 9 _ rfl hx ⟨6, .chain⟩ (by simp) rfl; rw [hd] at this; cases this
          exact callT (f := 16) (args := #[.int .u32 now, .int .u32 t.ex]) (.bool xp) ho (by cases ho; simp [Region.wanted, yielded, HA.tm, lookT, go_sem, p2, p3, p5]) (by cases ho; simp [execOp, go_sem, HA.tm, lookT, p2, p3, p5]) (HXP.out WW) (by cases ho; exact fun d hd => by cases hd; simp) (fun e w' h => ⟨h.1, by rw [h.2, hww]; simp⟩)
        · have p6 : done 6 = true := by cases ho; exact hdep ⟨6, .data⟩ (by simp) rfl
          have p2 : done 2 = true := by cases ho; exact hdep ⟨2, .guard⟩ (by simp) rfl
          exact valT (W' := WW) (.bool (!xp)) ho (by cases ho; simp [Region.wanted, yielded, HA.tm, lookT, go_sem, p2, p6]) (by cases ho; simp [execOp, go_sem, HA.tm, lookT, p2, p6]) (by cases ho; exact fun d hd => by cases hd; simp) (by rw [hww]; simp)
        · have p2 : done 2 = true := by cases ho; exact hdep ⟨2, .data⟩ (by simp) rfl
          have p7 : done 7 = true := by cases ho; exact hdep ⟨7, .data⟩ (by simp) rfl
          exact valT (W' := WW) (.bool (!xp)) ho (by cases ho; rfl) (by cases ho; simp [execOp, go_sem, HA.tm, lookT, p2, p7]) (by cases ho; exact fun d hd => by cases hd; simp) (by rw [hww]; simp)
        · have p0 : done 0 = true := by cases ho; exact hdep ⟨0, .data⟩ (by simp) rfl
          have hw : WW = wc.drew := by rw [hww]; simp [hd]
          rw [hw]
          exact skipT (W' := ((((wc.setCell ⟨RB, 0, none⟩ (.slice xa xn xc)).setCell ⟨RB, 1, none⟩ (.int .u32 t.fl)).setCell ⟨RB, 2, none⟩ (.int .u32 t.ex)).setCell ⟨RB, 3, none⟩ (.int .u64 t.cas)).drew) ho (by cases ho; rfl) (by cases ho; rfl) (by cases ho; simp [execOp, go_sem, HA.tm, lookT, p0, r0, r1, r2, r3, f0, f1, f2, f3, hrl]) (by simp)
        · have p8 : done 8 = true := by cases ho; exact hdep ⟨8, .data⟩ (by simp) rfl
          have p9 : done 9 = true := by cases ho; exact hdep ⟨9, .chain⟩ (by simp) rfl
          exact valT (W' := WW) (.bool (!xp)) ho (by cases ho; rfl) (by cases ho; simp [execOp, go_sem, HA.tm, lookT, p8, p9]) (by cases ho; exact fun d hd => by cases hd; simp) (by rw [hww]; simp)
      · intro done WW hall hww
        have z9 := hall 9 (by decide)
        simp only [z9, if_true] at hww
        subst hww
        clear hall z9
        simp only [putAll, Act.put, List.setIfInBounds_toArray, List.set_cons_succ, List.set_cons_zero]
        go_wp2_with fail
        exact bodyPost_ret (R0.out _ _ rfl rfl) rfl ⟨_, by rw [HHV.out]; rfl, HBX.out.frm (frm_below HBE.out) (fun _ _ h => h), HOK.out, HBE.out⟩
end Go.Proofs.Ytngpffmgkponfaa
