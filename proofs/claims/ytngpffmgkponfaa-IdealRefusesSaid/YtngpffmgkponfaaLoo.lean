/- ideal.Map.look: what it leaves. Conditions: the map, the request, the answer lie in memory; a request with a key, or a flush. -/
import Derived.Test.YtngpffmgkponfaaTak
import Derived.Test.YtngpffmgkponfaaUnd
import Derived.Defers
set_option linter.unusedVariables false
set_option linter.unusedSimpArgs false
namespace Go.Idl
open Go.Proofs.Ytngpffmgkponfaa
def aliveHow (now : Int) (t : Tv) : Option Tv := if expiredB now t.ex then none else some t
def aliveL (now : Int) (l : List Tv) : List Tv := l.filterMap (aliveHow now)
def lookF (Y : St) (q : Rq) (a : An) (now : Int) : Option St := takeF Y q a now (aliveL now (Y.now q.key))
end Go.Idl
namespace Go.Proofs.Ytngpffmgkponfaa
open Go.RowKit Go.Ice Go.Idl

theorem boxed5 (w : World) (c1 : Array Value) (t1 : TypeId) (c2 : Array Value) (t2 : TypeId) (c3 : Array Value) (t3 : TypeId) (c4 : Array Value) (t4 : TypeId) (c5 : Array Value) (t5 : TypeId) :
    ∃ B0 B1 B2 B3 B4 W, Hid (w.heap.size = B0) ∧ Hid (w.heap.size + 1 = B1) ∧ Hid (w.heap.size + 2 = B2) ∧ Hid (w.heap.size + 3 = B3) ∧ Hid (w.heap.size + 4 = B4) ∧
      Hid (((((w.alloc (.cells c1 t1)).alloc (.cells c2 t2)).alloc (.cells c3 t3)).alloc (.cells c4 t4)).alloc (.cells c5 t5) = W) ∧
      Hid (Below w.heap.size w W ∧ W.heap[B0]? = some (.cells c1 t1 (0, 0)) ∧ W.heap[B1]? = some (.cells c2 t2 (0, 0)) ∧ W.heap[B2]? = some (.cells c3 t3 (0, 0)) ∧ W.heap[B3]? = some (.cells c4 t4 (0, 0)) ∧ W.heap[B4]? = some (.cells c5 t5 (0, 0))) ∧ Hid (W.heap.size = B0 + 5) := by
  refine ⟨w.heap.size, w.heap.size + 1, w.heap.size + 2, w.heap.size + 3, w.heap.size + 4, _, rfl, rfl, rfl, rfl, rfl, rfl, ?_, (show (((((w.alloc _).alloc _).alloc _).alloc _).alloc _).heap.size = _ from by simp)⟩
  have k := (((((Kp.nil w).alloc (.cells c1 t1)).alloc (.cells c2 t2)).alloc (.cells c3 t3)).alloc (.cells c4 t4)).alloc (.cells c5 t5)
  simp only [World.size_alloc] at k
  exact ⟨k.below, k.blks (w.heap.size, _) (by simp), k.blks (w.heap.size + 1, _) (by simp), k.blks (w.heap.size + 1 + 1, _) (by simp), k.blks (w.heap.size + 1 + 1 + 1, _) (by simp), k.blks (w.heap.size + 1 + 1 + 1 + 1, _) (by simp)⟩

theorem clone30 (w : World) (kb : Nat) (F : List UInt8 → Option Value) (h : MapAt strV w kb F) : Calls Try.prog 30 #[.map (some kb)] w fun e w' => e = .returned (.map (some w.heap.size)) ∧ MapAt strV w' w.heap.size F ∧ Below w.heap.size w w' := by
  obtain ⟨es, clock, hI⟩ := h
  refine (Go.Proofs.AnyW.maps_Clone Try.cloneL kb es clock w hI.heap).mono ?_
  rintro e w' ⟨he, rfl⟩
  exact ⟨he, ⟨es, clock, { hI with heap := heap_alloc_new w _ }⟩, (Below.refl _ w).alloc (Nat.le_refl _) _⟩

/-- What stands behind some of the operations ahead of the deferred call. -/
structure Inv3 (W : World) (F : List UInt8 → Option Value) (tok : Int) (done : Nat → Bool) (x t z : Nat) (WW : World) : Prop where
  bel : Below W.heap.size W WW
  xs : done 9 = true → W.heap.size ≤ x ∧ WW.heap[x]? = some (.cells #[.map (if done 11 then some z else none)] 59 (0, 0))
  ts : done 10 = true → W.heap.size ≤ t ∧ WW.heap[t]? = some (.cells #[.int .u64 (if done 12 then tok else 0)] 29 (0, 0))
  ms : done 4 = true → W.heap.size ≤ z ∧ MapAt strV WW z F
section
variable {W WW w1 : World} {F : List UInt8 → Option Value} {tok : Int} {done : Nat → Bool} {x t z : Nat}
theorem Inv3.pass (h : Inv3 W F tok done x t z WW) {j : Nat} (hj : j ≠ 9 ∧ j ≠ 10 ∧ j ≠ 4 ∧ j ≠ 11 ∧ j ≠ 12) : Inv3 W F tok (fun k => decide (k = j) || done k) x t z WW := by
  obtain ⟨h1, h2, h3, h4, h5⟩ := hj
  exact ⟨h.bel, by simpa [Ne.symm h1, Ne.symm h4] using h.xs, by simpa [Ne.symm h2, Ne.symm h5] using h.ts, by simpa [Ne.symm h3] using h.ms⟩
theorem Inv3.keep (h : Inv3 W F tok done x t z WW) (hb : Below WW.heap.size WW w1) : Inv3 W F tok done x t z w1 :=
  ⟨h.bel.trans (hb.mono h.bel.size), fun e => ⟨(h.xs e).1, (hb.block x (blk_lt (h.xs e).2)).trans (h.xs e).2⟩, fun e => ⟨(h.ts e).1, (hb.block t (blk_lt (h.ts e).2)).trans (h.ts e).2⟩, fun e => ⟨(h.ms e).1, (h.ms e).2.below hb (Nat.le_refl _)⟩⟩
theorem Inv3.call (h : Inv3 W F tok done x t z WW) (hb : Below WW.heap.size WW w1) (hm : MapAt strV w1 WW.heap.size F) (h11 : done 11 = false) : Inv3 W F tok (fun k => decide (k = 4) || done k) x t WW.heap.size w1 := by
  have k := h.keep hb
  exact ⟨k.bel, fun e => by simpa [h11] using k.xs (by simpa using e), fun e => by simpa using k.ts (by simpa using e), fun _ => ⟨h.bel.size, hm⟩⟩
theorem Inv3.al9 (h : Inv3 W F tok done x t z WW) (h11 : done 11 = false) : Inv3 W F tok (fun k => decide (k = 9) || done k) WW.heap.size t z (WW.alloc (.cells #[.map none] 59)) := by
  have k := h.keep ((Below.refl _ WW).alloc (Nat.le_refl _) (.cells #[.map none] 59))
  exact ⟨k.bel, fun _ => ⟨h.bel.size, by simpa [h11] using heap_alloc_new WW (.cells #[.map none] 59)⟩, fun e => by simpa using k.ts (by simpa using e), fun e => k.ms (by simpa using e)⟩
theorem Inv3.al10 (h : Inv3 W F tok done x t z WW) (h12 : done 12 = false) : Inv3 W F tok (fun k => decide (k = 10) || done k) x WW.heap.size z (WW.alloc (.cells #[.int .u64 0] 29)) := by
  have k := h.keep ((Below.refl _ WW).alloc (Nat.le_refl _) (.cells #[.int .u64 0] 29))
  exact ⟨k.bel, fun e => by simpa using k.xs (by simpa using e), fun _ => ⟨h.bel.size, by simpa [h12] using heap_alloc_new WW (.cells #[.int .u64 0] 29)⟩, fun e => k.ms (by simpa using e)⟩
theorem mapAt_block {w : World} {b : Nat} {F : List UInt8 → Option Value} (h : MapAt strV w b F) {cs : Array Value} {e : TypeId} : w.heap[b]? ≠ some (.cells cs e (0, 0)) := by
  obtain ⟨es, clock, hI⟩ := h
  rw [hI.heap]
  intro e
  cases e
theorem Inv3.st11 (h : Inv3 W F tok done x t z WW) (h9 : done 9 = true) (h4 : done 4 = true) : Inv3 W F tok (fun k => decide (k = 11) || done k) x t z (WW.setCell ⟨x, 0, none⟩ (.map (some z))) := by
  have hx := h.xs h9
  have hf := setCell_frm1 WW x 0 (.map (some z))
  refine ⟨h.bel.setCell hx.1 _, fun _ => ⟨hx.1, by simpa using blk_setAt hx.2 (k := 0) (.map (some z))⟩, fun e => ?_, fun e => ⟨(h.ms h4).1, (h.ms h4).2.frm hf fun e => mapAt_block (h.ms h4).2 ((congrArg (fun b => WW.heap[b]?) (show z = x from e)).trans hx.2)⟩⟩
  have ht := h.ts (by simpa using e)
  refine ⟨ht.1, ?_⟩
  have := (hf.block t (blk_lt ht.2) fun e => by rw [e, hx.2] at ht; simp at ht).trans ht.2
  simpa using this
theorem Inv3.st12 (h : Inv3 W F tok done x t z WW) (h10 : done 10 = true) : Inv3 W F tok (fun k => decide (k = 12) || done k) x t z (WW.setCell ⟨t, 0, none⟩ (.int .u64 tok)) := by
  have ht := h.ts h10
  have hf := setCell_frm1 WW t 0 (.int .u64 tok)
  refine ⟨h.bel.setCell ht.1 _, fun e => ?_, fun _ => ⟨ht.1, by simpa using blk_setAt ht.2 (k := 0) (.int .u64 tok)⟩, fun e => ⟨(h.ms (by simpa using e)).1, (h.ms (by simpa using e)).2.frm hf fun e' => mapAt_block (h.ms (by simpa using e)).2 ((congrArg (fun b => WW.heap[b]?) (show z = t from e')).trans ht.2)⟩⟩
  have hx := h.xs (by simpa using e)
  refine ⟨hx.1, ?_⟩
  have := (hf.block x (blk_lt hx.2) fun e => by rw [e, ht.2] at hx; simp at hx).trans hx.2
  simpa using this
theorem Inv3.x0 (h : Inv3 W F tok done x t z WW) (h9 : done 9 = true) : ∃ y, WW.cell? ⟨x, 0, none⟩ = some y := ⟨_, blk_cell (h.xs h9).2 0⟩
theorem Inv3.xf (h : Inv3 W F tok done x t z WW) (h9 : done 9 = true) : WW.frozen? ⟨x, 0, none⟩ = false := blk_frozen (h.xs h9).2 0
theorem Inv3.t0 (h : Inv3 W F tok done x t z WW) (h9 : done 10 = true) : ∃ y, WW.cell? ⟨t, 0, none⟩ = some y := ⟨_, blk_cell (h.ts h9).2 0⟩
theorem Inv3.tf (h : Inv3 W F tok done x t z WW) (h9 : done 10 = true) : WW.frozen? ⟨t, 0, none⟩ = false := blk_frozen (h.ts h9).2 0
theorem Inv3.fin (h : Inv3 W F tok done x t z WW) (h4 : done 4 = true) (h9 : done 9 = true) (h10 : done 10 = true) (h11 : done 11 = true) (h12 : done 12 = true) : ∃ kb', Below W.heap.size W WW ∧ WW.heap[x]? = some (.cells #[.map (some kb')] 59 (0, 0)) ∧ WW.heap[t]? = some (.cells #[.int .u64 tok] 29 (0, 0)) ∧ MapAt strV WW kb' F ∧ W.heap.size ≤ kb' := by
  have h1 := h.xs h9
  have h2 := h.ts h10
  have h3 := h.ms h4
  simp only [h11, h12, if_true] at h1 h2
  exact ⟨z, h.bel, h1.2, h2.2, h3.2, h3.1⟩
end

theorem VersR.ownC {w : World} {base : Nat} {v : Value} {rl : List (Value × Tv)} (h : w.ownsRow base 49 4 v rl.length (cellsR rl)) {C : Nat → Prop} (hC : ∀ b, v.ownBlock = some b → C b) (hel : ∀ p ∈ rl, BytesIn w C p.1 p.2.val) (hok : ∀ p ∈ rl, Tv.ok p.2) : VersR w C v rl := by
  refine ⟨?_, hel, hok⟩
  have hk := own_isSlK h
  rcases hk.2 with ⟨h0, hv⟩ | ⟨h0, b, off, cap, hv, h1, h2, h3, h4⟩
  · exact .inl ⟨List.length_eq_zero_iff.1 h0, hv⟩
  · exact .inr ⟨h0, b, off, cap, hv, h1, h2, h3, hC b (by rw [hv]; rfl), RowR.of h4⟩
section
variable {C : Nat → Prop} {w W W3 : World} {how : Tv → Option Tv} {l : List Tv} {k sb j : Nat} {v x : Value} {rl : List (Value × Tv)} {t t' : Tv} {g : Nat}
theorem EchI.store (h : EchI C w how l k v W rl) (hC : ∀ b, C b → b < w.heap.size) (hsb : w.heap.size ≤ sb) {cs : Array Value} (hblk : W.heap[sb]? = some (.cells cs 79 (0, 0))) (u : Value) : EchI C w how l k v (W.setCell ⟨sb, j, none⟩ u) rl := by
  have hf := setCell_frm1 W sb j u
  refine ⟨h.bel.setCell hsb u, h.eq, h.len, own_keep h.own (fun b hb => hf.block b (h.own.lt b hb).2 fun e => ?_), fun p hp => elB_keep (h.el p hp) fun b hb he => hf.block b hb fun e => ?_, h.ok⟩
  · exact block_apart h.own hblk (by decide) (by rw [← (show b = sb from e)]; exact hb.symm)
  · rcases he with he | ⟨_, c, he⟩
    · have := hC b he; have e : b = sb := e; omega
    · rw [show b = sb from e, hblk] at he
      cases he
theorem EchI.step2 (h : EchI C w how l k v W rl) (hb : Below W.heap.size W W3) (hC : ∀ b, C b → b < w.heap.size) (ht : l[k]? = some t) (hs : how t = some t') (hk : k ≤ 1000000)
    (hx : BytesIn W3 (ElB C W3 w.heap.size) x t'.val) (hok : Tv.ok t') (hn : IsSlK W3 4 1 (.slice (some ⟨g, 0, none⟩) 1 1) (encR (x, t'))) {cs : Array Value} (hblk : W3.heap[sb]? = some (.cells cs 79 (0, 0))) :
    ∃ a' c' w', (Builtin.append_ #[54, 54] 54 #[v, .slice (some ⟨g, 0, none⟩) 1 1]).run Try.prog W3 = .ok (.slice a' (rl.length + 1) c') w' ∧ Hid (EchI C w how l (k + 1) (.slice a' (rl.length + 1) c') w' (rl ++ [(x, t')])) ∧ w'.heap[sb]? = some (.cells cs 79 (0, 0)) := by
  have ho := own_belowK h.own hb (Nat.le_refl _)
  have hlr := h.len
  obtain ⟨v', w', hr, ho', hg, hloc⟩ := app_at (P := Try.prog) (t := 54) (ty := 54) elemTold ho hn (by
    obtain ⟨a, c, e, _⟩ := hx.1.form
    intro u hu
    simp only [encR, e, List.mem_cons, List.mem_nil_iff, or_false] at hu
    rcases hu with rfl | rfl | rfl | rfl <;> rfl) (by omega) (by unfold maxLen; omega) (by have := hb.size; have := h.bel.size; omega)
  obtain ⟨a', c', rfl, _⟩ := own_form ho'
  have hap : ∀ {y : Value} {m : List UInt8}, BytesIn W3 (ElB C W3 w.heap.size) y m → BytesIn w' (ElB C w' w.heap.size) y m := fun hy => elB_keep hy fun b hb' he => hg.block b hb' (fun e => by
    rcases he with he | ⟨_, c, he⟩
    · have := (ho.lt b e.symm).1; have := hC b he; omega
    · exact block_apart ho he (by decide) e)
  refine ⟨a', c', w', hr, ⟨?_, ?_, by rw [List.length_append]; simp; exact hlr, ?_, ?_, ?_⟩, (hg.block sb (blk_lt hblk) (block_apart ho hblk (by decide))).trans hblk⟩
  · exact (h.bel.trans (hb.mono h.bel.size)).grown hg (by have := hb.size; have := h.bel.size; omega) (fun b hb' => (ho.lt b hb'.symm.symm).1)
  · rw [List.map_append, h.eq, List.take_add_one, ht]; simp [hs]
  · rw [cellsR_append]
    have : cellsR [(x, t')] = encR (x, t') := by simp [cellsR]
    rw [this, List.length_append]; exact ho'
  · intro p hp
    rcases List.mem_append.1 hp with hp | hp
    · exact hap (elB_keep (h.el p hp) fun b hb' _ => hb.block b hb')
    · obtain rfl : p = (x, t') := by simpa using hp
      exact hap hx
  · intro p hp
    rcases List.mem_append.1 hp with hp | hp
    · exact h.ok p hp
    · obtain rfl : p = (x, t') := by simpa using hp
      exact hok
end
def Raw.has (r : Raw) (a : Option Addr) (n c : Nat) : Raw := { r with ha := a, hn := n, hc := c }
/-- A round of look: the versions that are taken so far, the step's cells. -/
structure LooI (C : Nat → Prop) (w : World) (mb : Nat) (q : Rq) (a : An) (now : Int) (r : Raw) (sb : Nat) (l : List Tv) (k : Nat) (W : World) (ha : Option Addr) (hc : Nat) (rl : List (Value × Tv)) : Prop where
  ech : EchI C w (aliveHow now) l k (.slice ha rl.length hc) W rl
  blk : W.heap[sb]? = some (.cells (stepC mb q a now (r.has ha rl.length hc)) 79 (0, 0))
section
variable {C : Nat → Prop} {w W W3 : World} {mb kb sb k : Nat} {q : Rq} {a : An} {now : Int} {r : Raw} {l : List Tv} {ha : Option Addr} {hc : Nat} {rl : List (Value × Tv)} {t : Tv} {x : Value} {g : Nat} {Y : St} {F : List UInt8 → Option Value}
theorem LooI.skip (h : LooI C w mb q a now r sb l k W ha hc rl) (hb : Below W.heap.size W W3) (ht : l[k]? = some t) (hn : expiredB now t.ex = true) : LooI C w mb q a now r sb l (k + 1) W3 ha hc rl :=
  ⟨h.ech.skip hb ht (by unfold aliveHow; rw [if_pos hn]), (hb.block sb (blk_lt h.blk)).trans h.blk⟩
theorem LooI.step (h : LooI C w mb q a now r sb l k W ha hc rl) (hb : Below W.heap.size W W3) (hC : ∀ b, C b → b < w.heap.size) (hsb : w.heap.size ≤ sb) (ht : l[k]? = some t) (hn : expiredB now t.ex = false) (hk : k ≤ 1000000)
    (hx : BytesIn W3 (ElB C W3 w.heap.size) x t.val) (hok : Tv.ok t) (hnw : IsSlK W3 4 1 (.slice (some ⟨g, 0, none⟩) 1 1) (encR (x, t))) :
    ∃ a' c' w', (Builtin.append_ #[54, 54] 54 #[.slice ha rl.length hc, .slice (some ⟨g, 0, none⟩) 1 1]).run Try.prog W3 = .ok (.slice a' (rl.length + 1) c') w' ∧ w'.cell? ⟨sb, 22, none⟩ = some (.slice ha rl.length hc) ∧ w'.frozen? ⟨sb, 22, none⟩ = false ∧ sb < w'.heap.size ∧
      Hid (LooI C w mb q a now r sb l (k + 1) (w'.setCell ⟨sb, 22, none⟩ (.slice a' (rl.length + 1) c')) a' c' (rl ++ [(x, t)])) := by
  obtain ⟨a', c', w', hr, hE, hbk⟩ := h.ech.step2 hb hC ht (by unfold aliveHow; rw [if_neg (by rw [hn]; simp)]) hk hx hok hnw ((hb.block sb (blk_lt h.blk)).trans h.blk)
  refine ⟨a', c', w', hr, blk_cell hbk 22, blk_frozen hbk 22, blk_lt hbk, ⟨?_, ?_⟩⟩
  · have hl : (rl ++ [(x, t)]).length = rl.length + 1 := by simp
    rw [hl]
    exact hE.out.store hC hsb hbk _
  · have hl : (rl ++ [(x, t)]).length = rl.length + 1 := by simp
    rw [hl]
    exact blk_setAt hbk _
theorem LooI.sw {w0 : World} (h : LooI C w mb q a now r sb l k W ha hc rl) (hk : l.length = k) (hb0 : Below w0.heap.size w0 w) (hsb : sb = w.heap.size) (hmap : MapRep w0 C mb kb Y F) (hkey : BytesIn w0 C (.slice r.ka q.key.length r.kc) q.key) (hval : BytesIn w0 C (.slice r.va q.val.length r.vc) q.val)
    (haval : BytesIn w0 C (.slice r.aa a.val.length r.ac) a.val) (hstats : StatsAt w0 C (.slice r.sa a.stats.length r.sc) a.stats) (hqok : Rq.ok q) (haok : An.ok a) (hnow : 0 ≤ now ∧ now ≤ 4294967295) (hcold : ∀ b, C b → b < w0.heap.size) :
    SW W (fun b => (C b ∨ w.heap.size ≤ b) ∧ b < W.heap.size ∧ b ≠ sb) sb mb kb q a now (r.has ha rl.length hc) (aliveL now l) Y F := by
  have hb : Below w0.heap.size w0 W := hb0.trans (h.ech.bel.mono hb0.size)
  have hlt := blk_lt hmap.blk
  have hlk := hmap.map.lt
  have hs0 := hb0.size
  have hcw : ∀ b, b < W.heap.size → C b → (C b ∨ w.heap.size ≤ b) ∧ b < W.heap.size ∧ b ≠ sb := fun b hb hc => ⟨.inl hc, hb, by have := hcold b hc; omega⟩
  have hF := frm_below (T := fun _ => False) hb
  have hnf : ∀ b, C b → ¬ False := fun _ _ h => h
  have hlen : rl.length = (aliveL now l).length := by
    have := h.ech.eq
    rw [List.take_of_length_le (by omega)] at this
    unfold aliveL
    rw [← this, List.length_map]
  have hnot : ∀ b, b < w0.heap.size → ¬ C b → ¬ ((C b ∨ w.heap.size ≤ b) ∧ b < W.heap.size ∧ b ≠ sb) := fun b hb hc ⟨h1, _⟩ => by
    rcases h1 with h1 | h1
    · exact hc h1
    · omega
  refine ⟨h.blk, (hkey.frm hF hnf).mono hcw, (hval.frm hF hnf).mono hcw, (haval.frm hF hnf).mono hcw, ?_, hlen, ?_, (hmap.below hb).mono hcw (hnot mb hlt hmap.cm) (hnot kb hlk hmap.ck), hqok, haok, hnow, fun h => h.2.2 rfl, by omega, by omega, fun b hb => hb.2.1⟩
  · have := hstats.frm hF hnf
    refine ⟨this.1, fun hne b hbb => hcw b ?_ (hstats.2 hne b hbb)⟩
    have := hcold b (hstats.2 hne b hbb)
    have := hb.size
    omega
  · refine ⟨rl, by have := h.ech.eq; rw [List.take_of_length_le (by omega)] at this; exact this, ?_⟩
    refine VersR.ownC h.ech.own (fun b hb => ?_) (fun p hp => ⟨(h.ech.el p hp).1, fun hl b hb => ?_⟩) h.ech.ok
    · refine ⟨.inr (h.ech.own.lt b hb).1, (h.ech.own.lt b hb).2, fun e => ?_⟩
      exact block_apart h.ech.own h.blk (by decide) (by rw [← e]; exact hb.symm)
    · have hlt' : b < W.heap.size := by
        rcases (h.ech.el p hp).1 with ⟨h1, _⟩ | ⟨h0, b', off, cap, hv, h1, h2, h3, h4⟩
        · simp at h1; exact absurd h1 hl
        · rw [hv] at hb; cases hb; exact h3
      rcases (h.ech.el p hp).2 hl b hb with h1 | ⟨h1, c, h2⟩
      · exact hcw b hlt' h1
      · refine ⟨.inr h1, hlt', fun e => ?_⟩
        rw [e, h.blk] at h2
        cases h2
end
/-- All is put back. -/
theorem look_back {w Wd : World} {C : Nat → Prop} {mb kb kc : Nat} {Y : St} {F : List UInt8 → Option Value} {x0 x1 : Value} (hmap : MapRep w C mb kb Y F) (hcold : ∀ b, C b → b < w.heap.size) (hf : Frm (fun b => b = mb ∨ b = kb) w Wd) (hmb : Wd.heap[mb]? = some (.cells #[x0, x1] 61 (0, 0)))
    (hm : MapAt strV Wd kc F) (hkc : w.heap.size ≤ kc) : Frm (fun b => b = mb ∨ b = kb) w ((Wd.setCell ⟨mb, 0, none⟩ (.map (some kc))).setCell ⟨mb, 1, none⟩ (.int .u64 Y.tok)) ∧ ∃ kb' F', (kb' = kb ∨ w.heap.size ≤ kb') ∧
      MapRep ((Wd.setCell ⟨mb, 0, none⟩ (.map (some kc))).setCell ⟨mb, 1, none⟩ (.int .u64 Y.tok)) (fun b => (C b ∨ w.heap.size ≤ b) ∧ b < ((Wd.setCell ⟨mb, 0, none⟩ (.map (some kc))).setCell ⟨mb, 1, none⟩ (.int .u64 Y.tok)).heap.size ∧ b ≠ kb') mb kb' Y F' := by
  have h1 := setCell_frm1 Wd mb 0 (.map (some kc))
  have h2 := setCell_frm1 (Wd.setCell ⟨mb, 0, none⟩ (.map (some kc))) mb 1 (.int .u64 Y.tok)
  have h12 := h1.trans h2
  have hlt := blk_lt hmap.blk
  have hlk := hmap.map.lt
  have hfull : Frm (fun b => b = mb ∨ b = kb) w ((Wd.setCell ⟨mb, 0, none⟩ (.map (some kc))).setCell ⟨mb, 1, none⟩ (.int .u64 Y.tok)) := hf.trans (h12.mono fun b _ e => .inl e)
  refine ⟨hfull, kc, F, .inr hkc, ⟨blk_setAt (blk_setAt hmb _) _, hm.frm h12 (fun e => by have e : kc = mb := e; omega), fun k => ?_, hmap.tok, ?_, ?_, by omega⟩⟩
  · obtain ⟨a1, n1, c1, a2, n2, c2, eF, g1, g2⟩ := hmap.at_ k
    have hC : ∀ b, C b → ¬ (b = mb ∨ b = kb) := by
      rintro b hb (e | e)
      · exact hmap.cm (e ▸ hb)
      · exact hmap.ck (e ▸ hb)
    have hD : ∀ b, b < ((Wd.setCell ⟨mb, 0, none⟩ (.map (some kc))).setCell ⟨mb, 1, none⟩ (.int .u64 Y.tok)).heap.size → C b → (C b ∨ w.heap.size ≤ b) ∧ b < ((Wd.setCell ⟨mb, 0, none⟩ (.map (some kc))).setCell ⟨mb, 1, none⟩ (.int .u64 Y.tok)).heap.size ∧ b ≠ kc := fun b h1 h2 => ⟨.inl h2, h1, by have := hcold b h2; omega⟩
    exact ⟨a1, n1, c1, a2, n2, c2, eF, (g1.frm hfull hC).mono hD, (g2.frm hfull hC).mono hD⟩
  · rintro ⟨h | h, _⟩
    · exact hmap.cm h
    · omega
  · exact fun h => h.2.2 rfl
/-- What is taken stays. -/
theorem look_keep {w W9 Wd : World} {C C2 : Nat → Prop} {mb kb ib : Nat} {Y Y' : St} {F F' : List UInt8 → Option Value} (hmap : MapRep w C mb kb Y F) (hrep : MapRep W9 C2 mb kb Y' F') (hf : Frm (fun b => b = ib) W9 Wd) (hib : ¬ C2 ib) (hm : ib ≠ mb) (hk : ib ≠ kb) (hC2 : ∀ b, C2 b → C b ∨ w.heap.size ≤ b) :
    ∃ kb' F', (kb' = kb ∨ w.heap.size ≤ kb') ∧ MapRep Wd (fun b => (C b ∨ w.heap.size ≤ b) ∧ b < Wd.heap.size ∧ b ≠ kb') mb kb' Y' F' := by
  have h := hrep.frm hf (fun b hb e => hib (e ▸ hb)) (fun e => hm e.symm) (fun e => hk e.symm)
  have hlt := blk_lt hmap.blk
  refine ⟨kb, F', .inl rfl, h.mono (fun b h1 h2 => ⟨hC2 b h2, h1, fun e => hrep.ck (e ▸ h2)⟩) ?_ (fun h => h.2.2 rfl)⟩
  rintro ⟨h | h, _⟩
  · exact hmap.cm h
  · omega
/-- What look leaves. -/
def LookR (w : World) (C : Nat → Prop) (mb kb : Nat) (Y : St) (res : Option St) (undo : Bool) (e : Ending) (w' : World) : Prop :=
  e = .returned (.bool res.isSome) ∧ Frm (fun b => b = mb ∨ b = kb) w w' ∧ ∃ kb' F', (kb' = kb ∨ w.heap.size ≤ kb') ∧ MapRep w' (fun b => (C b ∨ w.heap.size ≤ b) ∧ b < w'.heap.size ∧ b ≠ kb') mb kb' (if undo then Y else res.getD Y) F'

set_option maxHeartbeats 4000000 in
set_option maxRecDepth 20000 in
theorem look_nil (w : World) (q : Rq) (ka va aa sa : Option Addr) (kc vc ac sc : Nat) (st fl cas num now : Int) (n m : Nat) (cl undo : Bool) :
    Calls Try.prog 23 #[.pointer none, rqV q ka va kc vc, ansV st (.slice aa n ac) fl cas num (.slice sa m sc) cl, .int .u32 now, .bool undo] w fun e w' => e = .returned (.bool false) ∧ Below w.heap.size w w' := by
  unfold rqV ansV
  obtain ⟨B0, B1, B2, B3, B4, W, H0, H1, H2, H3, H4, HW, HK, HZ⟩ := boxed5 w #[.pointer none] 25 #[.int .i64 q.op, .bool q.quiet, .bool q.full, .int .i64 q.bad, .int .u32 q.opq, .slice ka q.key.length kc, .slice va q.val.length vc, .int .u32 q.fl, .int .u32 q.ex, .int .u64 q.cas, .int .u64 q.delta, .int .u64 q.ini] 35 #[.int .i64 st, .slice aa n ac, .int .u32 fl, .int .u64 cas, .int .u64 num, .slice sa m sc, .bool cl] 38 #[.bool undo] 4 #[.bool false] 4
  have c0 : W.cell? ⟨B0, 0, none⟩ = some (.pointer none) := blk_cell HK.out.2.1 0
  have c4 : W.cell? ⟨B4, 0, none⟩ = some (.bool false) := blk_cell HK.out.2.2.2.2.2 0
  have f4 : W.frozen? ⟨B4, 0, none⟩ = false := blk_frozen HK.out.2.2.2.2.2 0
  have hlt : B4 < W.heap.size := blk_lt HK.out.2.2.2.2.2
  go_enter_defers Try.func23, Try.ntmps23
  go_upto_region 1 with fail
  rw [H4.out, H3.out, H2.out, H1.out, H0.out, HW.out]
  go_wp2_with fail
  refine ⟨.bool false, ?_, rfl, HK.out.1.setCell (by have := H4.out; show w.heap.size ≤ B4; omega) _⟩
  simp [results, Try.results23, go_sem, c4, hlt]
set_option maxHeartbeats 8000000 in
set_option maxRecDepth 20000 in
theorem look23 (w : World) (C : Nat → Prop) (mb kb : Nat) (q : Rq) (a : An) (now : Int) (r : Raw) (Y : St) (F : List UInt8 → Option Value) (undo : Bool) (hmap : MapRep w C mb kb Y F) (hkey : BytesIn w C (.slice r.ka q.key.length r.kc) q.key) (hval : BytesIn w C (.slice r.va q.val.length r.vc) q.val)
    (haval : BytesIn w C (.slice r.aa a.val.length r.ac) a.val) (hstats : StatsAt w C (.slice r.sa a.stats.length r.sc) a.stats) (hqok : Rq.ok q) (haok : An.ok a) (hnow : 0 ≤ now ∧ now ≤ 4294967295) (hcold : ∀ b, C b → b < w.heap.size) (hlen : (Y.now q.key).length ≤ 10000) (hqv : q.val.length ≤ 1000) (hh : q.here) :
    Calls Try.prog 23 #[.pointer (some ⟨mb, 0, none⟩), rqV q r.ka r.va r.kc r.vc, ansV a.st (.slice r.aa a.val.length r.ac) a.fl a.cas a.num (.slice r.sa a.stats.length r.sc) a.cl, .int .u32 now, .bool undo] w (LookR w C mb kb Y (lookF Y q a now) undo) := by
  obtain ⟨res, hres⟩ : ∃ res, res = lookF Y q a now := ⟨_, rfl⟩
  rw [← hres]
  have HRES := Lib.hid hres
  clear hres
  unfold rqV ansV
  obtain ⟨B0, B1, B2, B3, B4, W, H0, H1, H2, H3, H4, HW, HK, HZ⟩ := boxed5 w #[.pointer (some ⟨mb, 0, none⟩)] 25 #[.int .i64 q.op, .bool q.quiet, .bool q.full, .int .i64 q.bad, .int .u32 q.opq, .slice r.ka q.key.length r.kc, .slice r.va q.val.length r.vc, .int .u32 q.fl, .int .u32 q.ex, .int .u64 q.cas, .int .u64 q.delta, .int .u64 q.ini] 35
    #[.int .i64 a.st, .slice r.aa a.val.length r.ac, .int .u32 a.fl, .int .u64 a.cas, .int .u64 a.num, .slice r.sa a.stats.length r.sc, .bool a.cl] 38 #[.bool undo] 4 #[.bool false] 4
  have c0 : W.cell? ⟨B0, 0, none⟩ = some (.pointer (some ⟨mb, 0, none⟩)) := blk_cell HK.out.2.1 0
  have m0 : W.cell? ⟨mb, 0, none⟩ = some (.map (some kb)) := blk_cell ((HK.out.1.block mb (blk_lt hmap.blk)).trans hmap.blk) 0
  have m1 : W.cell? ⟨mb, 1, none⟩ = some (.int .u64 Y.tok) := blk_cell ((HK.out.1.block mb (blk_lt hmap.blk)).trans hmap.blk) 1
  have HCL := Lib.hid (fun W1 : World => fun (hb : Below W.heap.size W W1) => clone30 W1 kb F ((hmap.map.below HK.out.1 (Nat.le_refl _)).below hb (Nat.le_refl _)))
  have HMAP := Lib.hid hmap
  have HKEY := Lib.hid hkey
  have HVAL := Lib.hid hval
  have HAV := Lib.hid haval
  have HST := Lib.hid hstats
  have HQOK := Lib.hid hqok
  have HAOK := Lib.hid haok
  have HNOW := Lib.hid hnow
  have HCOLD := Lib.hid hcold
  have HLEN := Lib.hid hlen
  have HQV := Lib.hid hqv
  have HH := Lib.hid hh
  clear hmap hkey hval haval hstats hqok haok hnow hcold hlen hqv hh
  have hmf : ∀ (fn : Fn) (first cap : Array Value) (w : World), (Instr.makeFunc fn first cap).run Try.prog w = .ok (.func fn first cap) w := fun _ _ _ _ => rfl
  go_enter_defers Try.func23, Try.ntmps23
  go_upto_region 1 with fail
  rw [H4.out, H3.out, H2.out, H1.out, H0.out, HW.out]
  go_wp2_with fail
  go_cut [11, 12] from 18 to 27 (fun s11 s12 W6 => ∃ xb tb : Nat, s11 = .pointer (some ⟨xb, 0, none⟩) ∧ s12 = .pointer (some ⟨tb, 0, none⟩) ∧ Hid (∃ kb', Below W.heap.size W W6 ∧ W6.heap[xb]? = some (.cells #[.map (some kb')] 59 (0, 0)) ∧ W6.heap[tb]? = some (.cells #[.int .u64 Y.tok] 29 (0, 0)) ∧ MapAt strV W6 kb' F ∧ W.heap.size ≤ kb'))
  case first =>
    refine wp_region_inv2 (by kernel_rfl) (hord_of2 (by kernel_rfl)) (fun done zac WW => ∃ x t z : Nat, zac = { tmps := #[.pointer (some ⟨mb, 0, none⟩), .agg #[.int .i64 q.op, .bool q.quiet, .bool q.full, .int .i64 q.bad, .int .u32 q.opq, .slice r.ka q.key.length r.kc, .slice r.va q.val.length r.vc, .int .u32 q.fl, .int .u32 q.ex, .int .u64 q.cas, .int .u64 q.delta, .int .u64 q.ini], .agg #[.int .i64 a.st, .slice r.aa a.val.length r.ac, .int .u32 a.fl, .int .u64 a.cas, .int .u64 a.num, .slice r.sa a.stats.length r.sc, .bool a.cl], .int .u32 now, .bool undo, .pointer (some ⟨B0, 0, none⟩), .pointer (some ⟨B1, 0, none⟩), .pointer (some ⟨B2, 0, none⟩), undef, .pointer (some ⟨B3, 0, none⟩), .pointer (some ⟨B4, 0, none⟩), if done 9 then (.pointer (some ⟨x, 0, none⟩)) else undef, if done 10 then (.pointer (some ⟨t, 0, none⟩)) else undef, undef, undef, undef, .pointer (some ⟨mb, 0, none⟩), .bool false, if done 0 then (.pointer (some ⟨mb, 0, none⟩)) else undef, if done 1 then (.pointer (some ⟨mb, 0, none⟩)) else undef, if done 2 then (.pointer (some ⟨mb, 0, none⟩)) else undef, if done 3 then (.map (some kb)) else undef, if done 4 then (.map (some z)) else undef, if done 5 then (.pointer (some ⟨mb, 0, none⟩)) else undef, if done 6 then (.pointer (some ⟨mb, 0, none⟩)) else undef, if done 7 then (.pointer (some ⟨mb, 1, none⟩)) else undef, if done 8 then (.int .u64 Y.tok) else undef, undef, undef, undef, undef, undef, undef, undef, undef, undef, undef, undef, undef, undef, undef, undef, undef, undef, undef, undef, undef, undef, undef, undef, undef, undef, undef, undef, undef, undef, undef, undef, undef, undef, undef, undef, undef, undef, undef, undef, undef, undef, undef, undef], defers := [] } ∧ Hid (Inv3 W F Y.tok done x t z WW)) ?_ ?_ ?_
    · exact ⟨0, 0, 0, by simp, (Below.refl _ _).drew, by simp, by simp, by simp⟩
    · rintro done zac WW j oq ho hd hdep hcl ⟨x, t, z, hlit, HI⟩
      have hj : j < 13 := (Array.getElem?_eq_some_iff.1 ho).1
      subst hlit
      obtain rfl | rfl | rfl | rfl | rfl | rfl | rfl | rfl | rfl | rfl | rfl | rfl | rfl : j = 0 ∨ j = 1 ∨ j = 2 ∨ j = 3 ∨ j = 4 ∨ j = 5 ∨ j = 6 ∨ j = 7 ∨ j = 8 ∨ j = 9 ∨ j = 10 ∨ j = 11 ∨ j = 12 := by omega
      · refine wpOp_val ho (by cases ho; rfl) (w' := WW) (v := (.pointer (some ⟨mb, 0, none⟩))) (by cases ho; simp [execOp, go_sem, cellB HI.out.bel c0]) ?_
        cases ho
        exact ⟨x, t, z, by simp [Act.put], HI.out.pass (by decide)⟩
      · have p0 : done 0 = true := by cases ho; exact hdep ⟨0, .data⟩ (by simp) rfl
        refine wpOp_val ho (by cases ho; rfl) (w' := WW) (v := (.pointer (some ⟨mb, 0, none⟩))) (by cases ho; simp [execOp, go_sem, p0]) ?_
        cases ho
        exact ⟨x, t, z, by simp [Act.put], HI.out.pass (by decide)⟩
      · have p1 : done 1 = true := by cases ho; exact hdep ⟨1, .data⟩ (by simp) rfl
        refine wpOp_val ho (by cases ho; rfl) (w' := WW) (v := (.pointer (some ⟨mb, 0, none⟩))) (by cases ho; simp [execOp, go_sem, p1]) ?_
        cases ho
        exact ⟨x, t, z, by simp [Act.put], HI.out.pass (by decide)⟩
      · have p2 : done 2 = true := by cases ho; exact hdep ⟨2, .data⟩ (by simp) rfl
        refine wpOp_val ho (by cases ho; rfl) (w' := WW) (v := (.map (some kb))) (by cases ho; simp [execOp, go_sem, p2, cellB HI.out.bel m0]) ?_
        cases ho
        exact ⟨x, t, z, by simp [Act.put], HI.out.pass (by decide)⟩
      · have p3 : done 3 = true := by cases ho; exact hdep ⟨3, .data⟩ (by simp) rfl
        have h11 : done 11 = false := by cases hx : done 11 with | false => rfl | true => have := hcl 11 _ rfl hx ⟨4, .data⟩ (by simp) rfl; rw [hd] at this; cases this
        refine wpOp_call ho (by cases ho; rfl) (f := 30) (args := #[.map (some kb)]) (by cases ho; simp [execOp, go_sem, p3]) (HCL.out WW HI.out.bel) ?_
        rintro e w1 ⟨rfl, hm1, hb1⟩
        cases ho
        exact ⟨_, rfl, x, t, WW.heap.size, by simp [Act.put, hd], HI.out.call hb1 hm1 h11⟩
      · refine wpOp_val ho (by cases ho; rfl) (w' := WW) (v := (.pointer (some ⟨mb, 0, none⟩))) (by cases ho; simp [execOp, go_sem, cellB HI.out.bel c0]) ?_
        cases ho
        exact ⟨x, t, z, by simp [Act.put], HI.out.pass (by decide)⟩
      · have p5 : done 5 = true := by cases ho; exact hdep ⟨5, .data⟩ (by simp) rfl
        refine wpOp_val ho (by cases ho; rfl) (w' := WW) (v := (.pointer (some ⟨mb, 0, none⟩))) (by cases ho; simp [execOp, go_sem, p5]) ?_
        cases ho
        exact ⟨x, t, z, by simp [Act.put], HI.out.pass (by decide)⟩
      · have p6 : done 6 = true := by cases ho; exact hdep ⟨6, .data⟩ (by simp) rfl
        refine wpOp_val ho (by cases ho; rfl) (w' := WW) (v := (.pointer (some ⟨mb, 1, none⟩))) (by cases ho; simp [execOp, go_sem, p6]) ?_
        cases ho
        exact ⟨x, t, z, by simp [Act.put], HI.out.pass (by decide)⟩
      · have p7 : done 7 = true := by cases ho; exact hdep ⟨7, .data⟩ (by simp) rfl
        refine wpOp_val ho (by cases ho; rfl) (w' := WW) (v := (.int .u64 Y.tok)) (by cases ho; simp [execOp, go_sem, p7, cellB HI.out.bel m1]) ?_
        cases ho
        exact ⟨x, t, z, by simp [Act.put], HI.out.pass (by decide)⟩
      · have h11 : done 11 = false := by cases hx : done 11 with | false => rfl | true => have := hcl 11 _ rfl hx ⟨9, .data⟩ (by simp) rfl; rw [hd] at this; cases this
        refine wpOp_val ho (by cases ho; rfl) (w' := WW.alloc (.cells #[.map none] 59)) (v := .pointer (some ⟨WW.heap.size, 0, none⟩)) (by cases ho; simp [execOp, go_sem]) ?_
        cases ho
        exact ⟨WW.heap.size, t, z, by simp [Act.put, hd], HI.out.al9 h11⟩
      · have h12 : done 12 = false := by cases hx : done 12 with | false => rfl | true => have := hcl 12 _ rfl hx ⟨10, .data⟩ (by simp) rfl; rw [hd] at this; cases this
        refine wpOp_val ho (by cases ho; rfl) (w' := WW.alloc (.cells #[.int .u64 0] 29)) (v := .pointer (some ⟨WW.heap.size, 0, none⟩)) (by cases ho; simp [execOp, go_sem]) ?_
        cases ho
        exact ⟨x, WW.heap.size, z, by simp [Act.put, hd], HI.out.al10 h12⟩
      · have p9 : done 9 = true := by cases ho; exact hdep ⟨9, .data⟩ (by simp) rfl
        have p4 : done 4 = true := by cases ho; exact hdep ⟨4, .data⟩ (by simp) rfl
        obtain ⟨y, hy⟩ := HI.out.x0 p9
        have hf := HI.out.xf p9
        refine wpOp_skip ho (by cases ho; rfl) (w' := WW.setCell ⟨x, 0, none⟩ (.map (some z))) (by cases ho; simp [execOp, go_sem, p9, p4, hy, hf]) ?_
        cases ho
        exact ⟨x, t, z, by simp [Act.put], HI.out.st11 p9 p4⟩
      · have p10 : done 10 = true := by cases ho; exact hdep ⟨10, .data⟩ (by simp) rfl
        have p8 : done 8 = true := by cases ho; exact hdep ⟨8, .data⟩ (by simp) rfl
        obtain ⟨y, hy⟩ := HI.out.t0 p10
        have hf := HI.out.tf p10
        refine wpOp_skip ho (by cases ho; rfl) (w' := WW.setCell ⟨t, 0, none⟩ (.int .u64 Y.tok)) (by cases ho; simp [execOp, go_sem, p10, p8, hy, hf]) ?_
        cases ho
        exact ⟨x, t, z, by simp [Act.put], HI.out.st12 p10⟩
    · rintro done zac WW hall ⟨x, t, z, rfl, HI⟩
      have e0 := hall 0 (by decide)
      have e1 := hall 1 (by decide)
      have e2 := hall 2 (by decide)
      have e3 := hall 3 (by decide)
      have e4 := hall 4 (by decide)
      have e5 := hall 5 (by decide)
      have e6 := hall 6 (by decide)
      have e7 := hall 7 (by decide)
      have e8 := hall 8 (by decide)
      have e9 := hall 9 (by decide)
      have e10 := hall 10 (by decide)
      have e11 := hall 11 (by decide)
      have e12 := hall 12 (by decide)
      simp only [e0, e1, e2, e3, e4, e5, e6, e7, e8, e9, e10, e11, e12, if_true]
      have HE := Lib.hid (HI.out.fin e4 e9 e10 e11 e12)
      clear hall HI e0 e1 e2 e3 e4 e5 e6 e7 e8 e9 e10 e11 e12
      go_wp2_with fail
      go_meet
      case rel => exact ⟨x, t, rfl, rfl, HE.out⟩
  case rest =>
    obtain ⟨xb, tb, hs11, hs12, HC⟩ := hcut
    subst hs11 hs12
    obtain ⟨kc, hbC, hxb, htb, hmC, hkc⟩ := HC.out
    have hK : Kp w [(B0, .cells #[.pointer (some ⟨mb, 0, none⟩)] 25 (0, 0)), (B3, .cells #[.bool undo] 4 (0, 0)), (B4, .cells #[.bool false] 4 (0, 0)), (xb, .cells #[.map (some kc)] 59 (0, 0)), (tb, .cells #[.int .u64 Y.tok] 29 (0, 0))] wc := by
      have hk := HK.out
      refine ⟨hk.1.trans (hbC.mono hk.1.size), ?_⟩
      intro p hp
      simp only [List.mem_cons, List.mem_nil_iff, or_false] at hp
      rcases hp with rfl | rfl | rfl | rfl | rfl
      · exact (hbC.block B0 (blk_lt hk.2.1)).trans hk.2.1
      · exact (hbC.block B3 (blk_lt hk.2.2.2.2.1)).trans hk.2.2.2.2.1
      · exact (hbC.block B4 (blk_lt hk.2.2.2.2.2)).trans hk.2.2.2.2.2
      · exact hxb
      · exact htb
    have HKP := Lib.hid hK
    have hbw := hK.below
    have d0 : wc.cell? ⟨B0, 0, none⟩ = some (.pointer (some ⟨mb, 0, none⟩)) := blk_cell hK.b0 0
    have hq1 := (hbC.block B1 (blk_lt HK.out.2.2.1)).trans HK.out.2.2.1
    have hq2 := (hbC.block B2 (blk_lt HK.out.2.2.2.1)).trans HK.out.2.2.2.1
    have q0 : wc.cell? ⟨B1, 0, none⟩ = some (.int .i64 q.op) := blk_cell hq1 0
    have q1 : wc.cell? ⟨B1, 1, none⟩ = some (.bool q.quiet) := blk_cell hq1 1
    have q2 : wc.cell? ⟨B1, 2, none⟩ = some (.bool q.full) := blk_cell hq1 2
    have q3 : wc.cell? ⟨B1, 3, none⟩ = some (.int .i64 q.bad) := blk_cell hq1 3
    have q4 : wc.cell? ⟨B1, 4, none⟩ = some (.int .u32 q.opq) := blk_cell hq1 4
    have q5 : wc.cell? ⟨B1, 5, none⟩ = some (.slice r.ka q.key.length r.kc) := blk_cell hq1 5
    have q6 : wc.cell? ⟨B1, 6, none⟩ = some (.slice r.va q.val.length r.vc) := blk_cell hq1 6
    have q7 : wc.cell? ⟨B1, 7, none⟩ = some (.int .u32 q.fl) := blk_cell hq1 7
    have q8 : wc.cell? ⟨B1, 8, none⟩ = some (.int .u32 q.ex) := blk_cell hq1 8
    have q9 : wc.cell? ⟨B1, 9, none⟩ = some (.int .u64 q.cas) := blk_cell hq1 9
    have q10 : wc.cell? ⟨B1, 10, none⟩ = some (.int .u64 q.delta) := blk_cell hq1 10
    have q11 : wc.cell? ⟨B1, 11, none⟩ = some (.int .u64 q.ini) := blk_cell hq1 11
    have a0 : wc.cell? ⟨B2, 0, none⟩ = some (.int .i64 a.st) := blk_cell hq2 0
    have a1 : wc.cell? ⟨B2, 1, none⟩ = some (.slice r.aa a.val.length r.ac) := blk_cell hq2 1
    have a2 : wc.cell? ⟨B2, 2, none⟩ = some (.int .u32 a.fl) := blk_cell hq2 2
    have a3 : wc.cell? ⟨B2, 3, none⟩ = some (.int .u64 a.cas) := blk_cell hq2 3
    have a4 : wc.cell? ⟨B2, 4, none⟩ = some (.int .u64 a.num) := blk_cell hq2 4
    have a5 : wc.cell? ⟨B2, 5, none⟩ = some (.slice r.sa a.stats.length r.sc) := blk_cell hq2 5
    have a6 : wc.cell? ⟨B2, 6, none⟩ = some (.bool a.cl) := blk_cell hq2 6
    have hcv := convert_sl (P := Try.prog) 23 5 Try.underlying23 Try.underlying5 (HKEY.out.1.below hbw (Nat.le_refl _)) 9 Try.underlying9
    obtain ⟨sb, W7, HS, HW7, HK7, HZ7⟩ := boxed1 wc #[.pointer (some ⟨mb, 0, none⟩),
      .int .i64 q.op, .bool q.quiet, .bool q.full, .int .i64 q.bad, .int .u32 q.opq, .slice r.ka q.key.length r.kc, .slice r.va q.val.length r.vc, .int .u32 q.fl, .int .u32 q.ex, .int .u64 q.cas, .int .u64 q.delta, .int .u64 q.ini,
      .int .i64 a.st, .slice r.aa a.val.length r.ac, .int .u32 a.fl, .int .u64 a.cas, .int .u64 a.num, .slice r.sa a.stats.length r.sc, .bool a.cl,
      .int .u32 now, .string ⟨q.key.toArray⟩, .slice none 0 0] 79
    go_upto_region 6 with fail
    rw [HS.out, HW7.out]
    clear q0 q1 q2 q3 q4 q5 q6 q7 q8 q9 q10 q11 a0 a1 a2 a3 a4 a5 a6 hcv hq1 hq2
    have hb7 : Below w.heap.size w W7 := hbw.trans (HK7.out.below.mono hbw.size)
    have e0 : W7.cell? ⟨B0, 0, none⟩ = some (.pointer (some ⟨mb, 0, none⟩)) := cellB HK7.out.below d0
    have e1 : W7.cell? ⟨mb, 0, none⟩ = some (.map (some kb)) := blk_cell ((hb7.block mb (blk_lt HMAP.out.blk)).trans HMAP.out.blk) 0
    have e2 : W7.cell? ⟨sb, 21, none⟩ = some (.string ⟨q.key.toArray⟩) := blk_cell HK7.out.b0 21
    obtain ⟨n1a, n1, n1c, n2a, n2, n2c, eF, hv1, hv2⟩ := HMAP.out.at_ q.key
    have hlk : (Instr.lookup 59 (.map (some kb)) (.string ⟨q.key.toArray⟩) false).run Try.prog W7.drew = .ok (.agg #[.slice n1a n1 n1c, .slice n2a n2 n2c]) W7.drew := by
      rw [HMAP.out.look (w' := W7.drew) q.key (hb7.block kb HMAP.out.map.lt), eF]
    have hf0 : ∀ W, (Instr.field 72 (.agg #[.slice n1a n1 n1c, .slice n2a n2 n2c]) 0).run Try.prog W = .ok (.slice n1a n1 n1c) W := fun _ => by kernel_rfl
    have HB7 := Lib.hid hb7
    have HV := Lib.hid hv1
    have HMC := Lib.hid hmC
    have HKC : Hid (w.heap.size ≤ kc) := Nat.le_trans HK.out.1.size hkc
    clear hv1 hv2 eF hb7 d0 hbC hxb htb hmC hkc hK hbw HC
    go_region_held3 (fun w' => w'.cell? ⟨B0, 0, none⟩ = some (.pointer (some ⟨mb, 0, none⟩)) ∧ w'.cell? ⟨mb, 0, none⟩ = some (.map (some kb)) ∧ w'.cell? ⟨sb, 21, none⟩ = some (.string ⟨q.key.toArray⟩)) (first | exact ⟨e0, e1, e2⟩) (first | fail)
    go_wp2_with fail
    have HSB : Hid (sb = wc.heap.size) := HS.out.symm
    have HBC : Hid (Below w.heap.size w wc) := HKP.out.below
    obtain ⟨l0, hl0⟩ : ∃ l, l = Y.now q.key := ⟨_, rfl⟩
    have HL0 := Lib.hid hl0
    rw [← hl0] at HV HLEN
    obtain ⟨rl0, hrl, hvr⟩ := HV.out
    have HVR := Lib.hid hvr
    have HRL := Lib.hid hrl
    have hn1 : n1 = rl0.length := by
      obtain ⟨_, _, e, _⟩ := hvr.form
      injection e
    have HN1 := Lib.hid hn1
    have HLL : Hid (l0.length = n1) := by show _ = _; rw [hn1, ← hrl, List.length_map]
    have hnm : n1 ≤ 10000 := by rw [← HLL.out]; exact HLEN.out
    clear hrl hvr hl0 hn1 hlk hf0
    go_loopg [15, 48] n1 (fun gg bv kv wr => ∃ (k : Nat) (rl : List (Value × Tv)) (ha : Option Addr) (hc : Nat), gg = n1 - k ∧ k ≤ n1 ∧ kv = .int .i64 k ∧ Hid (LooI C wc mb q a now r sb l0 k wr ha hc rl))
    case atStart => exact ⟨0, [], none, 0, by omega, by omega, rfl, ⟨HK7.out.below.drew, rfl, Nat.le_refl _, ⟨rfl, .inl ⟨rfl, rfl⟩⟩, by simp, by simp⟩, HK7.out.b0⟩
    case round =>
      obtain ⟨k, rl, ha, hc, rfl, hk, rfl, HI⟩ := hrel
      by_cases hlt : k < n1
      · have hkl : k < rl0.length := by rw [← HN1.out]; exact hlt
        obtain ⟨⟨xv, t⟩, hp⟩ : ∃ p, rl0[k]? = some p := ⟨_, List.getElem?_eq_getElem hkl⟩
        have hmem := List.mem_of_getElem? hp
        have hbt := HVR.out.el _ hmem
        have htok := HVR.out.ok _ hmem
        have ht : l0[k]? = some t := by rw [← HRL.out, List.getElem?_map, hp]; rfl
        obtain ⟨xa, xc, hxv, _⟩ := hbt.1.form
        have hxv : xv = .slice xa t.val.length xc := hxv
        obtain ⟨b, off, cap, e1', h1, h2, h3, _, h5⟩ := HVR.out.at (by omega)
        have hbr : Below w.heap.size w wr := HBC.out.trans (HI.out.ech.bel.mono HBC.out.size)
        obtain ⟨p0, p1, p2, p3⟩ := h5.frm (frm_below (T := fun _ => False) hbr) h3 (fun h => h) k _ hp
        rw [← HN1.out] at e1' h1
        injection e1' with y1 y2 y3
        subst y1 y3 hxv
        unfold maxLen at h2
        have HT := Lib.hid ht
        have HTOK := Lib.hid htok
        have HBT : Hid (BytesIn w C (.slice xa t.val.length xc) t.val) := hbt
        dsimp only at p0 p1 p2 p3
        obtain ⟨xn, hxn⟩ : ∃ xn, xn = t.val.length := ⟨_, rfl⟩
        rw [← hxn] at p0 HBT
        obtain ⟨vb, W1, HB, HW', HKv, HZ'⟩ := boxed1 wr #[.slice xa xn xc, .int .u32 t.fl, .int .u32 t.ex, .int .u64 t.cas] 49
        have hx := expired16 now t.ex W1 HNOW.out.1 HNOW.out.2 htok.2.2.2.1 htok.2.2.2.2.1
        obtain ⟨xp, hxp⟩ : ∃ b, b = expiredB now t.ex := ⟨_, rfl⟩
        rw [← hxp] at hx
        have HXP := Lib.hid hx
        have HXE := Lib.hid hxp
        have v2 : W1.cell? ⟨vb, 2, none⟩ = some (.int .u32 t.ex) := blk_cell HKv.out.b0 2
        have HBR := Lib.hid hbr
        clear hmem hbt htok ht h3 h5 hp hkl hx hxp hxn y2 hbr
        go_upto_region 9 with fail
        rw [HB.out, HW'.out]
        clear p0 p1 p2 p3 h1 h2
        go_wp2_with fail
        refine HXP.out.mono ?_
        rintro e w1 ⟨rfl, rfl⟩
        clear HXP
        cases xp with
        | true =>
          have HN := Lib.hid (HI.out.skip HKv.out.below HT.out HXE.out.symm)
          clear v2
          go_wp2_with fail
          go_roundg (n1 - (k + 1))
          case measure => omega
          case rel => exact ⟨k + 1, rl, ha, hc, by omega, by omega, by go_num, HN.out⟩
        | false =>
          go_wp2_with fail
          have hb1 : Below wr.heap.size wr w1 := HKv.out.below
          have hbk1 := (hb1.block sb (blk_lt HI.out.blk)).trans HI.out.blk
          have hal : Below w1.heap.size w1 (w1.alloc (.cells #[.slice xa xn xc, .int .u32 t.fl, .int .u32 t.ex, .int .u64 t.cas] 49)) := (Below.refl _ w1).alloc (Nat.le_refl _) _
          have hb3 : Below wr.heap.size wr (w1.alloc (.cells #[.slice xa xn xc, .int .u32 t.fl, .int .u32 t.ex, .int .u64 t.cas] 49)).drew := (hb1.trans (hal.mono hb1.size)).drew
          have hbw3 : Below w.heap.size w (w1.alloc (.cells #[.slice xa xn xc, .int .u32 t.fl, .int .u32 t.ex, .int .u64 t.cas] 49)).drew := HBR.out.trans (hb3.mono HBR.out.size)
          obtain ⟨a4, c4, w4, hr4, s22', f22', hlt4, HI4⟩ := HI.out.step (g := w1.heap.size) (x := .slice xa xn xc) hb3 (fun b hb => Nat.lt_of_lt_of_le (HCOLD.out b hb) HBC.out.size) (by have := HSB.out; omega) HT.out HXE.out.symm (by omega)
            ⟨IsSl.below HBT.out.1 hbw3 (Nat.le_refl _), fun hl b hb => .inl (HBT.out.2 hl b hb)⟩ HTOK.out (isSlK_new w1 [.slice xa xn xc, .int .u32 t.fl, .int .u32 t.ex, .int .u64 t.cas] 49 1 4 1 (by omega) rfl (by omega) (by decide))
          have s22 : w1.cell? ⟨sb, 22, none⟩ = some (.slice ha rl.length hc) := blk_cell hbk1 22
          have v0 : w1.cell? ⟨vb, 0, none⟩ = some (.slice xa xn xc) := blk_cell HKv.out.b0 0
          have v1 : w1.cell? ⟨vb, 1, none⟩ = some (.int .u32 t.fl) := blk_cell HKv.out.b0 1
          have v3 : w1.cell? ⟨vb, 3, none⟩ = some (.int .u64 t.cas) := blk_cell HKv.out.b0 3
          have s22b : (w1.alloc (.cells #[.slice xa xn xc, .int .u32 t.fl, .int .u32 t.ex, .int .u64 t.cas] 49)).cell? ⟨sb, 22, none⟩ = some (.slice ha rl.length hc) := cellB hal s22
          have g0 : w1.cell? ⟨B0, 0, none⟩ = some (.pointer (some ⟨mb, 0, none⟩)) := cellB hb1 (cellB (HI.out.ech.bel) (blk_cell HKP.out.b0 0))
          have g1 : (w1.alloc (.cells #[.slice xa xn xc, .int .u32 t.fl, .int .u32 t.ex, .int .u64 t.cas] 49)).cell? ⟨B0, 0, none⟩ = some (.pointer (some ⟨mb, 0, none⟩)) := cellB hal g0
          have g3 : (w4.setCell ⟨sb, 22, none⟩ (.slice a4 (rl.length + 1) c4)).cell? ⟨B0, 0, none⟩ = some (.pointer (some ⟨mb, 0, none⟩)) := cellB HI4.out.ech.bel (blk_cell HKP.out.b0 0)
          have hB0 : B0 ≠ sb := by have := HSB.out; have := blk_lt HKP.out.b0; omega
          have g2 : w4.cell? ⟨B0, 0, none⟩ = some (.pointer (some ⟨mb, 0, none⟩)) := (World.cell?_setCell_other w4 ⟨sb, 22, none⟩ ⟨B0, 0, none⟩ (.slice a4 (rl.length + 1) c4) (by intro e; injection e with e1; exact hB0 e1.symm)).symm.trans g3
          have HR4 := Lib.hid hr4
          clear hr4 hb1 hb3 hbw3 hal hbk1
          refine wp_region_inv2 (by kernel_rfl) (hord_of2 (by kernel_rfl)) (fun done zac WW => zac = { tmps := #[.pointer (some ⟨mb, 0, none⟩), .agg #[.int .i64 q.op, .bool q.quiet, .bool q.full, .int .i64 q.bad, .int .u32 q.opq, .slice r.ka q.key.length r.kc, .slice r.va q.val.length r.vc, .int .u32 q.fl, .int .u32 q.ex, .int .u64 q.cas, .int .u64 q.delta, .int .u64 q.ini], .agg #[.int .i64 a.st, .slice r.aa a.val.length r.ac, .int .u32 a.fl, .int .u64 a.cas, .int .u64 a.num, .slice r.sa a.stats.length r.sc, .bool a.cl], .int .u32 now, .bool undo, .pointer (some ⟨B0, 0, none⟩), .pointer (some ⟨B1, 0, none⟩), .pointer (some ⟨B2, 0, none⟩), undef, .pointer (some ⟨B3, 0, none⟩), .pointer (some ⟨B4, 0, none⟩), .pointer (some ⟨xb, 0, none⟩), .pointer (some ⟨tb, 0, none⟩), .pointer (some ⟨sb, 0, none⟩), undef, .pointer (some ⟨vb, 0, none⟩), .pointer (some ⟨mb, 0, none⟩), .bool false, u18, u19, u20, u21, u22, u23, u24, u25, u26, .func (.func 31) #[] #[.pointer (some ⟨B3, 0, none⟩), .pointer (some ⟨B4, 0, none⟩), .pointer (some ⟨xb, 0, none⟩), .pointer (some ⟨tb, 0, none⟩), .pointer (some ⟨B0, 0, none⟩)], .pointer (some ⟨mb, 0, none⟩), .agg #[.int .i64 q.op, .bool q.quiet, .bool q.full, .int .i64 q.bad, .int .u32 q.opq, .slice r.ka q.key.length r.kc, .slice r.va q.val.length r.vc, .int .u32 q.fl, .int .u32 q.ex, .int .u64 q.cas, .int .u64 q.delta, .int .u64 q.ini], .agg #[.int .i64 a.st, .slice r.aa a.val.length r.ac, .int .u32 a.fl, .int .u64 a.cas, .int .u64 a.num, .slice r.sa a.stats.length r.sc, .bool a.cl], .int .u32 now, .pointer (some ⟨B1, 5, none⟩), .slice r.ka q.key.length r.kc, .string { data := q.key.toArray }, .agg #[.pointer (some ⟨mb, 0, none⟩), .int .i64 q.op, .bool q.quiet, .bool q.full, .int .i64 q.bad, .int .u32 q.opq, .slice r.ka q.key.length r.kc, .slice r.va q.val.length r.vc, .int .u32 q.fl, .int .u32 q.ex, .int .u64 q.cas, .int .u64 q.delta, .int .u64 q.ini, .int .i64 a.st, .slice r.aa a.val.length r.ac, .int .u32 a.fl, .int .u64 a.cas, .int .u64 a.num, .slice r.sa a.stats.length r.sc, .bool a.cl, .int .u32 now, .string { data := q.key.toArray }, .slice none 0 0], .pointer (some ⟨sb, 0, none⟩), .pointer (some ⟨mb, 0, none⟩), .pointer (some ⟨mb, 0, none⟩), .pointer (some ⟨mb, 0, none⟩), .map (some kb), .pointer (some ⟨sb, 0, none⟩), .pointer (some ⟨sb, 0, none⟩), .pointer (some ⟨sb, 21, none⟩), .string { data := q.key.toArray }, .agg #[.slice (some ⟨b, off, none⟩) n1 n1c, .slice n2a n2 n2c], .slice (some ⟨b, off, none⟩) n1 n1c, .int .i64 (n1 : Nat), .int .i64 (k : Nat), .bool true, .pointer (some ⟨b, off + k * 4, none⟩), .agg #[.slice xa xn xc, .int .u32 t.fl, .int .u32 t.ex, .int .u64 t.cas], .int .u32 now, .pointer (some ⟨vb, 2, none⟩), .int .u32 t.ex, .bool false, .bool true, if done 0 then (.pointer (some ⟨sb, 0, none⟩)) else u57, if done 1 then (.pointer (some ⟨sb, 0, none⟩)) else u58, if done 2 then (.pointer (some ⟨sb, 0, none⟩)) else u59, if done 3 then (.pointer (some ⟨sb, 22, none⟩)) else u60, if done 4 then (.slice ha rl.length hc) else u61, if done 5 then (.agg #[.slice xa xn xc, .int .u32 t.fl, .int .u32 t.ex, .int .u64 t.cas]) else u62, if done 6 then (.slice (some ⟨w1.heap.size, 0, none⟩) 1 1) else u63, if done 7 then (.slice a4 (rl.length + 1) c4) else u64, if done 8 then (.pointer (some ⟨sb, 0, none⟩)) else u65, if done 9 then (.pointer (some ⟨sb, 22, none⟩)) else u66, u67, undef, undef], defers := [{ target := .fn (.func 31) #[.pointer (some ⟨B3, 0, none⟩), .pointer (some ⟨B4, 0, none⟩), .pointer (some ⟨xb, 0, none⟩), .pointer (some ⟨tb, 0, none⟩), .pointer (some ⟨B0, 0, none⟩)], args := #[] }] } ∧ WW = (if done 10 then w4.setCell ⟨sb, 22, none⟩ (.slice a4 (rl.length + 1) c4) else if done 7 then w4 else if done 6 then (w1.alloc (.cells #[.slice xa xn xc, .int .u32 t.fl, .int .u32 t.ex, .int .u64 t.cas] 49)).drew else w1.drew)) ?_ ?_ ?_
          · exact ⟨by simp, by simp⟩
          · rintro done zac WW j oq ho hd hdep hcl ⟨hlit, hww⟩
            have hj : j < 11 := (Array.getElem?_eq_some_iff.1 ho).1
            subst hlit
            obtain rfl | rfl | rfl | rfl | rfl | rfl | rfl | rfl | rfl | rfl | rfl : j = 0 ∨ j = 1 ∨ j = 2 ∨ j = 3 ∨ j = 4 ∨ j = 5 ∨ j = 6 ∨ j = 7 ∨ j = 8 ∨ j = 9 ∨ j = 10 := by omega
            · refine wpOp_val ho (by cases ho; rfl) (w' := WW) (v := (.pointer (some ⟨sb, 0, none⟩))) (by cases ho; simp [execOp, go_sem]) ?_
              cases ho
              exact ⟨by simp [Act.put], by rw [hww]; simp⟩
            · refine wpOp_val ho (by cases ho; rfl) (w' := WW) (v := (.pointer (some ⟨sb, 0, none⟩))) (by cases ho; simp [execOp, go_sem]) ?_
              cases ho
              exact ⟨by simp [Act.put], by rw [hww]; simp⟩
            · have p1 : done 1 = true := by cases ho; exact hdep ⟨1, .data⟩ (by simp) rfl
              refine wpOp_val ho (by cases ho; rfl) (w' := WW) (v := (.pointer (some ⟨sb, 0, none⟩))) (by cases ho; simp [execOp, go_sem, p1]) ?_
              cases ho
              exact ⟨by simp [Act.put], by rw [hww]; simp⟩
            · have p2 : done 2 = true := by cases ho; exact hdep ⟨2, .data⟩ (by simp) rfl
              refine wpOp_val ho (by cases ho; rfl) (w' := WW) (v := (.pointer (some ⟨sb, 22, none⟩))) (by cases ho; simp [execOp, go_sem, p2]) ?_
              cases ho
              exact ⟨by simp [Act.put], by rw [hww]; simp⟩
            · have p3 : done 3 = true := by cases ho; exact hdep ⟨3, .data⟩ (by simp) rfl
              have h7 : done 7 = false := by cases hx : done 7 with | false => rfl | true => have := hcl 7 _ rfl hx ⟨4, .data⟩ (by simp) rfl; rw [hd] at this; cases this
              have h10 : done 10 = false := by cases hx : done 10 with | false => rfl | true => have := hcl 10 _ rfl hx ⟨7, .data⟩ (by simp) rfl; rw [h7] at this; cases this
              have hcell : WW.cell? ⟨sb, 22, none⟩ = some (.slice ha rl.length hc) := by rw [hww, h7, h10]; cases done 6 <;> assumption
              refine wpOp_val ho (by cases ho; rfl) (w' := WW) (v := (.slice ha rl.length hc)) (by cases ho; simp [execOp, go_sem, p3, hcell]) ?_
              cases ho
              exact ⟨by simp [Act.put], by rw [hww]; simp⟩
            · have h6 : done 6 = false := by cases hx : done 6 with | false => rfl | true => have := hcl 6 _ rfl hx ⟨5, .data⟩ (by simp) rfl; rw [hd] at this; cases this
              have h7 : done 7 = false := by cases hx : done 7 with | false => rfl | true => have := hcl 7 _ rfl hx ⟨6, .data⟩ (by simp) rfl; rw [h6] at this; cases this
              have h10 : done 10 = false := by cases hx : done 10 with | false => rfl | true => have := hcl 10 _ rfl hx ⟨7, .data⟩ (by simp) rfl; rw [h7] at this; cases this
              have hw : WW = w1.drew := by rw [hww, h6, h7, h10]; rfl
              subst hw
              refine wpOp_val ho (by cases ho; rfl) (w' := w1.drew) (v := (.agg #[.slice xa xn xc, .int .u32 t.fl, .int .u32 t.ex, .int .u64 t.cas])) (by cases ho; simp [execOp, go_sem, v0, v1, v2, v3]) ?_
              cases ho
              exact ⟨by simp [Act.put], by simp [h6, h7, h10]⟩
            · have p5 : done 5 = true := by cases ho; exact hdep ⟨5, .data⟩ (by simp) rfl
              have h7 : done 7 = false := by cases hx : done 7 with | false => rfl | true => have := hcl 7 _ rfl hx ⟨6, .data⟩ (by simp) rfl; rw [hd] at this; cases this
              have h10 : done 10 = false := by cases hx : done 10 with | false => rfl | true => have := hcl 10 _ rfl hx ⟨7, .data⟩ (by simp) rfl; rw [h7] at this; cases this
              have hw : WW = w1.drew := by rw [hww, hd, h7, h10]; rfl
              subst hw
              refine wpOp_val ho (by cases ho; rfl) (w' := (w1.alloc (.cells #[.slice xa xn xc, .int .u32 t.fl, .int .u32 t.ex, .int .u64 t.cas] 49)).drew) (v := (.slice (some ⟨w1.heap.size, 0, none⟩) 1 1)) (by cases ho; simp [execOp, go_sem, p5]) ?_
              cases ho
              exact ⟨by simp [Act.put], by simp [h7, h10]⟩
            · have p4 : done 4 = true := by cases ho; exact hdep ⟨4, .data⟩ (by simp) rfl
              have p6 : done 6 = true := by cases ho; exact hdep ⟨6, .data⟩ (by simp) rfl
              have h10 : done 10 = false := by cases hx : done 10 with | false => rfl | true => have := hcl 10 _ rfl hx ⟨7, .data⟩ (by simp) rfl; rw [hd] at this; cases this
              have hw : WW = (w1.alloc (.cells #[.slice xa xn xc, .int .u32 t.fl, .int .u32 t.ex, .int .u64 t.cas] 49)).drew := by rw [hww, h10, hd, p6]; rfl
              subst hw
              refine wpOp_append ho (by cases ho; rfl) (.tmp 61) (.tmp 63) 54 (by cases ho; rfl) (v := .slice ha rl.length hc) (vx := .slice (some ⟨w1.heap.size, 0, none⟩) 1 1) (by simp [Act.eval, p4]) (by simp [Act.eval, p6]) (by cases ho; exact HR4.out) ?_
              cases ho
              exact ⟨by simp [Act.put], by simp [h10]⟩
            · have p0 : done 0 = true := by cases ho; exact hdep ⟨0, .data⟩ (by simp) rfl
              refine wpOp_val ho (by cases ho; rfl) (w' := WW) (v := (.pointer (some ⟨sb, 0, none⟩))) (by cases ho; simp [execOp, go_sem, p0]) ?_
              cases ho
              exact ⟨by simp [Act.put], by rw [hww]; simp⟩
            · have p8 : done 8 = true := by cases ho; exact hdep ⟨8, .data⟩ (by simp) rfl
              refine wpOp_val ho (by cases ho; rfl) (w' := WW) (v := (.pointer (some ⟨sb, 22, none⟩))) (by cases ho; simp [execOp, go_sem, p8]) ?_
              cases ho
              exact ⟨by simp [Act.put], by rw [hww]; simp⟩
            · have p9 : done 9 = true := by cases ho; exact hdep ⟨9, .data⟩ (by simp) rfl
              have p7 : done 7 = true := by cases ho; exact hdep ⟨7, .data⟩ (by simp) rfl
              have hw : WW = w4 := by rw [hww, hd, p7]; rfl
              rw [hw]
              refine wpOp_skip ho (by cases ho; rfl) (w' := w4.setCell ⟨sb, 22, none⟩ (.slice a4 (rl.length + 1) c4)) (by cases ho; simp [execOp, go_sem, p9, p7, s22', f22', hlt4]) ?_
              cases ho
              exact ⟨by simp [Act.put], by simp⟩
          · rintro done zac WW hall ⟨rfl, rfl⟩
            have e0 := hall 0 (by decide)
            have e1 := hall 1 (by decide)
            have e2 := hall 2 (by decide)
            have e3 := hall 3 (by decide)
            have e4 := hall 4 (by decide)
            have e5 := hall 5 (by decide)
            have e6 := hall 6 (by decide)
            have e7 := hall 7 (by decide)
            have e8 := hall 8 (by decide)
            have e9 := hall 9 (by decide)
            have e10 := hall 10 (by decide)
            simp only [e0, e1, e2, e3, e4, e5, e6, e7, e8, e9, e10, if_true]
            clear hall e0 e1 e2 e3 e4 e5 e6 e7 e8 e9 e10
            go_wp2_with fail
            go_roundg (n1 - (k + 1))
            case measure => omega
            case rel => exact ⟨k + 1, _, a4, c4, by omega, by omega, by go_num, HI4.out⟩
      · obtain rfl : k = n1 := by omega
        have hsw := HI.out.sw (w0 := w) (kb := kb) (F := F) (Y := Y) HLL.out HBC.out HSB.out HMAP.out HKEY.out HVAL.out HAV.out HST.out HQOK.out HAOK.out HNOW.out HCOLD.out
        have hal : (aliveL now l0).length ≤ 10000 := Nat.le_trans (List.length_filterMap_le _ _) HLEN.out
        have ht := take32 wr _ sb mb kb q a now (r.has ha rl.length hc) (aliveL now l0) Y F hsw hal HQV.out HH.out
        have hre : takeF Y q a now (aliveL now l0) = res := by rw [HRES.out, HL0.out]; rfl
        rw [hre] at ht
        obtain ⟨cc, hcc⟩ : ∃ cc, cc = res.isSome := ⟨_, rfl⟩
        have ht' : Calls Try.prog 32 #[.pointer (some ⟨sb, 0, none⟩)] wr (fun e w' => e = .returned (.bool cc) ∧ Hid (TakeR wr (fun b => (C b ∨ wc.heap.size ≤ b) ∧ b < wr.heap.size ∧ b ≠ sb) sb mb kb res e w')) := ht.mono fun e w' h => ⟨by rw [hcc]; exact h.1, h⟩
        have HT := Lib.hid ht'
        have HCC := Lib.hid hcc
        have HSW := Lib.hid hsw
        clear ht ht' hre hal hcc hsw
        have hne : B4 ≠ sb ∧ B4 ≠ mb ∧ B4 ≠ kb := by
          have h1 := HSB.out; have h2 := blk_lt HKP.out.b2; have h3 := blk_lt HMAP.out.blk; have h4 := HMAP.out.map.lt; have h5 := H4.out; omega
        have hB4 := (HI.out.ech.bel.block B4 (blk_lt HKP.out.b2)).trans HKP.out.b2
        go_wp2_with fail
        refine HT.out.mono ?_
        rintro e w9 ⟨rfl, HD⟩
        have hfr : Frm (fun b => b = sb ∨ b = mb ∨ b = kb) wr w9 := by
          have hd := HD.out.2
          cases hre : res with
          | none => rw [hre] at hd; exact hd.mono fun b _ e => .inl e
          | some Y' => rw [hre] at hd; exact hd.frm
        have hB4' := (hfr.block B4 (blk_lt hB4) (by rintro (h | h | h); exact hne.1 h; exact hne.2.1 h; exact hne.2.2 h)).trans hB4
        have i0 : w9.cell? ⟨B4, 0, none⟩ = some (.bool false) := blk_cell hB4' 0
        have if0 : w9.frozen? ⟨B4, 0, none⟩ = false := blk_frozen hB4' 0
        have ilt : B4 < w9.heap.size := blk_lt hB4'
        have HFR := Lib.hid hfr
        have HB4' := Lib.hid hB4'
        have HNE := Lib.hid hne
        clear hfr hB4' hne hB4
        go_wp2_with fail
        have hb9 : Below w.heap.size w wr := HBC.out.trans (HI.out.ech.bel.mono HBC.out.size)
        have hmw : wc.heap[mb]? = some (.cells #[.map (some kb), .int .u64 Y.tok] 61 (0, 0)) := (HBC.out.block mb (blk_lt HMAP.out.blk)).trans HMAP.out.blk
        have hkw : MapAt strV wc kb F := HMAP.out.map.below HBC.out (Nat.le_refl _)
        have hset := setCell_frm1 w9 B4 0 (.bool cc)
        have hkeep : ∀ b cs e, wc.heap[b]? = some (.cells cs e (0, 0)) → e ≠ 61 → b ≠ B4 → (w9.setCell ⟨B4, 0, none⟩ (.bool cc)).heap[b]? = some (.cells cs e (0, 0)) := by
          intro b cs e hbb he h4
          have h1 := (HI.out.ech.bel.block b (blk_lt hbb)).trans hbb
          have h2 := (HFR.out.block b (blk_lt h1) (by
            rintro (h | h | h)
            · have := blk_lt hbb; have := HSB.out; omega
            · rw [h, hmw] at hbb; cases hbb; exact he rfl
            · rw [h] at hbb; exact mapAt_block hkw hbb)).trans h1
          exact (hset.block b (blk_lt h2) h4).trans h2
        have hty : ∀ b cs e, wc.heap[b]? = some (.cells cs e (0, 0)) → e ≠ 4 → b ≠ B4 := by
          intro b cs e hbb he h
          rw [h, HKP.out.b2] at hbb
          cases hbb
          exact he rfl
        have hmb9 : ∃ x0 x1, w9.heap[mb]? = some (.cells #[x0, x1] 61 (0, 0)) := by
          have hd := HD.out.2
          cases hre : res with
          | none =>
            rw [hre] at hd
            exact ⟨_, _, (hd.block mb (by have := blk_lt hmw; have := HI.out.ech.bel.size; omega) (by have := blk_lt hmw; have := HSB.out; show ¬ mb = sb; omega)).trans ((HI.out.ech.bel.block mb (blk_lt hmw)).trans hmw)⟩
          | some Y' =>
            rw [hre] at hd
            obtain ⟨F', hr⟩ := hd.rep
            exact ⟨_, _, hr.blk⟩
        obtain ⟨x0, x1, hmb9⟩ := hmb9
        have hmbd := (hset.block mb (blk_lt hmb9) (fun e => HNE.out.2.1 (show mb = B4 from e).symm)).trans hmb9
        have hB0d := hkeep B0 _ _ HKP.out.b0 (by decide) (hty _ _ _ HKP.out.b0 (by decide))
        have hB3d := hkeep B3 _ _ HKP.out.b1 (by decide) (by have := H3.out; have := H4.out; omega)
        have hxd := hkeep xb _ _ HKP.out.b3 (by decide) (hty _ _ _ HKP.out.b3 (by decide))
        have hb4 := HKP.out.tail.tail.tail.tail.b0
        have htd := hkeep tb _ _ hb4 (by decide) (hty _ _ _ hb4 (by decide))
        have hB4d := blk_setAt HB4'.out (k := 0) (.bool cc)
        have hfw : Frm (fun b => b = mb ∨ b = kb) w (w9.setCell ⟨B4, 0, none⟩ (.bool cc)) := by
          have h1 : Frm (fun b => (b = sb ∨ b = mb ∨ b = kb) ∨ b = B4) w w9 := (frm_below hb9).trans (HFR.out.mono fun b _ h => .inl h)
          refine (h1.trans (hset.mono fun b _ h => .inr h)).mono fun b hb h => ?_
          rcases h with (h | h | h) | h
          · have := HSB.out; have := HBC.out.size; omega
          · exact .inl h
          · exact .inr h
          · have := H4.out; omega
        have hmc : MapAt strV (w9.setCell ⟨B4, 0, none⟩ (.bool cc)) kc F := by
          have h1 := (HMC.out.below HI.out.ech.bel (Nat.le_refl _)).frm HFR.out (by
            have h1 := HMC.out.lt; have h2 := HSB.out; have h3 := HKC.out; have h4 := blk_lt HMAP.out.blk; have h5 := HMAP.out.map.lt
            rintro (h | h | h) <;> omega)
          exact h1.frm hset fun e => mapAt_block HMC.out ((congrArg (fun b => wc.heap[b]?) (show kc = B4 from e)).trans HKP.out.b2)
        refine leaves_cons (f := 31) (args := #[.pointer (some ⟨B3, 0, none⟩), .pointer (some ⟨B4, 0, none⟩), .pointer (some ⟨xb, 0, none⟩), .pointer (some ⟨tb, 0, none⟩), .pointer (some ⟨B0, 0, none⟩)]) (by simp) (by simp [go_sem]) ?_
        refine (undo31 (w9.setCell ⟨B4, 0, none⟩ (.bool cc)) B3 B4 xb tb B0 mb kc undo cc Y.tok .returning x0 x1 (blk_cell hB3d 0) (blk_cell hB4d 0) (blk_cell hxd 0) (blk_cell htd 0) (blk_cell hB0d 0) (blk_cell hmbd 0) (blk_cell hmbd 1) (blk_frozen hmbd 0) (blk_frozen hmbd 1)).mono ?_
        rintro e u' w'' ⟨rfl, rfl, rfl⟩
        by_cases hu : (undo || !cc) = true
        · rw [if_pos hu]
          have hback := look_back HMAP.out HCOLD.out hfw hmbd hmc HKC.out
          have hY : (if undo then Y else res.getD Y) = Y := by
            cases undo with
            | true => rfl
            | false =>
              have hc : cc = false := by simpa using hu
              have := HCC.out
              rw [hc] at this
              cases res with
              | none => rfl
              | some _ => cases this
          have h4m : ((((w9.setCell ⟨B4, 0, none⟩ (.bool cc)).setCell ⟨mb, 0, none⟩ (.map (some kc))).setCell ⟨mb, 1, none⟩ (.int .u64 Y.tok))).cell? ⟨B4, 0, none⟩ = some (.bool cc) := keep1 HNE.out.2.1 _ (keep1 HNE.out.2.1 _ (blk_cell hB4d 0))
          refine ⟨.bool cc, ?_, by rw [HCC.out], hback.1, by rw [hY]; exact hback.2⟩
          simp [results, Try.results23, go_sem, h4m]
        · rw [if_neg hu]
          have hcu : undo = false ∧ cc = true := by cases undo <;> cases cc <;> simp_all
          obtain ⟨rfl, rfl⟩ := hcu
          refine ⟨.bool true, ?_, by rw [← HCC.out], hfw, ?_⟩
          · simp [results, Try.results23, go_sem, ilt, i0]
          · have hd := HD.out.2
            cases hre : res with
            | none => rw [hre] at HCC; exact absurd HCC.out (by simp)
            | some Y' =>
              rw [hre] at hd
              obtain ⟨F', hr⟩ := hd.rep
              refine look_keep HMAP.out hr hset ?_ HNE.out.2.1 HNE.out.2.2 ?_
              · have h1 := blk_lt HKP.out.b2; have h2 := HI.out.ech.bel.size; have h3 := H4.out
                rintro (⟨h | h, _⟩ | h)
                · have := HCOLD.out _ h; omega
                · omega
                · omega
              · have h1 := HBC.out.size; have h2 := HI.out.ech.bel.size
                rintro b (⟨h | h, _⟩ | h)
                · exact .inl h
                · exact .inr (by omega)
                · exact .inr (by omega)
end Go.Proofs.Ytngpffmgkponfaa
