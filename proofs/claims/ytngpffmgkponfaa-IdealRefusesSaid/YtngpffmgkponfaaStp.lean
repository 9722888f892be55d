/- The map of versions and a step in memory. No condition. -/
import Derived.Test.YtngpffmgkponfaaSor
import Derived.Test.YtngpffmgkponfaaMapS
import Derived.Deep.RegionHeld3
set_option linter.unusedVariables false
set_option linter.unusedSimpArgs false
namespace Go.Idl
/-- A request. -/
structure Rq where
  op : Int
  quiet : Bool
  full : Bool
  bad : Int
  opq : Int
  key : List UInt8
  val : List UInt8
  fl : Int
  ex : Int
  cas : Int
  delta : Int
  ini : Int
/-- An answer. -/
structure An where
  st : Int
  val : List UInt8
  fl : Int
  cas : Int
  num : Int
  stats : List (List UInt8 × List UInt8)
  cl : Bool
/-- What all keys may have, the greatest token. -/
structure St where
  now : List UInt8 → List Tv
  safe : List UInt8 → List Tv
  tok : Int
end Go.Idl
namespace Go.Proofs.Ytngpffmgkponfaa
open Go.RowKit Go.Ice Go.Idl

def strV (l : List UInt8) : Value := .string ⟨l.toArray⟩
theorem strKey : KeyFn .string strV where
  is k := by simp [MapKept.IsKey, strV]
  inj a b h := by simpa [strV] using h
  bits k := by
    unfold Instr.sameBits strV
    exact (MapKept.bytes_beq _ _).2 rfl
def versZ : Value := .agg #[.slice none 0 0, .slice none 0 0]
theorem zero72 (w : World) : (zeroValue 72).run Try.prog w = .ok versZ w := by kernel_rfl

/-- The map's cells, its entries; what they lead to lies in C. -/
structure MapRep (w : World) (C : Nat → Prop) (mb kb : Nat) (Y : St) (F : List UInt8 → Option Value) : Prop where
  blk : w.heap[mb]? = some (.cells #[.map (some kb), .int .u64 Y.tok] 61 (0, 0))
  map : MapAt strV w kb F
  at_ : ∀ k, ∃ a1 n1 c1 a2 n2 c2, (F k).getD versZ = .agg #[.slice a1 n1 c1, .slice a2 n2 c2] ∧ VersAt w C (.slice a1 n1 c1) (Y.now k) ∧ VersAt w C (.slice a2 n2 c2) (Y.safe k)
  tok : 0 ≤ Y.tok ∧ Y.tok ≤ 18446744073709551615
  cm : ¬ C mb
  ck : ¬ C kb
  ne : mb ≠ kb
theorem MapRep.frm {S C : Nat → Prop} {w w' : World} {mb kb : Nat} {Y : St} {F : List UInt8 → Option Value} (h : MapRep w C mb kb Y F) (hf : Frm S w w') (hS : ∀ b, C b → ¬ S b) (hm : ¬ S mb) (hk : ¬ S kb) : MapRep w' C mb kb Y F :=
  ⟨(hf.block mb (blk_lt h.blk) hm).trans h.blk, h.map.frm hf hk, fun k => by
    obtain ⟨a1, n1, c1, a2, n2, c2, e, h1, h2⟩ := h.at_ k
    exact ⟨a1, n1, c1, a2, n2, c2, e, h1.frm hf hS, h2.frm hf hS⟩, h.tok, h.cm, h.ck, h.ne⟩
theorem MapRep.below {C : Nat → Prop} {w w' : World} {mb kb : Nat} {Y : St} {F : List UInt8 → Option Value} (h : MapRep w C mb kb Y F) (hb : Below w.heap.size w w') : MapRep w' C mb kb Y F :=
  h.frm (frm_below (T := fun _ => False) hb) (fun _ _ h => h) (fun h => h) (fun h => h)
theorem MapRep.look {C : Nat → Prop} {w w' : World} {mb kb : Nat} {Y : St} {F : List UInt8 → Option Value} (h : MapRep w C mb kb Y F) (k : List UInt8) (hw : w'.heap[kb]? = w.heap[kb]?) :
    (Instr.lookup 59 (.map (some kb)) (.string ⟨k.toArray⟩) false).run Try.prog w' = .ok ((F k).getD versZ) w' := by
  have := h.map.look strKey Try.underlying59 Try.underlying9 zero72 k false hw
  exact this

/-- A pair of strings' cells: stats. -/
def StatsAt (w : World) (C : Nat → Prop) (v : Value) (l : List (List UInt8 × List UInt8)) : Prop :=
  RowAt w 2 v l.length (fun i j => if j = 0 then strV (l.getD i ([], [])).1 else strV (l.getD i ([], [])).2) ∧ (l ≠ [] → ∀ b, v.ownBlock = some b → C b)
theorem StatsAt.frm {S C : Nat → Prop} {w w' : World} {v : Value} {l : List (List UInt8 × List UInt8)} (h : StatsAt w C v l) (hf : Frm S w w') (hS : ∀ b, C b → ¬ S b) : StatsAt w' C v l := by
  refine ⟨?_, h.2⟩
  rcases h.1 with h1 | ⟨h0, b, off, cap, hv, h1, h2, h3, h4⟩
  · exact .inl h1
  · refine .inr ⟨h0, b, off, cap, hv, h1, h2, by have := hf.size; omega, fun i hi j hj => ?_⟩
    rw [hf.cell (p := ⟨b, off + (i * 2 + j), none⟩) h3 (hS b (h.2 (by intro e; simp [e] at h0) b (by rw [hv]; rfl)))]
    exact h4 i hi j hj

/-- The slices of a step. -/
structure Raw where
  ka : Option Addr
  kc : Nat
  va : Option Addr
  vc : Nat
  aa : Option Addr
  ac : Nat
  sa : Option Addr
  sc : Nat
  ha : Option Addr
  hn : Nat
  hc : Nat
def stepC (mb : Nat) (q : Rq) (a : An) (now : Int) (r : Raw) : Array Value := #[.pointer (some ⟨mb, 0, none⟩),
  .int .i64 q.op, .bool q.quiet, .bool q.full, .int .i64 q.bad, .int .u32 q.opq, .slice r.ka q.key.length r.kc, .slice r.va q.val.length r.vc, .int .u32 q.fl, .int .u32 q.ex, .int .u64 q.cas, .int .u64 q.delta, .int .u64 q.ini,
  .int .i64 a.st, .slice r.aa a.val.length r.ac, .int .u32 a.fl, .int .u64 a.cas, .int .u64 a.num, .slice r.sa a.stats.length r.sc, .bool a.cl,
  .int .u32 now, .string ⟨q.key.toArray⟩, .slice r.ha r.hn r.hc]
def Rq.ok (q : Rq) : Prop := 0 ≤ q.fl ∧ q.fl ≤ 4294967295 ∧ 0 ≤ q.ex ∧ q.ex ≤ 4294967295 ∧ 0 ≤ q.cas ∧ q.cas ≤ 18446744073709551615 ∧ 0 ≤ q.delta ∧ q.delta ≤ 18446744073709551615 ∧ 0 ≤ q.ini ∧ q.ini ≤ 18446744073709551615 ∧ q.key.length ≤ 1000000 ∧ q.val.length ≤ 1000000
def An.ok (a : An) : Prop := 0 ≤ a.fl ∧ a.fl ≤ 4294967295 ∧ 0 ≤ a.cas ∧ a.cas ≤ 18446744073709551615 ∧ 0 ≤ a.num ∧ a.num ≤ 18446744073709551615 ∧ a.val.length ≤ 1000000

/-- A step in memory. -/
structure SW (w : World) (C : Nat → Prop) (sb mb kb : Nat) (q : Rq) (a : An) (now : Int) (r : Raw) (hs : List Tv) (Y : St) (F : List UInt8 → Option Value) : Prop where
  blk : w.heap[sb]? = some (.cells (stepC mb q a now r) 79 (0, 0))
  key : BytesIn w C (.slice r.ka q.key.length r.kc) q.key
  val : BytesIn w C (.slice r.va q.val.length r.vc) q.val
  aval : BytesIn w C (.slice r.aa a.val.length r.ac) a.val
  stats : StatsAt w C (.slice r.sa a.stats.length r.sc) a.stats
  hn : r.hn = hs.length
  has : VersAt w C (.slice r.ha r.hn r.hc) hs
  map : MapRep w C mb kb Y F
  qok : Rq.ok q
  aok : An.ok a
  now_ : 0 ≤ now ∧ now ≤ 4294967295
  cs : ¬ C sb
  nm : sb ≠ mb
  nk : sb ≠ kb
  cold : ∀ b, C b → b < w.heap.size
section
variable {w w' : World} {C S : Nat → Prop} {sb mb kb : Nat} {q : Rq} {a : An} {now : Int} {r : Raw} {hs : List Tv} {Y : St} {F : List UInt8 → Option Value}
theorem SW.frm (h : SW w C sb mb kb q a now r hs Y F) (hf : Frm S w w') (hS : ∀ b, C b → ¬ S b) (hs' : ¬ S sb) (hm : ¬ S mb) (hk : ¬ S kb) : SW w' C sb mb kb q a now r hs Y F :=
  ⟨(hf.block sb (blk_lt h.blk) hs').trans h.blk, h.key.frm hf hS, h.val.frm hf hS, h.aval.frm hf hS, h.stats.frm hf hS, h.hn, h.has.frm hf hS, h.map.frm hf hS hm hk, h.qok, h.aok, h.now_, h.cs, h.nm, h.nk, fun b hb => Nat.lt_of_lt_of_le (h.cold b hb) hf.size⟩
theorem SW.below (h : SW w C sb mb kb q a now r hs Y F) (hb : Below w.heap.size w w') : SW w' C sb mb kb q a now r hs Y F :=
  h.frm (frm_below (T := fun _ => False) hb) (fun _ _ h => h) (fun h => h) (fun h => h) (fun h => h)
theorem SW.cell (h : SW w C sb mb kb q a now r hs Y F) (j : Nat) : w.cell? ⟨sb, j, none⟩ = (stepC mb q a now r)[j]? := blk_cell h.blk j
theorem SW.mcell (h : SW w C sb mb kb q a now r hs Y F) : w.cell? ⟨mb, 0, none⟩ = some (.map (some kb)) ∧ w.cell? ⟨mb, 1, none⟩ = some (.int .u64 Y.tok) := ⟨blk_cell h.map.blk 0, blk_cell h.map.blk 1⟩
/-- What a method that changes the map leaves. -/
structure Done (w w' : World) (C : Nat → Prop) (sb mb kb : Nat) (Y : St) : Prop where
  frm : Frm (fun b => b = sb ∨ b = mb ∨ b = kb) w w'
  rep : ∃ F, MapRep w' (fun b => C b ∨ w.heap.size ≤ b) mb kb Y F

theorem SW.cells (h : SW w C sb mb kb q a now r hs Y F) : w.cell? ⟨sb, 0, none⟩ = some (.pointer (some ⟨mb, 0, none⟩)) ∧ w.cell? ⟨sb, 21, none⟩ = some (.string ⟨q.key.toArray⟩) ∧ w.cell? ⟨mb, 0, none⟩ = some (.map (some kb)) := ⟨h.cell 0, h.cell 21, h.mcell.1⟩
theorem SW.upd {w1 : World} (h : SW w C sb mb kb q a now r hs Y F) (hb : Below w.heap.size w w1) (v : Value) :
    ∃ w2, (Instr.mapUpdate 59 (.map (some kb)) (.string ⟨q.key.toArray⟩) v).run Try.prog w1 = .ok () w2 ∧ Hid (MapAt strV w2 kb (fun k' => if k' = q.key then some v else F k')) ∧ Hid (Frm (fun x => x = kb) w1 w2) ∧
      (w2.cell? ⟨sb, 0, none⟩ = some (.pointer (some ⟨mb, 0, none⟩)) ∧ w2.cell? ⟨sb, 21, none⟩ = some (.string ⟨q.key.toArray⟩) ∧ w2.cell? ⟨mb, 0, none⟩ = some (.map (some kb))) := by
  obtain ⟨w2, h1, h2, h3⟩ := (h.map.map.below hb (Nat.le_refl _)).update strKey Try.underlying59 Try.underlying9 q.key v
  have h' := (h.below hb).cells
  refine ⟨w2, h1, h2, h3, ?_⟩
  rw [h3.cell (p := ⟨sb, 0, none⟩) (Nat.lt_of_lt_of_le (blk_lt h.blk) hb.size) h.nk, h3.cell (p := ⟨sb, 21, none⟩) (Nat.lt_of_lt_of_le (blk_lt h.blk) hb.size) h.nk, h3.cell (p := ⟨mb, 0, none⟩) (Nat.lt_of_lt_of_le (blk_lt h.map.blk) hb.size) h.map.ne]
  exact h'
theorem SW.look (h : SW w C sb mb kb q a now r hs Y F) : ∃ a1 n1 c1 a2 n2 c2, (∀ W : World, W.heap[kb]? = w.heap[kb]? → (Instr.lookup 59 (.map (some kb)) (.string ⟨q.key.toArray⟩) false).run Try.prog W = .ok (.agg #[.slice a1 n1 c1, .slice a2 n2 c2]) W) ∧
    (∀ W, (Instr.field 72 (.agg #[.slice a1 n1 c1, .slice a2 n2 c2]) 0).run Try.prog W = .ok (.slice a1 n1 c1) W) ∧ (∀ W, (Instr.field 72 (.agg #[.slice a1 n1 c1, .slice a2 n2 c2]) 1).run Try.prog W = .ok (.slice a2 n2 c2) W) ∧ VersAt w C (.slice a1 n1 c1) (Y.now q.key) ∧ VersAt w C (.slice a2 n2 c2) (Y.safe q.key) := by
  obtain ⟨a1, n1, c1, a2, n2, c2, eF, hv1, hv2⟩ := h.map.at_ q.key
  exact ⟨a1, n1, c1, a2, n2, c2, fun W hW => by rw [h.map.look q.key hW, eF], fun _ => by kernel_rfl, fun _ => by kernel_rfl, hv1, hv2⟩
/-- A key's versions are put. -/
theorem SW.put {w1 w2 : World} {x1 x2 : Value} {l1 l2 : List Tv} {Y' : St} (h : SW w C sb mb kb q a now r hs Y F) (hb : Below w.heap.size w w1) (hf : Frm (fun x => x = kb) w1 w2) (hx : ∃ a1 n1 c1 a2 n2 c2, x1 = .slice a1 n1 c1 ∧ x2 = .slice a2 n2 c2)
    (hm : MapAt strV w2 kb (fun k' => if k' = q.key then some (.agg #[x1, x2]) else F k')) (h1 : VersAt w1 (fun b => C b ∨ w.heap.size ≤ b) x1 l1) (h2 : VersAt w1 (fun b => C b ∨ w.heap.size ≤ b) x2 l2)
    (hn : Y'.now = fun k => if k = q.key then l1 else Y.now k) (hs' : Y'.safe = fun k => if k = q.key then l2 else Y.safe k) (ht : Y'.tok = Y.tok) : Done w w2 C sb mb kb Y' := by
  have hk : ¬ (C kb ∨ w.heap.size ≤ kb) := by
    rintro (e | e)
    · exact h.map.ck e
    · have := h.map.map.lt; omega
  have hC : ∀ b, (C b ∨ w.heap.size ≤ b) → ¬ b = kb := fun b hb e => hk (e ▸ hb)
  refine ⟨(frm_below hb).trans (hf.mono fun b _ e => .inr (.inr e)), _, ⟨?_, hm, fun k => ?_, by rw [ht]; exact h.map.tok, ?_, hk, h.map.ne⟩⟩
  · rw [ht]; exact (hf.block mb (Nat.lt_of_lt_of_le (blk_lt h.map.blk) hb.size) h.map.ne).trans ((hb.block mb (blk_lt h.map.blk)).trans h.map.blk)
  · rw [hn, hs']
    by_cases e : k = q.key
    · obtain ⟨a1, n1, c1, a2, n2, c2, rfl, rfl⟩ := hx
      simp only [e, if_true]
      exact ⟨a1, n1, c1, a2, n2, c2, rfl, h1.frm hf hC, h2.frm hf hC⟩
    · simp only [e, if_false]
      obtain ⟨a1, n1, c1, a2, n2, c2, eF, g1, g2⟩ := h.map.at_ k
      exact ⟨a1, n1, c1, a2, n2, c2, eF, ((g1.below hb).mono fun b _ hb => .inl hb).frm hf hC, ((g2.below hb).mono fun b _ hb => .inl hb).frm hf hC⟩
  · rintro (e | e)
    · exact h.map.cm e
    · have := blk_lt h.map.blk; omega
end

set_option maxHeartbeats 4000000 in
set_option maxRecDepth 20000 in
theorem seen60 (w : World) (C : Nat → Prop) (sb mb kb : Nat) (q : Rq) (a : An) (now : Int) (r : Raw) (hs : List Tv) (Y : St) (F : List UInt8 → Option Value) (h : SW w C sb mb kb q a now r hs Y F)
    (D : Nat → Prop) (v : Value) (l : List Tv) (hl : VersAt w D v l) (hm : l.length ≤ 100000) (h0 : l ≠ []) :
    Calls Try.prog 60 #[.pointer (some ⟨sb, 0, none⟩), v] w fun e w' => e = .returned (.bool true) ∧ Done w w' C sb mb kb ⟨fun k => if k = q.key then sortT l else Y.now k, Y.safe, Y.tok⟩ := by
  obtain ⟨va, vc, rfl, _⟩ := hl.form
  have hsort : ∀ W, Below w.heap.size w W → Calls Try.prog 29 #[.slice va l.length vc] W fun e w' => ∃ v', e = .returned v' ∧ VersAt w' (fun b => W.heap.size ≤ b) v' (sortT l) ∧ Below W.heap.size W w' := fun W hb => sorted29 W D _ l (hl.below hb) hm
  have HS := Lib.hid hsort
  have H := Lib.hid h
  have q0 := h.cells
  obtain ⟨a1, n1, c1, a2, n2, c2, hlk, hf0, hf1, hv1, hv2⟩ := h.look
  have hll := List.length_pos_iff.2 h0
  have hle : ((l.length : Int) == 0) = false := by simp; omega
  have HLK := Lib.hid hlk
  have q3 := hlk w.drew rfl
  have HV2 := Lib.hid hv2
  clear hsort h hl hlk hv1 hv2
  go_enter Try.func60, Try.ntmps60
  go_upto_region 3 with fail
  go_region_held3 (fun w' => w'.cell? ⟨sb, 0, none⟩ = some (.pointer (some ⟨mb, 0, none⟩)) ∧ w'.cell? ⟨sb, 21, none⟩ = some (.string ⟨q.key.toArray⟩) ∧ w'.cell? ⟨mb, 0, none⟩ = some (.map (some kb))) (first | exact q0 | exact p0 | exact r0) (first | (go_at_call 29; refine (HS.out _ (Below.refl _ _).drew).mono ?_; rintro e w1 ⟨v', rfl, hv', hb1⟩; obtain ⟨ra, rc, rfl, _⟩ := hv'.form; have hb2 := (drewN_below w 1).trans hb1; have p0 := (H.out.below hb2).cells; have p3 := HLK.out w1 (hb2.block kb H.out.map.map.lt); obtain ⟨w2, hup, HM2, HF2, r0⟩ := H.out.upd hb2 (.agg #[.slice ra (sortT l).length rc, .slice a2 n2 c2]); have HB2 := Lib.hid hb2; have HV1 := Lib.hid hv'; clear hb2 hb1 hv'))
  all_goals
    go_wp2_with fail
    go_ret
    exact ⟨rfl, H.out.put HB2.out HF2.out ⟨_, _, _, _, _, _, rfl, rfl⟩ HM2.out (HV1.out.mono fun b _ hb => .inr hb) ((HV2.out.below HB2.out).mono fun b _ hb => .inl hb) rfl (by funext k; split <;> simp_all) rfl⟩
end Go.Proofs.Ytngpffmgkponfaa
