/- ideal.step.others at a flush: what it leaves. Conditions: the step lies in memory. -/
import Derived.Test.YtngpffmgkponfaaSca
set_option linter.unusedVariables false
set_option linter.unusedSimpArgs false
namespace Go.Idl
open Go.Proofs.Ytngpffmgkponfaa
def flushF (Y : St) (q : Rq) (a : An) : Option St :=
  if q.ex ≠ 0 then (if a.st = 4 ∧ anBare a = true then some Y else none)
  else if a.st ≠ 0 ∨ anBare a = false then none else some ⟨fun _ => [], fun _ => [], Y.tok⟩
end Go.Idl
namespace Go.Proofs.Ytngpffmgkponfaa
open Go.RowKit Go.Ice Go.Idl
section
variable {w w1 w2 : World} {C : Nat → Prop} {sb mb kb : Nat} {q : Rq} {a : An} {now : Int} {r : Raw} {hs : List Tv} {Y : St} {F : List UInt8 → Option Value}
theorem SW.same (h : SW w C sb mb kb q a now r hs Y F) (hb : Below w.heap.size w w1) : Done w w1 C sb mb kb Y := by
  refine ⟨frm_below hb, F, (h.map.below hb).mono (fun b _ hb => .inl hb) ?_ ?_⟩
  · rintro (e | e)
    · exact h.map.cm e
    · have := blk_lt h.map.blk; omega
  · rintro (e | e)
    · exact h.map.ck e
    · have := h.map.map.lt; omega
theorem SW.clears (h : SW w C sb mb kb q a now r hs Y F) (hb : Below w.heap.size w w1) (ty : TypeId) : ∃ w2, (Builtin.clear_ #[59] ty #[.map (some kb)]).run Try.prog w1 = .ok (.tuple #[]) w2 ∧ Hid (MapAt strV w2 kb (fun _ => none)) ∧ Hid (Frm (fun x => x = kb) w1 w2) := by
  obtain ⟨w2, h1, h2, h3⟩ := (h.map.map.below hb (Nat.le_refl _)).clear Try.underlying59 ty
  exact ⟨w2, h1, h2, h3⟩
theorem SW.flush (h : SW w C sb mb kb q a now r hs Y F) (hb : Below w.heap.size w w1) (hf : Frm (fun x => x = kb) w1 w2) (hm : MapAt strV w2 kb (fun _ => none)) : Done w w2 C sb mb kb ⟨fun _ => [], fun _ => [], Y.tok⟩ := by
  refine ⟨(frm_below hb).trans (hf.mono fun b _ e => .inr (.inr e)), _, ⟨?_, hm, fun k => ⟨_, _, _, _, _, _, rfl, VersAt.nil _ _, VersAt.nil _ _⟩, h.map.tok, ?_, ?_, h.map.ne⟩⟩
  · exact (hf.block mb (Nat.lt_of_lt_of_le (blk_lt h.map.blk) hb.size) h.map.ne).trans ((hb.block mb (blk_lt h.map.blk)).trans h.map.blk)
  · rintro (e | e)
    · exact h.map.cm e
    · have := blk_lt h.map.blk; omega
  · rintro (e | e)
    · exact h.map.ck e
    · have := h.map.map.lt; omega
end
set_option maxHeartbeats 8000000 in
set_option maxRecDepth 20000 in
theorem others44 (w : World) (C : Nat → Prop) (sb mb kb : Nat) (q : Rq) (a : An) (now : Int) (r : Raw) (hs : List Tv) (Y : St) (F : List UInt8 → Option Value) (h : SW w C sb mb kb q a now r hs Y F) (hop : q.op = 8) :
    Calls Try.prog 44 #[.pointer (some ⟨sb, 0, none⟩)] w (TakeR w C sb mb kb (flushF Y q a)) := by
  obtain ⟨res, hres⟩ : ∃ res, res = flushF Y q a := ⟨_, rfl⟩
  rw [← hres]
  have HRES := Lib.hid hres
  clear hres
  have H := Lib.hid h
  obtain ⟨ab, W, HB, HW, HK, HZ⟩ := boxed1 w #[.int .i64 a.st, .slice r.aa a.val.length r.ac, .int .u32 a.fl, .int .u64 a.cas, .int .u64 a.num, .slice r.sa a.stats.length r.sc, .bool a.cl] 38
  have HX : Hid (Below w.heap.size w W) := HK.out.below
  have HI := Lib.hid (h.below HX.out)
  have s1 : w.cell? ⟨sb, 1, none⟩ = some (.int .i64 8) := by rw [← hop]; exact h.cell 1
  have q1 : W.cell? ⟨sb, 1, none⟩ = some (.int .i64 8) := by rw [← hop]; exact HI.out.cell 1
  have q9 : W.cell? ⟨sb, 9, none⟩ = some (.int .u32 q.ex) := HI.out.cell 9
  have s13 : w.cell? ⟨sb, 13, none⟩ = some (.int .i64 a.st) := H.out.cell 13
  have s14 : w.cell? ⟨sb, 14, none⟩ = some (.slice r.aa a.val.length r.ac) := H.out.cell 14
  have s15 : w.cell? ⟨sb, 15, none⟩ = some (.int .u32 a.fl) := H.out.cell 15
  have s16 : w.cell? ⟨sb, 16, none⟩ = some (.int .u64 a.cas) := H.out.cell 16
  have s17 : w.cell? ⟨sb, 17, none⟩ = some (.int .u64 a.num) := H.out.cell 17
  have s18 : w.cell? ⟨sb, 18, none⟩ = some (.slice r.sa a.stats.length r.sc) := H.out.cell 18
  have s19 : w.cell? ⟨sb, 19, none⟩ = some (.bool a.cl) := H.out.cell 19
  have a0 : W.cell? ⟨ab, 0, none⟩ = some (.int .i64 a.st) := blk_cell HK.out.b0 0
  have a1 : W.cell? ⟨ab, 1, none⟩ = some (.slice r.aa a.val.length r.ac) := blk_cell HK.out.b0 1
  have a2 : W.cell? ⟨ab, 2, none⟩ = some (.int .u32 a.fl) := blk_cell HK.out.b0 2
  have a3 : W.cell? ⟨ab, 3, none⟩ = some (.int .u64 a.cas) := blk_cell HK.out.b0 3
  have a4 : W.cell? ⟨ab, 4, none⟩ = some (.int .u64 a.num) := blk_cell HK.out.b0 4
  have a5 : W.cell? ⟨ab, 5, none⟩ = some (.slice r.sa a.stats.length r.sc) := blk_cell HK.out.b0 5
  have a6 : W.cell? ⟨ab, 6, none⟩ = some (.bool a.cl) := blk_cell HK.out.b0 6
  have hb := fun W => bare43 W a.st a.fl a.cas a.num r.aa r.sa a.val.length r.ac a.stats.length r.sc a.cl
  unfold ansV at hb
  obtain ⟨bb, hbb⟩ : ∃ bb, bb = anBare a := ⟨_, rfl⟩
  have hb' : bareB a.val.length a.fl a.cas a.num a.stats.length a.cl = bb := by rw [hbb]; rfl
  rw [hb'] at hb
  have HBB := Lib.hid hbb
  have HBR := Lib.hid hb
  clear hb hb' hbb h hop
  go_enter Try.func44, Try.ntmps44
  go_upto_region 2 with fail
  rw [HB.out, HW.out]
  clear s1 s13 s14 s15 s16 s17 s18 s19
  by_cases hex : q.ex = 0
  · have hx : (q.ex != 0) = false := by simp [hex]
    have HEX := Lib.hid hex
    clear hex
    by_cases hst : a.st = 0
    · have hy : (a.st != 0) = false := by simp [hst]
      have HST := Lib.hid hst
      clear hst
      go_wp2_with fail
      refine (HBR.out _).mono ?_
      rintro e w8 ⟨rfl, hb8⟩
      have hb8 : Below W.heap.size W w8 := hb8
      have HX8 : Hid (Below w.heap.size w w8) := HX.out.trans (hb8.mono HX.out.size)
      clear hb8 a0 a1 a2 a3 a4 a5 a6 HBR q1 q9
      cases bb with
      | false =>
        go_wp2_with fail
        go_ret
        exact takeR_none rfl (by rw [HRES.out]; unfold flushF; rw [if_neg (by simp [HEX.out]), if_pos (.inr HBB.out.symm)]) (frm_below HX8.out)
      | true =>
        have HI8 := Lib.hid (H.out.below HX8.out)
        obtain ⟨c0, _, m0⟩ := HI8.out.cells
        obtain ⟨w9, hcl, HM9, HF9⟩ := H.out.clears HX8.out 0
        go_wp2_with fail
        go_ret
        exact takeR_some rfl (by rw [HRES.out]; unfold flushF; rw [if_neg (by simp [HEX.out]), if_neg (by rw [← HBB.out]; simp [HST.out])]) (H.out.flush HX8.out HF9.out HM9.out)
    · have hy : (a.st != 0) = true := by simp [hst]
      have HST := Lib.hid hst
      clear hst
      go_wp2_with fail
      go_ret
      exact takeR_none rfl (by rw [HRES.out]; unfold flushF; rw [if_neg (by simp [HEX.out]), if_pos (.inl HST.out)]) (frm_below HX.out)
  · have hx : (q.ex != 0) = true := by simp [hex]
    have HEX := Lib.hid hex
    clear hex
    by_cases hst : a.st = 4
    · have hy : (a.st == 4) = true := by simp [hst]
      have HST := Lib.hid hst
      clear hst
      go_wp2_with fail
      refine (HBR.out _).mono ?_
      rintro e w8 ⟨rfl, hb8⟩
      have hb8 : Below W.heap.size W w8 := hb8
      have HX8 : Hid (Below w.heap.size w w8) := HX.out.trans (hb8.mono HX.out.size)
      clear hb8 a0 a1 a2 a3 a4 a5 a6 HBR q1 q9
      cases bb with
      | false =>
        go_wp2_with fail
        go_ret
        exact takeR_none rfl (by rw [HRES.out]; unfold flushF; rw [if_pos HEX.out, if_neg (by rw [← HBB.out]; simp)]) (frm_below HX8.out)
      | true =>
        go_wp2_with fail
        go_ret
        exact takeR_some rfl (by rw [HRES.out]; unfold flushF; rw [if_pos HEX.out, if_pos ⟨HST.out, HBB.out.symm⟩]) (H.out.same HX8.out)
    · have hy : (a.st == 4) = false := by simp [hst]
      have HST := Lib.hid hst
      clear hst
      go_wp2_with fail
      go_ret
      exact takeR_none rfl (by rw [HRES.out]; unfold flushF; rw [if_pos HEX.out, if_neg (fun h => HST.out h.1)]) (frm_below HX.out)
end Go.Proofs.Ytngpffmgkponfaa
