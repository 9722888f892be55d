/- What a sector says: stamp.Read. Condition: a sector has 64 bytes. Struct and slice literals of parts that are lists of cells. No condition. Sectors of bytes: Sectors, Split. Conditions: the bytes lie in memory; the generation is not 0; positions fit. Bytes of sectors: Join. Condition: a sector has 64 bytes; at most 100000 sectors. -/
import Derived.Test.YtjmocjcjiiopnaaGreatLogScans05
import Derived.Test.YtjmocjcjiiopnaaGreatLogScans04
import Derived.Great.BuildSlice

section
set_option linter.unusedVariables false
set_option linter.unusedSimpArgs false
namespace Go.Oct
/-- What a sector says of itself: generation, position, payload. -/
def readB (b : List UInt8) : Option (Nat × Nat × List UInt8) :=
  if 48 < numB ((b.drop 12).take 2) then none
  else if numB (b.take 8) = 0 then none
  else if packB (numB (b.take 8)) (numB ((b.drop 8).take 4)) ((b.drop 16).take (numB ((b.drop 12).take 2))) = b then some (numB (b.take 8), numB ((b.drop 8).take 4), (b.drop 16).take (numB ((b.drop 12).take 2))) else none
end Go.Oct
namespace Go.Proofs.YtjmocjcjiiopnaaGreat
open Go.RowKit Go.Ice Go.Oct
def stV (g p f : Nat) : Value := .agg #[.int .u64 g, .int .u32 p, .int .i64 f]
theorem byt_of_blk {w0 : World} {B : Nat → Prop} {M S : List Asn} {w : World} {b : Nat} {l : List UInt8} {ty : TypeId} (h : St w0 B M S w) (i : Nat) (hi : M[i]? = some (blkA b (l.map u8v) ty)) (hm : l.length ≤ maxLen) : BytesAt w (.slice (some ⟨b, 0, none⟩) l.length l.length) l := by
  have := isSl_mk (w := w) (cs := l.map u8v) (b := b) (off := 0) (cap := l.length) (by simp) hm (h.lt i hi) (fun j hj => by rw [Nat.zero_add]; exact (h.cells i hi).1 j)
  rwa [List.length_map] at this
theorem bigStamp : Big Tryz.prog 113 3 := ⟨⟨_, Tryz.underlying113, rfl⟩, by kernel_rfl⟩
theorem built_st0 : Tryz.prog.built 113 [] = some #[.int .u64 0, .int .u32 0, .int .i64 0] := by kernel_rfl
theorem neq_block (x y : Operand) (a b : List UInt8) (ha : a.length = 64) (hb : b.length = 64) (w : World) : (do eqGuard .neq 38 x y (blkV a) (blkV b); binOp .neq 38 (blkV a) (blkV b) : Sem Value).run Tryz.prog w = .ok (.bool (!decide (a = b))) w := by
  obtain ⟨i0, hi, _⟩ := info_parts (show (Tryz.prog.info? 5).map (fun i => (i.zero, i.size, i.bytes)) = some (some (.int .u8 0), 1, 1) by kernel_rfl)
  exact run_neq_bytes (e := 5) (n := 64) (by kernel_rfl) Tryz.underlying5 Tryz.underlying38 hi (by kernel_rfl) (by kernel_rfl) x y a b ha hb w
set_option maxHeartbeats 8000000 in
set_option maxRecDepth 20000 in
theorem stamp_read (b : List UInt8) (hb : b.length = 64) : Meets Tryz.prog 43 #[blkV b] [] [] fun v L => match readB b with
    | none => v = .tuple #[stV 0 0 0, .slice none 0 0, .int .i64 150] ∧ L = []
    | some (g, p, l) => ∃ a c, v = .tuple #[stV g p l.length, .slice a l.length c, .int .i64 0] ∧ L = [ownA 5 1 (.slice a l.length c) l.length (l.map u8v)] := by
  intro w B H
  obtain ⟨g, hg⟩ : ∃ g, g = numB (b.take 8) := ⟨_, rfl⟩
  obtain ⟨p, hp⟩ : ∃ p, p = numB ((b.drop 8).take 4) := ⟨_, rfl⟩
  obtain ⟨f, hf⟩ : ∃ f, f = numB ((b.drop 12).take 2) := ⟨_, rfl⟩
  have hg1 : g < 18446744073709551616 := by have := numB_take b 8 (by omega); rw [hg]; simpa using this
  have hp1 : p < 4294967296 := by have := numB_take (b.drop 8) 4 (by rw [List.length_drop]; omega); rw [hp]; simpa using this
  have hf1 : f < 65536 := by have := numB_take (b.drop 12) 2 (by rw [List.length_drop]; omega); rw [hf]; simpa using this
  have hrd : readB b = if 48 < f then none else if g = 0 then none else if packB g p ((b.drop 16).take f) = b then some (g, p, (b.drop 16).take f) else none := by unfold readB; rw [← hg, ← hp, ← hf]
  obtain ⟨pl, hpl⟩ : ∃ pl, pl = (b.drop 16).take f := ⟨_, rfl⟩
  rw [← hpl] at hrd
  have hc : (48 < f ∧ readB b = none) ∨ (f ≤ 48 ∧ g = 0 ∧ readB b = none) ∨ (f ≤ 48 ∧ g ≠ 0 ∧ packB g p pl ≠ b ∧ readB b = none) ∨ (f ≤ 48 ∧ g ≠ 0 ∧ packB g p pl = b ∧ readB b = some (g, p, pl)) := by
    rw [hrd]
    by_cases h1 : 48 < f
    · exact .inl ⟨h1, by rw [if_pos h1]⟩
    · rw [if_neg h1]
      by_cases h2 : g = 0
      · exact .inr (.inl ⟨by omega, h2, by rw [if_pos h2]⟩)
      · rw [if_neg h2]
        by_cases h3 : packB g p pl = b
        · exact .inr (.inr (.inr ⟨by omega, h2, h3, by rw [if_pos h3]⟩))
        · exact .inr (.inr (.inl ⟨by omega, h2, h3, by rw [if_neg h3]⟩))
  have HG := Lib.hid hg
  have HP := Lib.hid hp
  have HF := Lib.hid hf
  have HPL := Lib.hid hpl
  clear hg hp hf hpl hrd
  have H1 := (H.alloc (b.map u8v) 38).alloc [.int .u64 0, .int .u32 0, .int .i64 0] 113
  simp only [World.size_alloc] at H1
  obtain ⟨w1, hw1⟩ : ∃ w1, w1 = (w.alloc (.cells (b.map u8v).toArray 38)).alloc (.cells #[.int .u64 0, .int .u32 0, .int .i64 0] 113) := ⟨_, rfl⟩
  rw [← hw1] at H1
  have hbb := byt_of_blk H1 1 rfl (by rw [hb]; decide)
  rw [hb] at hbb
  have HRD := Lib.hid (read w1 _ _ hbb (by omega) H1)
  have HW1 := Lib.hid hw1
  have hf48 : (f : Int) ≤ 65535 := by omega
  clear hw1 hbb
  unfold blkV
  rcases hc with ⟨h1, hr⟩ | ⟨h1, h2, hr⟩ | ⟨h1, h2, h3, hr⟩ | ⟨h1, h2, h3, hr⟩ <;> rw [hr] <;> clear hr
  all_goals
    have h1' := Lib.hid h1
    try have h2' := Lib.hid h2
    try clear h2
    try have h3' := Lib.hid h3
    try clear h3
    go_enter Tryz.func43, Tryz.ntmps43
    go_wp2_with fail
    rw [← HW1.out]
    refine HRD.out.mono ?_
    rintro e w2 ⟨rb, rfl, H2⟩
    clear HRD
    go_wp2_with fail
    refine ((u64_ok rb b 0 (by omega)).call (M := [_, _]) H2 (by simp)).mono ?_
    rintro e w3 ⟨v, L, rfl, ⟨rfl, rfl⟩, H3⟩
    rw [List.drop_zero, ← HG.out]
    go_wp2_with fail
    refine ((u32_ok rb b 8 (by omega)).call (M := [_, _]) H3 (by simp)).mono ?_
    rintro e w4 ⟨v, L, rfl, ⟨rfl, rfl⟩, H4⟩
    rw [← HP.out]
    go_wp2_with fail
    refine ((u16_ok rb b 12 (by omega)).call (M := [_, _]) H4 (by simp)).mono ?_
    rintro e w5 ⟨v, L, rfl, ⟨rfl, rfl⟩, H5⟩
    rw [← HF.out]
    obtain ⟨hcs, hfs⟩ := St.cells H5 1
    have hls := St.lt H5 1
    have hlb := St.lt H5 2
    have hbr := St.range H5 2
  · go_wp2_with fail
    have HE := ((((H5.set1 0 (.int .u64 0)).set1 1 (.int .u32 0)).set1 2 (.int .i64 0)).alloc [.int .u64 g, .int .u32 p, .int .i64 f] 113)
    exact bodyPost_ret (results_ctt rfl rfl bigStamp (St.range HE 2)) rfl (Back.mk ⟨rfl, rfl⟩ (St.pick HE []))
  all_goals
    have hf2 : (f : Int) ≤ 48 := by omega
    have H6 := H5.alloc [.int .u64 g, .int .u32 p, .int .i64 f] 113
    go_upto_region 5 with fail
    refine wp_world (fun W => St w B _ _ W) H6 ?_
    intro w6 H7
    clear hcs hfs hls hlb hbr H6
    obtain ⟨hcs, hfs⟩ := St.cells H7 0
    have hls := St.lt H7 0
    have hbel0 : Below w6.heap.size w6 (w6.alloc (.cells #[] 5)) := (Below.refl _ _).alloc (Nat.le_refl _) _
    have H8 := H7.newOwn hbel0 (own_new w6 5 w6.heap.size (Nat.le_refl _))
    have hpll : pl.length = f := by rw [HPL.out, List.length_take, List.length_drop]; omega
    have hsb : BytesAt (w6.alloc (.cells #[] 5)) (.slice (some ⟨w.heap.size, 16, none⟩) f 48) pl := by
      have h0 := byt_of_blk H8 4 rfl (by rw [hb]; decide)
      rw [hb] at h0
      have h1 := sub_bytes (i := 16) (n := f) (by rw [hb]; exact h0) (by omega)
      rw [← HPL.out] at h1
      unfold subV at h1
      simp only [Option.map_some, add_off, Nat.zero_add, Nat.reduceSub] at h1
      exact h1
    obtain ⟨a9, c9, w9, hr9, H9⟩ := St.appB (P := Tryz.prog) (ty := 60) (l := []) elemByte H8 0 rfl hsb (by omega) (by omega)
    rw [hpll, Nat.zero_add] at hr9 H9
    have HR9 := Lib.hid hr9
    clear hr9 hsb
    have q1 : (0 : Int) ≤ 16 + (f : Int) := by omega
    have q2 : (16 : Int) ≤ 16 + (f : Int) := by omega
    have q3 : 16 + (f : Int) ≤ 64 := by omega
    have q4 : (16 + (f : Int)).toNat = 16 + f := by omega
    have q5 : 16 + f - 16 = f := by omega
    go_upto_region 6 with ((at_builtin; refine wpList_append_eq rfl _ _ _ rfl rfl rfl HR9.out ?_))
    clear hcs hfs hls H8 H7 hbel0
    obtain ⟨hcs, hfs⟩ := St.cells H9 1
    have hb9 : BytesAt w9 (.slice a9 f c9) pl := by have := own_byt (St.own H9 0); exact this
    have HB9 := Lib.hid hb9
    clear hb9
    go_wp2_with fail
  · refine (pack_zero w9 g p _ pl HB9.out h2'.out).mono ?_
    rintro e w10 ⟨rfl, hbel⟩
    have H10 := H9.below hbel
    obtain ⟨fv, hfv⟩ : ∃ fv, fv = (List.replicate 64 (0 : UInt8)).map u8v := ⟨_, rfl⟩
    have hfl : fv.length = 64 := by rw [hfv]; rfl
    have hf1 : ∀ u ∈ fv, u.oneCell' = true := by rw [hfv]; exact u8v_one _
    have eb : blkV (List.replicate 64 0) = .agg fv.toArray := by rw [hfv]; rfl
    rw [eb]
    clear hfv eb hcs hfs
    go_wp2_with ((refine wpl_store rfl _ _ _ rfl w10.heap.size 0 (by rfl) fv (by rfl) 64 hfl (there_whole _ _ _ _ (by decide)) bigBlock hf1 ?_); (refine wpl_world _ (H10.whole _ _ fv (by rw [hfl]; rfl)) ?_); intro w11 H11; (obtain ⟨hcs, hfs⟩ := St.cells H11 4))
    have HE := ((St.set_ H11 4 0 (.int .u64 0) rfl).set_ 4 1 (.int .u32 0) rfl).set_ 4 2 (.int .i64 0) rfl
    exact bodyPost_ret (results_ctt rfl rfl bigStamp (St.range HE 4)) rfl (Back.mk ⟨rfl, rfl⟩ (St.pick HE []))
  · have hpk64 := packB_len g p pl (by omega)
    have hne := fun w => neq_block (.tmp 42) (.tmp 43) (packB g p pl) b hpk64 hb w
    rw [show decide (packB g p pl = b) = false from decide_eq_false h3'.out, Bool.not_false] at hne
    unfold blkV at hne
    refine (pack_ok w9 g p _ pl HB9.out ⟨by have := h2'.out; omega, by omega⟩ (by omega) (by omega)).mono ?_
    rintro e w10 ⟨rfl, hbel⟩
    have H10 := H9.below hbel
    have HPK := h3'
    generalize packB g p pl = pk at *
    have hfl : (pk.map u8v).length = 64 := by rw [List.length_map]; exact hpk64
    have hbl : (b.map u8v).length = 64 := by rw [List.length_map]; exact hb
    have hl6 := St.lt H10 1
    unfold blkV
    clear hcs hfs
    go_wp2_with (first | ((refine wpl_store rfl _ _ _ rfl w10.heap.size 0 (by rfl) (pk.map u8v) (by rfl) 64 hfl (there_whole _ _ _ _ (by decide)) bigBlock (u8v_one _) ?_); (refine wpl_world _ (H10.whole _ _ (pk.map u8v) (by rw [hfl]; rfl)) ?_); intro w11 H11; (obtain ⟨hcs, hfs⟩ := St.cells H11 4); (obtain ⟨hc6, hf6⟩ := St.cells H11 2); (have hr0 := St.range H11 0); (have hr5 := St.range H11 5); (have hn1 := hne w11)) | (refine wplg_load (by rfl) _ _ rfl w10.heap.size 0 (by rfl) hfl hr0 bigBlock ?_) | (refine wplg_load (by rfl) _ _ rfl w.heap.size 0 (by rfl) hbl hr5 bigBlock ?_) | (refine wplg_binop (by rfl) rfl (vx := .agg (pk.map u8v).toArray) (vy := .agg (b.map u8v).toArray) (by rfl) (by rfl) hn1 ?_))
    have HE := ((St.set_ H11 4 0 (.int .u64 0) rfl).set_ 4 1 (.int .u32 0) rfl).set_ 4 2 (.int .i64 0) rfl
    exact bodyPost_ret (results_ctt rfl rfl bigStamp (St.range HE 4)) rfl (Back.mk ⟨rfl, rfl⟩ (St.pick HE []))
  · have hpk64 := packB_len g p pl (by omega)
    have hne := fun w => neq_block (.tmp 42) (.tmp 43) (packB g p pl) b hpk64 hb w
    rw [show decide (packB g p pl = b) = true from decide_eq_true h3'.out, Bool.not_true] at hne
    unfold blkV at hne
    refine (pack_ok w9 g p _ pl HB9.out ⟨by have := h2'.out; omega, by omega⟩ (by omega) (by omega)).mono ?_
    rintro e w10 ⟨rfl, hbel⟩
    have H10 := H9.below hbel
    have HPK := h3'
    generalize packB g p pl = pk at *
    have hfl : (pk.map u8v).length = 64 := by rw [List.length_map]; exact hpk64
    have hbl : (b.map u8v).length = 64 := by rw [List.length_map]; exact hb
    have hl6 := St.lt H10 1
    unfold blkV
    clear hcs hfs
    go_wp2_with (first | ((refine wpl_store rfl _ _ _ rfl w10.heap.size 0 (by rfl) (pk.map u8v) (by rfl) 64 hfl (there_whole _ _ _ _ (by decide)) bigBlock (u8v_one _) ?_); (refine wpl_world _ (H10.whole _ _ (pk.map u8v) (by rw [hfl]; rfl)) ?_); intro w11 H11; (obtain ⟨hcs, hfs⟩ := St.cells H11 4); (obtain ⟨hc6, hf6⟩ := St.cells H11 2); (have hr0 := St.range H11 0); (have hr5 := St.range H11 5); (have hn1 := hne w11)) | (refine wplg_load (by rfl) _ _ rfl w10.heap.size 0 (by rfl) hfl hr0 bigBlock ?_) | (refine wplg_load (by rfl) _ _ rfl w.heap.size 0 (by rfl) hbl hr5 bigBlock ?_) | (refine wplg_binop (by rfl) rfl (vx := .agg (pk.map u8v).toArray) (vy := .agg (b.map u8v).toArray) (by rfl) (by rfl) hn1 ?_))
    have HE := ((St.set_ H11 4 0 (.int .u64 g) rfl).set_ 4 1 (.int .u32 p) rfl).set_ 4 2 (.int .i64 f) rfl
    refine bodyPost_ret (results_ctt rfl rfl bigStamp (St.range HE 4)) rfl (Back.mk (L' := [ownA 5 1 (.slice a9 f c9) f (pl.map u8v)]) ⟨a9, c9, ?_, ?_⟩ (St.pick HE [1]))
    · rw [hpll]; rfl
    · rw [hpll]
end Go.Proofs.YtjmocjcjiiopnaaGreat
end

section
set_option linter.unusedVariables false
set_option linter.unusedSimpArgs false
namespace Go.Ice
open Go.RowKit
theorem fold_splice (off : Nat) (l cs : List Value) (h : off + l.length ≤ cs.length) : l.toArray.zipIdx.foldl (fun cs (x : Value × Nat) => cs.setIfInBounds (off + x.2) x.1) cs.toArray = (cs.take off ++ l ++ cs.drop (off + l.length)).toArray := by
  have e : l.toArray.zipIdx.foldl (fun cs (x : Value × Nat) => cs.setIfInBounds (off + x.2) x.1) cs.toArray = (l.zipIdx 0).foldl (fun cs (x : Value × Nat) => cs.setIfInBounds (off + x.2) x.1) cs.toArray := by simp
  rw [e]
  obtain ⟨h1, h2⟩ := Great.foldl_set off l 0 cs.toArray
  apply Array.ext_getElem?
  intro k
  rw [h2 k]
  simp only [List.size_toArray, List.getElem?_toArray, Nat.add_zero]
  by_cases hk : off ≤ k ∧ k < off + l.length ∧ k < cs.length
  · rw [if_pos hk, List.append_assoc, List.getElem?_append_right (by rw [List.length_take]; omega), List.length_take, Nat.min_eq_left (by omega), List.getElem?_append_left (by omega)]
  · rw [if_neg hk]
    by_cases h3 : k < off
    · rw [List.append_assoc, List.getElem?_append_left (by rw [List.length_take]; omega), List.getElem?_take_of_lt h3]
    · rw [List.getElem?_append_right (by rw [List.length_append, List.length_take]; omega), List.length_append, List.length_take, Nat.min_eq_left (by omega), List.getElem?_drop]
      congr 1; omega
theorem fill_step {place : Nat → Option (Nat × Nat)} {i off : Nat} {v : Value} {l cs : List Value} {rest : List (Nat × Value)} (hp : place i = some (off, cs.length)) (hv : v.cells = cs.toArray) (h : off + cs.length ≤ l.length) :
    Instr.fill place l.toArray ((i, v) :: rest) = Instr.fill place (l.take off ++ cs ++ l.drop (off + cs.length)).toArray rest := by
  have := fold_splice off cs l h
  simp only [Instr.fill, hp, hv, List.size_toArray]
  rw [if_neg (by simp; omega), this]
/-- A struct of one cell and an array behind it. -/
theorem fill_pair {place : Nat → Option (Nat × Nat)} {x : Value} {l cs : List Value} (h0 : place 0 = some (0, 1)) (h1 : place 1 = some (1, cs.length)) (hx : x.cells = #[x]) (hl : l.length = cs.length + 1) :
    Instr.fill place l.toArray [(0, x), (1, .agg cs.toArray)] = some (x :: cs).toArray := by
  rw [fill_step (cs := [x]) h0 hx (by simp; omega), fill_step (cs := cs) h1 rfl (by simp; omega)]
  cases l with
  | nil => simp at hl
  | cons y l =>
    have e : l.drop cs.length = [] := List.drop_of_length_le (by simp at hl; omega)
    simp [Instr.fill, Nat.add_comm 1, e]
/-- A slice literal. -/
theorem Elem.lit {P : Program} {t e size bytes : Nat} {z : Value} (E : Elem P t e size bytes z) (vs : List Value) (h1 : ∀ v ∈ vs, v.cells.size = size) (h0 : 0 < vs.length) (hs : vs.length * size ≤ 16777216) (w : World) (parts : Array (Nat × Value)) (hp : parts.toList = (vs.zipIdx 0).map fun x => (x.2, x.1)) :
    (Instr.buildSlice t vs.length parts).run P w = .ok (.slice (some ⟨w.heap.size, 0, none⟩) vs.length vs.length) (w.alloc (.cells (vs.flatMap fun v => v.cells.toList).toArray e)) := by
  obtain ⟨ht, ⟨i, hi, hz0, hz1, hz2⟩, hzs, hsz⟩ := E
  subst hz1
  refine run_buildSlice w t e vs.length parts _ i z ht hi hz0 (by omega) (Nat.ne_of_gt (Nat.mul_pos h0 hsz)) ?_
  rw [hp]
  exact Great.fill_whole hsz vs _ h1 (by simp)
theorem Elem.lit1 {P : Program} {t e size bytes : Nat} {z : Value} (E : Elem P t e size bytes z) (cs : List Value) (h1 : cs.length = size) (hs : size ≤ 16777216) (w : World) :
    (Instr.buildSlice t 1 #[(0, .agg cs.toArray)]).run P w = .ok (.slice (some ⟨w.heap.size, 0, none⟩) 1 1) (w.alloc (.cells cs.toArray e)) := by
  have := E.lit [.agg cs.toArray] (fun v hv => by rw [List.mem_singleton.1 hv]; exact h1) (by simp) (by simpa using hs) w #[(0, .agg cs.toArray)] rfl
  simpa [Value.cells] using this
/-- A slice literal, in a walk (the operation spelled out). -/
theorem wpl_lit {P : Program} {ops : Array Oper} {rest : List Oper} {dst : Option Nat} {ty : TypeId} {pos : String} {after : Array Edge} {a : Act} {w w' : World} {Q : Exit → Act → World → Prop} {t : TypeId} {n : Nat} {parts : Array (Nat × Operand)} {vals : Array (Nat × Value)} {v : Value} (hp : (parts.map fun x => (x.1, a.eval x.2)) = vals) (hrun : (Instr.buildSlice t n vals).run P w = .ok v w') (hk : wpList P ops Q rest (a.put dst v) w') : wpList P ops Q ({ dst := dst, op := .buildSlice t n parts, type := ty, pos := pos, after := after, guard := none } :: rest) a w :=
  wpList_plain rfl fun _ hK => by
    unfold Oper.wp
    simp [execOp, hp, hrun, Result.andThen]
    exact hK _ _ hk
section
variable {w0 : World} {B : Nat → Prop} {M S : List Asn} {w : World}
theorem isSlK_of_blk {b : Nat} {cs : List Value} {ty : TypeId} {size : Nat} (h : St w0 B M S w) (i : Nat) (hi : M[i]? = some (blkA b cs ty)) (n : Nat) (h0 : 0 < n) (hl : cs.length = n * size) (hm : n ≤ maxLen) : IsSlK w size n (.slice (some ⟨b, 0, none⟩) n n) cs :=
  ⟨hl, .inr ⟨h0, b, 0, n, rfl, Nat.le_refl _, hm, h.lt i hi, fun j hj => by rw [Nat.zero_add]; exact (h.cells i hi).1 j⟩⟩
end
end Go.Ice
end

section
set_option linter.unusedVariables false
set_option linter.unusedSimpArgs false
namespace Go.Oct
/-- How many sectors so many bytes fill. -/
def secs (n : Nat) : Nat := if n = 0 then 1 else (n - 1) / 48 + 1
/-- The sectors of bytes. -/
def splitB (g p : Nat) (b : List UInt8) : List (List UInt8) := (List.range (secs b.length)).map fun i => packB g (p + i) ((b.drop (48 * i)).take 48)
end Go.Oct
namespace Go.Proofs.YtjmocjcjiiopnaaGreat
open Go.RowKit Go.Ice Go.Oct
set_option maxHeartbeats 4000000 in
theorem sectors (w : World) (n : Nat) (hn : n ≤ 1000000000) : Calls Tryz.prog 51 #[.int .i64 n] w fun e w' => e = .returned (.int .i64 (secs n)) ∧ w' = w := by
  obtain ⟨s, hs⟩ : ∃ s, s = secs n := ⟨_, rfl⟩
  rw [← hs]
  unfold secs at hs
  by_cases h0 : n = 0
  · rw [if_pos h0] at hs
    subst h0 hs
    go_enter Tryz.func51, Tryz.ntmps51
    go_wp2_with fail
    go_ret
    exact ⟨rfl, rfl⟩
  · rw [if_neg h0] at hs
    have h1 : ((n : Int) == 0) = false := by simp; omega
    have h2 : (0 : Int) ≤ (n : Int) - 1 := by omega
    have h3 : (n : Int) ≤ 1000000000 := by omega
    have HS := Lib.hid hs
    clear hs h0
    go_enter Tryz.func51, Tryz.ntmps51
    go_wp2_with fail
    go_ret
    refine ⟨ret_int ?_, rfl⟩
    have := HS.out
    omega
theorem splitB_get (g p : Nat) (b : List UInt8) (j : Nat) (h : j < secs b.length) : (splitB g p b)[j]? = some (packB g (p + j) ((b.drop (48 * j)).take 48)) := by
  unfold splitB
  rw [List.getElem?_map, List.getElem?_range h]; rfl
set_option maxHeartbeats 8000000 in
set_option maxRecDepth 100000 in
theorem split (g p : Nat) (v : Value) (b : List UInt8) (hb : b.length ≤ 100000) (hg : 1 ≤ g ∧ g ≤ 18446744073709551615) (hp : p + secs b.length ≤ 4294967296) : Meets Tryz.prog 55 #[.int .u64 g, .int .u32 p, v] [] [bytA v b] fun u L => ∃ a c, u = .tuple #[.slice a (secs b.length) c, .int .i64 0] ∧ L = [ownA 38 64 (.slice a (secs b.length) c) (secs b.length) ((splitB g p b).flatMap fun x => x.map u8v)] := by
  intro w B H
  obtain ⟨a, c, rfl, hmx⟩ := (H.bytes 0).form
  have hcap := bytes_cap (H.bytes 0)
  obtain ⟨n, hn⟩ : ∃ n, n = secs b.length := ⟨_, rfl⟩
  rw [← hn] at hp ⊢
  have hn1 : n ≤ 3000 := by rw [hn]; unfold secs; split <;> omega
  have HSC := Lib.hid (sectors w b.length (by omega))
  rw [← hn] at HSC
  have HN := Lib.hid hn
  obtain ⟨hg1, hg2⟩ := hg
  have e0 : ((g : Int) == 0) = false := by simp; omega
  clear hn
  go_enter Tryz.func55, Tryz.ntmps55
  go_wp2_with fail
  refine HSC.out.mono ?_
  rintro e w1 ⟨rfl, rfl⟩
  have q1 : (p : Int) + n ≤ 4294967296 := by omega
  go_wp2_with fail
  clear e0 q1 HSC
  have H0 := (H.newNil 38 64)
  go_loopg [9, 27] n (fun gg b9 b27 wr => ∃ j : Nat, j ≤ n ∧ gg = n - j ∧ b27 = .int .i64 j ∧ ∃ a' c', b9 = .slice a' j c' ∧ St w1 B [ownA 38 64 (.slice a' j c') j (((splitB g p b).take j).flatMap fun x => x.map u8v)] [bytA (.slice a b.length c) b] wr)
  case atStart => exact ⟨0, Nat.zero_le _, rfl, rfl, none, 0, rfl, H0⟩
  case round =>
  clear H0 H
  obtain ⟨j, hj, rfl, rfl, a', c', rfl, H⟩ := hrel
  by_cases hlt : j < n
  · have hm1 : 48 * j ≤ b.length := by have := HN.out; unfold secs at this; split at this <;> omega
    obtain ⟨m, hm⟩ : ∃ m, m = min 48 (b.length - 48 * j) := ⟨_, rfl⟩
    have hmin : (if (b.length : Int) < ((j : Int) + 1) * 48 then (b.length : Int) else ((j : Int) + 1) * 48) = ((48 * j + m : Nat) : Int) := by split <;> omega
    have hval : Value.slice (if c = j * 48 then a else Option.map (fun x => x.add (j * 48)) a) ((if (b.length : Int) < ((j : Int) + 1) * 48 then (b.length : Int) else ((j : Int) + 1) * 48).toNat - j * 48) (c - j * 48) = subV a c (48 * j) m := by
      have e : 48 * j + m - j * 48 = m := by omega
      rw [hmin, Int.toNat_natCast, e, Nat.mul_comm j 48]
      rfl
    have hsb : BytesAt wr (subV a c (48 * j) m) ((b.drop (48 * j)).take m) := sub_bytes (H.bytes 0) (by omega)
    have hmm : (b.drop (48 * j)).take m = (b.drop (48 * j)).take 48 := by
      rw [hm, ← List.take_take, List.take_of_length_le (l := b.drop (48 * j) ) (i := b.length - 48 * j) (by rw [List.length_drop]; omega)]
    have HPK := Lib.hid (pack_ok wr g (p + j) _ _ hsb ⟨hg1, hg2⟩ (by omega) (by rw [List.length_take]; omega))
    rw [hmm, Int.natCast_add] at HPK
    have HM := Lib.hid hm
    have q2 : (p : Int) + j < 4294967296 := by omega
    have q3 : (j : Int) < n := by omega
    have HVAL := Lib.hid hval
    have HMIN := Lib.hid hmin
    clear hmin hsb hmm hm hval
    go_wp2_with (go_at_call 85; rw [HVAL.out, HMIN.out]; refine HPK.out.mono ?_)
    rintro e w2 ⟨rfl, hbel⟩
    have H2 := H.below hbel
    obtain ⟨x, hx⟩ : ∃ x, x = packB g (p + j) ((b.drop (48 * j)).take 48) := ⟨_, rfl⟩
    have hxl : x.length = 64 := by rw [hx]; exact packB_len _ _ _ (by rw [List.length_take]; omega)
    rw [← hx]
    have HX := Lib.hid hx
    unfold blkV
    obtain ⟨fv, hfv⟩ : ∃ fv, fv = x.map u8v := ⟨_, rfl⟩
    have hfl : fv.length = 64 := by rw [hfv, List.length_map, hxl]
    have hf1 : ∀ u ∈ fv, u.oneCell' = true := by rw [hfv]; exact u8v_one _
    rw [← hfv]
    have HFV := Lib.hid hfv
    have H3 := H2.whole zs64 38 fv (by rw [hfl]; rfl)
    clear hx hfv HPK H hbel HVAL HMIN
    go_wp2_with (first | (refine wpl_store rfl _ _ _ rfl w2.heap.size 0 (by rfl) fv (by rfl) 64 hfl (there_whole _ _ _ _ (by decide)) bigBlock hf1 ?_; refine wpl_world (fun W => St w1 B _ _ W) H3 ?_))
    intro w3 H4
    have hrg := St.range H4 0
    have H5 := H4.alloc fv 38
    obtain ⟨v6, w6, hr6, H6⟩ := H5.app (ty := 22) elemBlock 2 rfl (isSlK_of_blk H5 0 rfl 1 (by omega) (by rw [hfl]) (by decide)) hf1 (by omega) (by unfold maxLen; omega)
    obtain ⟨a6, c6, rfl, _⟩ := own_form (St.own H6 2)
    have HR6 := Lib.hid hr6
    have hlit := elemBlock.lit1 fv hfl (by decide) w3
    have HJ := Lib.hid hlt
    clear hr6 H3 H5 H4 H2
    go_upto_region 11 with fail
    go_wp2_with (first | (refine wpl_load rfl _ _ rfl w2.heap.size 0 (by rfl) fv 64 hfl hrg bigBlock ?_) | (refine wpl_lit (vals := #[(0, .agg fv.toArray)]) (by simp; rfl) hlit ?_) | (at_builtin; refine wpList_append_eq rfl _ _ _ rfl rfl rfl HR6.out ?_))
    go_roundg (n - (j + 1))
    case measure => have := HJ.out; omega
    case rel =>
      refine ⟨j + 1, by have := HJ.out; omega, rfl, by first | rfl | (congr 1; omega), a6, c6, rfl, ?_⟩
      have e : (splitB g p b).take (j + 1) = (splitB g p b).take j ++ [x] := by
        rw [List.take_add_one, splitB_get g p b j (by rw [← HN.out]; exact HJ.out), HX.out]; rfl
      rw [e, List.flatMap_append, List.flatMap_cons, List.flatMap_nil, List.append_nil, ← HFV.out]
      exact H6.tail.tail
  · obtain rfl : j = n := by omega
    have e : (splitB g p b).take j = splitB g p b := List.take_of_length_le (by unfold splitB; simp [← HN.out])
    rw [e] at H
    have e3 : ((j : Int) < j) = False := by simp
    clear hlt
    go_wp2_with fail
    exact bodyPost_ret (results_tmp2 rfl _ _ _) rfl (Back.mk ⟨a', c', rfl, rfl⟩ H)
end Go.Proofs.YtjmocjcjiiopnaaGreat
end

section
set_option linter.unusedVariables false
set_option linter.unusedSimpArgs false
namespace Go.Oct
/-- Sectors read one behind the other: what is wanted of the next, the sectors, what was read. -/
def joinGo : Option (Nat × Nat) → List (List UInt8) → List UInt8 → Option (List UInt8)
  | _, [], out => some out
  | q, b :: l, out => match readB b with
    | none => none
    | some (g, p, pl) => if l ≠ [] ∧ pl.length < 48 then none else if (∃ x, q = some x ∧ x ≠ (g, p)) then none else if p = 4294967295 ∧ l ≠ [] then none else joinGo (some (g, (p + 1) % 4294967296)) l (out ++ pl)
/-- The bytes of sectors. -/
def joinB (l : List (List UInt8)) : Option (List UInt8) := if l = [] then none else joinGo none l []
theorem joinGo_cases (q : Option (Nat × Nat)) (b : List UInt8) (l : List (List UInt8)) (out : List UInt8) :
    (readB b = none ∧ joinGo q (b :: l) out = none) ∨ ∃ g p pl, readB b = some (g, p, pl) ∧ ((l ≠ [] ∧ pl.length < 48 ∧ joinGo q (b :: l) out = none) ∨ (¬ (l ≠ [] ∧ pl.length < 48) ∧ (∃ x, q = some x ∧ x ≠ (g, p)) ∧ joinGo q (b :: l) out = none) ∨
      (¬ (l ≠ [] ∧ pl.length < 48) ∧ (¬ ∃ x, q = some x ∧ x ≠ (g, p)) ∧ (p = 4294967295 ∧ l ≠ []) ∧ joinGo q (b :: l) out = none) ∨
      (¬ (l ≠ [] ∧ pl.length < 48) ∧ (¬ ∃ x, q = some x ∧ x ≠ (g, p)) ∧ ¬ (p = 4294967295 ∧ l ≠ []) ∧ joinGo q (b :: l) out = joinGo (some (g, (p + 1) % 4294967296)) l (out ++ pl))) := by
  have e : joinGo q (b :: l) out = match readB b with
    | none => none
    | some (g, p, pl) => if l ≠ [] ∧ pl.length < 48 then none else if (∃ x, q = some x ∧ x ≠ (g, p)) then none else if p = 4294967295 ∧ l ≠ [] then none else joinGo (some (g, (p + 1) % 4294967296)) l (out ++ pl) := by rw [joinGo]
  cases h : readB b with
  | none => exact .inl ⟨rfl, by rw [e, h]⟩
  | some x =>
    obtain ⟨g, p, pl⟩ := x
    refine .inr ⟨g, p, pl, rfl, ?_⟩
    rw [e, h]
    by_cases h1 : l ≠ [] ∧ pl.length < 48
    · exact .inl ⟨h1.1, h1.2, if_pos h1⟩
    · simp only [if_neg h1]
      by_cases h2 : ∃ x, q = some x ∧ x ≠ (g, p)
      · exact .inr (.inl ⟨h1, h2, if_pos h2⟩)
      · simp only [if_neg h2]
        by_cases h3 : p = 4294967295 ∧ l ≠ []
        · exact .inr (.inr (.inl ⟨h1, h2, h3, if_pos h3⟩))
        · exact .inr (.inr (.inr ⟨h1, h2, h3, if_neg h3⟩))
theorem readB_bound {b : List UInt8} {g p : Nat} {pl : List UInt8} (hb : b.length = 64) (h : readB b = some (g, p, pl)) : 1 ≤ g ∧ g ≤ 18446744073709551615 ∧ p ≤ 4294967295 ∧ pl.length ≤ 48 := by
  have hg1 : numB (b.take 8) < 18446744073709551616 := by have := numB_take b 8 (by omega); simpa using this
  have hp1 : numB ((b.drop 8).take 4) < 4294967296 := by have := numB_take (b.drop 8) 4 (by rw [List.length_drop]; omega); simpa using this
  unfold readB at h
  split at h
  · cases h
  · split at h
    · cases h
    · split at h
      · cases h
        exact ⟨by omega, by omega, by omega, by rw [List.length_take]; omega⟩
      · cases h
end Go.Oct
namespace Go.Ice
/-- An element of a slice of elements of several cells. -/
theorem IsSlK.elem {T : Type} {f : T → List Value} {w : World} {size n b off cap : Nat} {l : List T} (h : IsSlK w size n (.slice (some ⟨b, off, none⟩) n cap) (l.flatMap f)) (hn : 0 < n) (hc : ∀ x ∈ l, (f x).length = size) {k : Nat} {x : T} (hx : l[k]? = some x) : w.rangeAt b (off + k * size) (f x) := fun j v hv => by
  obtain ⟨b', off', cap', e, _, _, _, hcell⟩ := h.at hn
  cases e
  have hj : j < size := by rw [← hc x (List.mem_of_getElem? hx)]; exact (List.getElem?_eq_some_iff.1 hv).1
  have hg := flatMap_get hc hx hj
  rw [hv] at hg
  rw [Nat.add_assoc, hcell _ (List.getElem?_eq_some_iff.1 hg).1, hg]
end Go.Ice
namespace Go.Proofs.YtjmocjcjiiopnaaGreat
open Go.RowKit Go.Ice Go.Oct
/-- What Join answers. -/
def joinQ (r : Option (List UInt8)) (u : Value) (L : List Asn) : Prop := match r with
    | none => u = .tuple #[.slice none 0 0, .int .i64 150] ∧ L = []
    | some out => ∃ a c, u = .tuple #[.slice a out.length c, .int .i64 0] ∧ L = [ownA 5 1 (.slice a out.length c) out.length (out.map u8v)]
set_option maxHeartbeats 8000000 in
set_option maxRecDepth 20000 in
theorem join (v : Value) (bs : List (List UInt8)) (hb : ∀ x ∈ bs, x.length = 64) (hm : bs.length ≤ 100000) : Meets Tryz.prog 89 #[v] [] [slA 64 v bs.length (bs.flatMap fun x => x.map u8v)] fun u L => joinQ (joinB bs) u L := by
  intro w B H
  obtain ⟨n, hn⟩ : ∃ n, n = bs.length := ⟨_, rfl⟩
  have HN := Lib.hid hn
  have hsl := St.sl H 0
  have hform : ∃ a c, v = .slice a n c := by
    rcases hsl.2 with ⟨h0, h | ⟨x, c, h⟩⟩ | ⟨h0, b', off, cap, h, _⟩
    · exact ⟨_, _, by rw [hn, h0]; exact h⟩
    · exact ⟨_, _, by rw [hn, h0]; exact h⟩
    · exact ⟨_, _, by rw [hn]; exact h⟩
  obtain ⟨a, c, rfl⟩ := hform
  rw [← hn] at H hm ⊢
  clear hsl hn
  by_cases h0 : n = 0
  · have e : joinB bs = none := by unfold joinB; rw [if_pos (List.length_eq_zero_iff.1 (by rw [← HN.out]; exact h0))]
    rw [e]
    subst h0
    go_enter Tryz.func89, Tryz.ntmps89
    go_wp2_with fail
    exact bodyPost_ret (results_tmp2 rfl _ _ _) rfl (Back.mk ⟨rfl, rfl⟩ H)
  · have e0 : ((n : Int) == 0) = false := by simp; omega
    have HJB := Lib.hid (show joinB bs = joinGo none (bs.drop 0) [] by unfold joinB; rw [if_neg (by intro h; rw [h] at HN; exact h0 HN.out), List.drop_zero])
    have H1 := (H.newNil 5 1).alloc [.int .u64 0, .int .u32 0, .int .i64 0] 113
    go_enter Tryz.func89, Tryz.ntmps89
    go_wp2_with fail
    clear e0
    go_loopg [4, 16] n (fun gg b4 b16 wr => ∃ (j g p f : Nat) (out : List UInt8) (a' : Option Addr) (c' : Nat) (q : Option (Nat × Nat)), j ≤ n ∧ gg = n - j ∧ b16 = .int .i64 j ∧ b4 = .slice a' out.length c' ∧ St w B [blkA w.heap.size [.int .u64 g, .int .u32 p, .int .i64 f] 113, ownA 5 1 (.slice a' out.length c') out.length (out.map u8v)] [slA 64 (.slice a n c) n (bs.flatMap fun x => x.map u8v)] wr ∧ Hid (joinB bs = joinGo q (bs.drop j) out) ∧ Hid (if j = 0 then q = none else q = some (g, p)) ∧ Hid (g ≤ 18446744073709551615 ∧ p ≤ 4294967295 ∧ out.length ≤ 48 * j))
    case atStart => exact ⟨0, 0, 0, 0, [], none, 0, none, Nat.zero_le _, rfl, rfl, rfl, H1, HJB, Lib.hid rfl, Lib.hid (by simp)⟩
    case round =>
    clear H1 H HJB
    obtain ⟨j, g, p, f, out, a', c', q, hj, rfl, rfl, rfl, H, HJB, HQ, HB⟩ := hrel
    by_cases hlt : j < n
    · obtain ⟨x, hx⟩ : ∃ x, bs[j]? = some x := ⟨_, List.getElem?_eq_getElem (by rw [← HN.out]; exact hlt)⟩
      have hx64 : x.length = 64 := hb x (List.mem_of_getElem? hx)
      obtain ⟨b', off, cap, e, _, _, _, _⟩ := (St.sl H 0).at (by omega)
      cases e
      have hr1 := (St.sl H 0).elem (f := fun x : List UInt8 => x.map u8v) (by omega) (fun y hy => by rw [List.length_map]; exact hb y hy) hx
      obtain ⟨fv, hfv⟩ : ∃ fv, fv = x.map u8v := ⟨_, rfl⟩
      have hfl : fv.length = 64 := by rw [hfv, List.length_map, hx64]
      have hf1 : ∀ u ∈ fv, u.oneCell' = true := by rw [hfv]; exact u8v_one _
      simp only [← hfv] at hr1
      have HFV := Lib.hid hfv
      have H2 := H.whole zs64 38 fv (by rw [hfl]; rfl)
      clear hfv
      go_upto_region 8 with (first | (refine wpl_load rfl _ _ rfl b' (off + j * 64) (by rfl) fv 64 hfl hr1 bigBlock ?_) | (refine wpl_store rfl _ _ _ rfl wr.heap.size 0 (by rfl) fv (by rfl) 64 hfl (there_whole _ _ _ _ (by decide)) bigBlock hf1 ?_; refine wpl_world (fun W => St w B _ _ W) H2 ?_))
      intro w2 H3
      have hr3 := St.range H3 0
      have hd : bs.drop j = x :: bs.drop (j + 1) := by
        obtain ⟨hlj, hxj⟩ := List.getElem?_eq_some_iff.1 hx
        rw [← hxj]; exact List.drop_eq_getElem_cons hlj
      rw [hd] at HJB
      have hne : bs.drop (j + 1) ≠ [] ↔ j + 1 < n := by rw [ne_eq, List.drop_eq_nil_iff, ← HN.out]; omega
      have hrd := stamp_read x hx64
      have hargs : blkV x = .agg fv.toArray := by rw [HFV.out]; rfl
      rw [hargs] at hrd
      have HX := Lib.hid hx
      have HJN := Lib.hid hlt
      have hlt' : (j : Int) < n := by omega
      clear hr1 H2 H hd hargs hx
      rcases joinGo_cases q x (bs.drop (j + 1)) out with ⟨h1, h2⟩ | ⟨g', p', pl, h1, h⟩
      · rw [h1] at hrd
        rw [h2] at HJB
        clear h1 h2 hne
        go_wp2_with (refine wpl_load rfl _ _ rfl wr.heap.size 0 (by rfl) fv 64 hfl hr3 bigBlock ?_)
        refine (hrd.call (L := []) (M := [_, _, _]) H3 (by simp)).mono ?_
        rintro e w3 ⟨v, L, rfl, ⟨rfl, rfl⟩, H4⟩
        unfold stV
        go_wp2_with fail
        refine bodyPost_ret (results_tmp2 rfl _ _ _) rfl (Back.mk (L' := []) ?_ (St.pick (H4.alloc [.int .u64 0, .int .u32 0, .int .i64 0] 113) []))
        rw [HJB.out]; exact ⟨rfl, rfl⟩
      · rw [h1] at hrd
        obtain ⟨k1, k2, k3, k4⟩ := readB_bound hx64 h1
        clear h1
        go_wp2_with (refine wpl_load rfl _ _ rfl wr.heap.size 0 (by rfl) fv 64 hfl hr3 bigBlock ?_)
        refine (hrd.call (L := []) (M := [_, _, _]) H3 (by simp)).mono ?_
        rintro e w3 ⟨v, L, rfl, ⟨a9, c9, rfl, rfl⟩, H4⟩
        unfold stV
        have H5 := H4.alloc [.int .u64 g', .int .u32 p', .int .i64 pl.length] 113
        clear hr3 H3 hrd
        go_upto_region 9 with fail
        refine wp_world (fun W => St w B _ _ W) H5 ?_
        intro w5 H6
        clear H5 H4
        obtain ⟨hc1, hf1'⟩ := St.cells H6 0
        obtain ⟨hc2, hf2'⟩ := St.cells H6 3
        rcases h with ⟨n1, n2, h2⟩ | ⟨n1, ⟨y, n2, n3⟩, h2⟩ | ⟨n1, n2, n3, h2⟩ | ⟨n1, n2, n3, h2⟩
        · rw [h2] at HJB
          have m1 : (j : Int) + 1 < n := by have := hne.1 n1; omega
          have m2 : (pl.length : Int) < 48 := by omega
          clear h2 n1 hne
          go_wp2_with fail
          refine bodyPost_ret (results_tmp2 rfl _ _ _) rfl (Back.mk (L' := []) ?_ (St.pick H6 []))
          rw [HJB.out]; exact ⟨rfl, rfl⟩
        · rw [h2] at HJB
          have hj0 : j ≠ 0 := by rintro rfl; have := HQ.out; rw [if_pos rfl] at this; rw [this] at n2; cases n2
          have hq := HQ.out
          rw [if_neg hj0, n2] at hq
          cases hq
          have hn3 : g ≠ g' ∨ p ≠ p' := by
            by_cases hg : g = g'
            · exact .inr fun hp => n3 (by rw [hg, hp])
            · exact .inl hg
          have m1 : (0 : Int) < j := by omega
          have n1' : (j : Int) + 1 ≥ n ∨ ((j : Int) + 1 < n ∧ (48 : Int) ≤ pl.length) := by
            by_cases hz : j + 1 < n
            · have h48 : 48 ≤ pl.length := Nat.le_of_not_lt fun hh => n1 ⟨hne.2 hz, hh⟩
              exact .inr ⟨by omega, by omega⟩
            · exact .inl (by omega)
          clear n1 n3 h2 hne hj0
          rcases n1' with n1 | ⟨n0, n1⟩
          all_goals
            go_upto_region 12 with fail
            refine wp_world (fun W => St w B _ _ W) (St.set_ H6 3 2 (.int .i64 pl.length) rfl) ?_
            intro w6 H7
            obtain ⟨hc1, hf1'⟩ := St.cells H7 0
            obtain ⟨hc2, hf2'⟩ := St.cells H7 3
            go_wp2_with fail
          all_goals
            refine bodyPost_ret (results_tmp2 rfl _ _ _) rfl (Back.mk (L' := []) ?_ (St.pick H7 []))
            rw [HJB.out]; exact ⟨rfl, rfl⟩
        · rw [h2] at HJB
          obtain ⟨rfl, n3⟩ := n3
          have m1 : (j : Int) + 1 < n := by have := hne.1 n3; omega
          have m2 : (48 : Int) ≤ pl.length := by
            have : 48 ≤ pl.length := Nat.le_of_not_lt fun hh => n1 ⟨n3, hh⟩
            omega
          have hj : j = 0 ∨ (g = g' ∧ p = 4294967295 ∧ 0 < j) := by
            by_cases hz : j = 0
            · exact .inl hz
            · have hq := HQ.out
              rw [if_neg hz] at hq
              rcases Classical.em ((g, p) = (g', 4294967295)) with hh | hh
              · cases hh; exact .inr ⟨rfl, rfl, by omega⟩
              · exact absurd ⟨_, hq, hh⟩ n2
          clear n1 n2 n3 h2 hne
          rcases hj with rfl | ⟨rfl, rfl, n0⟩
          all_goals
            go_upto_region 12 with fail
            refine wp_world (fun W => St w B _ _ W) (St.set_ H6 3 2 (.int .i64 pl.length) rfl) ?_
            intro w6 H7
            obtain ⟨hc1, hf1'⟩ := St.cells H7 0
            obtain ⟨hc2, hf2'⟩ := St.cells H7 3
            go_wp2_with fail
          all_goals
            refine bodyPost_ret (results_tmp2 rfl _ _ _) rfl (Back.mk (L' := []) ?_ (St.pick H7 []))
            rw [HJB.out]; exact ⟨rfl, rfl⟩
        · rw [h2] at HJB
          have m3 : p' < 4294967295 ∨ (p' = 4294967295 ∧ j + 1 = n) := by
            by_cases hz : p' = 4294967295
            · have hy : ¬ j + 1 < n := fun hy => n3 ⟨hz, hne.2 hy⟩
              exact .inr ⟨hz, by omega⟩
            · exact .inl (by omega)
          have n1' : (j : Int) + 1 ≥ n ∨ ((j : Int) + 1 < n ∧ (48 : Int) ≤ pl.length) := by
            by_cases hz : j + 1 < n
            · have h48 : 48 ≤ pl.length := Nat.le_of_not_lt fun hh => n1 ⟨hne.2 hz, hh⟩
              exact .inr ⟨by omega, by omega⟩
            · exact .inl (by omega)
          have hj : j = 0 ∨ (g = g' ∧ p = p' ∧ 0 < j) := by
            by_cases hz : j = 0
            · exact .inl hz
            · have hq := HQ.out
              rw [if_neg hz] at hq
              rcases Classical.em ((g, p) = (g', p')) with hh | hh
              · cases hh; exact .inr ⟨rfl, rfl, by omega⟩
              · exact absurd ⟨_, hq, hh⟩ n2
          clear n1 n2 n3 h2 hne
          have HOB := Lib.hid (show out.length + pl.length ≤ 48 * (j + 1) by have := HB.out; omega)
          have m3' : p' < 4294967295 ∨ p' = 4294967295 := by omega
          obtain ⟨pn, hpn⟩ : ∃ pn, pn = p' := ⟨_, rfl⟩
          have HPN := Lib.hid hpn
          clear hpn
          have hj' : j = 0 ∨ (g' = g ∧ p' = p ∧ 0 < j) := by omega
          have HM3 := Lib.hid m3
          clear m3 hj
          obtain ⟨i, hi⟩ : ∃ i, i = j := ⟨_, rfl⟩
          have HI := Lib.hid hi
          clear hi
          rcases n1' with n1 | ⟨n0, n1⟩ <;> rcases m3' with m3 | rfl <;> rcases hj' with rfl | ⟨rfl, rfl, m4⟩
          all_goals try (exfalso; have := HM3.out; omega)
          all_goals
            go_upto_region 12 with fail
            refine wp_world (fun W => St w B _ _ W) (St.set_ H6 3 2 (.int .i64 pl.length) rfl) ?_
            intro w6 H7
            obtain ⟨hc1, hf1'⟩ := St.cells H7 0
            obtain ⟨hc2, hf2'⟩ := St.cells H7 3
            go_upto_region 17 with fail
            have H7b := St.pick H7 [1, 3, 4]
            refine wp_world (fun W => ∃ P' : Int, Hid (P' = (((pn + 1) % 4294967296 : Nat) : Int)) ∧ St w B [ownA 5 1 (.slice a9 pl.length c9) pl.length (pl.map u8v), blkA w.heap.size [.int .u64 g', .int .u32 P', .int .i64 0] 113, ownA 5 1 (.slice a' out.length c') out.length (out.map u8v)] [slA 64 (.slice (some ⟨b', off, none⟩) n c) n (bs.flatMap fun x : List UInt8 => x.map u8v)] W)
              ⟨_, Lib.hid (by have := HPN.out; omega), ((St.set_ H7b 1 0 (.int .u64 g') rfl).set_ 1 1 (.int .u32 _) rfl).set_ 1 2 (.int .i64 0) rfl⟩ ?_
            rintro w7 ⟨P', hP, H8⟩
            have hP' := hP.out
            subst hP'
            obtain ⟨a6, c6, w8, hr8, H9⟩ := St.appB (P := Tryz.prog) (ty := 60) (l := out) elemByte H8 2 rfl (own_byt (St.own H8 0)) (by omega) (by have := HOB.out; omega)
            have HR8 := Lib.hid hr8
            clear hr8 hc1 hc2 H7 H7b H8 H6
            go_wp2_with (at_builtin; refine wpList_append_eq rfl _ _ _ rfl rfl rfl HR8.out ?_)
            go_roundg (n - (i + 1))
            case measure => have := HJN.out; have := HI.out; omega
            case rel =>
              have hI := HI.out
              refine ⟨i + 1, g', (pn + 1) % 4294967296, 0, out ++ pl, a6, c6, some (g', (pn + 1) % 4294967296), by have := HJN.out; omega, rfl, by first | rfl | (congr 1; omega), by rw [List.length_append], ?_, by rw [hI, HPN.out]; exact HJB, Lib.hid (by rw [if_neg (by omega)]), Lib.hid ⟨k2, by omega, by have := HOB.out; rw [List.length_append]; omega⟩⟩
              have H10 := St.pick H9 [1, 2]
              rw [← List.length_append] at H10
              exact H10
    · obtain rfl : j = n := by omega
      have e3 : ((j : Int) < j) = False := by simp
      have HD := HJB.out
      rw [List.drop_of_length_le (Nat.le_of_eq HN.out.symm), joinGo] at HD
      have HJ := Lib.hid HD
      clear hlt HD
      go_wp2_with fail
      refine bodyPost_ret (results_tmp2 rfl _ _ _) rfl (Back.mk (L' := [_]) ?_ (St.pick H [1]))
      rw [HJ.out]; exact ⟨a', c', rfl, rfl⟩
end Go.Proofs.YtjmocjcjiiopnaaGreat
end
