/- The laws' helper does: find. Condition: both hold the same entries. -/
import Derived.Test.YtccgdfamjohmgaaDoes
set_option linter.unusedVariables false
namespace Go.Proofs.Ytccgdfamjohmgaa
open Go.RowKit Go.Ice

/-- A block of at least m cells, none frozen. -/
def Blk (w : World) (g : Nat) (e : TypeId) (m : Nat) : Prop := ∃ c, w.heap[g]? = some (.cells c e (0, 0)) ∧ m ≤ c.size
theorem Blk.cell {w : World} {g m : Nat} {e : TypeId} (h : Blk w g e m) (k : Nat) (hk : k < m) : (∃ u, w.cell? ⟨g, k, none⟩ = some u) ∧ w.frozen? ⟨g, k, none⟩ = false := by
  obtain ⟨c, h1, h2⟩ := h
  exact ⟨⟨c[k]'(by omega), by simp [World.cell?, h1]⟩, by simp [World.frozen?, h1]⟩
theorem Blk.set {w : World} {g m : Nat} {e : TypeId} (h : Blk w g e m) (k : Nat) (u : Value) : Blk (w.setCell ⟨g, k, none⟩ u) g e m := by
  obtain ⟨c, h1, h2⟩ := h
  exact ⟨c.setIfInBounds k u, by simp [World.setCell, Array.getElem?_modify, h1], by simpa using h2⟩

set_option maxRecDepth 100000 in
set_option maxHeartbeats 8000000 in
theorem does_find (w0 w : World) (L : Lay) (N : Nat) (A : List (Nat × Adr)) (q : Nat) (o : OpV) (h : St w0 w L N A A q) (hff : o.f ≤ 4294967295) (hk : kindF o.kind = 3) :
    Calls Try.prog 19 #[.pointer (some ⟨L.bx, 0, none⟩), .pointer (some ⟨q, 0, none⟩), opV o] w fun e w' => e = .returned (.bool true) ∧ St w0 w' L N A A q ∧ Frm (fun k => L.owns k ∨ k = q) w w' := by
  have hN := h.own.here.le
  obtain ⟨W1, hW1⟩ : ∃ W1, W1 = w.alloc (.cells #[.int .i64 o.kind, .int .u32 o.f, .int .i64 o.a.seg, .int .u64 o.a.gen, .int .i64 o.a.sec] 34) := ⟨_, rfl⟩
  have hb1 : Below w.heap.size w W1 := by rw [hW1]; exact (Below.refl _ w).alloc (Nat.le_refl _) _
  have ho1 : OpAt W1 w.heap.size o := by rw [hW1]; exact OpAt.new w o 34
  have HS1 := Lib.hid (h.below hb1)
  have HF1 : Hid (Frm (fun k => L.owns k ∨ k = q) w W1) := frm_below hb1
  have HO1 := Lib.hid ho1
  have HW := Lib.hid hW1.symm
  have HNL : Hid (¬ L.owns w.heap.size) := fun hl => by have := h.own.here.lt _ hl; omega
  have HQN : Hid (q ≠ w.heap.size) := by have := h.qlt; show _ ≠ _; omega
  have HK := Lib.hid hk
  clear h hb1 ho1 hW1 hk
  unfold opV
  go_enter Try.func19, Try.ntmps19
  go_upto_region 1 with fail
  rw [HW.out]
  have h5 := HO1.out.2
  have c0 := h5 0 (by decide)
  have c1 := h5 1 (by decide)
  have c2 := h5 2 (by decide)
  have c3 := h5 3 (by decide)
  have c4 := h5 4 (by decide)
  simp only [OpV.cell] at c0 c1 c2 c3 c4
  clear h5
  go_wp2_with fail
  refine (kind_of o 3 HK.out _).mono ?_
  rintro e W2 ⟨rfl, hb⟩
  have HS2 := Lib.hid (HS1.out.below hb)
  have HF2 : Hid (Frm (fun k => L.owns k ∨ k = q) w W2) := HF1.out.trans (frm_below hb)
  have HO2 := Lib.hid (HO1.out.below hb)
  clear hb c0 c1 c2 c3 c4 HS1 HO1
  have h5 := HO2.out.2
  have c1 := h5 1 (by decide)
  have c2 := h5 2 (by decide)
  have c3 := h5 3 (by decide)
  have c4 := h5 4 (by decide)
  simp only [OpV.cell] at c1 c2 c3 c4
  clear h5
  obtain ⟨v, y1, y2, y3⟩ := HS2.out.y
  have d0 : W2.cell? ⟨q, 0, none⟩ = some (.int .i64 N) := blk_cell y1 0
  have d1 : W2.cell? ⟨q, 1, none⟩ = some v := blk_cell y1 1
  have HAR : Hid (∀ m, Calls Try.prog 21 #[.agg #[.int .i64 N, v], .int .u32 o.f] (W2.drewN m) fun r w' => ∃ v', r = .returned v' ∧ RowAt w' 3 v' (findA A o.f).length (fun i j => ((findA A o.f).getD i default).cell j) ∧ Below (W2.drewN m).heap.size (W2.drewN m) w') :=
    fun m => (find_ref (W2.drewN m) N v A o.f (y2.below (drewN_below W2 m) (Nat.le_refl _)) (by omega)).mono fun e w' ⟨v', h1, h2, h3⟩ => ⟨v', h1, (own_isSlK h2).rowAt (fun i hi j hj => adrCells_get _ i hi j hj), h3⟩
  clear y1 y2 y3
  go_upto_region 3 with fail
  go_region_with (go_at_call 21
                  refine (HAR.out 1).mono ?_
                  rintro e W4 ⟨vW, rfl, hW4, hb4⟩
                  have HS4 := Lib.hid ((HS2.out.drewN 1).below hb4)
                  have HO4 := Lib.hid ((HO2.out.below (drewN_below W2 1)).below hb4)
                  have HWT := Lib.hid hW4
                  have HF4 : Hid (Frm (fun k => L.owns k ∨ k = q) w W4) := (HF2.out.trans (frm_below (drewN_below W2 1))).trans (frm_below hb4)
                  clear hW4 hb4)
  all_goals
    clear c1 c2 c3 c4 d0 d1
    go_wp2_with fail
    go_loopg [13, 14, 15] 2 (fun g rv lv iv wr => ∃ r : Nat, g = 2 - r ∧ r ≤ 2 ∧ rv = .int .i64 r ∧ Hid (Below W4.heap.size W4 wr))
    case atStart => exact ⟨0, rfl, by omega, rfl, Below.refl _ _⟩
    case round =>
      obtain ⟨r, rfl, hr, rfl, HBr⟩ := hrel
      have HSr := Lib.hid (HS4.out.below HBr.out)
      have c1 : wr.cell? ⟨w.heap.size, 1, none⟩ = some (.int .u32 o.f) := (HO4.out.below HBr.out).2 1 (by decide)
      by_cases hlt : r < 2
      · go_wp2_with fail
        refine (HSr.out.own.find o.f hff).mono ?_
        rintro e W5 ⟨v5, rfl, hv5, _, hb5⟩
        have HB5 : Hid (Below W4.heap.size W4 W5) := HBr.out.trans (hb5.mono HBr.out.size)
        have HR5 : Hid (RowAt W5 3 v5 (findA A o.f).length fun i j => ((findA A o.f).getD i default).cell j) := (own_isSlK hv5).rowAt (fun i hi j hj => adrCells_get _ i hi j hj)
        have HV5 : Hid (0 < (findA A o.f).length → ∃ g cap, v5 = .slice (some ⟨g, 0, none⟩) (findA A o.f).length cap ∧ W4.heap.size ≤ g ∧ Blk W5 g 32 ((findA A o.f).length * 3)) := fun h0 => by
          have := HBr.out.size
          rcases hv5.2 with ⟨_, h⟩ | ⟨g, cap, cur, h1, h2, h3, h4, h5, h6, h7⟩
          · omega
          · exact ⟨g, cap, h1, by omega, cur, h3, by rw [h6]; exact Nat.mul_le_mul_right 3 h4⟩
        obtain ⟨a5, cap5, rfl, hm5⟩ := own_form hv5
        have HW5 := Lib.hid (HWT.out.below HB5.out (Nat.le_refl _))
        unfold maxLen at hm5
        clear hv5 hb5 c1
        go_wp2_with fail
        refine (same W5 _ _ _ HR5.out HW5.out).mono ?_
        rintro e W6 ⟨rfl, n6, rfl⟩
        obtain ⟨n, hn⟩ : ∃ n, n = (findA A o.f).length := ⟨_, rfl⟩
        rw [← hn] at HV5 hm5 ⊢
        clear hn
        go_wp2_with fail
        go_loopg [15, 38] n (fun g iv kv wi => ∃ i : Nat, g = n - i ∧ i ≤ n ∧ kv = .int .i64 i ∧ Hid (Below W4.heap.size W4 wi ∧ (0 < n → ∃ g cap, Value.slice a5 n cap5 = .slice (some ⟨g, 0, none⟩) n cap ∧ W4.heap.size ≤ g ∧ Blk wi g 32 (n * 3))))
        case atStart => exact ⟨0, rfl, by omega, rfl, HB5.out.trans ((drewN_below W5 n6).mono HB5.out.size), HV5.out⟩
        case round =>
          obtain ⟨i, rfl, hi, rfl, HI⟩ := hrel
          by_cases hlti : i < n
          · obtain ⟨g, cap, hsl, hg1, hg2⟩ := HI.out.2 (by omega)
            obtain ⟨rfl, rfl⟩ : a5 = some ⟨g, 0, none⟩ ∧ cap5 = cap := by cases hsl; exact ⟨rfl, rfl⟩
            have HBK := Lib.hid hg2
            obtain ⟨⟨u0, k0⟩, f0⟩ := hg2.cell (i * 3) (by omega)
            obtain ⟨⟨u1, k1⟩, f1⟩ := hg2.cell (i * 3 + 1) (by omega)
            obtain ⟨⟨u2, k2⟩, f2⟩ := hg2.cell (i * 3 + 2) (by omega)
            clear hsl hg2
            go_wp2_with fail
            go_roundg (n - (i + 1))
            case measure => omega
            case rel => exact ⟨i + 1, rfl, by omega, by go_num, ((HI.out.1.setCell (by exact hg1) _).setCell (by exact hg1) _).setCell (by exact hg1) _, fun _ => ⟨g, cap5, rfl, hg1, ((HBK.out.set _ _).set _ _).set _ _⟩⟩
          · go_wp2_with fail
            go_roundg (2 - (r + 1))
            case measure => omega
            case rel => exact ⟨r + 1, rfl, by omega, by go_num, HI.out.1⟩
      · go_wp2_with fail
        go_ret
        exact ⟨by simp, HSr.out, HF4.out.trans (frm_below HBr.out)⟩
end Go.Proofs.Ytccgdfamjohmgaa
