/- script.right. Condition: the event lies in memory. -/
import Derived.Test.YtelaijogjgcloaaDoorOnl
set_option linter.unusedVariables false
set_option linter.unusedSimpArgs false
namespace Go.Proofs.YtelaijogjgcloaaDoor
open Go.RowKit Go.Ice Go.Scr

set_option maxHeartbeats 16000000 in
set_option maxRecDepth 20000 in
theorem right30 (w : World) (p : Plan) (v : Value) (x : Ev) (hx : EvAt w v x) :
    Calls Tryd.prog 30 #[planV p, v] w fun e w' => e = .returned (.bool (rightE p x)) ∧ Below w.heap.size w w' := by
  obtain ⟨vb, vk, rfl, hb, hk⟩ := hx
  obtain ⟨rr, hrr⟩ : ∃ rr, rr = rightE p x := ⟨_, rfl⟩
  rw [← hrr]
  obtain ⟨ab, cb, rfl, hmb⟩ := hb.form
  obtain ⟨ak, ck, rfl, hmk⟩ := hk.form
  unfold rightE at hrr
  have HR := Lib.hid hrr
  clear hrr hmb hmk
  obtain ⟨g, s, l, q, pc⟩ := p
  unfold planV
  dsimp only
  obtain ⟨B, C, W0, HB, HC, HW, HK, HZ⟩ := boxed2 w #[.int .i64 g, .int .i64 s, .int .i64 l, .int .i64 q, .int .i64 pc] 23 #[.int .i64 x.kind, .int .i64 x.conn, .int .i64 x.n, .slice ab x.bytes.length cb, .slice ak x.keep.length ck] 41
  have HON : Hid (∀ W, Below W0.heap.size W0 W → Calls Tryd.prog 49 #[evV x.kind x.conn x.n (.slice ab x.bytes.length cb) (.slice ak x.keep.length ck)] W fun e w' => e = .returned (onlyV x.kind x.conn x.n (.slice ab x.bytes.length cb) (.slice ak x.keep.length ck)) ∧ Below W0.heap.size W0 w') := fun W hW =>
    (only49 W x.kind x.conn x.n ab ak x.bytes.length cb x.keep.length ck).mono fun e w' ⟨h1, h2⟩ => ⟨h1, hW.trans (h2.mono hW.size)⟩
  have HBX := Lib.hid (hb.below HK.out.below (Nat.le_refl _))
  have HKX := Lib.hid (hk.below HK.out.below (Nat.le_refl _))
  have HOX : Hid (EvAt W0 (onlyV x.kind x.conn x.n (.slice ab x.bytes.length cb) (.slice ak x.keep.length ck)) (only x)) := only_at HBX.out HKX.out
  have HXX : Hid (EvAt W0 (evV x.kind x.conn x.n (.slice ab x.bytes.length cb) (.slice ak x.keep.length ck)) x) := ⟨_, _, rfl, HBX.out, HKX.out⟩
  clear hb hk
  obtain ⟨z, hz⟩ : ∃ z, z = decide (x = only x) := ⟨_, rfl⟩
  have HS : Hid (∀ w1, Below W0.heap.size W0 w1 → Calls Tryd.prog 46 #[evV x.kind x.conn x.n (.slice ab x.bytes.length cb) (.slice ak x.keep.length ck), onlyV x.kind x.conn x.n (.slice ab x.bytes.length cb) (.slice ak x.keep.length ck)] w1 fun e w' => e = .returned (.bool z) ∧ Below W0.heap.size W0 w') := fun w1 h1 => by
    rw [hz]
    exact (same46 w1 _ _ _ _ (HXX.out.below h1 (Nat.le_refl _)) (HOX.out.below h1 (Nat.le_refl _))).mono fun e w' ⟨h2, h3⟩ => ⟨h2, h1.trans (h3.mono h1.size)⟩
  rw [← hz] at HR
  clear hz
  obtain ⟨ov, hov⟩ : ∃ ov, ov = onlyV x.kind x.conn x.n (.slice ab x.bytes.length cb) (.slice ak x.keep.length ck) := ⟨_, rfl⟩
  have HOV : Hid (∃ k' c' n' b1 m1 d1 b2 m2 d2, ov = evV k' c' n' (.slice b1 m1 d1) (.slice b2 m2 d2)) := by
    show ∃ _, _
    rw [hov]
    unfold onlyV nilS
    split
    · exact ⟨_, _, _, _, _, _, _, _, _, rfl⟩
    · split
      · exact ⟨_, _, _, _, _, _, _, _, _, rfl⟩
      · split
        · exact ⟨_, _, _, _, _, _, _, _, _, rfl⟩
        · split <;> exact ⟨_, _, _, _, _, _, _, _, _, rfl⟩
  rw [← hov] at HS HON
  obtain ⟨k', c', n', b1', m1', d1', b2', m2', d2', rfl⟩ := HOV.out
  clear hov HOV HOX HXX HBX HKX
  obtain ⟨kind, conn, n, bytes, keep⟩ := x
  dsimp only at HR HON HS HK HW ⊢
  obtain ⟨nb, hnb⟩ : ∃ nb, nb = bytes.length := ⟨_, rfl⟩
  obtain ⟨nk, hnk⟩ : ∃ nk, nk = keep.length := ⟨_, rfl⟩
  rw [← hnb, ← hnk] at HR HON HS HK HW ⊢
  clear hnb hnk
  unfold evV at HON HS ⊢
  have c0 : W0.cell? ⟨C, 0, none⟩ = some (.int .i64 kind) := blk_cell HK.out.b1 0
  have c1 : W0.cell? ⟨C, 1, none⟩ = some (.int .i64 conn) := blk_cell HK.out.b1 1
  have c2 : W0.cell? ⟨C, 2, none⟩ = some (.int .i64 n) := blk_cell HK.out.b1 2
  have c3 : W0.cell? ⟨C, 3, none⟩ = some (.slice ab nb cb) := blk_cell HK.out.b1 3
  have c4 : W0.cell? ⟨C, 4, none⟩ = some (.slice ak nk ck) := blk_cell HK.out.b1 4
  have b0 : W0.cell? ⟨B, 0, none⟩ = some (.int .i64 g) := blk_cell HK.out.b0 0
  have b1 : W0.cell? ⟨B, 1, none⟩ = some (.int .i64 s) := blk_cell HK.out.b0 1
  have b2 : W0.cell? ⟨B, 2, none⟩ = some (.int .i64 l) := blk_cell HK.out.b0 2
  have b3 : W0.cell? ⟨B, 3, none⟩ = some (.int .i64 q) := blk_cell HK.out.b0 3
  have b4 : W0.cell? ⟨B, 4, none⟩ = some (.int .i64 pc) := blk_cell HK.out.b0 4
  have HCC : Hid (∀ W, Below W0.heap.size W0 W → W.cell? ⟨C, 0, none⟩ = some (.int .i64 kind) ∧ W.cell? ⟨C, 1, none⟩ = some (.int .i64 conn) ∧ W.cell? ⟨C, 2, none⟩ = some (.int .i64 n) ∧ W.cell? ⟨C, 3, none⟩ = some (.slice ab nb cb) ∧ W.cell? ⟨C, 4, none⟩ = some (.slice ak nk ck)) := fun W hW => by
    have h := (HK.out.step hW).b1
    exact ⟨blk_cell h 0, blk_cell h 1, blk_cell h 2, blk_cell h 3, blk_cell h 4⟩
  go_enter Tryd.func30, Tryd.ntmps30
  go_upto_region 1 with fail
  rw [HC.out, HB.out, HW.out]
  clear HC HB HW
  by_cases h0 : 1 ≤ kind
  · by_cases h1 : kind ≤ 8
    · by_cases h2 : 0 ≤ conn
      · by_cases h3 : conn < pc
        · by_cases h4 : 0 ≤ n
          · by_cases h5 : n < 4294967296
            · by_cases h6 : nb ≤ 4096
              · by_cases h7 : nk ≤ 4096
                · have HX : Hid (rr = z) := by
                    show _ = _
                    rw [HR.out]; simp [*]
                  go_wp2_with fail
                  go_region_with (first
                    | (go_at_call 49
                       refine (HON.out _ (drewN_below W0 1)).mono ?_
                       rintro e W2 ⟨rfl, hw⟩
                       have HW := Lib.hid hw
                       obtain ⟨d0, d1, d2, d3, d4⟩ := HCC.out W2 HW.out
                       clear hw)
                    | (go_at_call 46
                       refine (HS.out _ (HW.out.trans ((drewN_below W2 _).mono HW.out.size))).mono ?_
                       rintro e W3 ⟨rfl, hw⟩
                       have HW3 := Lib.hid hw
                       clear hw)
                    | (go_at_call 46
                       refine (HS.out _ HW.out).mono ?_
                       rintro e W3 ⟨rfl, hw⟩
                       have HW3 := Lib.hid hw
                       clear hw))
                  all_goals
                    have HE : Hid (Below w.heap.size w W3) := HK.out.below.trans (HW3.out.mono HK.out.below.size)
                    clear HS HON HCC
                    go_wp2_with fail
                    go_ret
                    exact ⟨by rw [HX.out]; rfl, HE.out⟩
                · have HX : Hid (rr = false) := by
                    show _ = _
                    rw [HR.out]; simp [*]
                  go_wp2_with fail
                  go_ret
                  exact ⟨by rw [HX.out]; rfl, HK.out.below⟩
              · have HX : Hid (rr = false) := by
                  show _ = _
                  rw [HR.out]; simp [*]
                go_wp2_with fail
                go_ret
                exact ⟨by rw [HX.out]; rfl, HK.out.below⟩
            · have HX : Hid (rr = false) := by
                show _ = _
                rw [HR.out]; simp [*]
              go_wp2_with fail
              go_ret
              exact ⟨by rw [HX.out]; rfl, HK.out.below⟩
          · have HX : Hid (rr = false) := by
              show _ = _
              rw [HR.out]; simp [*]
            go_wp2_with fail
            go_ret
            exact ⟨by rw [HX.out]; rfl, HK.out.below⟩
        · have HX : Hid (rr = false) := by
            show _ = _
            rw [HR.out]; simp [*]
          go_wp2_with fail
          go_ret
          exact ⟨by rw [HX.out]; rfl, HK.out.below⟩
      · have HX : Hid (rr = false) := by
          show _ = _
          rw [HR.out]; simp [*]
        go_wp2_with fail
        go_ret
        exact ⟨by rw [HX.out]; rfl, HK.out.below⟩
    · have HX : Hid (rr = false) := by
        show _ = _
        rw [HR.out]; simp [*]
      go_wp2_with fail
      go_ret
      exact ⟨by rw [HX.out]; rfl, HK.out.below⟩
  · have HX : Hid (rr = false) := by
      show _ = _
      rw [HR.out]; simp [*]
    go_wp2_with fail
    go_ret
    exact ⟨by rw [HX.out]; rfl, HK.out.below⟩
end Go.Proofs.YtelaijogjgcloaaDoor
