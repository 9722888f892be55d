/- Records as bytes: Encode. Conditions: the record's numbers fit, its key and value lie in memory. -/
import Derived.Test.YtjmocjcjiiopnaaGreatLogScans07
import Derived.Test.YtjmocjcjiiopnaaGreatLogScans08
import Derived.Test.YtjmocjcjiiopnaaGreatLogScans06

section
set_option linter.unusedVariables false
set_option linter.unusedSimpArgs false
namespace Go.Oct
/-- A record's bytes. -/
def encB (r : Rc) (key val : List UInt8) : List UInt8 := [UInt8.ofNat r.k.toNat] ++ beB r.f 4 ++ beB r.e 4 ++ beB r.s 8 ++ beB key.length 2 ++ beB val.length 2 ++ key ++ val
def Rc.fits (r : Rc) : Prop := r.f ≤ 4294967295 ∧ r.e ≤ 4294967295 ∧ r.s ≤ 18446744073709551615
end Go.Oct
namespace Go.Ice
open Go.RowKit
/-- A new block as a row of one's own. -/
theorem St.toOwn {w0 : World} {B : Nat → Prop} {M S : List Asn} {w : World} {b : Nat} {cs : List Value} {e : TypeId} {size n : Nat} (h : St w0 B M S w) (i : Nat) (hi : M[i]? = some (blkA b cs e)) (hl : cs.length = n * size) (hm : n ≤ maxLen) : St w0 B (M.set i (ownA e size (.slice (some ⟨b, 0, none⟩) n n) n cs)) S w :=
  h.impAt i hi fun F hF => ⟨F, ⟨fun x => (hF.1 x).trans (by simp [Value.ownBlock, eq_comm]), hl, .inr ⟨b, n, cs.toArray, rfl, Nat.zero_le _, hF.2, Nat.le_refl _, hm, by simpa using hl, by rw [← hl]; simp⟩⟩, fun b h => h⟩
end Go.Ice
namespace Go.Proofs.YtjmocjcjiiopnaaGreat
open Go.RowKit Go.Ice Go.Oct
theorem put16m (v : Value) (l : List UInt8) (x m : Nat) (out : List UInt8) (hm : l.length + 2 = m) (ho : l ++ beB x 2 = out) (h1 : m ≤ 1000) (hx : x ≤ 65535) : Meets Tryz.prog 86 #[v, .int .u16 x] [] [bytA v l] fun u L => ∃ a c, u = .slice a m c ∧ L = [ownA 5 1 (.slice a m c) m (out.map u8v)] := by
  intro w B H
  refine (put16 w v l (H.bytes 0) (by omega) x hx).mono ?_
  rintro e w1 ⟨u, rfl, ho1, hb⟩
  subst hm ho
  obtain ⟨a, c, rfl, _⟩ := own_form ho1
  exact Back.mk ⟨a, c, rfl, rfl⟩ (H.newOwn hb ho1)
theorem put32m (v : Value) (l : List UInt8) (x m : Nat) (out : List UInt8) (hm : l.length + 4 = m) (ho : l ++ beB x 4 = out) (h1 : m ≤ 1000) (hx : x ≤ 4294967295) : Meets Tryz.prog 99 #[v, .int .u32 x] [] [bytA v l] fun u L => ∃ a c, u = .slice a m c ∧ L = [ownA 5 1 (.slice a m c) m (out.map u8v)] := by
  intro w B H
  refine (put32 w v l (H.bytes 0) (by omega) x hx).mono ?_
  rintro e w1 ⟨u, rfl, ho1, hb⟩
  subst hm ho
  obtain ⟨a, c, rfl, _⟩ := own_form ho1
  exact Back.mk ⟨a, c, rfl, rfl⟩ (H.newOwn hb ho1)
theorem put64m (v : Value) (l : List UInt8) (x m : Nat) (out : List UInt8) (hm : l.length + 8 = m) (ho : l ++ beB x 8 = out) (h1 : m ≤ 1000) (hx : x ≤ 18446744073709551615) : Meets Tryz.prog 100 #[v, .int .u64 x] [] [bytA v l] fun u L => ∃ a c, u = .slice a m c ∧ L = [ownA 5 1 (.slice a m c) m (out.map u8v)] := by
  intro w B H
  refine (put64 w v l (H.bytes 0) (by omega) x hx).mono ?_
  rintro e w1 ⟨u, rfl, ho1, hb⟩
  subst hm ho
  obtain ⟨a, c, rfl, _⟩ := own_form ho1
  exact Back.mk ⟨a, c, rfl, rfl⟩ (H.newOwn hb ho1)
/-- One's own bytes may be read. -/
theorem own_byt_imp {v : Value} {l : List UInt8} {n : Nat} (hn : n = l.length) : (ownA 5 1 v n (l.map u8v)).imp (bytA v l) := by subst hn; exact own_imp_byt v l
theorem share1 {S M : List Asn} {A A' : Asn} (h : A'.imp A) (hm : A' ∈ S ++ M) : ∀ X ∈ [A], ∃ A' ∈ S ++ M, A'.imp X := fun X hX => by rw [List.mem_singleton.1 hX]; exact ⟨A', hm, h⟩
theorem memHead {S M : List Asn} {A : Asn} : A ∈ S ++ A :: M := List.mem_append_right _ (List.Mem.head _)
/-- What Encode answers. -/
def encQ (r : Rc) (key val : List UInt8) (u : Value) (L : List Asn) : Prop :=
  if r.right key.length val.length then ∃ a c, u = .tuple #[.slice a (21 + key.length + val.length) c, .int .i64 0] ∧ L = [ownA 5 1 (.slice a (21 + key.length + val.length) c) (21 + key.length + val.length) ((encB r key val).map u8v)]
  else u = .tuple #[.slice none 0 0, .int .i64 160] ∧ L = []
set_option maxHeartbeats 16000000 in
set_option maxRecDepth 20000 in
theorem encode (r : Rc) (hr : r.fits) (x y : Option Addr) (key val : List UInt8) (c d : Nat) : Meets Tryz.prog 50 #[recV r (.slice x key.length c) (.slice y val.length d)] [] [bytA (.slice x key.length c) key, bytA (.slice y val.length d) val] fun u L => encQ r key val u L := by
  intro w B H
  have hkm : key.length ≤ maxLen := bytes_max (H.bytes 0)
  have hvm : val.length ≤ maxLen := bytes_max (H.bytes 1)
  have HC := check r x y key.length c val.length d hkm hvm
  have H1 := H.alloc [.int .i64 r.k, .int .u32 r.f, .int .u32 r.e, .int .u64 r.s, .slice x key.length c, .slice y val.length d] 62
  unfold recV encQ at *
  cases hq : r.right key.length val.length
  · rw [hq] at HC
    clear hq
    go_enter Tryz.func50, Tryz.ntmps50
    go_upto_region 1 with fail
    refine wp_world (fun W => St w B _ _ W) H1 ?_
    intro w1 H2
    obtain ⟨hc, hf⟩ := St.cells H2 0
    go_wp2_with fail
    refine (HC.call (L := []) (M := [_]) H2 (by simp)).mono ?_
    rintro e w3 ⟨v, L, rfl, ⟨rfl, rfl⟩, H4⟩
    go_wp2_with fail
    exact bodyPost_ret (results_tmp2 rfl _ _ _) rfl (Back.mk (L' := []) ⟨rfl, rfl⟩ (St.pick H4 []))
  · rw [hq] at HC
    have hR : (r.k = 1 ∨ r.k = 2) ∧ key.length ≤ 250 ∧ val.length ≤ 512 := by
      unfold Rc.right at hq
      have := of_decide_eq_true hq
      omega
    clear hq
    obtain ⟨k8, hk8⟩ : ∃ k8, k8 = UInt8.ofNat r.k.toNat := ⟨_, rfl⟩
    have HK8 : Hid (encB r key val = [k8] ++ beB r.f 4 ++ beB r.e 4 ++ beB r.s 8 ++ beB key.length 2 ++ beB val.length 2 ++ key ++ val) := Lib.hid (by rw [hk8]; rfl)
    have hkw : IntKind.u8.wrap r.k = (k8.toNat : Int) := by rw [hk8]; rcases hR.1 with h | h <;> rw [h] <;> rfl
    clear hk8
    obtain ⟨hf1, he1, hs1⟩ := hr
    obtain ⟨_, hkl, hvl⟩ := hR
    obtain ⟨B1, hB1⟩ : ∃ B1, [k8] ++ beB r.f 4 = B1 := ⟨_, rfl⟩
    obtain ⟨B2, hB2⟩ : ∃ B2, B1 ++ beB r.e 4 = B2 := ⟨_, rfl⟩
    obtain ⟨B3, hB3⟩ : ∃ B3, B2 ++ beB r.s 8 = B3 := ⟨_, rfl⟩
    obtain ⟨B4, hB4⟩ : ∃ B4, B3 ++ beB key.length 2 = B4 := ⟨_, rfl⟩
    obtain ⟨B5, hB5⟩ : ∃ B5, B4 ++ beB val.length 2 = B5 := ⟨_, rfl⟩
    have HE0 : Hid (encB r key val = B5 ++ key ++ val) := Lib.hid (by rw [HK8.out, hB1, hB2, hB3, hB4, hB5])
    have HL1 : Hid (B1.length = 5) := Lib.hid (by rw [← hB1]; simp [beB_len])
    have HL2 : Hid (B2.length = 9) := Lib.hid (by rw [← hB2, List.length_append, HL1.out, beB_len])
    have HL3 : Hid (B3.length = 17) := Lib.hid (by rw [← hB3, List.length_append, HL2.out, beB_len])
    have HL4 : Hid (B4.length = 19) := Lib.hid (by rw [← hB4, List.length_append, HL3.out, beB_len])
    have HL5 : Hid (B5.length = 21) := Lib.hid (by rw [← hB5, List.length_append, HL4.out, beB_len])
    have HB1 := Lib.hid hB1
    have HB2 := Lib.hid hB2
    have HB3 := Lib.hid hB3
    have HB4 := Lib.hid hB4
    have HB5 := Lib.hid hB5
    have hkw16 : IntKind.u16.wrap (key.length : Int) = (key.length : Int) := by simp [IntKind.wrap, IntKind.bits, IntKind.signed]; omega
    have hvw16 : IntKind.u16.wrap (val.length : Int) = (val.length : Int) := by simp [IntKind.wrap, IntKind.bits, IntKind.signed]; omega
    clear HK8 hB1 hB2 hB3 hB4 hB5
    go_enter Tryz.func50, Tryz.ntmps50
    go_upto_region 1 with fail
    refine wp_world (fun W => St w B _ _ W) H1 ?_
    intro w1 H2
    clear H1
    obtain ⟨rb, hrb⟩ : ∃ rb, rb = w.heap.size := ⟨_, rfl⟩
    rw [← hrb] at H2 ⊢
    have HRB := Lib.hid hrb
    clear hrb
    obtain ⟨hc, hf⟩ := St.cells H2 0
    go_wp2_with fail
    refine (HC.call (L := []) (M := [_]) H2 (by simp)).mono ?_
    rintro e w3 ⟨v, L, rfl, ⟨rfl, rfl⟩, H4⟩
    clear H2 hc hf
    go_upto_region 4 with fail
    simp only [List.nil_append] at H4
    refine wp_region_gh (Θ := Nat × Option Addr × Nat × Option Addr × Nat) (fun (lb, a1, c1, a2, c2) => [(0, 11, (.pointer (some ⟨rb, 0, none⟩))), (1, 12, (.int .i64 r.k)), (2, 13, (.int .u8 (k8.toNat : Int))), (3, 14, (.slice (some ⟨lb, 0, none⟩) 1 1)), (4, 15, (.pointer (some ⟨rb, 1, none⟩))), (5, 16, (.int .u32 r.f)), (6, 17, (.slice a1 5 c1)), (7, 18, (.pointer (some ⟨rb, 2, none⟩))), (8, 19, (.int .u32 r.e)), (9, 20, (.slice a2 9 c2)), (10, 5, (.slice a2 9 c2))]) (fun (lb, a1, c1, a2, c2) done WW => St w B (bif done 9 then [ownA 5 1 (.slice a2 9 c2) 9 (B2.map u8v), ownA 5 1 (.slice a1 5 c1) 5 (B1.map u8v), ownA 5 1 (.slice (some ⟨lb, 0, none⟩) 1 1) 1 ([k8].map u8v), blkA rb [.int .i64 r.k, .int .u32 r.f, .int .u32 r.e, .int .u64 r.s, .slice x key.length c, .slice y val.length d] 62] else (bif done 6 then [ownA 5 1 (.slice a1 5 c1) 5 (B1.map u8v), ownA 5 1 (.slice (some ⟨lb, 0, none⟩) 1 1) 1 ([k8].map u8v), blkA rb [.int .i64 r.k, .int .u32 r.f, .int .u32 r.e, .int .u64 r.s, .slice x key.length c, .slice y val.length d] 62] else (bif done 3 then [ownA 5 1 (.slice (some ⟨lb, 0, none⟩) 1 1) 1 ([k8].map u8v), blkA rb [.int .i64 r.k, .int .u32 r.f, .int .u32 r.e, .int .u64 r.s, .slice x key.length c, .slice y val.length d] 62] else ([blkA rb [.int .i64 r.k, .int .u32 r.f, .int .u32 r.e, .int .u64 r.s, .slice x key.length c, .slice y val.length d] 62])))) [bytA (.slice x key.length c) key, bytA (.slice y val.length d) val] WW) (by kernel_rfl) (hord_of2 (by kernel_rfl)) (fun _ => by kernel_rfl) (fun _ => by kernel_rfl) (fun _ => by kernel_rfl) ⟨(0, none, 0, none, 0), H4.drew⟩ ?_ ?_
    · intro (lb, a1, c1, a2, c2) done zb WW j oq ho hd hdep hcl HA HJ
      have hj : j < 11 := (Array.getElem?_eq_some_iff.1 ho).1
      obtain rfl | rfl | rfl | rfl | rfl | rfl | rfl | rfl | rfl | rfl | rfl : j = 0 ∨ j = 1 ∨ j = 2 ∨ j = 3 ∨ j = 4 ∨ j = 5 ∨ j = 6 ∨ j = 7 ∨ j = 8 ∨ j = 9 ∨ j = 10 := by omega
      · exact valG (θ := (lb, a1, c1, a2, c2)) (.pointer (some ⟨rb, 0, none⟩)) ho (by cases ho; rfl) (by cases ho; simp [execOp, go_sem, HA.tm, lookT]) (by cases ho; exact fun d hd => by cases hd; simp) HJ
      · have p0 : done 0 = true := by cases ho; exact hdep ⟨0, .data⟩ (by simp) rfl
        have n2 : done 2 = false := by cases hx : done 2 with | false => rfl | true => have := hcl 2 _ rfl hx ⟨1, .data⟩ (by simp) rfl; rw [hd] at this; cases this
        have n3 : done 3 = false := by cases hx : done 3 with | false => rfl | true => have := hcl 3 _ rfl hx ⟨2, .data⟩ (by simp) rfl; rw [n2] at this; cases this
        have n6 : done 6 = false := by cases hx : done 6 with | false => rfl | true => have := hcl 6 _ rfl hx ⟨3, .data⟩ (by simp) rfl; rw [n3] at this; cases this
        have n9 : done 9 = false := by cases hx : done 9 with | false => rfl | true => have := hcl 9 _ rfl hx ⟨6, .data⟩ (by simp) rfl; rw [n6] at this; cases this
        have hcl_ : ∀ k, WW.cell? ⟨rb, k, none⟩ = ([.int .i64 r.k, .int .u32 r.f, .int .u32 r.e, .int .u64 r.s, .slice x key.length c, .slice y val.length d])[k]? := by
          have HQ := HJ
          simp only [n3, n6, n9, hd, cond_true, cond_false] at HQ <;> first | exact (St.cells HQ 0).1 | exact (St.cells HQ 1).1 | exact (St.cells HQ 2).1 | exact (St.cells HQ 3).1 | exact (St.cells HQ 4).1 | exact (St.cells HQ 5).1 | exact (St.cells HQ 6).1 | exact (St.cells HQ 7).1
        exact valG (θ := (lb, a1, c1, a2, c2)) (.int .i64 r.k) ho (by cases ho; rfl) (by cases ho; simp [execOp, go_sem, HA.tm, lookT, p0, hcl_]) (by cases ho; exact fun d hd => by cases hd; simp) HJ
      · have p1 : done 1 = true := by cases ho; exact hdep ⟨1, .data⟩ (by simp) rfl
        exact valG (θ := (lb, a1, c1, a2, c2)) (.int .u8 (k8.toNat : Int)) ho (by cases ho; rfl) (by cases ho; simp [execOp, go_sem, HA.tm, lookT, p1, hkw]) (by cases ho; exact fun d hd => by cases hd; simp) HJ
      · have p2 : done 2 = true := by cases ho; exact hdep ⟨2, .data⟩ (by simp) rfl
        have n6 : done 6 = false := by cases hx : done 6 with | false => rfl | true => have := hcl 6 _ rfl hx ⟨3, .data⟩ (by simp) rfl; rw [hd] at this; cases this
        have n9 : done 9 = false := by cases hx : done 9 with | false => rfl | true => have := hcl 9 _ rfl hx ⟨6, .data⟩ (by simp) rfl; rw [n6] at this; cases this
        have n10 : done 10 = false := by cases hx : done 10 with | false => rfl | true => have := hcl 10 _ rfl hx ⟨9, .data⟩ (by simp) rfl; rw [n9] at this; cases this
        have HS : St w B [blkA rb [.int .i64 r.k, .int .u32 r.f, .int .u32 r.e, .int .u64 r.s, .slice x key.length c, .slice y val.length d] 62] [bytA (.slice x key.length c) key, bytA (.slice y val.length d) val] WW := St.cast (by simp only [n6, n9, hd, cond_true, cond_false]) HJ
        exact buildSliceG (θ := (lb, a1, c1, a2, c2)) (WW.heap.size, a1, c1, a2, c2) (vals := #[(0, (.int .u8 (k8.toNat : Int)))]) _ _ _ ho (by cases ho; rfl) (by cases ho; rfl) (by simp [HA.ev, HA.tm, lookT, Act.eval, p2]) (elemByte.lit [u8v k8] (fun v hv => by rw [List.mem_singleton.1 hv]; rfl) (by simp) (by simp) WW _ rfl) (by cases ho; exact fun d hd => by cases hd; simp) (.inr (.cons (.inl rfl) (.cons (.inl rfl) (.cons (.inl rfl) (.cons (.inr ⟨rfl, hd⟩) (.cons (.inl rfl) (.cons (.inl rfl) (.cons (.inr ⟨rfl, n6⟩) (.cons (.inl rfl) (.cons (.inl rfl) (.cons (.inr ⟨rfl, n9⟩) (.cons (.inr ⟨rfl, n10⟩) (.nil))))))))))))) (St.cast (by simp [n6, n9, n6, n9] <;> rfl) ((HS.alloc _ _).toOwn 0 (n := 1) (size := 1) rfl rfl (by decide)))
      · exact valG (θ := (lb, a1, c1, a2, c2)) (.pointer (some ⟨rb, 1, none⟩)) ho (by cases ho; rfl) (by cases ho; simp [execOp, go_sem, HA.tm, lookT]) (by cases ho; exact fun d hd => by cases hd; simp) HJ
      · have p4 : done 4 = true := by cases ho; exact hdep ⟨4, .data⟩ (by simp) rfl
        have n6 : done 6 = false := by cases hx : done 6 with | false => rfl | true => have := hcl 6 _ rfl hx ⟨5, .data⟩ (by simp) rfl; rw [hd] at this; cases this
        have n9 : done 9 = false := by cases hx : done 9 with | false => rfl | true => have := hcl 9 _ rfl hx ⟨6, .data⟩ (by simp) rfl; rw [n6] at this; cases this
        have hcl_ : ∀ k, WW.cell? ⟨rb, k, none⟩ = ([.int .i64 r.k, .int .u32 r.f, .int .u32 r.e, .int .u64 r.s, .slice x key.length c, .slice y val.length d])[k]? := by
          have HQ := HJ
          cases g3 : done 3 <;> simp only [n6, n9, g3, hd, cond_true, cond_false] at HQ <;> first | exact (St.cells HQ 0).1 | exact (St.cells HQ 1).1 | exact (St.cells HQ 2).1 | exact (St.cells HQ 3).1 | exact (St.cells HQ 4).1 | exact (St.cells HQ 5).1 | exact (St.cells HQ 6).1 | exact (St.cells HQ 7).1
        exact valG (θ := (lb, a1, c1, a2, c2)) (.int .u32 r.f) ho (by cases ho; rfl) (by cases ho; simp [execOp, go_sem, HA.tm, lookT, p4, hcl_]) (by cases ho; exact fun d hd => by cases hd; simp) HJ
      · have p3 : done 3 = true := by cases ho; exact hdep ⟨3, .data⟩ (by simp) rfl
        have p5 : done 5 = true := by cases ho; exact hdep ⟨5, .data⟩ (by simp) rfl
        have n9 : done 9 = false := by cases hx : done 9 with | false => rfl | true => have := hcl 9 _ rfl hx ⟨6, .data⟩ (by simp) rfl; rw [hd] at this; cases this
        have n10 : done 10 = false := by cases hx : done 10 with | false => rfl | true => have := hcl 10 _ rfl hx ⟨9, .data⟩ (by simp) rfl; rw [n9] at this; cases this
        have HS : St w B [ownA 5 1 (.slice (some ⟨lb, 0, none⟩) 1 1) 1 ([k8].map u8v), blkA rb [.int .i64 r.k, .int .u32 r.f, .int .u32 r.e, .int .u64 r.s, .slice x key.length c, .slice y val.length d] 62] [bytA (.slice x key.length c) key, bytA (.slice y val.length d) val] WW := St.cast (by simp only [p3, n9, hd, cond_true, cond_false]) HJ
        exact callG (θ := (lb, a1, c1, a2, c2)) (f := 99) (args := #[(.slice (some ⟨lb, 0, none⟩) 1 1), .int .u32 r.f]) ho (by cases ho; rfl) (by cases ho; simp [execOp, go_sem, HA.tm, lookT, p3, p5]) ((put32m (.slice (some ⟨lb, 0, none⟩) 1 1) [k8] r.f 5 B1 rfl HB1.out (by decide) hf1).call (L := []) HS (share1 (own_byt_imp rfl) memHead)) (by
          rintro e w' ⟨_, _, rfl, ⟨a', c', rfl, rfl⟩, HS'⟩
          exact ⟨_, (lb, a', c', a2, c2), rfl, by cases ho; exact fun d hd => by cases hd; simp, (.inr (.cons (.inl rfl) (.cons (.inl rfl) (.cons (.inl rfl) (.cons (.inl rfl) (.cons (.inl rfl) (.cons (.inl rfl) (.cons (.inr ⟨rfl, hd⟩) (.cons (.inl rfl) (.cons (.inl rfl) (.cons (.inr ⟨rfl, n9⟩) (.cons (.inr ⟨rfl, n10⟩) (.nil))))))))))))), (St.cast (by simp [p3, n9, n9] <;> rfl) HS')⟩)
      · exact valG (θ := (lb, a1, c1, a2, c2)) (.pointer (some ⟨rb, 2, none⟩)) ho (by cases ho; rfl) (by cases ho; simp [execOp, go_sem, HA.tm, lookT]) (by cases ho; exact fun d hd => by cases hd; simp) HJ
      · have p7 : done 7 = true := by cases ho; exact hdep ⟨7, .data⟩ (by simp) rfl
        have n9 : done 9 = false := by cases hx : done 9 with | false => rfl | true => have := hcl 9 _ rfl hx ⟨8, .data⟩ (by simp) rfl; rw [hd] at this; cases this
        have hcl_ : ∀ k, WW.cell? ⟨rb, k, none⟩ = ([.int .i64 r.k, .int .u32 r.f, .int .u32 r.e, .int .u64 r.s, .slice x key.length c, .slice y val.length d])[k]? := by
          have HQ := HJ
          cases g3 : done 3 <;> cases g6 : done 6 <;> simp only [n9, g3, g6, hd, cond_true, cond_false] at HQ <;> first | exact (St.cells HQ 0).1 | exact (St.cells HQ 1).1 | exact (St.cells HQ 2).1 | exact (St.cells HQ 3).1 | exact (St.cells HQ 4).1 | exact (St.cells HQ 5).1 | exact (St.cells HQ 6).1 | exact (St.cells HQ 7).1
        exact valG (θ := (lb, a1, c1, a2, c2)) (.int .u32 r.e) ho (by cases ho; rfl) (by cases ho; simp [execOp, go_sem, HA.tm, lookT, p7, hcl_]) (by cases ho; exact fun d hd => by cases hd; simp) HJ
      · have p6 : done 6 = true := by cases ho; exact hdep ⟨6, .data⟩ (by simp) rfl
        have p8 : done 8 = true := by cases ho; exact hdep ⟨8, .data⟩ (by simp) rfl
        have p3 : done 3 = true := hcl 6 _ rfl p6 ⟨3, .data⟩ (by simp) rfl
        have n10 : done 10 = false := by cases hx : done 10 with | false => rfl | true => have := hcl 10 _ rfl hx ⟨9, .data⟩ (by simp) rfl; rw [hd] at this; cases this
        have HS : St w B [ownA 5 1 (.slice a1 5 c1) 5 (B1.map u8v), ownA 5 1 (.slice (some ⟨lb, 0, none⟩) 1 1) 1 ([k8].map u8v), blkA rb [.int .i64 r.k, .int .u32 r.f, .int .u32 r.e, .int .u64 r.s, .slice x key.length c, .slice y val.length d] 62] [bytA (.slice x key.length c) key, bytA (.slice y val.length d) val] WW := St.cast (by simp only [p3, p6, hd, cond_true, cond_false]) HJ
        exact callG (θ := (lb, a1, c1, a2, c2)) (f := 99) (args := #[(.slice a1 5 c1), .int .u32 r.e]) ho (by cases ho; rfl) (by cases ho; simp [execOp, go_sem, HA.tm, lookT, p3, p6, p8]) ((put32m (.slice a1 5 c1) B1 r.e 9 B2 (by rw [HL1.out]) HB2.out (by decide) he1).call (L := []) HS (share1 (own_byt_imp HL1.out.symm) memHead)) (by
          rintro e w' ⟨_, _, rfl, ⟨a', c', rfl, rfl⟩, HS'⟩
          exact ⟨_, (lb, a1, c1, a', c'), rfl, by cases ho; exact fun d hd => by cases hd; simp, (.inr (.cons (.inl rfl) (.cons (.inl rfl) (.cons (.inl rfl) (.cons (.inl rfl) (.cons (.inl rfl) (.cons (.inl rfl) (.cons (.inl rfl) (.cons (.inl rfl) (.cons (.inl rfl) (.cons (.inr ⟨rfl, hd⟩) (.cons (.inr ⟨rfl, n10⟩) (.nil))))))))))))), (St.cast (by simp [p3, p6] <;> rfl) HS')⟩)
      · have p9 : done 9 = true := by cases ho; exact hdep ⟨9, .data⟩ (by simp) rfl
        exact valG (θ := (lb, a1, c1, a2, c2)) (.slice a2 9 c2) ho (by cases ho; rfl) (by cases ho; simp [execOp, go_sem, HA.tm, lookT, p9]) (by cases ho; exact fun d hd => by cases hd; simp) HJ
    · intro (lb, a1, c1, a2, c2) done WW hall HJ
      have z3 := hall 3 (by decide)
      have z6 := hall 6 (by decide)
      have z9 := hall 9 (by decide)
      have HE : St w B [ownA 5 1 (.slice a2 9 c2) 9 (B2.map u8v), ownA 5 1 (.slice a1 5 c1) 5 (B1.map u8v), ownA 5 1 (.slice (some ⟨lb, 0, none⟩) 1 1) 1 ([k8].map u8v), blkA rb [.int .i64 r.k, .int .u32 r.f, .int .u32 r.e, .int .u64 r.s, .slice x key.length c, .slice y val.length d] 62] [bytA (.slice x key.length c) key, bytA (.slice y val.length d) val] WW := St.cast (by simp [z3, z6, z9]) HJ
      clear HJ hall z3 z6 z9
      simp only [putAll, Act.put, List.setIfInBounds_toArray, List.set_cons_succ, List.set_cons_zero]
      clear H4
      have H5 := St.pick HE [0, 3]
      clear HE
      obtain ⟨hc, hf⟩ := St.cells H5 1
      go_wp2_with fail
      refine ((put64m (.slice a2 9 c2) B2 r.s 17 B3 (by rw [HL2.out]) HB3.out (by decide) hs1).call (L := []) H5 (share1 (own_byt_imp HL2.out.symm) memHead)).mono ?_
      rintro e w6 ⟨_, _, rfl, ⟨a3, c3, rfl, rfl⟩, H6⟩
      clear H5 hc hf
      have H5 := St.pick H6 [0, 2]
      clear H6
      go_upto_region 6 with fail
      refine wp_region_gh (Θ := Option Addr × Nat × Option Addr × Nat) (fun (a4, c4, a5, c5) => [(0, 25, (.slice a3 17 c3)), (1, 26, (.pointer (some ⟨rb, 4, none⟩))), (2, 27, (.slice x key.length c)), (3, 28, (.int .i64 key.length)), (4, 29, (.int .u16 (key.length : Int))), (5, 30, (.slice a4 19 c4)), (6, 31, (.pointer (some ⟨rb, 5, none⟩))), (7, 32, (.slice y val.length d)), (8, 33, (.int .i64 val.length)), (9, 34, (.int .u16 (val.length : Int))), (10, 35, (.slice a5 21 c5)), (11, 5, (.slice a5 21 c5))]) (fun (a4, c4, a5, c5) done WW => St w B (bif done 10 then [ownA 5 1 (.slice a5 21 c5) 21 (B5.map u8v), ownA 5 1 (.slice a4 19 c4) 19 (B4.map u8v), ownA 5 1 (.slice a3 17 c3) 17 (B3.map u8v), blkA rb [.int .i64 r.k, .int .u32 r.f, .int .u32 r.e, .int .u64 r.s, .slice x key.length c, .slice y val.length d] 62] else (bif done 5 then [ownA 5 1 (.slice a4 19 c4) 19 (B4.map u8v), ownA 5 1 (.slice a3 17 c3) 17 (B3.map u8v), blkA rb [.int .i64 r.k, .int .u32 r.f, .int .u32 r.e, .int .u64 r.s, .slice x key.length c, .slice y val.length d] 62] else ([ownA 5 1 (.slice a3 17 c3) 17 (B3.map u8v), blkA rb [.int .i64 r.k, .int .u32 r.f, .int .u32 r.e, .int .u64 r.s, .slice x key.length c, .slice y val.length d] 62]))) [bytA (.slice x key.length c) key, bytA (.slice y val.length d) val] WW) (by kernel_rfl) (hord_of2 (by kernel_rfl)) (fun _ => by kernel_rfl) (fun _ => by kernel_rfl) (fun _ => by kernel_rfl) ⟨(none, 0, none, 0), H5.drew⟩ ?_ ?_
      · intro (a4, c4, a5, c5) done zb WW j oq ho hd hdep hcl HA HJ
        have hj : j < 12 := (Array.getElem?_eq_some_iff.1 ho).1
        obtain rfl | rfl | rfl | rfl | rfl | rfl | rfl | rfl | rfl | rfl | rfl | rfl : j = 0 ∨ j = 1 ∨ j = 2 ∨ j = 3 ∨ j = 4 ∨ j = 5 ∨ j = 6 ∨ j = 7 ∨ j = 8 ∨ j = 9 ∨ j = 10 ∨ j = 11 := by omega
        · have n5 : done 5 = false := by cases hx : done 5 with | false => rfl | true => have := hcl 5 _ rfl hx ⟨0, .data⟩ (by simp) rfl; rw [hd] at this; cases this
          have n10 : done 10 = false := by cases hx : done 10 with | false => rfl | true => have := hcl 10 _ rfl hx ⟨5, .data⟩ (by simp) rfl; rw [n5] at this; cases this
          have n11 : done 11 = false := by cases hx : done 11 with | false => rfl | true => have := hcl 11 _ rfl hx ⟨10, .data⟩ (by simp) rfl; rw [n10] at this; cases this
          exact valG (θ := (a4, c4, a5, c5)) (.slice a3 17 c3) ho (by cases ho; rfl) (by cases ho; simp [execOp, go_sem, HA.tm, lookT, n11, n11]) (by cases ho; exact fun d hd => by cases hd; simp) HJ
        · exact valG (θ := (a4, c4, a5, c5)) (.pointer (some ⟨rb, 4, none⟩)) ho (by cases ho; rfl) (by cases ho; simp [execOp, go_sem, HA.tm, lookT]) (by cases ho; exact fun d hd => by cases hd; simp) HJ
        · have p1 : done 1 = true := by cases ho; exact hdep ⟨1, .data⟩ (by simp) rfl
          have n3 : done 3 = false := by cases hx : done 3 with | false => rfl | true => have := hcl 3 _ rfl hx ⟨2, .data⟩ (by simp) rfl; rw [hd] at this; cases this
          have n4 : done 4 = false := by cases hx : done 4 with | false => rfl | true => have := hcl 4 _ rfl hx ⟨3, .data⟩ (by simp) rfl; rw [n3] at this; cases this
          have n5 : done 5 = false := by cases hx : done 5 with | false => rfl | true => have := hcl 5 _ rfl hx ⟨4, .data⟩ (by simp) rfl; rw [n4] at this; cases this
          have n10 : done 10 = false := by cases hx : done 10 with | false => rfl | true => have := hcl 10 _ rfl hx ⟨5, .data⟩ (by simp) rfl; rw [n5] at this; cases this
          have hcl_ : ∀ k, WW.cell? ⟨rb, k, none⟩ = ([.int .i64 r.k, .int .u32 r.f, .int .u32 r.e, .int .u64 r.s, .slice x key.length c, .slice y val.length d])[k]? := by
            have HQ := HJ
            simp only [n5, n10, hd, cond_true, cond_false] at HQ <;> first | exact (St.cells HQ 0).1 | exact (St.cells HQ 1).1 | exact (St.cells HQ 2).1 | exact (St.cells HQ 3).1 | exact (St.cells HQ 4).1 | exact (St.cells HQ 5).1 | exact (St.cells HQ 6).1 | exact (St.cells HQ 7).1
          exact valG (θ := (a4, c4, a5, c5)) (.slice x key.length c) ho (by cases ho; rfl) (by cases ho; simp [execOp, go_sem, HA.tm, lookT, p1, hcl_]) (by cases ho; exact fun d hd => by cases hd; simp) HJ
        · have p2 : done 2 = true := by cases ho; exact hdep ⟨2, .data⟩ (by simp) rfl
          exact valG (θ := (a4, c4, a5, c5)) (.int .i64 key.length) ho (by cases ho; rfl) (by cases ho; simp [execOp, go_sem, HA.tm, lookT, p2]) (by cases ho; exact fun d hd => by cases hd; simp) HJ
        · have p3 : done 3 = true := by cases ho; exact hdep ⟨3, .data⟩ (by simp) rfl
          exact valG (θ := (a4, c4, a5, c5)) (.int .u16 (key.length : Int)) ho (by cases ho; rfl) (by cases ho; simp [execOp, go_sem, HA.tm, lookT, p3, hkw16]) (by cases ho; exact fun d hd => by cases hd; simp) HJ
        · have p0 : done 0 = true := by cases ho; exact hdep ⟨0, .data⟩ (by simp) rfl
          have p4 : done 4 = true := by cases ho; exact hdep ⟨4, .data⟩ (by simp) rfl
          have n10 : done 10 = false := by cases hx : done 10 with | false => rfl | true => have := hcl 10 _ rfl hx ⟨5, .data⟩ (by simp) rfl; rw [hd] at this; cases this
          have n11 : done 11 = false := by cases hx : done 11 with | false => rfl | true => have := hcl 11 _ rfl hx ⟨10, .data⟩ (by simp) rfl; rw [n10] at this; cases this
          have HS : St w B [ownA 5 1 (.slice a3 17 c3) 17 (B3.map u8v), blkA rb [.int .i64 r.k, .int .u32 r.f, .int .u32 r.e, .int .u64 r.s, .slice x key.length c, .slice y val.length d] 62] [bytA (.slice x key.length c) key, bytA (.slice y val.length d) val] WW := St.cast (by simp only [n10, hd, cond_true, cond_false]) HJ
          exact callG (θ := (a4, c4, a5, c5)) (f := 86) (args := #[(.slice a3 17 c3), .int .u16 (key.length : Int)]) ho (by cases ho; rfl) (by cases ho; simp [execOp, go_sem, HA.tm, lookT, p0, p4]) ((put16m (.slice a3 17 c3) B3 key.length 19 B4 (by rw [HL3.out]) HB4.out (by decide) (by omega)).call (L := []) HS (share1 (own_byt_imp HL3.out.symm) memHead)) (by
            rintro e w' ⟨_, _, rfl, ⟨a', c', rfl, rfl⟩, HS'⟩
            exact ⟨_, (a', c', a5, c5), rfl, by cases ho; exact fun d hd => by cases hd; simp, (.inr (.cons (.inl rfl) (.cons (.inl rfl) (.cons (.inl rfl) (.cons (.inl rfl) (.cons (.inl rfl) (.cons (.inr ⟨rfl, hd⟩) (.cons (.inl rfl) (.cons (.inl rfl) (.cons (.inl rfl) (.cons (.inl rfl) (.cons (.inr ⟨rfl, n10⟩) (.cons (.inr ⟨rfl, n11⟩) (.nil)))))))))))))), (St.cast (by simp [n10, n10] <;> rfl) HS')⟩)
        · exact valG (θ := (a4, c4, a5, c5)) (.pointer (some ⟨rb, 5, none⟩)) ho (by cases ho; rfl) (by cases ho; simp [execOp, go_sem, HA.tm, lookT]) (by cases ho; exact fun d hd => by cases hd; simp) HJ
        · have p6 : done 6 = true := by cases ho; exact hdep ⟨6, .data⟩ (by simp) rfl
          have n8 : done 8 = false := by cases hx : done 8 with | false => rfl | true => have := hcl 8 _ rfl hx ⟨7, .data⟩ (by simp) rfl; rw [hd] at this; cases this
          have n9 : done 9 = false := by cases hx : done 9 with | false => rfl | true => have := hcl 9 _ rfl hx ⟨8, .data⟩ (by simp) rfl; rw [n8] at this; cases this
          have n10 : done 10 = false := by cases hx : done 10 with | false => rfl | true => have := hcl 10 _ rfl hx ⟨9, .data⟩ (by simp) rfl; rw [n9] at this; cases this
          have hcl_ : ∀ k, WW.cell? ⟨rb, k, none⟩ = ([.int .i64 r.k, .int .u32 r.f, .int .u32 r.e, .int .u64 r.s, .slice x key.length c, .slice y val.length d])[k]? := by
            have HQ := HJ
            cases g5 : done 5 <;> simp only [n10, g5, hd, cond_true, cond_false] at HQ <;> first | exact (St.cells HQ 0).1 | exact (St.cells HQ 1).1 | exact (St.cells HQ 2).1 | exact (St.cells HQ 3).1 | exact (St.cells HQ 4).1 | exact (St.cells HQ 5).1 | exact (St.cells HQ 6).1 | exact (St.cells HQ 7).1
          exact valG (θ := (a4, c4, a5, c5)) (.slice y val.length d) ho (by cases ho; rfl) (by cases ho; simp [execOp, go_sem, HA.tm, lookT, p6, hcl_]) (by cases ho; exact fun d hd => by cases hd; simp) HJ
        · have p7 : done 7 = true := by cases ho; exact hdep ⟨7, .data⟩ (by simp) rfl
          exact valG (θ := (a4, c4, a5, c5)) (.int .i64 val.length) ho (by cases ho; rfl) (by cases ho; simp [execOp, go_sem, HA.tm, lookT, p7]) (by cases ho; exact fun d hd => by cases hd; simp) HJ
        · have p8 : done 8 = true := by cases ho; exact hdep ⟨8, .data⟩ (by simp) rfl
          exact valG (θ := (a4, c4, a5, c5)) (.int .u16 (val.length : Int)) ho (by cases ho; rfl) (by cases ho; simp [execOp, go_sem, HA.tm, lookT, p8, hvw16]) (by cases ho; exact fun d hd => by cases hd; simp) HJ
        · have p5 : done 5 = true := by cases ho; exact hdep ⟨5, .data⟩ (by simp) rfl
          have p9 : done 9 = true := by cases ho; exact hdep ⟨9, .data⟩ (by simp) rfl
          have n11 : done 11 = false := by cases hx : done 11 with | false => rfl | true => have := hcl 11 _ rfl hx ⟨10, .data⟩ (by simp) rfl; rw [hd] at this; cases this
          have HS : St w B [ownA 5 1 (.slice a4 19 c4) 19 (B4.map u8v), ownA 5 1 (.slice a3 17 c3) 17 (B3.map u8v), blkA rb [.int .i64 r.k, .int .u32 r.f, .int .u32 r.e, .int .u64 r.s, .slice x key.length c, .slice y val.length d] 62] [bytA (.slice x key.length c) key, bytA (.slice y val.length d) val] WW := St.cast (by simp only [p5, hd, cond_true, cond_false]) HJ
          exact callG (θ := (a4, c4, a5, c5)) (f := 86) (args := #[(.slice a4 19 c4), .int .u16 (val.length : Int)]) ho (by cases ho; rfl) (by cases ho; simp [execOp, go_sem, HA.tm, lookT, p5, p9]) ((put16m (.slice a4 19 c4) B4 val.length 21 B5 (by rw [HL4.out]) HB5.out (by decide) (by omega)).call (L := []) HS (share1 (own_byt_imp HL4.out.symm) memHead)) (by
            rintro e w' ⟨_, _, rfl, ⟨a', c', rfl, rfl⟩, HS'⟩
            exact ⟨_, (a4, c4, a', c'), rfl, by cases ho; exact fun d hd => by cases hd; simp, (.inr (.cons (.inl rfl) (.cons (.inl rfl) (.cons (.inl rfl) (.cons (.inl rfl) (.cons (.inl rfl) (.cons (.inl rfl) (.cons (.inl rfl) (.cons (.inl rfl) (.cons (.inl rfl) (.cons (.inl rfl) (.cons (.inr ⟨rfl, hd⟩) (.cons (.inr ⟨rfl, n11⟩) (.nil)))))))))))))), (St.cast (by simp [p5] <;> rfl) HS')⟩)
        · have p10 : done 10 = true := by cases ho; exact hdep ⟨10, .data⟩ (by simp) rfl
          exact valG (θ := (a4, c4, a5, c5)) (.slice a5 21 c5) ho (by cases ho; rfl) (by cases ho; simp [execOp, go_sem, HA.tm, lookT, p10]) (by cases ho; exact fun d hd => by cases hd; simp) HJ
      · intro (a4, c4, a5, c5) done WW hall HJ
        have z5 := hall 5 (by decide)
        have z10 := hall 10 (by decide)
        have HE : St w B [ownA 5 1 (.slice a5 21 c5) 21 (B5.map u8v), ownA 5 1 (.slice a4 19 c4) 19 (B4.map u8v), ownA 5 1 (.slice a3 17 c3) 17 (B3.map u8v), blkA rb [.int .i64 r.k, .int .u32 r.f, .int .u32 r.e, .int .u64 r.s, .slice x key.length c, .slice y val.length d] 62] [bytA (.slice x key.length c) key, bytA (.slice y val.length d) val] WW := St.cast (by simp [z5, z10]) HJ
        clear HJ hall z5 z10
        simp only [putAll, Act.put, List.setIfInBounds_toArray, List.set_cons_succ, List.set_cons_zero]
        clear H5
        have H6 := St.pick HE [0, 3]
        clear HE
        go_upto_region 7 with fail
        refine wp_region_gh (Θ := Option Addr × Nat × Option Addr × Nat) (fun (a6, c6, a7, c7) => [(0, 36, (.slice a5 21 c5)), (1, 37, (.pointer (some ⟨rb, 4, none⟩))), (2, 38, (.slice x key.length c)), (3, 39, (.slice a6 (21 + key.length) c6)), (4, 40, (.pointer (some ⟨rb, 5, none⟩))), (5, 41, (.slice y val.length d)), (6, 42, (.slice a7 (21 + key.length + val.length) c7)), (7, 2, (.slice a7 (21 + key.length + val.length) c7)), (8, 3, (.int .i64 0))]) (fun (a6, c6, a7, c7) done WW => St w B (bif done 6 then [ownA 5 1 (.slice a7 (21 + key.length + val.length) c7) (21 + key.length + val.length) ((B5 ++ key ++ val).map u8v), blkA rb [.int .i64 r.k, .int .u32 r.f, .int .u32 r.e, .int .u64 r.s, .slice x key.length c, .slice y val.length d] 62] else (bif done 3 then [ownA 5 1 (.slice a6 (21 + key.length) c6) (21 + key.length) ((B5 ++ key).map u8v), blkA rb [.int .i64 r.k, .int .u32 r.f, .int .u32 r.e, .int .u64 r.s, .slice x key.length c, .slice y val.length d] 62] else ([ownA 5 1 (.slice a5 21 c5) 21 (B5.map u8v), blkA rb [.int .i64 r.k, .int .u32 r.f, .int .u32 r.e, .int .u64 r.s, .slice x key.length c, .slice y val.length d] 62]))) [bytA (.slice x key.length c) key, bytA (.slice y val.length d) val] WW) (by kernel_rfl) (hord_of2 (by kernel_rfl)) (fun _ => by kernel_rfl) (fun _ => by kernel_rfl) (fun _ => by kernel_rfl) ⟨(none, 0, none, 0), H6.drew⟩ ?_ ?_
        · intro (a6, c6, a7, c7) done zb WW j oq ho hd hdep hcl HA HJ
          have hj : j < 9 := (Array.getElem?_eq_some_iff.1 ho).1
          obtain rfl | rfl | rfl | rfl | rfl | rfl | rfl | rfl | rfl : j = 0 ∨ j = 1 ∨ j = 2 ∨ j = 3 ∨ j = 4 ∨ j = 5 ∨ j = 6 ∨ j = 7 ∨ j = 8 := by omega
          · exact valG (θ := (a6, c6, a7, c7)) (.slice a5 21 c5) ho (by cases ho; rfl) (by cases ho; simp [execOp, go_sem, HA.tm, lookT]) (by cases ho; exact fun d hd => by cases hd; simp) HJ
          · exact valG (θ := (a6, c6, a7, c7)) (.pointer (some ⟨rb, 4, none⟩)) ho (by cases ho; rfl) (by cases ho; simp [execOp, go_sem, HA.tm, lookT]) (by cases ho; exact fun d hd => by cases hd; simp) HJ
          · have p1 : done 1 = true := by cases ho; exact hdep ⟨1, .data⟩ (by simp) rfl
            have n3 : done 3 = false := by cases hx : done 3 with | false => rfl | true => have := hcl 3 _ rfl hx ⟨2, .data⟩ (by simp) rfl; rw [hd] at this; cases this
            have n6 : done 6 = false := by cases hx : done 6 with | false => rfl | true => have := hcl 6 _ rfl hx ⟨3, .data⟩ (by simp) rfl; rw [n3] at this; cases this
            have hcl_ : ∀ k, WW.cell? ⟨rb, k, none⟩ = ([.int .i64 r.k, .int .u32 r.f, .int .u32 r.e, .int .u64 r.s, .slice x key.length c, .slice y val.length d])[k]? := by
              have HQ := HJ
              simp only [n3, n6, hd, cond_true, cond_false] at HQ <;> first | exact (St.cells HQ 0).1 | exact (St.cells HQ 1).1 | exact (St.cells HQ 2).1 | exact (St.cells HQ 3).1 | exact (St.cells HQ 4).1 | exact (St.cells HQ 5).1 | exact (St.cells HQ 6).1 | exact (St.cells HQ 7).1
            exact valG (θ := (a6, c6, a7, c7)) (.slice x key.length c) ho (by cases ho; rfl) (by cases ho; simp [execOp, go_sem, HA.tm, lookT, p1, hcl_]) (by cases ho; exact fun d hd => by cases hd; simp) HJ
          · have p0 : done 0 = true := by cases ho; exact hdep ⟨0, .data⟩ (by simp) rfl
            have p2 : done 2 = true := by cases ho; exact hdep ⟨2, .data⟩ (by simp) rfl
            have n6 : done 6 = false := by cases hx : done 6 with | false => rfl | true => have := hcl 6 _ rfl hx ⟨3, .data⟩ (by simp) rfl; rw [hd] at this; cases this
            have n7 : done 7 = false := by cases hx : done 7 with | false => rfl | true => have := hcl 7 _ rfl hx ⟨6, .data⟩ (by simp) rfl; rw [n6] at this; cases this
            have HS : St w B [ownA 5 1 (.slice a5 21 c5) 21 (B5.map u8v), blkA rb [.int .i64 r.k, .int .u32 r.f, .int .u32 r.e, .int .u64 r.s, .slice x key.length c, .slice y val.length d] 62] [bytA (.slice x key.length c) key, bytA (.slice y val.length d) val] WW := St.cast (by simp only [n6, hd, cond_true, cond_false]) HJ
            obtain ⟨a', c', w', hr, HS'⟩ := St.appB elemByte HS 0 rfl (HS.bytes 0) ((by decide)) ((by omega))
            exact appG (θ := (a6, c6, a7, c7)) (v := (.slice a5 21 c5)) (vx := (.slice x key.length c)) (a', c', a7, c7) (.tmp 36) (.tmp 38) _ ho (by cases ho; rfl) (by cases ho; rfl) (by simp [HA.ev, HA.tm, lookT, Act.eval, p0, p2]) (by simp [HA.ev, HA.tm, lookT, Act.eval, p0, p2]) hr (by cases ho; exact fun d hd => by cases hd; simp) (.inr (.cons (.inl rfl) (.cons (.inl rfl) (.cons (.inl rfl) (.cons (.inr ⟨rfl, hd⟩) (.cons (.inl rfl) (.cons (.inl rfl) (.cons (.inr ⟨rfl, n6⟩) (.cons (.inr ⟨rfl, n7⟩) (.cons (.inl rfl) (.nil))))))))))) (St.cast (by simp [n6, n6] <;> rfl) HS')
          · exact valG (θ := (a6, c6, a7, c7)) (.pointer (some ⟨rb, 5, none⟩)) ho (by cases ho; rfl) (by cases ho; simp [execOp, go_sem, HA.tm, lookT]) (by cases ho; exact fun d hd => by cases hd; simp) HJ
          · have p4 : done 4 = true := by cases ho; exact hdep ⟨4, .data⟩ (by simp) rfl
            have n6 : done 6 = false := by cases hx : done 6 with | false => rfl | true => have := hcl 6 _ rfl hx ⟨5, .data⟩ (by simp) rfl; rw [hd] at this; cases this
            have hcl_ : ∀ k, WW.cell? ⟨rb, k, none⟩ = ([.int .i64 r.k, .int .u32 r.f, .int .u32 r.e, .int .u64 r.s, .slice x key.length c, .slice y val.length d])[k]? := by
              have HQ := HJ
              cases g3 : done 3 <;> simp only [n6, g3, hd, cond_true, cond_false] at HQ <;> first | exact (St.cells HQ 0).1 | exact (St.cells HQ 1).1 | exact (St.cells HQ 2).1 | exact (St.cells HQ 3).1 | exact (St.cells HQ 4).1 | exact (St.cells HQ 5).1 | exact (St.cells HQ 6).1 | exact (St.cells HQ 7).1
            exact valG (θ := (a6, c6, a7, c7)) (.slice y val.length d) ho (by cases ho; rfl) (by cases ho; simp [execOp, go_sem, HA.tm, lookT, p4, hcl_]) (by cases ho; exact fun d hd => by cases hd; simp) HJ
          · have p3 : done 3 = true := by cases ho; exact hdep ⟨3, .data⟩ (by simp) rfl
            have p5 : done 5 = true := by cases ho; exact hdep ⟨5, .data⟩ (by simp) rfl
            have n7 : done 7 = false := by cases hx : done 7 with | false => rfl | true => have := hcl 7 _ rfl hx ⟨6, .data⟩ (by simp) rfl; rw [hd] at this; cases this
            have HS : St w B [ownA 5 1 (.slice a6 (21 + key.length) c6) (21 + key.length) ((B5 ++ key).map u8v), blkA rb [.int .i64 r.k, .int .u32 r.f, .int .u32 r.e, .int .u64 r.s, .slice x key.length c, .slice y val.length d] 62] [bytA (.slice x key.length c) key, bytA (.slice y val.length d) val] WW := St.cast (by simp only [p3, hd, cond_true, cond_false]) HJ
            obtain ⟨a', c', w', hr, HS'⟩ := St.appB elemByte HS 0 rfl (HS.bytes 1) ((by decide)) ((by omega))
            exact appG (θ := (a6, c6, a7, c7)) (v := (.slice a6 (21 + key.length) c6)) (vx := (.slice y val.length d)) (a6, c6, a', c') (.tmp 39) (.tmp 41) _ ho (by cases ho; rfl) (by cases ho; rfl) (by simp [HA.ev, HA.tm, lookT, Act.eval, p3, p5]) (by simp [HA.ev, HA.tm, lookT, Act.eval, p3, p5]) hr (by cases ho; exact fun d hd => by cases hd; simp) (.inr (.cons (.inl rfl) (.cons (.inl rfl) (.cons (.inl rfl) (.cons (.inl rfl) (.cons (.inl rfl) (.cons (.inl rfl) (.cons (.inr ⟨rfl, hd⟩) (.cons (.inr ⟨rfl, n7⟩) (.cons (.inl rfl) (.nil))))))))))) (St.cast (by simp [p3] <;> rfl) HS')
          · have p6 : done 6 = true := by cases ho; exact hdep ⟨6, .data⟩ (by simp) rfl
            exact valG (θ := (a6, c6, a7, c7)) (.slice a7 (21 + key.length + val.length) c7) ho (by cases ho; rfl) (by cases ho; simp [execOp, go_sem, HA.tm, lookT, p6]) (by cases ho; exact fun d hd => by cases hd; simp) HJ
          · exact valG (θ := (a6, c6, a7, c7)) (.int .i64 0) ho (by cases ho; rfl) (by cases ho; simp [execOp, go_sem, HA.tm, lookT]) (by cases ho; exact fun d hd => by cases hd; simp) HJ
        · intro (a6, c6, a7, c7) done WW hall HJ
          have z3 := hall 3 (by decide)
          have z6 := hall 6 (by decide)
          have HE : St w B [ownA 5 1 (.slice a7 (21 + key.length + val.length) c7) (21 + key.length + val.length) ((B5 ++ key ++ val).map u8v), blkA rb [.int .i64 r.k, .int .u32 r.f, .int .u32 r.e, .int .u64 r.s, .slice x key.length c, .slice y val.length d] 62] [bytA (.slice x key.length c) key, bytA (.slice y val.length d) val] WW := St.cast (by simp [z3, z6]) HJ
          clear HJ hall z3 z6
          simp only [putAll, Act.put, List.setIfInBounds_toArray, List.set_cons_succ, List.set_cons_zero]
          go_wp2_with fail
          exact bodyPost_ret (results_tmp2 rfl _ _ _) rfl (Back.mk ⟨_, _, rfl, by rw [HE0.out]; rfl⟩ (St.pick HE [0]))
end Go.Proofs.YtjmocjcjiiopnaaGreat
end
