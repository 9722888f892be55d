/- item.Number returns the number of a text, or an error. No condition. -/
import Derived.Test.YtkajopdpjdmfcaaBase
import Derived.Outline
namespace Go.Proofs.Ytkajopdpjdmfcaa
open Go.RowKit Go.Ice

/-- item.Number on bytes, from n on. -/
def numLoop : Nat → List UInt8 → Option Nat
  | n, [] => some n
  | n, c :: cs => if 48 ≤ c.toNat ∧ c.toNat ≤ 57 then (if (18446744073709551615 - (c.toNat - 48)) / 10 < n then none else numLoop (10 * n + (c.toNat - 48)) cs) else none
def numF (bs : List UInt8) : Option Nat := if bs.length = 0 ∨ 20 < bs.length then none else numLoop 0 bs
def numV (o : Option Nat) : Value := .tuple #[.int .u64 (o.getD 0 : Nat), .int .i64 (if o.isSome then 0 else 270)]

theorem number_len (w : World) (v : Value) (n c : Nat) (a : Option Addr) (hv : v = .slice a n c) (h : n = 0 ∨ 20 < n) :
    Calls Try.prog 11 #[v] w fun e w' => e = .returned (numV none) ∧ w = w' := by
  subst hv
  rcases h with h | h
  · subst h
    go_enter Try.func11, Try.ntmps11
    go_wp2
    go_ret2
    exact ⟨rfl, rfl⟩
  · have h1 : ((n : Int) == 0) = false := beq_eq_false_iff_ne.2 (by omega)
    have h2 : (20 : Int) < n := by omega
    go_enter Try.func11, Try.ntmps11
    go_wp2
    go_ret2
    exact ⟨rfl, rfl⟩

theorem number_go (w : World) (v : Value) (bs : List UInt8) (b off cap : Nat) (hv : v = .slice (some ⟨b, off, none⟩) bs.length cap) (h0 : 0 < bs.length) (h20 : bs.length ≤ 20)
    (hcell : ∀ j, j < bs.length → w.cell? ⟨b, off + j, none⟩ = some (.int .u8 ((bs.map fun c => (c.toNat : Int)).getD j 0))) :
    Calls Try.prog 11 #[v] w fun e w' => e = .returned (numV (numLoop 0 bs)) ∧ Below w.heap.size w w' := by
  subst hv
  have h1 : ((bs.length : Int) == 0) = false := beq_eq_false_iff_ne.2 (by omega)
  have h2 : ¬ (20 : Int) < bs.length := by omega
  have hconv := run_convert_bytes_arg (P := Try.prog) w 22 5 Try.underlying22 Try.underlying5 b off bs.length cap (bs.map fun c => (c.toNat : Int)) (by simp) hcell 9 Try.underlying9
  have hs : strOfNums (bs.map fun c => (c.toNat : Int)) = ⟨bs.toArray⟩ := by
    simp [strOfNums, List.map_map, Function.comp_def]
  rw [hs] at hconv
  clear hs hcell
  go_enter Try.func11, Try.ntmps11
  go_wp2
  clear hconv h1 h2
  go_loopw [4] (fun v wr => ∃ n pos : Nat, pos ≤ bs.length ∧ n ≤ 18446744073709551615 ∧ v = .int .u64 n ∧ wr = w.iter ⟨bs.toArray⟩ pos ∧ Hid (numLoop n (bs.drop pos) = numLoop 0 bs)) (fun _ wr => bs.length - wr.iterPos w.heap.size)
  case atStart => exact ⟨0, 0, by omega, by omega, rfl, rfl, rfl⟩
  case round =>
    obtain ⟨n, pos, hpos, hn, rfl, rfl, hnl⟩ := hrel
    have hB : ∀ p, Below w.heap.size w (w.iter ⟨bs.toArray⟩ p) := fun p => (Below.refl _ _).alloc (Nat.le_refl _) _
    by_cases hp : pos < bs.length
    · have hp' : pos < (⟨bs.toArray⟩ : ByteArray).size := by simpa [ByteArray.size] using hp
      have hnx : ∀ ty, (Instr.next (.pointer (some ⟨w.heap.size, 0, none⟩)) true ty).run Try.prog (w.iter ⟨bs.toArray⟩ pos) = _ := fun ty => run_next_any w _ pos ty hp'
      have hdr : bs.drop pos = bs[pos] :: bs.drop (pos + 1) := List.drop_eq_getElem_cons hp
      have hget : (⟨bs.toArray⟩ : ByteArray)[pos] = bs[pos] := rfl
      generalize hc : bs[pos] = c at hdr
      generalize hr : (Utf8.decode ⟨bs.toArray⟩ pos).1 = r at hnx
      by_cases hd : 48 ≤ c.toNat ∧ c.toNat ≤ 57
      · obtain ⟨d1, d2⟩ := hd
        have hdec := decode_ascii ⟨bs.toArray⟩ pos hp' (by rw [hget, hc]; omega)
        rw [hget, hc] at hdec
        have hdec1 := congrArg Prod.fst hdec
        have hdec2 := congrArg Prod.snd hdec
        simp only at hdec1 hdec2
        obtain rfl : c.toNat = r := hdec1.symm.trans hr
        rw [hdec2] at hnx
        have HN : Hid (numLoop n (bs.drop pos) = numLoop 0 bs) := hnl
        have Hdr := Lib.hid hdr
        clear hnl hdr hdec hdec1 hdec2 hget hc hr
        by_cases ho : (18446744073709551615 - (c.toNat - 48)) / 10 < n
        · have hfin : numV (numLoop 0 bs) = .tuple #[.int .u64 0, .int .i64 270] := by
            rw [← HN.out, Hdr.out, numLoop, if_pos ⟨d1, d2⟩, if_pos ho]; rfl
          have Hfin := Lib.hid hfin
          clear hfin
          go_wp2
          go_ret2
          exact ⟨by rw [Hfin.out]; rfl, hB _⟩
        · go_wp2
          go_roundw
          case rel =>
            refine ⟨10 * n + (c.toNat - 48), pos + 1, by omega, by omega, by congr 1; omega, rfl, ?_⟩
            have h := HN.out
            rw [Hdr.out, numLoop, if_pos ⟨d1, d2⟩, if_neg ho] at h
            exact h
          case measure => simp; omega
      · have hfin : numV (numLoop 0 bs) = .tuple #[.int .u64 0, .int .i64 270] := by
          rw [← hnl.out, hdr, numLoop, if_neg hd]; rfl
        have Hfin := Lib.hid hfin
        have hrr : ((r : Int) < 48) ∨ (57 < (r : Int) ∧ ¬ (r : Int) < 48) := by
          by_cases h128 : c.toNat < 128
          · have hdec := decode_ascii ⟨bs.toArray⟩ pos hp' (by rw [hget, hc]; omega)
            rw [hget, hc] at hdec
            have hdec1 := congrArg Prod.fst hdec
            simp only at hdec1
            omega
          · have := (decode_high ⟨bs.toArray⟩ pos hp' (by rw [hget, hc]; omega)).1
            omega
        clear hfin hnl hdr hget hc hr hd
        rcases hrr with hrr | ⟨hrr, hr2⟩
        all_goals
          go_wp2
          go_ret2
          exact ⟨by rw [Hfin.out]; rfl, hB _⟩
    · have hnx : ∀ ty, (Instr.next (.pointer (some ⟨w.heap.size, 0, none⟩)) true ty).run Try.prog (w.iter ⟨bs.toArray⟩ pos) = _ := fun ty => run_next_end w _ pos ty (by simpa [ByteArray.size] using hp)
      have hfin : numV (numLoop 0 bs) = .tuple #[.int .u64 n, .int .i64 0] := by
        rw [← hnl.out, List.drop_of_length_le (by omega)]; rfl
      have Hfin := Lib.hid hfin
      clear hfin
      go_wp2
      go_ret2
      exact ⟨by rw [Hfin.out]; rfl, hB _⟩
end Go.Proofs.Ytkajopdpjdmfcaa
