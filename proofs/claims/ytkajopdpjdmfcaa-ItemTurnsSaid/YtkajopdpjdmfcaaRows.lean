/-
  No cell of these rows narrows 'for every input' (looked for: loops, veiled, ifaces, maps, wideKeys, modest, calm, conditions, laid).
  DERIVED. THE GIVEN ROWS OF THIS SEAT. 7 by the template 'for every input the law returns true; each argument reads behind the call as it read before'; 0 by the template 'total and deterministic' (their statements: YtkajopdpjdmfcaaTotals.lean).
  GIVEN WITH THE SEED: the statements are not yours to turn. If you find one false, say at which input.
  Laid BY PROGRAM, IN A SANDBOX (cutbox-rows.mjs): the forced cells as the released guide's own fill.sh prints them over the translation 52e20e73e475bfcd… (all of the seat's roots in one cut). By AI agents, Wed Nov 11 2026. No macro, syntax, notation, axiom, sorry.
-/
import Derived.Test.YtkajopdpjdmfcaaChecked
import GoSem.Claim
import GoSem.ClaimJoined
import GoSem.ClaimMapViews
import Derived.JoinedTies
import Derived.KernelRfl
namespace Go.Proofs.Ytkajopdpjdmfcaa
/- THE CELL 'sum', in the pinned program and in every row, IS THE sha256 OF THE DUMP (.gsa) THAT YtkajopdpjdmfcaaProg.lean LOADS. Nothing in Lean hashes anything: it is a label: what it is worth is what the hold of that sum in a sandbox is worth. -/
noncomputable def Try.pinned : Pinned := { name := "ytkajopdpjdmfcaa", sum := "52e20e73e475bfcd38fa1ba8ea56c89f34476f175e8729f51e0fa4c8a0413783", checked := Try.checked }
namespace Rows
def none {H : Type} : Left H := { results := [], args := [] }

/-- 'icehouselaw17.ItemNumbers': WHATEVER THE INPUT: true; the input reads as it did. -/
def itemNumbersSpec : ChangeSpec := { name := "itemNumbers", fn := fun _ => fun
  | [d1, d2] => { results := [.lit (.bool true)], args := [d1, d2] }
  | _ => none }
def itemNumbersRow : OpenClaim := { program := "ytkajopdpjdmfcaa", sum := "52e20e73e475bfcd38fa1ba8ea56c89f34476f175e8729f51e0fa4c8a0413783", func := "icehouse/icehouselaw17.ItemNumbers", spec := "itemNumbers", recurses := true, apart := false }
def ItemNumbersSaid : Prop := itemNumbersRow.holds Try.pinned (OpenSpec.ofChange itemNumbersSpec)

/-- ITS FALSE NEIGHBOUR: 'it returns false'. Refute it at one input. -/
def itemNumbersWrong : ChangeSpec := { name := "itemNumbers", fn := fun _ => fun
  | [d1, d2] => { results := [.lit (.bool false)], args := [d1, d2] }
  | _ => none }
def ItemNumbersWrongFalsely : Prop := itemNumbersRow.holds Try.pinned (OpenSpec.ofChange itemNumbersWrong)

/-- 'icehouselaw17.ItemBack': WHATEVER THE INPUT: true; the input reads as it did. -/
def itemBackSpec : ChangeSpec := { name := "itemBack", fn := fun _ => fun
  | [d1, d2] => { results := [.lit (.bool true)], args := [d1, d2] }
  | _ => none }
def itemBackRow : OpenClaim := { program := "ytkajopdpjdmfcaa", sum := "52e20e73e475bfcd38fa1ba8ea56c89f34476f175e8729f51e0fa4c8a0413783", func := "icehouse/icehouselaw17.ItemBack", spec := "itemBack", apart := false }
def ItemBackSaid : Prop := itemBackRow.holds Try.pinned (OpenSpec.ofChange itemBackSpec)

/-- ITS FALSE NEIGHBOUR: 'it returns false'. Refute it at one input. -/
def itemBackWrong : ChangeSpec := { name := "itemBack", fn := fun _ => fun
  | [d1, d2] => { results := [.lit (.bool false)], args := [d1, d2] }
  | _ => none }
def ItemBackWrongFalsely : Prop := itemBackRow.holds Try.pinned (OpenSpec.ofChange itemBackWrong)

/-- 'icehouselaw17.ItemExpires': WHATEVER THE INPUT: true; the input reads as it did. -/
def itemExpiresSpec : ChangeSpec := { name := "itemExpires", fn := fun _ => fun
  | [d1, d2, d3] => { results := [.lit (.bool true)], args := [d1, d2, d3] }
  | _ => none }
def itemExpiresRow : OpenClaim := { program := "ytkajopdpjdmfcaa", sum := "52e20e73e475bfcd38fa1ba8ea56c89f34476f175e8729f51e0fa4c8a0413783", func := "icehouse/icehouselaw17.ItemExpires", spec := "itemExpires", apart := false }
def ItemExpiresSaid : Prop := itemExpiresRow.holds Try.pinned (OpenSpec.ofChange itemExpiresSpec)

/-- ITS FALSE NEIGHBOUR: 'it returns false'. Refute it at one input. -/
def itemExpiresWrong : ChangeSpec := { name := "itemExpires", fn := fun _ => fun
  | [d1, d2, d3] => { results := [.lit (.bool false)], args := [d1, d2, d3] }
  | _ => none }
def ItemExpiresWrongFalsely : Prop := itemExpiresRow.holds Try.pinned (OpenSpec.ofChange itemExpiresWrong)

/-- 'icehouselaw17.ItemStays': WHATEVER THE INPUT: true; the input reads as it did. -/
def itemStaysSpec : ChangeSpec := { name := "itemStays", fn := fun _ => fun
  | [d1, d2, d3] => { results := [.lit (.bool true)], args := [d1, d2, d3] }
  | _ => none }
def itemStaysRow : OpenClaim := { program := "ytkajopdpjdmfcaa", sum := "52e20e73e475bfcd38fa1ba8ea56c89f34476f175e8729f51e0fa4c8a0413783", func := "icehouse/icehouselaw17.ItemStays", spec := "itemStays", apart := false }
def ItemStaysSaid : Prop := itemStaysRow.holds Try.pinned (OpenSpec.ofChange itemStaysSpec)

/-- ITS FALSE NEIGHBOUR: 'it returns false'. Refute it at one input. -/
def itemStaysWrong : ChangeSpec := { name := "itemStays", fn := fun _ => fun
  | [d1, d2, d3] => { results := [.lit (.bool false)], args := [d1, d2, d3] }
  | _ => none }
def ItemStaysWrongFalsely : Prop := itemStaysRow.holds Try.pinned (OpenSpec.ofChange itemStaysWrong)

/-- 'icehouselaw17.ItemTurns': WHATEVER THE INPUT: true; the input reads as it did. -/
def itemTurnsSpec : ChangeSpec := { name := "itemTurns", fn := fun _ => fun
  | [d1, d2, d3] => { results := [.lit (.bool true)], args := [d1, d2, d3] }
  | _ => none }
def itemTurnsRow : OpenClaim := { program := "ytkajopdpjdmfcaa", sum := "52e20e73e475bfcd38fa1ba8ea56c89f34476f175e8729f51e0fa4c8a0413783", func := "icehouse/icehouselaw17.ItemTurns", spec := "itemTurns", recurses := true, apart := false }
def ItemTurnsSaid : Prop := itemTurnsRow.holds Try.pinned (OpenSpec.ofChange itemTurnsSpec)

/-- ITS FALSE NEIGHBOUR: 'it returns false'. Refute it at one input. -/
def itemTurnsWrong : ChangeSpec := { name := "itemTurns", fn := fun _ => fun
  | [d1, d2, d3] => { results := [.lit (.bool false)], args := [d1, d2, d3] }
  | _ => none }
def ItemTurnsWrongFalsely : Prop := itemTurnsRow.holds Try.pinned (OpenSpec.ofChange itemTurnsWrong)

/-- 'icehouselaw17.ItemRound': WHATEVER THE INPUT: true; the input reads as it did. -/
def itemRoundSpec : ChangeSpec := { name := "itemRound", fn := fun _ => fun
  | [d1, d2] => { results := [.lit (.bool true)], args := [d1, d2] }
  | _ => none }
def itemRoundRow : OpenClaim := { program := "ytkajopdpjdmfcaa", sum := "52e20e73e475bfcd38fa1ba8ea56c89f34476f175e8729f51e0fa4c8a0413783", func := "icehouse/icehouselaw17.ItemRound", spec := "itemRound", apart := false }
def ItemRoundSaid : Prop := itemRoundRow.holds Try.pinned (OpenSpec.ofChange itemRoundSpec)

/-- ITS FALSE NEIGHBOUR: 'it returns false'. Refute it at one input. -/
def itemRoundWrong : ChangeSpec := { name := "itemRound", fn := fun _ => fun
  | [d1, d2] => { results := [.lit (.bool false)], args := [d1, d2] }
  | _ => none }
def ItemRoundWrongFalsely : Prop := itemRoundRow.holds Try.pinned (OpenSpec.ofChange itemRoundWrong)

/-- 'icehouselaw17.ItemJoins': WHATEVER THE INPUT: true; the input reads as it did. -/
def itemJoinsSpec : ChangeSpec := { name := "itemJoins", fn := fun _ => fun
  | [d1, d2] => { results := [.lit (.bool true)], args := [d1, d2] }
  | _ => none }
def itemJoinsRow : OpenClaim := { program := "ytkajopdpjdmfcaa", sum := "52e20e73e475bfcd38fa1ba8ea56c89f34476f175e8729f51e0fa4c8a0413783", func := "icehouse/icehouselaw17.ItemJoins", spec := "itemJoins", apart := false }
def ItemJoinsSaid : Prop := itemJoinsRow.holds Try.pinned (OpenSpec.ofChange itemJoinsSpec)

/-- ITS FALSE NEIGHBOUR: 'it returns false'. Refute it at one input. -/
def itemJoinsWrong : ChangeSpec := { name := "itemJoins", fn := fun _ => fun
  | [d1, d2] => { results := [.lit (.bool false)], args := [d1, d2] }
  | _ => none }
def ItemJoinsWrongFalsely : Prop := itemJoinsRow.holds Try.pinned (OpenSpec.ofChange itemJoinsWrong)

/- THE SECOND FORM. 'bulk': how many values and letters a reading holds, each counted each time it is reached (what is shared counts as often as it is met; a slice's spare places count too). A statement '..UptoSaid' is the law's where the arguments, and the package variables that the reading takes, are together of bulk at most 1048576: NARROWER than '..Said'. Prove '..Said' where nothing that the law and all that it calls make is longer than what came in: it says more and counts as full. Else prove '..UptoSaid'. A law counts once. -/
mutual
def uptoBulk {H : Type} : DataW H → Nat
  | .lit (.string bytes) => bytes.length + 1
  | .lit _ => 1
  | .nil => 1
  | .ptr d => uptoBulk d + 1
  | .slice elems spare => uptoBulkAll elems + uptoBulkAll spare + 1
  | .agg parts => uptoBulkAll parts + 1
  | .iface _ d => uptoBulk d + 1
  | .map entries => uptoBulkEntries entries + 1
  | .held _ => 1
def uptoBulkAll {H : Type} : List (DataW H) → Nat
  | [] => 0
  | d :: r => uptoBulk d + uptoBulkAll r
def uptoBulkEntries {H : Type} : List (Lit × DataW H) → Nat
  | [] => 0
  | x :: r => uptoBulkEntry x + uptoBulkEntries r
def uptoBulkEntry {H : Type} : Lit × DataW H → Nat
  | (.string bytes, d) => bytes.length + uptoBulk d + 1
  | (_, d) => uptoBulk d + 1
 end
def uptoSmall : (H : Type) → List (DataW H) → Bool := fun _ ds => decide (uptoBulkAll ds ≤ 1048576)
def OpenSpec.upto (s : _root_.Go.ChangeSpec) : _root_.Go.OpenSpec := { _root_.Go.OpenSpec.ofChange s with cond := some uptoSmall }

/-- 'icehouselaw17.ItemNumbers', WHERE WHAT IT READS IS OF BULK AT MOST 1048576: true; the input reads as it did. -/
def itemNumbersUptoRow : OpenClaim := { program := "ytkajopdpjdmfcaa", sum := "52e20e73e475bfcd38fa1ba8ea56c89f34476f175e8729f51e0fa4c8a0413783", func := "icehouse/icehouselaw17.ItemNumbers", spec := "itemNumbers", recurses := true, apart := false, narrowed := true }
def ItemNumbersUptoSaid : Prop := itemNumbersUptoRow.holds Try.pinned (OpenSpec.upto itemNumbersSpec)

/-- 'icehouselaw17.ItemBack', WHERE WHAT IT READS IS OF BULK AT MOST 1048576: true; the input reads as it did. -/
def itemBackUptoRow : OpenClaim := { program := "ytkajopdpjdmfcaa", sum := "52e20e73e475bfcd38fa1ba8ea56c89f34476f175e8729f51e0fa4c8a0413783", func := "icehouse/icehouselaw17.ItemBack", spec := "itemBack", apart := false, narrowed := true }
def ItemBackUptoSaid : Prop := itemBackUptoRow.holds Try.pinned (OpenSpec.upto itemBackSpec)

/-- 'icehouselaw17.ItemExpires', WHERE WHAT IT READS IS OF BULK AT MOST 1048576: true; the input reads as it did. -/
def itemExpiresUptoRow : OpenClaim := { program := "ytkajopdpjdmfcaa", sum := "52e20e73e475bfcd38fa1ba8ea56c89f34476f175e8729f51e0fa4c8a0413783", func := "icehouse/icehouselaw17.ItemExpires", spec := "itemExpires", apart := false, narrowed := true }
def ItemExpiresUptoSaid : Prop := itemExpiresUptoRow.holds Try.pinned (OpenSpec.upto itemExpiresSpec)

/-- 'icehouselaw17.ItemStays', WHERE WHAT IT READS IS OF BULK AT MOST 1048576: true; the input reads as it did. -/
def itemStaysUptoRow : OpenClaim := { program := "ytkajopdpjdmfcaa", sum := "52e20e73e475bfcd38fa1ba8ea56c89f34476f175e8729f51e0fa4c8a0413783", func := "icehouse/icehouselaw17.ItemStays", spec := "itemStays", apart := false, narrowed := true }
def ItemStaysUptoSaid : Prop := itemStaysUptoRow.holds Try.pinned (OpenSpec.upto itemStaysSpec)

/-- 'icehouselaw17.ItemTurns', WHERE WHAT IT READS IS OF BULK AT MOST 1048576: true; the input reads as it did. -/
def itemTurnsUptoRow : OpenClaim := { program := "ytkajopdpjdmfcaa", sum := "52e20e73e475bfcd38fa1ba8ea56c89f34476f175e8729f51e0fa4c8a0413783", func := "icehouse/icehouselaw17.ItemTurns", spec := "itemTurns", recurses := true, apart := false, narrowed := true }
def ItemTurnsUptoSaid : Prop := itemTurnsUptoRow.holds Try.pinned (OpenSpec.upto itemTurnsSpec)

/-- 'icehouselaw17.ItemRound', WHERE WHAT IT READS IS OF BULK AT MOST 1048576: true; the input reads as it did. -/
def itemRoundUptoRow : OpenClaim := { program := "ytkajopdpjdmfcaa", sum := "52e20e73e475bfcd38fa1ba8ea56c89f34476f175e8729f51e0fa4c8a0413783", func := "icehouse/icehouselaw17.ItemRound", spec := "itemRound", apart := false, narrowed := true }
def ItemRoundUptoSaid : Prop := itemRoundUptoRow.holds Try.pinned (OpenSpec.upto itemRoundSpec)

/-- 'icehouselaw17.ItemJoins', WHERE WHAT IT READS IS OF BULK AT MOST 1048576: true; the input reads as it did. -/
def itemJoinsUptoRow : OpenClaim := { program := "ytkajopdpjdmfcaa", sum := "52e20e73e475bfcd38fa1ba8ea56c89f34476f175e8729f51e0fa4c8a0413783", func := "icehouse/icehouselaw17.ItemJoins", spec := "itemJoins", apart := false, narrowed := true }
def ItemJoinsUptoSaid : Prop := itemJoinsUptoRow.holds Try.pinned (OpenSpec.upto itemJoinsSpec)

end Rows
end Go.Proofs.Ytkajopdpjdmfcaa
