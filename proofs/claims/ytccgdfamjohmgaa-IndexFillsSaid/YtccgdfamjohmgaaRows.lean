/-
  No cell of these rows narrows 'for every input' (looked for: loops, veiled, ifaces, maps, wideKeys, modest, calm, conditions, laid).
  DERIVED. THE GIVEN ROWS OF THIS SEAT. 5 by the template 'for every input the law returns true; each argument reads behind the call as it read before'; 0 by the template 'total and deterministic' (their statements: YtccgdfamjohmgaaTotals.lean).
  GIVEN WITH THE SEED: the statements are not yours to turn. If you find one false, say at which input.
  Laid BY PROGRAM, IN A SANDBOX (cutbox-rows.mjs): the forced cells as the released guide's own fill.sh prints them over the translation a6ab45b3110c5be7… (all of the seat's roots in one cut). By AI agents, Wed Nov 11 2026. No macro, syntax, notation, axiom, sorry.
-/
import Derived.Test.YtccgdfamjohmgaaChecked
import GoSem.Claim
import GoSem.ClaimJoined
import GoSem.ClaimMapViews
import Derived.JoinedTies
import Derived.KernelRfl
namespace Go.Proofs.Ytccgdfamjohmgaa
/- THE CELL 'sum', in the pinned program and in every row, IS THE sha256 OF THE DUMP (.gsa) THAT YtccgdfamjohmgaaProg.lean LOADS. Nothing in Lean hashes anything: it is a label: what it is worth is what the hold of that sum in a sandbox is worth. -/
noncomputable def Try.pinned : Pinned := { name := "ytccgdfamjohmgaa", sum := "a6ab45b3110c5be74e2fdd18087064ef98ef931efb9a9bc903b66f1a17358a3f", checked := Try.checked }
namespace Rows
def none {H : Type} : Left H := { results := [], args := [] }

/-- 'icehouselaw10.IndexApart': WHATEVER THE INPUT: true; the input reads as it did. -/
def indexApartSpec : ChangeSpec := { name := "indexApart", fn := fun _ => fun
  | [d1, d2] => { results := [.lit (.bool true)], args := [d1, d2] }
  | _ => none }
def indexApartRow : OpenClaim := { program := "ytccgdfamjohmgaa", sum := "a6ab45b3110c5be74e2fdd18087064ef98ef931efb9a9bc903b66f1a17358a3f", func := "icehouse/icehouselaw10.IndexApart", spec := "indexApart", apart := false }
def IndexApartSaid : Prop := indexApartRow.holds Try.pinned (OpenSpec.ofChange indexApartSpec)

/-- ITS FALSE NEIGHBOUR: 'it returns false'. Refute it at one input. -/
def indexApartWrong : ChangeSpec := { name := "indexApart", fn := fun _ => fun
  | [d1, d2] => { results := [.lit (.bool false)], args := [d1, d2] }
  | _ => none }
def IndexApartWrongFalsely : Prop := indexApartRow.holds Try.pinned (OpenSpec.ofChange indexApartWrong)

/-- 'icehouselaw10.IndexComes': WHATEVER THE INPUT: true; the input reads as it did. -/
def indexComesSpec : ChangeSpec := { name := "indexComes", fn := fun _ => fun
  | [d1, d2, d3] => { results := [.lit (.bool true)], args := [d1, d2, d3] }
  | _ => none }
def indexComesRow : OpenClaim := { program := "ytccgdfamjohmgaa", sum := "a6ab45b3110c5be74e2fdd18087064ef98ef931efb9a9bc903b66f1a17358a3f", func := "icehouse/icehouselaw10.IndexComes", spec := "indexComes", apart := false }
def IndexComesSaid : Prop := indexComesRow.holds Try.pinned (OpenSpec.ofChange indexComesSpec)

/-- ITS FALSE NEIGHBOUR: 'it returns false'. Refute it at one input. -/
def indexComesWrong : ChangeSpec := { name := "indexComes", fn := fun _ => fun
  | [d1, d2, d3] => { results := [.lit (.bool false)], args := [d1, d2, d3] }
  | _ => none }
def IndexComesWrongFalsely : Prop := indexComesRow.holds Try.pinned (OpenSpec.ofChange indexComesWrong)

/-- 'icehouselaw10.IndexDoes': WHATEVER THE INPUT: true; the input reads as it did. -/
def indexDoesSpec : ChangeSpec := { name := "indexDoes", fn := fun _ => fun
  | [d1, d2] => { results := [.lit (.bool true)], args := [d1, d2] }
  | _ => none }
def indexDoesRow : OpenClaim := { program := "ytccgdfamjohmgaa", sum := "a6ab45b3110c5be74e2fdd18087064ef98ef931efb9a9bc903b66f1a17358a3f", func := "icehouse/icehouselaw10.IndexDoes", spec := "indexDoes", unfollowed := true, recurses := true, apart := false }
def IndexDoesSaid : Prop := indexDoesRow.holds Try.pinned (OpenSpec.ofChange indexDoesSpec)

/-- ITS FALSE NEIGHBOUR: 'it returns false'. Refute it at one input. -/
def indexDoesWrong : ChangeSpec := { name := "indexDoes", fn := fun _ => fun
  | [d1, d2] => { results := [.lit (.bool false)], args := [d1, d2] }
  | _ => none }
def IndexDoesWrongFalsely : Prop := indexDoesRow.holds Try.pinned (OpenSpec.ofChange indexDoesWrong)

/-- 'icehouselaw10.IndexFills': WHATEVER THE INPUT: true; the input reads as it did. -/
def indexFillsSpec : ChangeSpec := { name := "indexFills", fn := fun _ => fun
  | [d1, d2] => { results := [.lit (.bool true)], args := [d1, d2] }
  | _ => none }
def indexFillsRow : OpenClaim := { program := "ytccgdfamjohmgaa", sum := "a6ab45b3110c5be74e2fdd18087064ef98ef931efb9a9bc903b66f1a17358a3f", func := "icehouse/icehouselaw10.IndexFills", spec := "indexFills", unfollowed := true, recurses := true, apart := false }
def IndexFillsSaid : Prop := indexFillsRow.holds Try.pinned (OpenSpec.ofChange indexFillsSpec)

/-- ITS FALSE NEIGHBOUR: 'it returns false'. Refute it at one input. -/
def indexFillsWrong : ChangeSpec := { name := "indexFills", fn := fun _ => fun
  | [d1, d2] => { results := [.lit (.bool false)], args := [d1, d2] }
  | _ => none }
def IndexFillsWrongFalsely : Prop := indexFillsRow.holds Try.pinned (OpenSpec.ofChange indexFillsWrong)

/-- 'icehouselaw10.IndexNone': WHATEVER THE INPUT: true; the input reads as it did. -/
def indexNoneSpec : ChangeSpec := { name := "indexNone", fn := fun _ => fun
  | [d] => { results := [.lit (.bool true)], args := [d] }
  | _ => none }
def indexNoneRow : OpenClaim := { program := "ytccgdfamjohmgaa", sum := "a6ab45b3110c5be74e2fdd18087064ef98ef931efb9a9bc903b66f1a17358a3f", func := "icehouse/icehouselaw10.IndexNone", spec := "indexNone", unfollowed := true, recurses := true, apart := false }
def IndexNoneSaid : Prop := indexNoneRow.holds Try.pinned (OpenSpec.ofChange indexNoneSpec)

/-- ITS FALSE NEIGHBOUR: 'it returns false'. Refute it at one input. -/
def indexNoneWrong : ChangeSpec := { name := "indexNone", fn := fun _ => fun
  | [d] => { results := [.lit (.bool false)], args := [d] }
  | _ => none }
def IndexNoneWrongFalsely : Prop := indexNoneRow.holds Try.pinned (OpenSpec.ofChange indexNoneWrong)

/- THE SECOND FORM. 'bulk': how many values and letters a reading holds, each counted each time it is reached (what is shared counts as often as it is met; a slice's spare places count too). A statement '..UptoSaid' is the law's where the arguments, and the package variables that the reading takes, are together of bulk at most 1048576: NARROWER than '..Said'. Prove '..Said' where nothing that the law and all that it calls make is longer than what came in: it says more and counts as full. Else prove '..UptoSaid'. A law counts once. -/
mutual
def uptoBulk {H : Type} : DataW H → Nat
  | .lit (.string bytes) => bytes.length + 1
  | .lit _ => 1
  | .nil => 1
  | .ptr d => uptoBulk d + 1
  | .slice elems spare => uptoBulkAll elems + uptoBulkAll spare + 1
  | .agg parts => uptoBulkAll parts + 1
  | .iface _ d => uptoBulk d + 1
  | .map entries => uptoBulkEntries entries + 1
  | .held _ => 1
def uptoBulkAll {H : Type} : List (DataW H) → Nat
  | [] => 0
  | d :: r => uptoBulk d + uptoBulkAll r
def uptoBulkEntries {H : Type} : List (Lit × DataW H) → Nat
  | [] => 0
  | x :: r => uptoBulkEntry x + uptoBulkEntries r
def uptoBulkEntry {H : Type} : Lit × DataW H → Nat
  | (.string bytes, d) => bytes.length + uptoBulk d + 1
  | (_, d) => uptoBulk d + 1
 end
def uptoSmall : (H : Type) → List (DataW H) → Bool := fun _ ds => decide (uptoBulkAll ds ≤ 1048576)
def OpenSpec.upto (s : _root_.Go.ChangeSpec) : _root_.Go.OpenSpec := { _root_.Go.OpenSpec.ofChange s with cond := some uptoSmall }

/-- 'icehouselaw10.IndexApart', WHERE WHAT IT READS IS OF BULK AT MOST 1048576: true; the input reads as it did. -/
def indexApartUptoRow : OpenClaim := { program := "ytccgdfamjohmgaa", sum := "a6ab45b3110c5be74e2fdd18087064ef98ef931efb9a9bc903b66f1a17358a3f", func := "icehouse/icehouselaw10.IndexApart", spec := "indexApart", apart := false, narrowed := true }
def IndexApartUptoSaid : Prop := indexApartUptoRow.holds Try.pinned (OpenSpec.upto indexApartSpec)

/-- 'icehouselaw10.IndexComes', WHERE WHAT IT READS IS OF BULK AT MOST 1048576: true; the input reads as it did. -/
def indexComesUptoRow : OpenClaim := { program := "ytccgdfamjohmgaa", sum := "a6ab45b3110c5be74e2fdd18087064ef98ef931efb9a9bc903b66f1a17358a3f", func := "icehouse/icehouselaw10.IndexComes", spec := "indexComes", apart := false, narrowed := true }
def IndexComesUptoSaid : Prop := indexComesUptoRow.holds Try.pinned (OpenSpec.upto indexComesSpec)

/-- 'icehouselaw10.IndexDoes', WHERE WHAT IT READS IS OF BULK AT MOST 1048576: true; the input reads as it did. -/
def indexDoesUptoRow : OpenClaim := { program := "ytccgdfamjohmgaa", sum := "a6ab45b3110c5be74e2fdd18087064ef98ef931efb9a9bc903b66f1a17358a3f", func := "icehouse/icehouselaw10.IndexDoes", spec := "indexDoes", unfollowed := true, recurses := true, apart := false, narrowed := true }
def IndexDoesUptoSaid : Prop := indexDoesUptoRow.holds Try.pinned (OpenSpec.upto indexDoesSpec)

/-- 'icehouselaw10.IndexFills', WHERE WHAT IT READS IS OF BULK AT MOST 1048576: true; the input reads as it did. -/
def indexFillsUptoRow : OpenClaim := { program := "ytccgdfamjohmgaa", sum := "a6ab45b3110c5be74e2fdd18087064ef98ef931efb9a9bc903b66f1a17358a3f", func := "icehouse/icehouselaw10.IndexFills", spec := "indexFills", unfollowed := true, recurses := true, apart := false, narrowed := true }
def IndexFillsUptoSaid : Prop := indexFillsUptoRow.holds Try.pinned (OpenSpec.upto indexFillsSpec)

/-- 'icehouselaw10.IndexNone', WHERE WHAT IT READS IS OF BULK AT MOST 1048576: true; the input reads as it did. -/
def indexNoneUptoRow : OpenClaim := { program := "ytccgdfamjohmgaa", sum := "a6ab45b3110c5be74e2fdd18087064ef98ef931efb9a9bc903b66f1a17358a3f", func := "icehouse/icehouselaw10.IndexNone", spec := "indexNone", unfollowed := true, recurses := true, apart := false, narrowed := true }
def IndexNoneUptoSaid : Prop := indexNoneUptoRow.holds Try.pinned (OpenSpec.upto indexNoneSpec)

end Rows
end Go.Proofs.Ytccgdfamjohmgaa
