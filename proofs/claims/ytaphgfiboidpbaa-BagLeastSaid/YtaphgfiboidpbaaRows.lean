/-
  No cell of these rows narrows 'for every input' (looked for: loops, veiled, ifaces, maps, wideKeys, modest, calm, conditions, laid).
  DERIVED. THE GIVEN ROWS OF THIS SEAT. 5 by the template 'for every input the law returns true; each argument reads behind the call as it read before'; 0 by the template 'total and deterministic' (their statements: YtaphgfiboidpbaaTotals.lean).
  GIVEN WITH THE SEED: the statements are not yours to turn. If you find one false, say at which input.
  Laid BY PROGRAM, IN A SANDBOX (cutbox-rows.mjs): the forced cells as the released guide's own fill.sh prints them over the translation b8f8e0e626c5f1f1… (all of the seat's roots in one cut). By AI agents, Wed Nov 11 2026. No macro, syntax, notation, axiom, sorry.
-/
import Derived.Test.YtaphgfiboidpbaaChecked
import GoSem.Claim
import GoSem.ClaimJoined
import GoSem.ClaimMapViews
import Derived.JoinedTies
import Derived.KernelRfl
namespace Go.Proofs.Ytaphgfiboidpbaa
/- THE CELL 'sum', in the pinned program and in every row, IS THE sha256 OF THE DUMP (.gsa) THAT YtaphgfiboidpbaaProg.lean LOADS. Nothing in Lean hashes anything: it is a label: what it is worth is what the hold of that sum in a sandbox is worth. -/
noncomputable def Try.pinned : Pinned := { name := "ytaphgfiboidpbaa", sum := "b8f8e0e626c5f1f13fe76a926a93d7fa3c7b349fa892fd530e876512b83d87d4", checked := Try.checked }
namespace Rows
def none {H : Type} : Left H := { results := [], args := [] }

/-- 'secateurlaw24.BagSets': WHATEVER THE INPUT: true; the input reads as it did. -/
def bagSetsSpec : ChangeSpec := { name := "bagSets", fn := fun _ => fun
  | [d1, d2, d3] => { results := [.lit (.bool true)], args := [d1, d2, d3] }
  | _ => none }
def bagSetsRow : OpenClaim := { program := "ytaphgfiboidpbaa", sum := "b8f8e0e626c5f1f13fe76a926a93d7fa3c7b349fa892fd530e876512b83d87d4", func := "secateur/secateurlaw24.BagSets", spec := "bagSets", inPlace := ["internal/bytealg.abigen_runtime_cmpstring"], unfollowed := true, recurses := true, apart := false }
def BagSetsSaid : Prop := bagSetsRow.holds Try.pinned (OpenSpec.ofChange bagSetsSpec)

/-- ITS FALSE NEIGHBOUR: 'it returns false'. Refute it at one input. -/
def bagSetsWrong : ChangeSpec := { name := "bagSets", fn := fun _ => fun
  | [d1, d2, d3] => { results := [.lit (.bool false)], args := [d1, d2, d3] }
  | _ => none }
def BagSetsWrongFalsely : Prop := bagSetsRow.holds Try.pinned (OpenSpec.ofChange bagSetsWrong)

/-- 'secateurlaw24.BagOnly': WHATEVER THE INPUT: true; the input reads as it did. -/
def bagOnlySpec : ChangeSpec := { name := "bagOnly", fn := fun _ => fun
  | [d1, d2, d3] => { results := [.lit (.bool true)], args := [d1, d2, d3] }
  | _ => none }
def bagOnlyRow : OpenClaim := { program := "ytaphgfiboidpbaa", sum := "b8f8e0e626c5f1f13fe76a926a93d7fa3c7b349fa892fd530e876512b83d87d4", func := "secateur/secateurlaw24.BagOnly", spec := "bagOnly", inPlace := ["internal/bytealg.abigen_runtime_cmpstring"], unfollowed := true, recurses := true, apart := false }
def BagOnlySaid : Prop := bagOnlyRow.holds Try.pinned (OpenSpec.ofChange bagOnlySpec)

/-- ITS FALSE NEIGHBOUR: 'it returns false'. Refute it at one input. -/
def bagOnlyWrong : ChangeSpec := { name := "bagOnly", fn := fun _ => fun
  | [d1, d2, d3] => { results := [.lit (.bool false)], args := [d1, d2, d3] }
  | _ => none }
def BagOnlyWrongFalsely : Prop := bagOnlyRow.holds Try.pinned (OpenSpec.ofChange bagOnlyWrong)

/-- 'secateurlaw24.BagOrder': WHATEVER THE INPUT: true; the input reads as it did. -/
def bagOrderSpec : ChangeSpec := { name := "bagOrder", fn := fun _ => fun
  | [d1, d2] => { results := [.lit (.bool true)], args := [d1, d2] }
  | _ => none }
def bagOrderRow : OpenClaim := { program := "ytaphgfiboidpbaa", sum := "b8f8e0e626c5f1f13fe76a926a93d7fa3c7b349fa892fd530e876512b83d87d4", func := "secateur/secateurlaw24.BagOrder", spec := "bagOrder", inPlace := ["internal/bytealg.abigen_runtime_cmpstring"], unfollowed := true, recurses := true, apart := false }
def BagOrderSaid : Prop := bagOrderRow.holds Try.pinned (OpenSpec.ofChange bagOrderSpec)

/-- ITS FALSE NEIGHBOUR: 'it returns false'. Refute it at one input. -/
def bagOrderWrong : ChangeSpec := { name := "bagOrder", fn := fun _ => fun
  | [d1, d2] => { results := [.lit (.bool false)], args := [d1, d2] }
  | _ => none }
def BagOrderWrongFalsely : Prop := bagOrderRow.holds Try.pinned (OpenSpec.ofChange bagOrderWrong)

/-- 'secateurlaw24.BagUnion': WHATEVER THE INPUT: true; the input reads as it did. -/
def bagUnionSpec : ChangeSpec := { name := "bagUnion", fn := fun _ => fun
  | [d1, d2, d3] => { results := [.lit (.bool true)], args := [d1, d2, d3] }
  | _ => none }
def bagUnionRow : OpenClaim := { program := "ytaphgfiboidpbaa", sum := "b8f8e0e626c5f1f13fe76a926a93d7fa3c7b349fa892fd530e876512b83d87d4", func := "secateur/secateurlaw24.BagUnion", spec := "bagUnion", inPlace := ["internal/bytealg.abigen_runtime_cmpstring"], unfollowed := true, recurses := true, apart := false }
def BagUnionSaid : Prop := bagUnionRow.holds Try.pinned (OpenSpec.ofChange bagUnionSpec)

/-- ITS FALSE NEIGHBOUR: 'it returns false'. Refute it at one input. -/
def bagUnionWrong : ChangeSpec := { name := "bagUnion", fn := fun _ => fun
  | [d1, d2, d3] => { results := [.lit (.bool false)], args := [d1, d2, d3] }
  | _ => none }
def BagUnionWrongFalsely : Prop := bagUnionRow.holds Try.pinned (OpenSpec.ofChange bagUnionWrong)

/-- 'secateurlaw24.BagLeast': WHATEVER THE INPUT: true; the input reads as it did. -/
def bagLeastSpec : ChangeSpec := { name := "bagLeast", fn := fun _ => fun
  | [d1, d2, d3] => { results := [.lit (.bool true)], args := [d1, d2, d3] }
  | _ => none }
def bagLeastRow : OpenClaim := { program := "ytaphgfiboidpbaa", sum := "b8f8e0e626c5f1f13fe76a926a93d7fa3c7b349fa892fd530e876512b83d87d4", func := "secateur/secateurlaw24.BagLeast", spec := "bagLeast", inPlace := ["internal/bytealg.abigen_runtime_cmpstring"], unfollowed := true, recurses := true, apart := false }
def BagLeastSaid : Prop := bagLeastRow.holds Try.pinned (OpenSpec.ofChange bagLeastSpec)

/-- ITS FALSE NEIGHBOUR: 'it returns false'. Refute it at one input. -/
def bagLeastWrong : ChangeSpec := { name := "bagLeast", fn := fun _ => fun
  | [d1, d2, d3] => { results := [.lit (.bool false)], args := [d1, d2, d3] }
  | _ => none }
def BagLeastWrongFalsely : Prop := bagLeastRow.holds Try.pinned (OpenSpec.ofChange bagLeastWrong)

/- THE SECOND FORM. 'bulk': how many values and letters a reading holds, each counted each time it is reached (what is shared counts as often as it is met; a slice's spare places count too). A statement '..UptoSaid' is the law's where the arguments, and the package variables that the reading takes, are together of bulk at most 1048576: NARROWER than '..Said'. Prove '..Said' where nothing that the law and all that it calls make is longer than what came in: it says more and counts as full. Else prove '..UptoSaid'. A law counts once. -/
mutual
def uptoBulk {H : Type} : DataW H → Nat
  | .lit (.string bytes) => bytes.length + 1
  | .lit _ => 1
  | .nil => 1
  | .ptr d => uptoBulk d + 1
  | .slice elems spare => uptoBulkAll elems + uptoBulkAll spare + 1
  | .agg parts => uptoBulkAll parts + 1
  | .iface _ d => uptoBulk d + 1
  | .map entries => uptoBulkEntries entries + 1
  | .held _ => 1
def uptoBulkAll {H : Type} : List (DataW H) → Nat
  | [] => 0
  | d :: r => uptoBulk d + uptoBulkAll r
def uptoBulkEntries {H : Type} : List (Lit × DataW H) → Nat
  | [] => 0
  | x :: r => uptoBulkEntry x + uptoBulkEntries r
def uptoBulkEntry {H : Type} : Lit × DataW H → Nat
  | (.string bytes, d) => bytes.length + uptoBulk d + 1
  | (_, d) => uptoBulk d + 1
 end
def uptoSmall : (H : Type) → List (DataW H) → Bool := fun _ ds => decide (uptoBulkAll ds ≤ 1048576)
def OpenSpec.upto (s : _root_.Go.ChangeSpec) : _root_.Go.OpenSpec := { _root_.Go.OpenSpec.ofChange s with cond := some uptoSmall }

/-- 'secateurlaw24.BagSets', WHERE WHAT IT READS IS OF BULK AT MOST 1048576: true; the input reads as it did. -/
def bagSetsUptoRow : OpenClaim := { program := "ytaphgfiboidpbaa", sum := "b8f8e0e626c5f1f13fe76a926a93d7fa3c7b349fa892fd530e876512b83d87d4", func := "secateur/secateurlaw24.BagSets", spec := "bagSets", inPlace := ["internal/bytealg.abigen_runtime_cmpstring"], unfollowed := true, recurses := true, apart := false, narrowed := true }
def BagSetsUptoSaid : Prop := bagSetsUptoRow.holds Try.pinned (OpenSpec.upto bagSetsSpec)

/-- 'secateurlaw24.BagOnly', WHERE WHAT IT READS IS OF BULK AT MOST 1048576: true; the input reads as it did. -/
def bagOnlyUptoRow : OpenClaim := { program := "ytaphgfiboidpbaa", sum := "b8f8e0e626c5f1f13fe76a926a93d7fa3c7b349fa892fd530e876512b83d87d4", func := "secateur/secateurlaw24.BagOnly", spec := "bagOnly", inPlace := ["internal/bytealg.abigen_runtime_cmpstring"], unfollowed := true, recurses := true, apart := false, narrowed := true }
def BagOnlyUptoSaid : Prop := bagOnlyUptoRow.holds Try.pinned (OpenSpec.upto bagOnlySpec)

/-- 'secateurlaw24.BagOrder', WHERE WHAT IT READS IS OF BULK AT MOST 1048576: true; the input reads as it did. -/
def bagOrderUptoRow : OpenClaim := { program := "ytaphgfiboidpbaa", sum := "b8f8e0e626c5f1f13fe76a926a93d7fa3c7b349fa892fd530e876512b83d87d4", func := "secateur/secateurlaw24.BagOrder", spec := "bagOrder", inPlace := ["internal/bytealg.abigen_runtime_cmpstring"], unfollowed := true, recurses := true, apart := false, narrowed := true }
def BagOrderUptoSaid : Prop := bagOrderUptoRow.holds Try.pinned (OpenSpec.upto bagOrderSpec)

/-- 'secateurlaw24.BagUnion', WHERE WHAT IT READS IS OF BULK AT MOST 1048576: true; the input reads as it did. -/
def bagUnionUptoRow : OpenClaim := { program := "ytaphgfiboidpbaa", sum := "b8f8e0e626c5f1f13fe76a926a93d7fa3c7b349fa892fd530e876512b83d87d4", func := "secateur/secateurlaw24.BagUnion", spec := "bagUnion", inPlace := ["internal/bytealg.abigen_runtime_cmpstring"], unfollowed := true, recurses := true, apart := false, narrowed := true }
def BagUnionUptoSaid : Prop := bagUnionUptoRow.holds Try.pinned (OpenSpec.upto bagUnionSpec)

/-- 'secateurlaw24.BagLeast', WHERE WHAT IT READS IS OF BULK AT MOST 1048576: true; the input reads as it did. -/
def bagLeastUptoRow : OpenClaim := { program := "ytaphgfiboidpbaa", sum := "b8f8e0e626c5f1f13fe76a926a93d7fa3c7b349fa892fd530e876512b83d87d4", func := "secateur/secateurlaw24.BagLeast", spec := "bagLeast", inPlace := ["internal/bytealg.abigen_runtime_cmpstring"], unfollowed := true, recurses := true, apart := false, narrowed := true }
def BagLeastUptoSaid : Prop := bagLeastUptoRow.holds Try.pinned (OpenSpec.upto bagLeastSpec)

end Rows
end Go.Proofs.Ytaphgfiboidpbaa
