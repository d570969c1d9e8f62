/-
  No cell of these rows narrows 'for every input' (looked for: loops, veiled, ifaces, maps, wideKeys, modest, calm, conditions, laid).
  DERIVED. THE GIVEN ROWS OF THIS SEAT. 11 by the template 'for every input the law returns true; each argument reads behind the call as it read before'; 0 by the template 'total and deterministic' (their statements: YtdombpcfmjlnlaaTotals.lean).
  GIVEN WITH THE SEED: the statements are not yours to turn. If you find one false, say at which input.
  Laid BY PROGRAM, IN A SANDBOX (cutbox-rows.mjs): the forced cells as the released guide's own fill.sh prints them over the translation 35a3317e81f66c3f… (all of the seat's roots in one cut). By AI agents, Wed Nov 11 2026. No macro, syntax, notation, axiom, sorry.
-/
import Derived.Test.YtdombpcfmjlnlaaChecked
import GoSem.Claim
import GoSem.ClaimJoined
import GoSem.ClaimMapViews
import Derived.JoinedTies
import Derived.KernelRfl
namespace Go.Proofs.Ytdombpcfmjlnlaa
/- THE CELL 'sum', in the pinned program and in every row, IS THE sha256 OF THE DUMP (.gsa) THAT YtdombpcfmjlnlaaProg.lean LOADS. Nothing in Lean hashes anything: it is a label: what it is worth is what the hold of that sum in a sandbox is worth. -/
noncomputable def Try.pinned : Pinned := { name := "ytdombpcfmjlnlaa", sum := "35a3317e81f66c3f8c6503225d03b4d199295367f60aa5e1cd10b9bf0a9e4f60", checked := Try.checked }
namespace Rows
def none {H : Type} : Left H := { results := [], args := [] }

/-- 'secateurlaw05.PoolPlaces': WHATEVER THE INPUT: true; the input reads as it did. -/
def poolPlacesSpec : ChangeSpec := { name := "poolPlaces", fn := fun _ => fun
  | [d1, d2] => { results := [.lit (.bool true)], args := [d1, d2] }
  | _ => none }
def poolPlacesRow : OpenClaim := { program := "ytdombpcfmjlnlaa", sum := "35a3317e81f66c3f8c6503225d03b4d199295367f60aa5e1cd10b9bf0a9e4f60", func := "secateur/secateurlaw05.PoolPlaces", spec := "poolPlaces", unfollowed := true, recurses := true, apart := false }
def PoolPlacesSaid : Prop := poolPlacesRow.holds Try.pinned (OpenSpec.ofChange poolPlacesSpec)

/-- ITS FALSE NEIGHBOUR: 'it returns false'. Refute it at one input. -/
def poolPlacesWrong : ChangeSpec := { name := "poolPlaces", fn := fun _ => fun
  | [d1, d2] => { results := [.lit (.bool false)], args := [d1, d2] }
  | _ => none }
def PoolPlacesWrongFalsely : Prop := poolPlacesRow.holds Try.pinned (OpenSpec.ofChange poolPlacesWrong)

/-- 'secateurlaw05.PoolSame': WHATEVER THE INPUT: true; the input reads as it did. -/
def poolSameSpec : ChangeSpec := { name := "poolSame", fn := fun _ => fun
  | [d1, d2] => { results := [.lit (.bool true)], args := [d1, d2] }
  | _ => none }
def poolSameRow : OpenClaim := { program := "ytdombpcfmjlnlaa", sum := "35a3317e81f66c3f8c6503225d03b4d199295367f60aa5e1cd10b9bf0a9e4f60", func := "secateur/secateurlaw05.PoolSame", spec := "poolSame", unfollowed := true, recurses := true, apart := false }
def PoolSameSaid : Prop := poolSameRow.holds Try.pinned (OpenSpec.ofChange poolSameSpec)

/-- ITS FALSE NEIGHBOUR: 'it returns false'. Refute it at one input. -/
def poolSameWrong : ChangeSpec := { name := "poolSame", fn := fun _ => fun
  | [d1, d2] => { results := [.lit (.bool false)], args := [d1, d2] }
  | _ => none }
def PoolSameWrongFalsely : Prop := poolSameRow.holds Try.pinned (OpenSpec.ofChange poolSameWrong)

/-- 'secateurlaw05.PoolMakes': WHATEVER THE INPUT: true; the input reads as it did. -/
def poolMakesSpec : ChangeSpec := { name := "poolMakes", fn := fun _ => fun
  | [d1, d2, d3] => { results := [.lit (.bool true)], args := [d1, d2, d3] }
  | _ => none }
def poolMakesRow : OpenClaim := { program := "ytdombpcfmjlnlaa", sum := "35a3317e81f66c3f8c6503225d03b4d199295367f60aa5e1cd10b9bf0a9e4f60", func := "secateur/secateurlaw05.PoolMakes", spec := "poolMakes", unfollowed := true, recurses := true, apart := false }
def PoolMakesSaid : Prop := poolMakesRow.holds Try.pinned (OpenSpec.ofChange poolMakesSpec)

/-- ITS FALSE NEIGHBOUR: 'it returns false'. Refute it at one input. -/
def poolMakesWrong : ChangeSpec := { name := "poolMakes", fn := fun _ => fun
  | [d1, d2, d3] => { results := [.lit (.bool false)], args := [d1, d2, d3] }
  | _ => none }
def PoolMakesWrongFalsely : Prop := poolMakesRow.holds Try.pinned (OpenSpec.ofChange poolMakesWrong)

/-- 'secateurlaw11.HierLists': WHATEVER THE INPUT: true; the input reads as it did. -/
def hierListsSpec : ChangeSpec := { name := "hierLists", fn := fun _ => fun
  | [d1, d2, d3] => { results := [.lit (.bool true)], args := [d1, d2, d3] }
  | _ => none }
def hierListsRow : OpenClaim := { program := "ytdombpcfmjlnlaa", sum := "35a3317e81f66c3f8c6503225d03b4d199295367f60aa5e1cd10b9bf0a9e4f60", func := "secateur/secateurlaw11.HierLists", spec := "hierLists", unfollowed := true, recurses := true, apart := false }
def HierListsSaid : Prop := hierListsRow.holds Try.pinned (OpenSpec.ofChange hierListsSpec)

/-- ITS FALSE NEIGHBOUR: 'it returns false'. Refute it at one input. -/
def hierListsWrong : ChangeSpec := { name := "hierLists", fn := fun _ => fun
  | [d1, d2, d3] => { results := [.lit (.bool false)], args := [d1, d2, d3] }
  | _ => none }
def HierListsWrongFalsely : Prop := hierListsRow.holds Try.pinned (OpenSpec.ofChange hierListsWrong)

/-- 'secateurlaw11.HierChecks': WHATEVER THE INPUT: true; the input reads as it did. -/
def hierChecksSpec : ChangeSpec := { name := "hierChecks", fn := fun _ => fun
  | [d] => { results := [.lit (.bool true)], args := [d] }
  | _ => none }
def hierChecksRow : OpenClaim := { program := "ytdombpcfmjlnlaa", sum := "35a3317e81f66c3f8c6503225d03b4d199295367f60aa5e1cd10b9bf0a9e4f60", func := "secateur/secateurlaw11.HierChecks", spec := "hierChecks", unfollowed := true, recurses := true, apart := false }
def HierChecksSaid : Prop := hierChecksRow.holds Try.pinned (OpenSpec.ofChange hierChecksSpec)

/-- ITS FALSE NEIGHBOUR: 'it returns false'. Refute it at one input. -/
def hierChecksWrong : ChangeSpec := { name := "hierChecks", fn := fun _ => fun
  | [d] => { results := [.lit (.bool false)], args := [d] }
  | _ => none }
def HierChecksWrongFalsely : Prop := hierChecksRow.holds Try.pinned (OpenSpec.ofChange hierChecksWrong)

/-- 'secateurlaw11.HierOrder': WHATEVER THE INPUT: true; the input reads as it did. -/
def hierOrderSpec : ChangeSpec := { name := "hierOrder", fn := fun _ => fun
  | [d1, d2] => { results := [.lit (.bool true)], args := [d1, d2] }
  | _ => none }
def hierOrderRow : OpenClaim := { program := "ytdombpcfmjlnlaa", sum := "35a3317e81f66c3f8c6503225d03b4d199295367f60aa5e1cd10b9bf0a9e4f60", func := "secateur/secateurlaw11.HierOrder", spec := "hierOrder", unfollowed := true, recurses := true, apart := false }
def HierOrderSaid : Prop := hierOrderRow.holds Try.pinned (OpenSpec.ofChange hierOrderSpec)

/-- ITS FALSE NEIGHBOUR: 'it returns false'. Refute it at one input. -/
def hierOrderWrong : ChangeSpec := { name := "hierOrder", fn := fun _ => fun
  | [d1, d2] => { results := [.lit (.bool false)], args := [d1, d2] }
  | _ => none }
def HierOrderWrongFalsely : Prop := hierOrderRow.holds Try.pinned (OpenSpec.ofChange hierOrderWrong)

/-- 'secateurlaw11.HierCommon': WHATEVER THE INPUT: true; the input reads as it did. -/
def hierCommonSpec : ChangeSpec := { name := "hierCommon", fn := fun _ => fun
  | [d1, d2] => { results := [.lit (.bool true)], args := [d1, d2] }
  | _ => none }
def hierCommonRow : OpenClaim := { program := "ytdombpcfmjlnlaa", sum := "35a3317e81f66c3f8c6503225d03b4d199295367f60aa5e1cd10b9bf0a9e4f60", func := "secateur/secateurlaw11.HierCommon", spec := "hierCommon", unfollowed := true, recurses := true, apart := false }
def HierCommonSaid : Prop := hierCommonRow.holds Try.pinned (OpenSpec.ofChange hierCommonSpec)

/-- ITS FALSE NEIGHBOUR: 'it returns false'. Refute it at one input. -/
def hierCommonWrong : ChangeSpec := { name := "hierCommon", fn := fun _ => fun
  | [d1, d2] => { results := [.lit (.bool false)], args := [d1, d2] }
  | _ => none }
def HierCommonWrongFalsely : Prop := hierCommonRow.holds Try.pinned (OpenSpec.ofChange hierCommonWrong)

/-- 'secateurlaw12.FindMethods': WHATEVER THE INPUT: true; the input reads as it did. -/
def findMethodsSpec : ChangeSpec := { name := "findMethods", fn := fun _ => fun
  | [d1, d2] => { results := [.lit (.bool true)], args := [d1, d2] }
  | _ => none }
def findMethodsRow : OpenClaim := { program := "ytdombpcfmjlnlaa", sum := "35a3317e81f66c3f8c6503225d03b4d199295367f60aa5e1cd10b9bf0a9e4f60", func := "secateur/secateurlaw12.FindMethods", spec := "findMethods", unfollowed := true, recurses := true, apart := false }
def FindMethodsSaid : Prop := findMethodsRow.holds Try.pinned (OpenSpec.ofChange findMethodsSpec)

/-- ITS FALSE NEIGHBOUR: 'it returns false'. Refute it at one input. -/
def findMethodsWrong : ChangeSpec := { name := "findMethods", fn := fun _ => fun
  | [d1, d2] => { results := [.lit (.bool false)], args := [d1, d2] }
  | _ => none }
def FindMethodsWrongFalsely : Prop := findMethodsRow.holds Try.pinned (OpenSpec.ofChange findMethodsWrong)

/-- 'secateurlaw12.FindFields': WHATEVER THE INPUT: true; the input reads as it did. -/
def findFieldsSpec : ChangeSpec := { name := "findFields", fn := fun _ => fun
  | [d1, d2] => { results := [.lit (.bool true)], args := [d1, d2] }
  | _ => none }
def findFieldsRow : OpenClaim := { program := "ytdombpcfmjlnlaa", sum := "35a3317e81f66c3f8c6503225d03b4d199295367f60aa5e1cd10b9bf0a9e4f60", func := "secateur/secateurlaw12.FindFields", spec := "findFields", unfollowed := true, recurses := true, apart := false }
def FindFieldsSaid : Prop := findFieldsRow.holds Try.pinned (OpenSpec.ofChange findFieldsSpec)

/-- ITS FALSE NEIGHBOUR: 'it returns false'. Refute it at one input. -/
def findFieldsWrong : ChangeSpec := { name := "findFields", fn := fun _ => fun
  | [d1, d2] => { results := [.lit (.bool false)], args := [d1, d2] }
  | _ => none }
def FindFieldsWrongFalsely : Prop := findFieldsRow.holds Try.pinned (OpenSpec.ofChange findFieldsWrong)

/-- 'secateurlaw12.FindDeclared': WHATEVER THE INPUT: true; the input reads as it did. -/
def findDeclaredSpec : ChangeSpec := { name := "findDeclared", fn := fun _ => fun
  | [d1, d2] => { results := [.lit (.bool true)], args := [d1, d2] }
  | _ => none }
def findDeclaredRow : OpenClaim := { program := "ytdombpcfmjlnlaa", sum := "35a3317e81f66c3f8c6503225d03b4d199295367f60aa5e1cd10b9bf0a9e4f60", func := "secateur/secateurlaw12.FindDeclared", spec := "findDeclared", unfollowed := true, recurses := true, apart := false }
def FindDeclaredSaid : Prop := findDeclaredRow.holds Try.pinned (OpenSpec.ofChange findDeclaredSpec)

/-- ITS FALSE NEIGHBOUR: 'it returns false'. Refute it at one input. -/
def findDeclaredWrong : ChangeSpec := { name := "findDeclared", fn := fun _ => fun
  | [d1, d2] => { results := [.lit (.bool false)], args := [d1, d2] }
  | _ => none }
def FindDeclaredWrongFalsely : Prop := findDeclaredRow.holds Try.pinned (OpenSpec.ofChange findDeclaredWrong)

/-- 'secateurlaw12.FindOverrides': WHATEVER THE INPUT: true; the input reads as it did. -/
def findOverridesSpec : ChangeSpec := { name := "findOverrides", fn := fun _ => fun
  | [d1, d2] => { results := [.lit (.bool true)], args := [d1, d2] }
  | _ => none }
def findOverridesRow : OpenClaim := { program := "ytdombpcfmjlnlaa", sum := "35a3317e81f66c3f8c6503225d03b4d199295367f60aa5e1cd10b9bf0a9e4f60", func := "secateur/secateurlaw12.FindOverrides", spec := "findOverrides", unfollowed := true, recurses := true, apart := false }
def FindOverridesSaid : Prop := findOverridesRow.holds Try.pinned (OpenSpec.ofChange findOverridesSpec)

/-- ITS FALSE NEIGHBOUR: 'it returns false'. Refute it at one input. -/
def findOverridesWrong : ChangeSpec := { name := "findOverrides", fn := fun _ => fun
  | [d1, d2] => { results := [.lit (.bool false)], args := [d1, d2] }
  | _ => none }
def FindOverridesWrongFalsely : Prop := findOverridesRow.holds Try.pinned (OpenSpec.ofChange findOverridesWrong)

/- THE SECOND FORM. 'bulk': how many values and letters a reading holds, each counted each time it is reached (what is shared counts as often as it is met; a slice's spare places count too). A statement '..UptoSaid' is the law's where the arguments, and the package variables that the reading takes, are together of bulk at most 1048576: NARROWER than '..Said'. Prove '..Said' where nothing that the law and all that it calls make is longer than what came in: it says more and counts as full. Else prove '..UptoSaid'. A law counts once. -/
mutual
def uptoBulk {H : Type} : DataW H → Nat
  | .lit (.string bytes) => bytes.length + 1
  | .lit _ => 1
  | .nil => 1
  | .ptr d => uptoBulk d + 1
  | .slice elems spare => uptoBulkAll elems + uptoBulkAll spare + 1
  | .agg parts => uptoBulkAll parts + 1
  | .iface _ d => uptoBulk d + 1
  | .map entries => uptoBulkEntries entries + 1
  | .held _ => 1
def uptoBulkAll {H : Type} : List (DataW H) → Nat
  | [] => 0
  | d :: r => uptoBulk d + uptoBulkAll r
def uptoBulkEntries {H : Type} : List (Lit × DataW H) → Nat
  | [] => 0
  | x :: r => uptoBulkEntry x + uptoBulkEntries r
def uptoBulkEntry {H : Type} : Lit × DataW H → Nat
  | (.string bytes, d) => bytes.length + uptoBulk d + 1
  | (_, d) => uptoBulk d + 1
 end
def uptoSmall : (H : Type) → List (DataW H) → Bool := fun _ ds => decide (uptoBulkAll ds ≤ 1048576)
def OpenSpec.upto (s : _root_.Go.ChangeSpec) : _root_.Go.OpenSpec := { _root_.Go.OpenSpec.ofChange s with cond := some uptoSmall }

/-- 'secateurlaw05.PoolPlaces', WHERE WHAT IT READS IS OF BULK AT MOST 1048576: true; the input reads as it did. -/
def poolPlacesUptoRow : OpenClaim := { program := "ytdombpcfmjlnlaa", sum := "35a3317e81f66c3f8c6503225d03b4d199295367f60aa5e1cd10b9bf0a9e4f60", func := "secateur/secateurlaw05.PoolPlaces", spec := "poolPlaces", unfollowed := true, recurses := true, apart := false, narrowed := true }
def PoolPlacesUptoSaid : Prop := poolPlacesUptoRow.holds Try.pinned (OpenSpec.upto poolPlacesSpec)

/-- 'secateurlaw05.PoolSame', WHERE WHAT IT READS IS OF BULK AT MOST 1048576: true; the input reads as it did. -/
def poolSameUptoRow : OpenClaim := { program := "ytdombpcfmjlnlaa", sum := "35a3317e81f66c3f8c6503225d03b4d199295367f60aa5e1cd10b9bf0a9e4f60", func := "secateur/secateurlaw05.PoolSame", spec := "poolSame", unfollowed := true, recurses := true, apart := false, narrowed := true }
def PoolSameUptoSaid : Prop := poolSameUptoRow.holds Try.pinned (OpenSpec.upto poolSameSpec)

/-- 'secateurlaw05.PoolMakes', WHERE WHAT IT READS IS OF BULK AT MOST 1048576: true; the input reads as it did. -/
def poolMakesUptoRow : OpenClaim := { program := "ytdombpcfmjlnlaa", sum := "35a3317e81f66c3f8c6503225d03b4d199295367f60aa5e1cd10b9bf0a9e4f60", func := "secateur/secateurlaw05.PoolMakes", spec := "poolMakes", unfollowed := true, recurses := true, apart := false, narrowed := true }
def PoolMakesUptoSaid : Prop := poolMakesUptoRow.holds Try.pinned (OpenSpec.upto poolMakesSpec)

/-- 'secateurlaw11.HierLists', WHERE WHAT IT READS IS OF BULK AT MOST 1048576: true; the input reads as it did. -/
def hierListsUptoRow : OpenClaim := { program := "ytdombpcfmjlnlaa", sum := "35a3317e81f66c3f8c6503225d03b4d199295367f60aa5e1cd10b9bf0a9e4f60", func := "secateur/secateurlaw11.HierLists", spec := "hierLists", unfollowed := true, recurses := true, apart := false, narrowed := true }
def HierListsUptoSaid : Prop := hierListsUptoRow.holds Try.pinned (OpenSpec.upto hierListsSpec)

/-- 'secateurlaw11.HierChecks', WHERE WHAT IT READS IS OF BULK AT MOST 1048576: true; the input reads as it did. -/
def hierChecksUptoRow : OpenClaim := { program := "ytdombpcfmjlnlaa", sum := "35a3317e81f66c3f8c6503225d03b4d199295367f60aa5e1cd10b9bf0a9e4f60", func := "secateur/secateurlaw11.HierChecks", spec := "hierChecks", unfollowed := true, recurses := true, apart := false, narrowed := true }
def HierChecksUptoSaid : Prop := hierChecksUptoRow.holds Try.pinned (OpenSpec.upto hierChecksSpec)

/-- 'secateurlaw11.HierOrder', WHERE WHAT IT READS IS OF BULK AT MOST 1048576: true; the input reads as it did. -/
def hierOrderUptoRow : OpenClaim := { program := "ytdombpcfmjlnlaa", sum := "35a3317e81f66c3f8c6503225d03b4d199295367f60aa5e1cd10b9bf0a9e4f60", func := "secateur/secateurlaw11.HierOrder", spec := "hierOrder", unfollowed := true, recurses := true, apart := false, narrowed := true }
def HierOrderUptoSaid : Prop := hierOrderUptoRow.holds Try.pinned (OpenSpec.upto hierOrderSpec)

/-- 'secateurlaw11.HierCommon', WHERE WHAT IT READS IS OF BULK AT MOST 1048576: true; the input reads as it did. -/
def hierCommonUptoRow : OpenClaim := { program := "ytdombpcfmjlnlaa", sum := "35a3317e81f66c3f8c6503225d03b4d199295367f60aa5e1cd10b9bf0a9e4f60", func := "secateur/secateurlaw11.HierCommon", spec := "hierCommon", unfollowed := true, recurses := true, apart := false, narrowed := true }
def HierCommonUptoSaid : Prop := hierCommonUptoRow.holds Try.pinned (OpenSpec.upto hierCommonSpec)

/-- 'secateurlaw12.FindMethods', WHERE WHAT IT READS IS OF BULK AT MOST 1048576: true; the input reads as it did. -/
def findMethodsUptoRow : OpenClaim := { program := "ytdombpcfmjlnlaa", sum := "35a3317e81f66c3f8c6503225d03b4d199295367f60aa5e1cd10b9bf0a9e4f60", func := "secateur/secateurlaw12.FindMethods", spec := "findMethods", unfollowed := true, recurses := true, apart := false, narrowed := true }
def FindMethodsUptoSaid : Prop := findMethodsUptoRow.holds Try.pinned (OpenSpec.upto findMethodsSpec)

/-- 'secateurlaw12.FindFields', WHERE WHAT IT READS IS OF BULK AT MOST 1048576: true; the input reads as it did. -/
def findFieldsUptoRow : OpenClaim := { program := "ytdombpcfmjlnlaa", sum := "35a3317e81f66c3f8c6503225d03b4d199295367f60aa5e1cd10b9bf0a9e4f60", func := "secateur/secateurlaw12.FindFields", spec := "findFields", unfollowed := true, recurses := true, apart := false, narrowed := true }
def FindFieldsUptoSaid : Prop := findFieldsUptoRow.holds Try.pinned (OpenSpec.upto findFieldsSpec)

/-- 'secateurlaw12.FindDeclared', WHERE WHAT IT READS IS OF BULK AT MOST 1048576: true; the input reads as it did. -/
def findDeclaredUptoRow : OpenClaim := { program := "ytdombpcfmjlnlaa", sum := "35a3317e81f66c3f8c6503225d03b4d199295367f60aa5e1cd10b9bf0a9e4f60", func := "secateur/secateurlaw12.FindDeclared", spec := "findDeclared", unfollowed := true, recurses := true, apart := false, narrowed := true }
def FindDeclaredUptoSaid : Prop := findDeclaredUptoRow.holds Try.pinned (OpenSpec.upto findDeclaredSpec)

/-- 'secateurlaw12.FindOverrides', WHERE WHAT IT READS IS OF BULK AT MOST 1048576: true; the input reads as it did. -/
def findOverridesUptoRow : OpenClaim := { program := "ytdombpcfmjlnlaa", sum := "35a3317e81f66c3f8c6503225d03b4d199295367f60aa5e1cd10b9bf0a9e4f60", func := "secateur/secateurlaw12.FindOverrides", spec := "findOverrides", unfollowed := true, recurses := true, apart := false, narrowed := true }
def FindOverridesUptoSaid : Prop := findOverridesUptoRow.holds Try.pinned (OpenSpec.upto findOverridesSpec)

end Rows
end Go.Proofs.Ytdombpcfmjlnlaa
