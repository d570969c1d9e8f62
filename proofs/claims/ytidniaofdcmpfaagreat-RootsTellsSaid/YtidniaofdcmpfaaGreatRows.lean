/-
  No cell of these rows narrows 'for every input' (looked for: loops, veiled, ifaces, maps, wideKeys, modest, calm, conditions, laid).
  DERIVED. THE GIVEN ROWS OF THIS SEAT. 4 by the template 'for every input the law returns true; each argument reads behind the call as it read before'; 0 by the template 'total and deterministic' (their statements: YtidniaofdcmpfaaGreatTotals.lean).
  GIVEN WITH THE SEED: the statements are not yours to turn. If you find one false, say at which input.
  Laid BY PROGRAM, IN A SANDBOX (cutbox-rows.mjs): the forced cells as the released guide's own fill.sh prints them over the translation 60e71e8596cd0130… (all of the seat's roots in one cut). By AI agents, Wed Nov 11 2026. No macro, syntax, notation, axiom, sorry.
-/
import Derived.Test.YtidniaofdcmpfaaGreatChecked
import GoSem.Claim
import GoSem.ClaimJoined
import GoSem.ClaimMapViews
import Derived.JoinedTies
import Derived.KernelRfl
namespace Go.Proofs.YtidniaofdcmpfaaGreat
/- THE CELL 'sum', in the pinned program and in every row, IS THE sha256 OF THE DUMP (.gsa) THAT YtidniaofdcmpfaaGreatProg.lean LOADS. Nothing in Lean hashes anything: it is a label: what it is worth is what the hold of that sum in a sandbox is worth. -/
noncomputable def Tryz.pinned : Pinned := { name := "ytidniaofdcmpfaagreat", sum := "60e71e8596cd013045f7b25d3d29b0c8ec246e220ddac9adda894a3eefbf378f", checked := Tryz.checked }
namespace Rows
def none {H : Type} : Left H := { results := [], args := [] }

/-- 'secateurlaw23.RootsTells': WHATEVER THE INPUT: true; the input reads as it did. -/
def rootsTellsSpec : ChangeSpec := { name := "rootsTells", fn := fun _ => fun
  | [d1, d2, d3] => { results := [.lit (.bool true)], args := [d1, d2, d3] }
  | _ => none }
def rootsTellsRow : OpenClaim := { program := "ytidniaofdcmpfaagreat", sum := "60e71e8596cd013045f7b25d3d29b0c8ec246e220ddac9adda894a3eefbf378f", func := "secateur/secateurlaw23.RootsTells", spec := "rootsTells", inPlace := ["internal/bytealg.abigen_runtime_cmpstring"], unfollowed := true, recurses := true, apart := false }
def RootsTellsSaid : Prop := rootsTellsRow.holds Tryz.pinned (OpenSpec.ofChange rootsTellsSpec)

/-- ITS FALSE NEIGHBOUR: 'it returns false'. Refute it at one input. -/
def rootsTellsWrong : ChangeSpec := { name := "rootsTells", fn := fun _ => fun
  | [d1, d2, d3] => { results := [.lit (.bool false)], args := [d1, d2, d3] }
  | _ => none }
def RootsTellsWrongFalsely : Prop := rootsTellsRow.holds Tryz.pinned (OpenSpec.ofChange rootsTellsWrong)

/-- 'secateurlaw23.RootsMore': WHATEVER THE INPUT: true; the input reads as it did. -/
def rootsMoreSpec : ChangeSpec := { name := "rootsMore", fn := fun _ => fun
  | [d1, d2, d3] => { results := [.lit (.bool true)], args := [d1, d2, d3] }
  | _ => none }
def rootsMoreRow : OpenClaim := { program := "ytidniaofdcmpfaagreat", sum := "60e71e8596cd013045f7b25d3d29b0c8ec246e220ddac9adda894a3eefbf378f", func := "secateur/secateurlaw23.RootsMore", spec := "rootsMore", inPlace := ["internal/bytealg.abigen_runtime_cmpstring"], unfollowed := true, recurses := true, apart := false }
def RootsMoreSaid : Prop := rootsMoreRow.holds Tryz.pinned (OpenSpec.ofChange rootsMoreSpec)

/-- ITS FALSE NEIGHBOUR: 'it returns false'. Refute it at one input. -/
def rootsMoreWrong : ChangeSpec := { name := "rootsMore", fn := fun _ => fun
  | [d1, d2, d3] => { results := [.lit (.bool false)], args := [d1, d2, d3] }
  | _ => none }
def RootsMoreWrongFalsely : Prop := rootsMoreRow.holds Tryz.pinned (OpenSpec.ofChange rootsMoreWrong)

/-- 'secateurlaw23.RootsExact': WHATEVER THE INPUT: true; the input reads as it did. -/
def rootsExactSpec : ChangeSpec := { name := "rootsExact", fn := fun _ => fun
  | [d1, d2] => { results := [.lit (.bool true)], args := [d1, d2] }
  | _ => none }
def rootsExactRow : OpenClaim := { program := "ytidniaofdcmpfaagreat", sum := "60e71e8596cd013045f7b25d3d29b0c8ec246e220ddac9adda894a3eefbf378f", func := "secateur/secateurlaw23.RootsExact", spec := "rootsExact", inPlace := ["internal/bytealg.abigen_runtime_cmpstring"], unfollowed := true, recurses := true, apart := false }
def RootsExactSaid : Prop := rootsExactRow.holds Tryz.pinned (OpenSpec.ofChange rootsExactSpec)

/-- ITS FALSE NEIGHBOUR: 'it returns false'. Refute it at one input. -/
def rootsExactWrong : ChangeSpec := { name := "rootsExact", fn := fun _ => fun
  | [d1, d2] => { results := [.lit (.bool false)], args := [d1, d2] }
  | _ => none }
def RootsExactWrongFalsely : Prop := rootsExactRow.holds Tryz.pinned (OpenSpec.ofChange rootsExactWrong)

/-- 'secateurlaw23.RootsClasses': WHATEVER THE INPUT: true; the input reads as it did. -/
def rootsClassesSpec : ChangeSpec := { name := "rootsClasses", fn := fun _ => fun
  | [d1, d2] => { results := [.lit (.bool true)], args := [d1, d2] }
  | _ => none }
def rootsClassesRow : OpenClaim := { program := "ytidniaofdcmpfaagreat", sum := "60e71e8596cd013045f7b25d3d29b0c8ec246e220ddac9adda894a3eefbf378f", func := "secateur/secateurlaw23.RootsClasses", spec := "rootsClasses", inPlace := ["internal/bytealg.abigen_runtime_cmpstring"], unfollowed := true, recurses := true, apart := false }
def RootsClassesSaid : Prop := rootsClassesRow.holds Tryz.pinned (OpenSpec.ofChange rootsClassesSpec)

/-- ITS FALSE NEIGHBOUR: 'it returns false'. Refute it at one input. -/
def rootsClassesWrong : ChangeSpec := { name := "rootsClasses", fn := fun _ => fun
  | [d1, d2] => { results := [.lit (.bool false)], args := [d1, d2] }
  | _ => none }
def RootsClassesWrongFalsely : Prop := rootsClassesRow.holds Tryz.pinned (OpenSpec.ofChange rootsClassesWrong)

/- THE SECOND FORM. 'bulk': how many values and letters a reading holds, each counted each time it is reached (what is shared counts as often as it is met; a slice's spare places count too). A statement '..UptoSaid' is the law's where the arguments, and the package variables that the reading takes, are together of bulk at most 1048576: NARROWER than '..Said'. Prove '..Said' where nothing that the law and all that it calls make is longer than what came in: it says more and counts as full. Else prove '..UptoSaid'. A law counts once. -/
mutual
def uptoBulk {H : Type} : DataW H → Nat
  | .lit (.string bytes) => bytes.length + 1
  | .lit _ => 1
  | .nil => 1
  | .ptr d => uptoBulk d + 1
  | .slice elems spare => uptoBulkAll elems + uptoBulkAll spare + 1
  | .agg parts => uptoBulkAll parts + 1
  | .iface _ d => uptoBulk d + 1
  | .map entries => uptoBulkEntries entries + 1
  | .held _ => 1
def uptoBulkAll {H : Type} : List (DataW H) → Nat
  | [] => 0
  | d :: r => uptoBulk d + uptoBulkAll r
def uptoBulkEntries {H : Type} : List (Lit × DataW H) → Nat
  | [] => 0
  | x :: r => uptoBulkEntry x + uptoBulkEntries r
def uptoBulkEntry {H : Type} : Lit × DataW H → Nat
  | (.string bytes, d) => bytes.length + uptoBulk d + 1
  | (_, d) => uptoBulk d + 1
 end
def uptoSmall : (H : Type) → List (DataW H) → Bool := fun _ ds => decide (uptoBulkAll ds ≤ 1048576)
def OpenSpec.upto (s : _root_.Go.ChangeSpec) : _root_.Go.OpenSpec := { _root_.Go.OpenSpec.ofChange s with cond := some uptoSmall }

/-- 'secateurlaw23.RootsTells', WHERE WHAT IT READS IS OF BULK AT MOST 1048576: true; the input reads as it did. -/
def rootsTellsUptoRow : OpenClaim := { program := "ytidniaofdcmpfaagreat", sum := "60e71e8596cd013045f7b25d3d29b0c8ec246e220ddac9adda894a3eefbf378f", func := "secateur/secateurlaw23.RootsTells", spec := "rootsTells", inPlace := ["internal/bytealg.abigen_runtime_cmpstring"], unfollowed := true, recurses := true, apart := false, narrowed := true }
def RootsTellsUptoSaid : Prop := rootsTellsUptoRow.holds Tryz.pinned (OpenSpec.upto rootsTellsSpec)

/-- 'secateurlaw23.RootsMore', WHERE WHAT IT READS IS OF BULK AT MOST 1048576: true; the input reads as it did. -/
def rootsMoreUptoRow : OpenClaim := { program := "ytidniaofdcmpfaagreat", sum := "60e71e8596cd013045f7b25d3d29b0c8ec246e220ddac9adda894a3eefbf378f", func := "secateur/secateurlaw23.RootsMore", spec := "rootsMore", inPlace := ["internal/bytealg.abigen_runtime_cmpstring"], unfollowed := true, recurses := true, apart := false, narrowed := true }
def RootsMoreUptoSaid : Prop := rootsMoreUptoRow.holds Tryz.pinned (OpenSpec.upto rootsMoreSpec)

/-- 'secateurlaw23.RootsExact', WHERE WHAT IT READS IS OF BULK AT MOST 1048576: true; the input reads as it did. -/
def rootsExactUptoRow : OpenClaim := { program := "ytidniaofdcmpfaagreat", sum := "60e71e8596cd013045f7b25d3d29b0c8ec246e220ddac9adda894a3eefbf378f", func := "secateur/secateurlaw23.RootsExact", spec := "rootsExact", inPlace := ["internal/bytealg.abigen_runtime_cmpstring"], unfollowed := true, recurses := true, apart := false, narrowed := true }
def RootsExactUptoSaid : Prop := rootsExactUptoRow.holds Tryz.pinned (OpenSpec.upto rootsExactSpec)

/-- 'secateurlaw23.RootsClasses', WHERE WHAT IT READS IS OF BULK AT MOST 1048576: true; the input reads as it did. -/
def rootsClassesUptoRow : OpenClaim := { program := "ytidniaofdcmpfaagreat", sum := "60e71e8596cd013045f7b25d3d29b0c8ec246e220ddac9adda894a3eefbf378f", func := "secateur/secateurlaw23.RootsClasses", spec := "rootsClasses", inPlace := ["internal/bytealg.abigen_runtime_cmpstring"], unfollowed := true, recurses := true, apart := false, narrowed := true }
def RootsClassesUptoSaid : Prop := rootsClassesUptoRow.holds Tryz.pinned (OpenSpec.upto rootsClassesSpec)

end Rows
end Go.Proofs.YtidniaofdcmpfaaGreat
