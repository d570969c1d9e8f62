/-
  No cell of these rows narrows 'for every input' (looked for: loops, veiled, ifaces, maps, wideKeys, modest, calm, conditions, laid).
  DERIVED. THE GIVEN ROWS OF THIS SEAT. 5 by the template 'for every input the law returns true; each argument reads behind the call as it read before'; 0 by the template 'total and deterministic' (their statements: YtkdnaiaacohfhaaTotals.lean).
  GIVEN WITH THE SEED: the statements are not yours to turn. If you find one false, say at which input.
  Laid BY PROGRAM, IN A SANDBOX (cutbox-rows.mjs): the forced cells as the released guide's own fill.sh prints them over the translation 0e1f1ef3b901f5fc… (all of the seat's roots in one cut). By AI agents, Wed Nov 11 2026. No macro, syntax, notation, axiom, sorry.
-/
import Derived.Test.YtkdnaiaacohfhaaChecked
import GoSem.Claim
import GoSem.ClaimJoined
import GoSem.ClaimMapViews
import Derived.JoinedTies
import Derived.KernelRfl
namespace Go.Proofs.Ytkdnaiaacohfhaa
/- THE CELL 'sum', in the pinned program and in every row, IS THE sha256 OF THE DUMP (.gsa) THAT YtkdnaiaacohfhaaProg.lean LOADS. Nothing in Lean hashes anything: it is a label: what it is worth is what the hold of that sum in a sandbox is worth. -/
noncomputable def Try.pinned : Pinned := { name := "ytkdnaiaacohfhaa", sum := "0e1f1ef3b901f5fc1b15645c1c9a12faf170c64bb52db6e580672209d0dd6462", checked := Try.checked }
namespace Rows
def none {H : Type} : Left H := { results := [], args := [] }

/-- 'secateurlaw15.JoinMerges': WHATEVER THE INPUT: true; the input reads as it did. -/
def joinMergesSpec : ChangeSpec := { name := "joinMerges", fn := fun _ => fun
  | [d1, d2, d3] => { results := [.lit (.bool true)], args := [d1, d2, d3] }
  | _ => none }
def joinMergesRow : OpenClaim := { program := "ytkdnaiaacohfhaa", sum := "0e1f1ef3b901f5fc1b15645c1c9a12faf170c64bb52db6e580672209d0dd6462", func := "secateur/secateurlaw15.JoinMerges", spec := "joinMerges", unfollowed := true, recurses := true, apart := false }
def JoinMergesSaid : Prop := joinMergesRow.holds Try.pinned (OpenSpec.ofChange joinMergesSpec)

/-- ITS FALSE NEIGHBOUR: 'it returns false'. Refute it at one input. -/
def joinMergesWrong : ChangeSpec := { name := "joinMerges", fn := fun _ => fun
  | [d1, d2, d3] => { results := [.lit (.bool false)], args := [d1, d2, d3] }
  | _ => none }
def JoinMergesWrongFalsely : Prop := joinMergesRow.holds Try.pinned (OpenSpec.ofChange joinMergesWrong)

/-- 'secateurlaw15.JoinSides': WHATEVER THE INPUT: true; the input reads as it did. -/
def joinSidesSpec : ChangeSpec := { name := "joinSides", fn := fun _ => fun
  | [d1, d2, d3] => { results := [.lit (.bool true)], args := [d1, d2, d3] }
  | _ => none }
def joinSidesRow : OpenClaim := { program := "ytkdnaiaacohfhaa", sum := "0e1f1ef3b901f5fc1b15645c1c9a12faf170c64bb52db6e580672209d0dd6462", func := "secateur/secateurlaw15.JoinSides", spec := "joinSides", unfollowed := true, recurses := true, apart := false }
def JoinSidesSaid : Prop := joinSidesRow.holds Try.pinned (OpenSpec.ofChange joinSidesSpec)

/-- ITS FALSE NEIGHBOUR: 'it returns false'. Refute it at one input. -/
def joinSidesWrong : ChangeSpec := { name := "joinSides", fn := fun _ => fun
  | [d1, d2, d3] => { results := [.lit (.bool false)], args := [d1, d2, d3] }
  | _ => none }
def JoinSidesWrongFalsely : Prop := joinSidesRow.holds Try.pinned (OpenSpec.ofChange joinSidesWrong)

/-- 'secateurlaw15.JoinOrder': WHATEVER THE INPUT: true; the input reads as it did. -/
def joinOrderSpec : ChangeSpec := { name := "joinOrder", fn := fun _ => fun
  | [d1, d2, d3] => { results := [.lit (.bool true)], args := [d1, d2, d3] }
  | _ => none }
def joinOrderRow : OpenClaim := { program := "ytkdnaiaacohfhaa", sum := "0e1f1ef3b901f5fc1b15645c1c9a12faf170c64bb52db6e580672209d0dd6462", func := "secateur/secateurlaw15.JoinOrder", spec := "joinOrder", unfollowed := true, recurses := true, apart := false }
def JoinOrderSaid : Prop := joinOrderRow.holds Try.pinned (OpenSpec.ofChange joinOrderSpec)

/-- ITS FALSE NEIGHBOUR: 'it returns false'. Refute it at one input. -/
def joinOrderWrong : ChangeSpec := { name := "joinOrder", fn := fun _ => fun
  | [d1, d2, d3] => { results := [.lit (.bool false)], args := [d1, d2, d3] }
  | _ => none }
def JoinOrderWrongFalsely : Prop := joinOrderRow.holds Try.pinned (OpenSpec.ofChange joinOrderWrong)

/-- 'secateurlaw15.JoinLeast': WHATEVER THE INPUT: true; the input reads as it did. -/
def joinLeastSpec : ChangeSpec := { name := "joinLeast", fn := fun _ => fun
  | [d1, d2, d3] => { results := [.lit (.bool true)], args := [d1, d2, d3] }
  | _ => none }
def joinLeastRow : OpenClaim := { program := "ytkdnaiaacohfhaa", sum := "0e1f1ef3b901f5fc1b15645c1c9a12faf170c64bb52db6e580672209d0dd6462", func := "secateur/secateurlaw15.JoinLeast", spec := "joinLeast", unfollowed := true, recurses := true, apart := false }
def JoinLeastSaid : Prop := joinLeastRow.holds Try.pinned (OpenSpec.ofChange joinLeastSpec)

/-- ITS FALSE NEIGHBOUR: 'it returns false'. Refute it at one input. -/
def joinLeastWrong : ChangeSpec := { name := "joinLeast", fn := fun _ => fun
  | [d1, d2, d3] => { results := [.lit (.bool false)], args := [d1, d2, d3] }
  | _ => none }
def JoinLeastWrongFalsely : Prop := joinLeastRow.holds Try.pinned (OpenSpec.ofChange joinLeastWrong)

/-- 'secateurlaw15.JoinFits': WHATEVER THE INPUT: true; the input reads as it did. -/
def joinFitsSpec : ChangeSpec := { name := "joinFits", fn := fun _ => fun
  | [d1, d2, d3] => { results := [.lit (.bool true)], args := [d1, d2, d3] }
  | _ => none }
def joinFitsRow : OpenClaim := { program := "ytkdnaiaacohfhaa", sum := "0e1f1ef3b901f5fc1b15645c1c9a12faf170c64bb52db6e580672209d0dd6462", func := "secateur/secateurlaw15.JoinFits", spec := "joinFits", unfollowed := true, recurses := true, apart := false }
def JoinFitsSaid : Prop := joinFitsRow.holds Try.pinned (OpenSpec.ofChange joinFitsSpec)

/-- ITS FALSE NEIGHBOUR: 'it returns false'. Refute it at one input. -/
def joinFitsWrong : ChangeSpec := { name := "joinFits", fn := fun _ => fun
  | [d1, d2, d3] => { results := [.lit (.bool false)], args := [d1, d2, d3] }
  | _ => none }
def JoinFitsWrongFalsely : Prop := joinFitsRow.holds Try.pinned (OpenSpec.ofChange joinFitsWrong)

/- THE SECOND FORM. 'bulk': how many values and letters a reading holds, each counted each time it is reached (what is shared counts as often as it is met; a slice's spare places count too). A statement '..UptoSaid' is the law's where the arguments, and the package variables that the reading takes, are together of bulk at most 1048576: NARROWER than '..Said'. Prove '..Said' where nothing that the law and all that it calls make is longer than what came in: it says more and counts as full. Else prove '..UptoSaid'. A law counts once. -/
mutual
def uptoBulk {H : Type} : DataW H → Nat
  | .lit (.string bytes) => bytes.length + 1
  | .lit _ => 1
  | .nil => 1
  | .ptr d => uptoBulk d + 1
  | .slice elems spare => uptoBulkAll elems + uptoBulkAll spare + 1
  | .agg parts => uptoBulkAll parts + 1
  | .iface _ d => uptoBulk d + 1
  | .map entries => uptoBulkEntries entries + 1
  | .held _ => 1
def uptoBulkAll {H : Type} : List (DataW H) → Nat
  | [] => 0
  | d :: r => uptoBulk d + uptoBulkAll r
def uptoBulkEntries {H : Type} : List (Lit × DataW H) → Nat
  | [] => 0
  | x :: r => uptoBulkEntry x + uptoBulkEntries r
def uptoBulkEntry {H : Type} : Lit × DataW H → Nat
  | (.string bytes, d) => bytes.length + uptoBulk d + 1
  | (_, d) => uptoBulk d + 1
 end
def uptoSmall : (H : Type) → List (DataW H) → Bool := fun _ ds => decide (uptoBulkAll ds ≤ 1048576)
def OpenSpec.upto (s : _root_.Go.ChangeSpec) : _root_.Go.OpenSpec := { _root_.Go.OpenSpec.ofChange s with cond := some uptoSmall }

/-- 'secateurlaw15.JoinMerges', WHERE WHAT IT READS IS OF BULK AT MOST 1048576: true; the input reads as it did. -/
def joinMergesUptoRow : OpenClaim := { program := "ytkdnaiaacohfhaa", sum := "0e1f1ef3b901f5fc1b15645c1c9a12faf170c64bb52db6e580672209d0dd6462", func := "secateur/secateurlaw15.JoinMerges", spec := "joinMerges", unfollowed := true, recurses := true, apart := false, narrowed := true }
def JoinMergesUptoSaid : Prop := joinMergesUptoRow.holds Try.pinned (OpenSpec.upto joinMergesSpec)

/-- 'secateurlaw15.JoinSides', WHERE WHAT IT READS IS OF BULK AT MOST 1048576: true; the input reads as it did. -/
def joinSidesUptoRow : OpenClaim := { program := "ytkdnaiaacohfhaa", sum := "0e1f1ef3b901f5fc1b15645c1c9a12faf170c64bb52db6e580672209d0dd6462", func := "secateur/secateurlaw15.JoinSides", spec := "joinSides", unfollowed := true, recurses := true, apart := false, narrowed := true }
def JoinSidesUptoSaid : Prop := joinSidesUptoRow.holds Try.pinned (OpenSpec.upto joinSidesSpec)

/-- 'secateurlaw15.JoinOrder', WHERE WHAT IT READS IS OF BULK AT MOST 1048576: true; the input reads as it did. -/
def joinOrderUptoRow : OpenClaim := { program := "ytkdnaiaacohfhaa", sum := "0e1f1ef3b901f5fc1b15645c1c9a12faf170c64bb52db6e580672209d0dd6462", func := "secateur/secateurlaw15.JoinOrder", spec := "joinOrder", unfollowed := true, recurses := true, apart := false, narrowed := true }
def JoinOrderUptoSaid : Prop := joinOrderUptoRow.holds Try.pinned (OpenSpec.upto joinOrderSpec)

/-- 'secateurlaw15.JoinLeast', WHERE WHAT IT READS IS OF BULK AT MOST 1048576: true; the input reads as it did. -/
def joinLeastUptoRow : OpenClaim := { program := "ytkdnaiaacohfhaa", sum := "0e1f1ef3b901f5fc1b15645c1c9a12faf170c64bb52db6e580672209d0dd6462", func := "secateur/secateurlaw15.JoinLeast", spec := "joinLeast", unfollowed := true, recurses := true, apart := false, narrowed := true }
def JoinLeastUptoSaid : Prop := joinLeastUptoRow.holds Try.pinned (OpenSpec.upto joinLeastSpec)

/-- 'secateurlaw15.JoinFits', WHERE WHAT IT READS IS OF BULK AT MOST 1048576: true; the input reads as it did. -/
def joinFitsUptoRow : OpenClaim := { program := "ytkdnaiaacohfhaa", sum := "0e1f1ef3b901f5fc1b15645c1c9a12faf170c64bb52db6e580672209d0dd6462", func := "secateur/secateurlaw15.JoinFits", spec := "joinFits", unfollowed := true, recurses := true, apart := false, narrowed := true }
def JoinFitsUptoSaid : Prop := joinFitsUptoRow.holds Try.pinned (OpenSpec.upto joinFitsSpec)

end Rows
end Go.Proofs.Ytkdnaiaacohfhaa
