/- YtcadlppohbngnaaRaB1: texts of this claim, one behind the other. -/
import Derived.Test.YtcadlppohbngnaaProg
import Derived.Maps.RangeRun
import Derived.AtR
import Derived.Deep.AppendSrc
import Derived.Laws.CopyRow
import Derived.WalkSpells
import Derived.Lib.Strings
import Derived.LoopNIn
import Derived.Test.YtcadlppohbngnaaRaB0
set_option linter.unusedVariables false
set_option linter.unusedSimpArgs false
set_option linter.unusedSectionVars false
set_option linter.unnecessarySimpa false
namespace Go.Sx
open Go
instance : TK Proofs.Try.prog 0 false 1 := ⟨by kernel_rfl⟩
instance : TK Proofs.Try.prog 1 false 1 := ⟨by kernel_rfl⟩
instance : ZC Proofs.Try.prog 1 [.nilFunc] := ⟨by kernel_rfl⟩
instance : TK Proofs.Try.prog 2 false 1 := ⟨by kernel_rfl⟩
instance : UD Proofs.Try.prog 2 (.int .i64) := ⟨by kernel_rfl⟩
instance : ZC Proofs.Try.prog 2 [.int .i64 0] := ⟨by kernel_rfl⟩
instance : TK Proofs.Try.prog 3 false 1 := ⟨by kernel_rfl⟩
instance : UD Proofs.Try.prog 3 (.int .i64) := ⟨by kernel_rfl⟩
instance : ZC Proofs.Try.prog 3 [.int .i64 0] := ⟨by kernel_rfl⟩
instance : TK Proofs.Try.prog 4 false 1 := ⟨by kernel_rfl⟩
instance : UD Proofs.Try.prog 4 (.bool) := ⟨by kernel_rfl⟩
instance : ZC Proofs.Try.prog 4 [.bool false] := ⟨by kernel_rfl⟩
instance : TK Proofs.Try.prog 5 false 1 := ⟨by kernel_rfl⟩
instance : UD Proofs.Try.prog 5 (.int .u8) := ⟨by kernel_rfl⟩
instance : ZC Proofs.Try.prog 5 [.int .u8 0] := ⟨by kernel_rfl⟩
instance : TK Proofs.Try.prog 6 false 1 := ⟨by kernel_rfl⟩
instance : UD Proofs.Try.prog 6 (.int .u8) := ⟨by kernel_rfl⟩
instance : ZC Proofs.Try.prog 6 [.int .u8 0] := ⟨by kernel_rfl⟩
instance : TK Proofs.Try.prog 7 true 4 := ⟨by kernel_rfl⟩
instance : FO Proofs.Try.prog 7 0 0 2 := ⟨by kernel_rfl⟩
instance : FO Proofs.Try.prog 7 1 1 3 := ⟨by kernel_rfl⟩
instance : FO Proofs.Try.prog 7 2 2 4 := ⟨by kernel_rfl⟩
instance : FO Proofs.Try.prog 7 3 3 6 := ⟨by kernel_rfl⟩
instance : ZC Proofs.Try.prog 7 [.int .i64 0, .int .i64 0, .bool false, .int .u8 0] := ⟨by kernel_rfl⟩
instance : TK Proofs.Try.prog 9 false 1 := ⟨by kernel_rfl⟩
instance : UD Proofs.Try.prog 9 (.string) := ⟨by kernel_rfl⟩
instance : ZC Proofs.Try.prog 9 [.string ⟨#[]⟩] := ⟨by kernel_rfl⟩
instance : TK Proofs.Try.prog 22 false 1 := ⟨by kernel_rfl⟩
instance : UD Proofs.Try.prog 22 (.pointer 62) := ⟨by kernel_rfl⟩
instance : ZC Proofs.Try.prog 22 [.pointer none] := ⟨by kernel_rfl⟩
instance : TK Proofs.Try.prog 24 false 1 := ⟨by kernel_rfl⟩
instance : UD Proofs.Try.prog 24 (.int .i64) := ⟨by kernel_rfl⟩
instance : ZC Proofs.Try.prog 24 [.int .i64 0] := ⟨by kernel_rfl⟩
instance : TK Proofs.Try.prog 25 false 1 := ⟨by kernel_rfl⟩
instance : TK Proofs.Try.prog 27 false 1 := ⟨by kernel_rfl⟩
instance : UD Proofs.Try.prog 27 (.int .i64) := ⟨by kernel_rfl⟩
instance : ZC Proofs.Try.prog 27 [.int .i64 0] := ⟨by kernel_rfl⟩
instance : TK Proofs.Try.prog 28 true 2 := ⟨by kernel_rfl⟩
instance : FO Proofs.Try.prog 28 0 0 27 := ⟨by kernel_rfl⟩
instance : FO Proofs.Try.prog 28 1 1 9 := ⟨by kernel_rfl⟩
instance : ZC Proofs.Try.prog 28 [.int .i64 0, .string ⟨#[]⟩] := ⟨by kernel_rfl⟩
instance : TK Proofs.Try.prog 29 true 2 := ⟨by kernel_rfl⟩
instance : FO Proofs.Try.prog 29 0 0 27 := ⟨by kernel_rfl⟩
instance : FO Proofs.Try.prog 29 1 1 9 := ⟨by kernel_rfl⟩
instance : ZC Proofs.Try.prog 29 [.int .i64 0, .string ⟨#[]⟩] := ⟨by kernel_rfl⟩
instance : TK Proofs.Try.prog 33 true 2 := ⟨by kernel_rfl⟩
instance : FO Proofs.Try.prog 33 0 0 9 := ⟨by kernel_rfl⟩
instance : FO Proofs.Try.prog 33 1 1 9 := ⟨by kernel_rfl⟩
instance : ZC Proofs.Try.prog 33 [.string ⟨#[]⟩, .string ⟨#[]⟩] := ⟨by kernel_rfl⟩
instance : TK Proofs.Try.prog 34 true 2 := ⟨by kernel_rfl⟩
instance : FO Proofs.Try.prog 34 0 0 9 := ⟨by kernel_rfl⟩
instance : FO Proofs.Try.prog 34 1 1 9 := ⟨by kernel_rfl⟩
instance : ZC Proofs.Try.prog 34 [.string ⟨#[]⟩, .string ⟨#[]⟩] := ⟨by kernel_rfl⟩
instance : TK Proofs.Try.prog 35 false 1 := ⟨by kernel_rfl⟩
instance : UD Proofs.Try.prog 35 (.int .i64) := ⟨by kernel_rfl⟩
instance : ZC Proofs.Try.prog 35 [.int .i64 0] := ⟨by kernel_rfl⟩
instance : TK Proofs.Try.prog 36 true 2 := ⟨by kernel_rfl⟩
instance : FO Proofs.Try.prog 36 0 0 35 := ⟨by kernel_rfl⟩
instance : FO Proofs.Try.prog 36 1 1 2 := ⟨by kernel_rfl⟩
instance : ZC Proofs.Try.prog 36 [.int .i64 0, .int .i64 0] := ⟨by kernel_rfl⟩
instance : TK Proofs.Try.prog 37 true 2 := ⟨by kernel_rfl⟩
instance : FO Proofs.Try.prog 37 0 0 35 := ⟨by kernel_rfl⟩
instance : FO Proofs.Try.prog 37 1 1 2 := ⟨by kernel_rfl⟩
instance : ZC Proofs.Try.prog 37 [.int .i64 0, .int .i64 0] := ⟨by kernel_rfl⟩
instance : TK Proofs.Try.prog 38 true 10 := ⟨by kernel_rfl⟩
instance : FO Proofs.Try.prog 38 0 0 3 := ⟨by kernel_rfl⟩
instance : FO Proofs.Try.prog 38 1 1 5 := ⟨by kernel_rfl⟩
instance : FO Proofs.Try.prog 38 2 2 2 := ⟨by kernel_rfl⟩
instance : FO Proofs.Try.prog 38 3 3 2 := ⟨by kernel_rfl⟩
instance : FO Proofs.Try.prog 38 4 4 34 := ⟨by kernel_rfl⟩
instance : FO Proofs.Try.prog 38 5 6 37 := ⟨by kernel_rfl⟩
instance : FO Proofs.Try.prog 38 6 8 29 := ⟨by kernel_rfl⟩
instance : ZC Proofs.Try.prog 38 [.int .i64 0, .int .u8 0, .int .i64 0, .int .i64 0, .string ⟨#[]⟩, .string ⟨#[]⟩, .int .i64 0, .int .i64 0, .int .i64 0, .string ⟨#[]⟩] := ⟨by kernel_rfl⟩
instance : TK Proofs.Try.prog 39 true 10 := ⟨by kernel_rfl⟩
instance : FO Proofs.Try.prog 39 0 0 3 := ⟨by kernel_rfl⟩
instance : FO Proofs.Try.prog 39 1 1 5 := ⟨by kernel_rfl⟩
instance : FO Proofs.Try.prog 39 2 2 2 := ⟨by kernel_rfl⟩
instance : FO Proofs.Try.prog 39 3 3 2 := ⟨by kernel_rfl⟩
instance : FO Proofs.Try.prog 39 4 4 34 := ⟨by kernel_rfl⟩
instance : FO Proofs.Try.prog 39 5 6 37 := ⟨by kernel_rfl⟩
instance : FO Proofs.Try.prog 39 6 8 29 := ⟨by kernel_rfl⟩
instance : ZC Proofs.Try.prog 39 [.int .i64 0, .int .u8 0, .int .i64 0, .int .i64 0, .string ⟨#[]⟩, .string ⟨#[]⟩, .int .i64 0, .int .i64 0, .int .i64 0, .string ⟨#[]⟩] := ⟨by kernel_rfl⟩
instance : TK Proofs.Try.prog 41 false 1 := ⟨by kernel_rfl⟩
instance : UD Proofs.Try.prog 41 (.slice 76) := ⟨by kernel_rfl⟩
instance : ZC Proofs.Try.prog 41 [.slice none 0 0] := ⟨by kernel_rfl⟩
instance : TK Proofs.Try.prog 42 false 1 := ⟨by kernel_rfl⟩
instance : UD Proofs.Try.prog 42 (.slice 9) := ⟨by kernel_rfl⟩
instance : ZC Proofs.Try.prog 42 [.slice none 0 0] := ⟨by kernel_rfl⟩
instance : TK Proofs.Try.prog 45 true 5 := ⟨by kernel_rfl⟩
instance : FO Proofs.Try.prog 45 0 0 41 := ⟨by kernel_rfl⟩
instance : FO Proofs.Try.prog 45 1 1 42 := ⟨by kernel_rfl⟩
instance : FO Proofs.Try.prog 45 2 2 44 := ⟨by kernel_rfl⟩
instance : ZC Proofs.Try.prog 45 [.slice none 0 0, .slice none 0 0, .string ⟨#[]⟩, .string ⟨#[]⟩, .string ⟨#[]⟩] := ⟨by kernel_rfl⟩
instance : TK Proofs.Try.prog 46 true 5 := ⟨by kernel_rfl⟩
instance : FO Proofs.Try.prog 46 0 0 41 := ⟨by kernel_rfl⟩
instance : FO Proofs.Try.prog 46 1 1 42 := ⟨by kernel_rfl⟩
instance : FO Proofs.Try.prog 46 2 2 44 := ⟨by kernel_rfl⟩
instance : ZC Proofs.Try.prog 46 [.slice none 0 0, .slice none 0 0, .string ⟨#[]⟩, .string ⟨#[]⟩, .string ⟨#[]⟩] := ⟨by kernel_rfl⟩
instance : TK Proofs.Try.prog 47 false 1 := ⟨by kernel_rfl⟩
instance : TK Proofs.Try.prog 54 false 1 := ⟨by kernel_rfl⟩
instance : UD Proofs.Try.prog 54 (.slice 34) := ⟨by kernel_rfl⟩
instance : ZC Proofs.Try.prog 54 [.slice none 0 0] := ⟨by kernel_rfl⟩
instance : TK Proofs.Try.prog 56 false 1 := ⟨by kernel_rfl⟩
instance : UD Proofs.Try.prog 56 (.slice 37) := ⟨by kernel_rfl⟩
instance : ZC Proofs.Try.prog 56 [.slice none 0 0] := ⟨by kernel_rfl⟩
instance : TK Proofs.Try.prog 60 false 1 := ⟨by kernel_rfl⟩
instance : UD Proofs.Try.prog 60 (.slice 65) := ⟨by kernel_rfl⟩
instance : ZC Proofs.Try.prog 60 [.slice none 0 0] := ⟨by kernel_rfl⟩
instance : TK Proofs.Try.prog 61 true 1 := ⟨by kernel_rfl⟩
instance : FO Proofs.Try.prog 61 0 0 60 := ⟨by kernel_rfl⟩
instance : ZC Proofs.Try.prog 61 [.slice none 0 0] := ⟨by kernel_rfl⟩
instance : TK Proofs.Try.prog 62 true 1 := ⟨by kernel_rfl⟩
instance : FO Proofs.Try.prog 62 0 0 60 := ⟨by kernel_rfl⟩
instance : ZC Proofs.Try.prog 62 [.slice none 0 0] := ⟨by kernel_rfl⟩
instance : TK Proofs.Try.prog 65 false 1 := ⟨by kernel_rfl⟩
instance : UD Proofs.Try.prog 65 (.pointer 70) := ⟨by kernel_rfl⟩
instance : ZC Proofs.Try.prog 65 [.pointer none] := ⟨by kernel_rfl⟩
instance : TK Proofs.Try.prog 68 false 1 := ⟨by kernel_rfl⟩
instance : UD Proofs.Try.prog 68 (.map 34 37) := ⟨by kernel_rfl⟩
instance : ZC Proofs.Try.prog 68 [.map none] := ⟨by kernel_rfl⟩
instance : TK Proofs.Try.prog 69 true 5 := ⟨by kernel_rfl⟩
instance : FO Proofs.Try.prog 69 0 0 9 := ⟨by kernel_rfl⟩
instance : FO Proofs.Try.prog 69 1 1 68 := ⟨by kernel_rfl⟩
instance : FO Proofs.Try.prog 69 2 2 4 := ⟨by kernel_rfl⟩
instance : FO Proofs.Try.prog 69 3 3 35 := ⟨by kernel_rfl⟩
instance : FO Proofs.Try.prog 69 4 4 56 := ⟨by kernel_rfl⟩
instance : ZC Proofs.Try.prog 69 [.string ⟨#[]⟩, .map none, .bool false, .int .i64 0, .slice none 0 0] := ⟨by kernel_rfl⟩
instance : TK Proofs.Try.prog 70 true 5 := ⟨by kernel_rfl⟩
instance : FO Proofs.Try.prog 70 0 0 9 := ⟨by kernel_rfl⟩
instance : FO Proofs.Try.prog 70 1 1 68 := ⟨by kernel_rfl⟩
instance : FO Proofs.Try.prog 70 2 2 4 := ⟨by kernel_rfl⟩
instance : FO Proofs.Try.prog 70 3 3 35 := ⟨by kernel_rfl⟩
instance : FO Proofs.Try.prog 70 4 4 56 := ⟨by kernel_rfl⟩
instance : ZC Proofs.Try.prog 70 [.string ⟨#[]⟩, .map none, .bool false, .int .i64 0, .slice none 0 0] := ⟨by kernel_rfl⟩
instance : TK Proofs.Try.prog 71 true 4 := ⟨by kernel_rfl⟩
instance : FO Proofs.Try.prog 71 0 0 9 := ⟨by kernel_rfl⟩
instance : FO Proofs.Try.prog 71 1 1 29 := ⟨by kernel_rfl⟩
instance : FO Proofs.Try.prog 71 2 3 4 := ⟨by kernel_rfl⟩
instance : ZC Proofs.Try.prog 71 [.string ⟨#[]⟩, .int .i64 0, .string ⟨#[]⟩, .bool false] := ⟨by kernel_rfl⟩
instance : TK Proofs.Try.prog 72 true 4 := ⟨by kernel_rfl⟩
instance : FO Proofs.Try.prog 72 0 0 9 := ⟨by kernel_rfl⟩
instance : FO Proofs.Try.prog 72 1 1 29 := ⟨by kernel_rfl⟩
instance : FO Proofs.Try.prog 72 2 3 4 := ⟨by kernel_rfl⟩
instance : ZC Proofs.Try.prog 72 [.string ⟨#[]⟩, .int .i64 0, .string ⟨#[]⟩, .bool false] := ⟨by kernel_rfl⟩
instance : TK Proofs.Try.prog 73 false 1 := ⟨by kernel_rfl⟩
instance : UD Proofs.Try.prog 73 (.slice 72) := ⟨by kernel_rfl⟩
instance : ZC Proofs.Try.prog 73 [.slice none 0 0] := ⟨by kernel_rfl⟩
instance : TK Proofs.Try.prog 75 true 7 := ⟨by kernel_rfl⟩
instance : FO Proofs.Try.prog 75 0 0 9 := ⟨by kernel_rfl⟩
instance : FO Proofs.Try.prog 75 1 1 9 := ⟨by kernel_rfl⟩
instance : FO Proofs.Try.prog 75 2 2 4 := ⟨by kernel_rfl⟩
instance : FO Proofs.Try.prog 75 3 3 4 := ⟨by kernel_rfl⟩
instance : FO Proofs.Try.prog 75 4 4 42 := ⟨by kernel_rfl⟩
instance : FO Proofs.Try.prog 75 5 5 73 := ⟨by kernel_rfl⟩
instance : FO Proofs.Try.prog 75 6 6 74 := ⟨by kernel_rfl⟩
instance : ZC Proofs.Try.prog 75 [.string ⟨#[]⟩, .string ⟨#[]⟩, .bool false, .bool false, .slice none 0 0, .slice none 0 0, .slice none 0 0] := ⟨by kernel_rfl⟩
instance : TK Proofs.Try.prog 76 true 7 := ⟨by kernel_rfl⟩
instance : FO Proofs.Try.prog 76 0 0 9 := ⟨by kernel_rfl⟩
instance : FO Proofs.Try.prog 76 1 1 9 := ⟨by kernel_rfl⟩
instance : FO Proofs.Try.prog 76 2 2 4 := ⟨by kernel_rfl⟩
instance : FO Proofs.Try.prog 76 3 3 4 := ⟨by kernel_rfl⟩
instance : FO Proofs.Try.prog 76 4 4 42 := ⟨by kernel_rfl⟩
instance : FO Proofs.Try.prog 76 5 5 73 := ⟨by kernel_rfl⟩
instance : FO Proofs.Try.prog 76 6 6 74 := ⟨by kernel_rfl⟩
instance : ZC Proofs.Try.prog 76 [.string ⟨#[]⟩, .string ⟨#[]⟩, .bool false, .bool false, .slice none 0 0, .slice none 0 0, .slice none 0 0] := ⟨by kernel_rfl⟩
instance : TK Proofs.Try.prog 81 false 1 := ⟨by kernel_rfl⟩
instance : TK Proofs.Try.prog 83 false 1 := ⟨by kernel_rfl⟩
instance : TK Proofs.Try.prog 86 false 1 := ⟨by kernel_rfl⟩
instance : ZC Proofs.Try.prog 86 [.nilFunc] := ⟨by kernel_rfl⟩
instance : TK Proofs.Try.prog 87 false 1 := ⟨by kernel_rfl⟩
instance : ZC Proofs.Try.prog 87 [.nilFunc] := ⟨by kernel_rfl⟩
instance : TK Proofs.Try.prog 89 false 1 := ⟨by kernel_rfl⟩
instance : ZC Proofs.Try.prog 89 [.nilFunc] := ⟨by kernel_rfl⟩
instance : TK Proofs.Try.prog 106 false 1 := ⟨by kernel_rfl⟩
instance : ZC Proofs.Try.prog 106 [.nilFunc] := ⟨by kernel_rfl⟩
instance : AP Proofs.Try.prog 1 1 8 := ⟨by kernel_rfl⟩
instance : ZV Proofs.Try.prog 1 (.nilFunc) := ⟨by kernel_rfl⟩
instance : AP Proofs.Try.prog 2 1 8 := ⟨by kernel_rfl⟩
instance : ZV Proofs.Try.prog 2 (.int .i64 0) := ⟨by kernel_rfl⟩
instance : AP Proofs.Try.prog 3 1 8 := ⟨by kernel_rfl⟩
instance : ZV Proofs.Try.prog 3 (.int .i64 0) := ⟨by kernel_rfl⟩
instance : AP Proofs.Try.prog 4 1 1 := ⟨by kernel_rfl⟩
instance : ZV Proofs.Try.prog 4 (.bool false) := ⟨by kernel_rfl⟩
instance : AP Proofs.Try.prog 5 1 1 := ⟨by kernel_rfl⟩
instance : ZV Proofs.Try.prog 5 (.int .u8 0) := ⟨by kernel_rfl⟩
instance : AP Proofs.Try.prog 6 1 1 := ⟨by kernel_rfl⟩
instance : ZV Proofs.Try.prog 6 (.int .u8 0) := ⟨by kernel_rfl⟩
instance : AP Proofs.Try.prog 7 4 24 := ⟨by kernel_rfl⟩
instance : PL Proofs.Try.prog 7 [(0, 1), (1, 1), (2, 1), (3, 1)] := ⟨by kernel_rfl⟩
instance : AP Proofs.Try.prog 9 1 16 := ⟨by kernel_rfl⟩
instance : ZV Proofs.Try.prog 9 (.string ⟨#[]⟩) := ⟨by kernel_rfl⟩
instance : AP Proofs.Try.prog 22 1 8 := ⟨by kernel_rfl⟩
instance : ZV Proofs.Try.prog 22 (.pointer none) := ⟨by kernel_rfl⟩
instance : AP Proofs.Try.prog 24 1 8 := ⟨by kernel_rfl⟩
instance : ZV Proofs.Try.prog 24 (.int .i64 0) := ⟨by kernel_rfl⟩
instance : AP Proofs.Try.prog 27 1 8 := ⟨by kernel_rfl⟩
instance : ZV Proofs.Try.prog 27 (.int .i64 0) := ⟨by kernel_rfl⟩
instance : AP Proofs.Try.prog 28 2 24 := ⟨by kernel_rfl⟩
instance : PL Proofs.Try.prog 28 [(0, 1), (1, 1)] := ⟨by kernel_rfl⟩
instance : AP Proofs.Try.prog 29 2 24 := ⟨by kernel_rfl⟩
instance : PL Proofs.Try.prog 29 [(0, 1), (1, 1)] := ⟨by kernel_rfl⟩
instance : EQ Proofs.Try.prog 29 [.int .i64, .str] := ⟨by kernel_rfl, by kernel_rfl, Z9n (by kernel_rfl)⟩
instance : AP Proofs.Try.prog 33 2 32 := ⟨by kernel_rfl⟩
instance : PL Proofs.Try.prog 33 [(0, 1), (1, 1)] := ⟨by kernel_rfl⟩
instance : AP Proofs.Try.prog 34 2 32 := ⟨by kernel_rfl⟩
instance : PL Proofs.Try.prog 34 [(0, 1), (1, 1)] := ⟨by kernel_rfl⟩
instance : EQ Proofs.Try.prog 34 [.str, .str] := ⟨by kernel_rfl, by kernel_rfl, Z9n (by kernel_rfl)⟩
instance : AP Proofs.Try.prog 35 1 8 := ⟨by kernel_rfl⟩
instance : ZV Proofs.Try.prog 35 (.int .i64 0) := ⟨by kernel_rfl⟩
instance : AP Proofs.Try.prog 36 2 16 := ⟨by kernel_rfl⟩
instance : PL Proofs.Try.prog 36 [(0, 1), (1, 1)] := ⟨by kernel_rfl⟩
instance : AP Proofs.Try.prog 37 2 16 := ⟨by kernel_rfl⟩
instance : PL Proofs.Try.prog 37 [(0, 1), (1, 1)] := ⟨by kernel_rfl⟩
instance : EQ Proofs.Try.prog 37 [.int .i64, .int .i64] := ⟨by kernel_rfl, by kernel_rfl, Z9n (by kernel_rfl)⟩
instance : AP Proofs.Try.prog 38 10 104 := ⟨by kernel_rfl⟩
instance : PL Proofs.Try.prog 38 [(0, 1), (1, 1), (2, 1), (3, 1), (4, 2), (6, 2), (8, 2)] := ⟨by kernel_rfl⟩
instance : AP Proofs.Try.prog 39 10 104 := ⟨by kernel_rfl⟩
instance : PL Proofs.Try.prog 39 [(0, 1), (1, 1), (2, 1), (3, 1), (4, 2), (6, 2), (8, 2)] := ⟨by kernel_rfl⟩
instance : EQ Proofs.Try.prog 39 [.int .i64, .int .u8, .int .i64, .int .i64, .str, .str, .int .i64, .int .i64, .int .i64, .str] := ⟨by kernel_rfl, by kernel_rfl, Z9n (by kernel_rfl)⟩
instance : AP Proofs.Try.prog 41 1 24 := ⟨by kernel_rfl⟩
instance : ZV Proofs.Try.prog 41 (.slice none 0 0) := ⟨by kernel_rfl⟩
instance : AP Proofs.Try.prog 42 1 24 := ⟨by kernel_rfl⟩
instance : ZV Proofs.Try.prog 42 (.slice none 0 0) := ⟨by kernel_rfl⟩
instance : AP Proofs.Try.prog 45 5 96 := ⟨by kernel_rfl⟩
instance : PL Proofs.Try.prog 45 [(0, 1), (1, 1), (2, 3)] := ⟨by kernel_rfl⟩
instance : AP Proofs.Try.prog 46 5 96 := ⟨by kernel_rfl⟩
instance : PL Proofs.Try.prog 46 [(0, 1), (1, 1), (2, 3)] := ⟨by kernel_rfl⟩
instance : AP Proofs.Try.prog 54 1 24 := ⟨by kernel_rfl⟩
instance : ZV Proofs.Try.prog 54 (.slice none 0 0) := ⟨by kernel_rfl⟩
instance : AP Proofs.Try.prog 56 1 24 := ⟨by kernel_rfl⟩
instance : ZV Proofs.Try.prog 56 (.slice none 0 0) := ⟨by kernel_rfl⟩
instance : AP Proofs.Try.prog 60 1 24 := ⟨by kernel_rfl⟩
instance : ZV Proofs.Try.prog 60 (.slice none 0 0) := ⟨by kernel_rfl⟩
instance : AP Proofs.Try.prog 61 1 24 := ⟨by kernel_rfl⟩
instance : PL Proofs.Try.prog 61 [(0, 1)] := ⟨by kernel_rfl⟩
instance : AP Proofs.Try.prog 62 1 24 := ⟨by kernel_rfl⟩
instance : PL Proofs.Try.prog 62 [(0, 1)] := ⟨by kernel_rfl⟩
instance : AP Proofs.Try.prog 65 1 8 := ⟨by kernel_rfl⟩
instance : ZV Proofs.Try.prog 65 (.pointer none) := ⟨by kernel_rfl⟩
instance : AP Proofs.Try.prog 68 1 8 := ⟨by kernel_rfl⟩
instance : ZV Proofs.Try.prog 68 (.map none) := ⟨by kernel_rfl⟩
instance : AP Proofs.Try.prog 69 5 64 := ⟨by kernel_rfl⟩
instance : PL Proofs.Try.prog 69 [(0, 1), (1, 1), (2, 1), (3, 1), (4, 1)] := ⟨by kernel_rfl⟩
instance : AP Proofs.Try.prog 70 5 64 := ⟨by kernel_rfl⟩
instance : PL Proofs.Try.prog 70 [(0, 1), (1, 1), (2, 1), (3, 1), (4, 1)] := ⟨by kernel_rfl⟩
instance : AP Proofs.Try.prog 71 4 48 := ⟨by kernel_rfl⟩
instance : PL Proofs.Try.prog 71 [(0, 1), (1, 2), (3, 1)] := ⟨by kernel_rfl⟩
instance : AP Proofs.Try.prog 72 4 48 := ⟨by kernel_rfl⟩
instance : PL Proofs.Try.prog 72 [(0, 1), (1, 2), (3, 1)] := ⟨by kernel_rfl⟩
instance : EQ Proofs.Try.prog 72 [.str, .int .i64, .str, .bool] := ⟨by kernel_rfl, by kernel_rfl, Z9n (by kernel_rfl)⟩
instance : AP Proofs.Try.prog 73 1 24 := ⟨by kernel_rfl⟩
instance : ZV Proofs.Try.prog 73 (.slice none 0 0) := ⟨by kernel_rfl⟩
instance : AP Proofs.Try.prog 75 7 112 := ⟨by kernel_rfl⟩
instance : PL Proofs.Try.prog 75 [(0, 1), (1, 1), (2, 1), (3, 1), (4, 1), (5, 1), (6, 1)] := ⟨by kernel_rfl⟩
instance : AP Proofs.Try.prog 76 7 112 := ⟨by kernel_rfl⟩
instance : PL Proofs.Try.prog 76 [(0, 1), (1, 1), (2, 1), (3, 1), (4, 1), (5, 1), (6, 1)] := ⟨by kernel_rfl⟩
instance : AP Proofs.Try.prog 86 1 8 := ⟨by kernel_rfl⟩
instance : ZV Proofs.Try.prog 86 (.nilFunc) := ⟨by kernel_rfl⟩
instance : AP Proofs.Try.prog 87 1 8 := ⟨by kernel_rfl⟩
instance : ZV Proofs.Try.prog 87 (.nilFunc) := ⟨by kernel_rfl⟩
instance : AP Proofs.Try.prog 89 1 8 := ⟨by kernel_rfl⟩
instance : ZV Proofs.Try.prog 89 (.nilFunc) := ⟨by kernel_rfl⟩
instance : AP Proofs.Try.prog 106 1 8 := ⟨by kernel_rfl⟩
instance : ZV Proofs.Try.prog 106 (.nilFunc) := ⟨by kernel_rfl⟩
end Go.Sx
namespace Go.Sx
open Go
section
variable {α : Type} [DecidableEq α]
def fget : List (α × AV) → α → Option AV
 | [], _ => none
 | (k, x) :: r, s => bif decide (s = k) then some x else fget r s
def fput : List (α × AV) → α → AV → List (α × AV)
 | [], s, x => [(s, x)]
 | (k, y) :: r, s, x => bif decide (s = k) then (s, x) :: r else (k, y) :: fput r s x
def kagg (kv : α → List Value) (a : α) : Value := .agg (kv a).toArray
def fmp (kv : α → List Value) (es : List (α × AV)) : List (Value × AV) := es.map fun e => (kagg kv e.1, e.2)
end
class FKey {α : Type} [DecidableEq α] (P : Program) (kt : TypeId) (kv : α → List Value) (ks : outParam (List CK)) : Prop where
 eq : EQ P kt ks
 ck : ∀ a, (kv a).map ck1 = ks.map some
 inj : ∀ a b, vseq (kv a) (kv b) = decide (a = b)
 chk : ∀ b a w, (Instr.checkKey b 10000 kt (kagg kv a)).run P w = .ok () w
 same : ∀ a, Instr.sameBits 10000 (kagg kv a) (kagg kv a) = true
section
variable {α : Type} [DecidableEq α] {P : Program} {kt : TypeId} {kv : α → List Value} {ks : List CK}
theorem FKey.run [h : FKey P kt kv ks] (a b : α) (w : World) : (Op.equal kt (kagg kv a) (kagg kv b)).run P w = .ok (decide (a = b)) w := by
 obtain ⟨fs, hfs⟩ := h.eq.st
 have := Z7g (P := P) w 20 kt ks 10000 (kv a) (kv b) h.eq.ck (by omega) (h.ck a) (h.ck b)
 simp only [hfs, asV, if_true] at this
 rw [h.inj] at this
 exact this
variable {ro : Option Nat} {Q : Exit → St → Prop} {s : St} {ops : Array Oper} {o : Oper} {rest : List Oper} {T : List (Nat × AV)}
theorem Z9s {C : Ctx} (l : List Value) : VR C (.agg (l.map .v)) (.agg l.toArray) := .agg _ _ (by simp) fun i c x h1 h2 => by
 rw [List.getElem?_map] at h1
 rw [List.getElem?_toArray] at h2
 rw [h2] at h1
 simp only [Option.map_some, Option.some.injEq] at h1
 subst h1
 exact .v _
theorem VR.aggV {C : Ctx} {l : List Value} {v : Value} (h : VR C (.agg (l.map .v)) v) : v = .agg l.toArray := by
 obtain ⟨vs, rfl, hl, hv⟩ := h.aggInv
 congr 1
 apply Array.ext
 ·simpa using hl.symm
 ·intro i h1 h2
  have h3 : i < l.length := by simpa using h2
  have := VR.val (hv i (.v l[i]) vs[i] (by simp [h3]) (by simp [h1]))
  simp [this]
theorem Z1c {C : Ctx} {x y : AV} {v u : Value} (h : VR C x v) (h2 : VR C y u) : VR C (.tup [x, y]) (.tuple #[v, u]) := .tup _ _ rfl fun i c z h3 h4 => by
 match i, h3, h4 with
 | 0, h3, h4 => simp at h3 h4; subst h3 h4; exact h
 | 1, h3, h4 => simp at h3 h4; subst h3 h4; exact h2
 | n + 2, h3, h4 => simp at h3
end
end Go.Sx
namespace Go.Sx
open Go
def SeqGR {α : Type} (Fin : List α → Prop) (J Jx : List α → AHeap → Prop) : AEnd → AHeap → Prop :=
 fun e H' => (∃ v, e = .ret v) ∧ ((∃ l H'', Fin l ∧ H'.Perm H'' ∧ J l H'') ∨ (∃ pre H'', H'.Perm H'' ∧ Jx pre H''))
structure SeqG {α : Type} (P : Program) (gf : Nat) (caps : List AV) (Hit : AHeap) (enc : α → List AV) (Adm Fin : List α → Prop) : Prop where
 ok : Callable P gf
 run : ∀ (id : Nat) (J Jx : List α → AHeap → Prop),
  (∀ pre x H, Adm (pre ++ [x]) → J pre H → YCalls P id (enc x) H (fun e H' => (e = .ret (.v (.bool true)) ∧ J (pre ++ [x]) H') ∨ (e = .ret (.v (.bool false)) ∧ Jx (pre ++ [x]) H'))) →
  ∀ H, J [] H → ACalls P gf (.yld id :: caps) (Hit ++ H) (SeqGR Fin J Jx)
theorem Z4a {P : Program} {Q : Exit → St → Prop} {s : St} {g : Operand} {ps : Array Tmp} {assign body : Code} {gf : Nat} {caps : List AV} {α : Type} (enc : α → List AV) (Adm Fin : List α → Prop) (Hit Hb0 : AHeap)
  (I : List α → AHeap → Prop) (Ix : Code → List α → AHeap → Prop) (hg : ev s.T g = some (.fn (.func gf) caps)) (hp : s.H.Perm (Hit ++ Hb0)) (hI0 : I [] Hb0) (hseq : SeqG P gf caps Hit enc Adm Fin)
  (hps : ∀ x, (enc x).length = ps.size) (hpn : ∀ t, t ∈ ps.toList → t < s.n)
  (round : ∀ l pre x Hb, Adm (pre ++ [x]) → I pre Hb → AWp P (some l) assign (fun e s' => e = .normal ∧ AWp P (some l) body (roundQ I Ix (pre ++ [x])) s') ⟨prm s.T ps.toList (enc x), Hb, [], s.n⟩)
  (done : ∀ i ll Hb, Fin ll → I ll Hb → Q .normal ⟨s.T, Hb ++ [(i, .raw (.deferred (some [])))], i :: s.D, s.n⟩)
  (stop : ∀ i c pre Hb, Ix c pre Hb → AWp P none c Q ⟨s.T, Hb ++ [(i, .raw (.deferred (some [])))], i :: s.D, s.n⟩) :
  AWp P none (.rangeFunc g ps assign body) Q s := by
 intro Z C0 H0 w0 C a w he hs
 refine wpIn_rangeFunc (F := Wd none) (n := 0) (fun fn _ => ?_)
 -- two new blocks
 obtain ⟨i1, hi1⟩ := Z4b (C.U ++ Z)
 rw [List.mem_append, not_or] at hi1
 have hd1 : OR (C.bind i1 w.heap.size 0) i1 (w.alloc (.deferred (some []))) (.raw (.deferred (some []))) := ⟨_, 0, Ctx.bind_m .., heap_alloc_new w _⟩
 obtain ⟨hw1, he1⟩ := Z0q (Z := Z) hs.wr hi1.1 hi1.2 hd1
 obtain ⟨i2, hi2⟩ := Z4b ((C.bind i1 w.heap.size 0).U ++ Z)
 rw [List.mem_append, not_or] at hi2
 let rec0 : Loop := { state := .ready, pending := none, fn := fn, tmps := a.tmps, params := ps, assign := assign, body := body, defers := w.heap.size }
 let C2 := (C.bind i1 w.heap.size 0).bind i2 (w.alloc (.deferred (some []))).heap.size 0
 let w2 := (w.alloc (.deferred (some []))).alloc (.loop rec0)
 have hsz1 : (w.alloc (.deferred (some []))).heap.size = w.heap.size + 1 := by simp
 have hl2 : OR C2 i2 w2 (.loop s.T s.n ps assign body .ready none) := by
  refine ⟨_, 0, rec0, Ctx.bind_m .., heap_alloc_new _ _, rfl, rfl, rfl, rfl, rfl, hs.sz, fun t x ht => ?_⟩
  obtain ⟨v, h1, h2⟩ := hs.sl t x ht
  exact ⟨v, h1, (h2.mono he1.le).mono (Ctx.le_bind hi2.1)⟩
 obtain ⟨hw2, he2⟩ := Z0q (Z := Z) hw1 hi2.1 hi2.2 hl2
 have he12 := he1.trans he2
 have hm2 : C2.m i2 = some (w.heap.size + 1, 0) := by rw [← hsz1]; exact Ctx.bind_m ..
 have hm1 : C2.m i1 = some (w.heap.size, 0) := by rw [he2.le.m i1 List.mem_cons_self]; exact Ctx.bind_m ..
 -- the function's value
 have hgv := hs.ev hg
 generalize hge : a.eval g = gv at hgv
 cases hgv with
 | fn _ _ vcaps hcl hcv =>
  refine ⟨w.heap.size + 1, [{ target := .collected w.heap.size, args := #[] }], w2, { target := .fn (.func gf) vcaps, args := #[.func (.yield (w.heap.size + 1)) #[] #[]] }, w2, gf, #[.func (.yield (w.heap.size + 1)) #[] #[]] ++ vcaps, w2, run_enterLoop_outer fn a.tmps ps assign body, ?_, fun _ _ => trivial, ?_, nofun, ?_⟩
  ·simp only [resolve, rangeCall, Deferred.ofValue, hge, Sem.run_pure]
   simp [Act.eval]
  ·simp only [invoke]; exact Z36 hseq.ok _ w2
  -- the rounds
  let J : List α → AHeap → Prop := fun pre H => ∃ Hb, I pre Hb ∧ H = (i2, .loop s.T s.n ps assign body .ready none) :: Hb
  let Jx : List α → AHeap → Prop := fun pre H => ∃ c Hb, Ix c pre Hb ∧ H = (i2, .loop s.T s.n ps assign body .done (some c)) :: Hb
  have hY : ∀ pre x H, Adm (pre ++ [x]) → J pre H → YCalls P i2 (enc x) H (fun e H' => (e = .ret (.v (.bool true)) ∧ J (pre ++ [x]) H') ∨ (e = .ret (.v (.bool false)) ∧ Jx (pre ++ [x]) H')) := by
   rintro pre x H hxs ⟨Hb, hI, rfl⟩
   intro Z1 C1 w1 vs l N hm hwr hvs
   obtain ⟨hu, hor⟩ := hwr.ids _ _ List.mem_cons_self
   obtain ⟨r, h1, h2, h3, h4, h5, h6, h7, h8⟩ := Z0j hor hm
   refine ⟨r.fn, _, r.assign, r.body, run_yield h1 (by rw [← hvs.1, hps, h4]), ?_⟩
   refine roundIn_of_wpIn (F := Wd none) trivial ?_
   have hwb : WR C1 Hb w1 := (hwr.perm (List.perm_append_comm (l₁ := [(i2, _)]) (l₂ := Hb))).left
   have hfold : ((r.params.zip vs).foldl (fun tmps (x : Tmp × Value) => tmps.setIfInBounds x.1 x.2) r.tmps) = ((ps.toList.zip vs.toList).foldl (fun tmps (x : Tmp × Value) => tmps.setIfInBounds x.1 x.2) r.tmps) := by
    rw [h4, ← Array.foldl_toList, Array.toList_zip]
   obtain ⟨hq1, hq2⟩ := Z51 (C := C1) (n := s.n) ps.toList (enc x) s.T r.tmps vs.toList (by rw [hps]; simp) (by rw [hvs.1]; simp) hpn h7 h8 (fun i y v hy hv => hvs.2 i y v hy (by rw [← Array.getElem?_toList]; exact hv))
   have hSR : SR C1 ⟨prm s.T ps.toList (enc x), Hb, [], s.n⟩ { tmps := (r.params.zip vs).foldl (fun tmps (x : Tmp × Value) => tmps.setIfInBounds x.1 x.2) r.tmps, defers := [] } w1 := by
    refine ⟨hwb, ?_, rfl, nofun, ?_⟩
    ·rw [hfold]; exact hq2
    ·rw [hfold]; exact hq1
   rw [h5, h6]
   refine wpIn_mono (round l pre x Hb hxs hI (Z1 ++ []) C1 Hb w1 C1 _ w1 (.refl ..) hSR) ?_
   rintro e a' w' ⟨_, C', s', ⟨rfl, hbody⟩, hs', he'⟩
   -- the record is beside
   have hperm : ((i2, AObj.loop s.T s.n ps assign body .ready none) :: Hb).Perm (Hb ++ [(i2, .loop s.T s.n ps assign body .ready none)]) := List.perm_append_comm (l₁ := [(i2, _)]) (l₂ := Hb)
   obtain ⟨hf1, hf2⟩ := he'.frame (hwr.perm hperm) hs'.wr
   have hperm' : (s'.H ++ [(i2, AObj.loop s.T s.n ps assign body .ready none)]).Perm ((i2, .loop s.T s.n ps assign body .ready none) :: s'.H) := List.perm_append_comm (l₁ := s'.H) (l₂ := [(i2, _)])
   have hwr' := hf1.perm hperm'
   have hm' : C'.m i2 = some (l, N) := by rw [he'.le.m i2 hu]; exact hm
   obtain ⟨_, hor'⟩ := hwr'.ids _ _ List.mem_cons_self
   obtain ⟨r', g1, g2, g3, g4, g5, g6, g7, g8⟩ := Z0j hor' hm'
   obtain ⟨hb1, hb2⟩ := Z3y (Z := Z1) (st' := .busy) (pend' := r'.pending) hwr' hm' g1
   refine ⟨_, run_beginRound g1 g2, ?_⟩
   have hwbusy : WR C' s'.H (w'.putObj l (.loop { r' with state := .busy })) := (hb1.perm (List.perm_append_comm (l₁ := [(i2, _)]) (l₂ := s'.H))).left
   refine wpIn_mono (hbody (Z1 ++ []) C' s'.H _ C' a' _ (.refl ..) ⟨hwbusy, hs'.sl, hs'.df, hs'.du, hs'.sz⟩) ?_
   rintro e a'' w'' ⟨hno, C'', s'', hq, hs'', he''⟩
   have big : ∀ s3, Weak s'' s3 → ∀ (jump : Option Code) (st : LoopState), st = (if jump.isNone then .ready else .done) →
     ∃ v w4, (Instr.endRound l jump).run P w'' = .ok v w4 ∧ v = .bool jump.isNone ∧ ∃ C3, WR C3 ((i2, .loop s.T s.n ps assign body st jump) :: s3.H) w4 ∧ Ext Z1 C1 ((i2, .loop s.T s.n ps assign body .ready none) :: Hb) w1 C3 ((i2, .loop s.T s.n ps assign body st jump) :: s3.H) w4 := by
    intro s3 hwk jump st hst
    obtain ⟨C3, hs3, he3⟩ := hwk Z1 C'' a'' w'' hs''
    have he4 : Ext Z1 C' s'.H (w'.putObj l (.loop { r' with state := .busy })) C3 s3.H w'' := (he''.subZ (fun z hz => List.mem_append_left _ hz)).trans he3
    obtain ⟨hf3, hf4⟩ := he4.frame (hb1.perm (List.perm_append_comm (l₁ := [(i2, _)]) (l₂ := s'.H))) hs3.wr
    have hwr3 := hf3.perm (List.perm_append_comm (l₁ := s3.H) (l₂ := [(i2, _)]))
    have hm3 : C3.m i2 = some (l, N) := by
     rw [he4.le.m i2 (he'.le.U i2 hu)]; exact hm'
    obtain ⟨_, hor3⟩ := hwr3.ids _ _ List.mem_cons_self
    obtain ⟨r3, k1, k2, k3, k4, k5, k6, k7, k8⟩ := Z0j hor3 hm3
    obtain ⟨ht1, ht2⟩ := Z3y (Z := Z1) (st' := st) (pend' := jump) hwr3 hm3 k1
    refine ⟨_, _, run_endRound jump k1, rfl, C3, by rw [← hst]; exact ht1, ?_⟩
    rw [← hst]
    have x1 : Ext Z1 C1 ((i2, .loop s.T s.n ps assign body .ready none) :: Hb) w1 C' ((i2, .loop s.T s.n ps assign body .ready none) :: s'.H) w' := ((hf2.subZ (fun z hz => List.mem_append_left _ hz)).permL hperm.symm).permR hperm'
    have x2 := (hf4.permL (List.perm_append_comm (l₁ := s'.H) (l₂ := [(i2, _)]))).permR (List.perm_append_comm (l₁ := s3.H) (l₂ := [(i2, _)]))
    exact ((x1.trans hb2).trans x2).trans ht2
   cases e with
   | normal =>
    obtain ⟨s3, hwk, hI3⟩ := hq
    obtain ⟨v, w4, k1, rfl, C3, k2, k3⟩ := big s3 hwk none .ready rfl
    exact ⟨_, w4, k1, C3, _, .ret (.v (.bool true)), .inl ⟨rfl, s3.H, hI3, rfl⟩, k2, k3, .v _⟩
   | ret =>
    obtain ⟨s3, hwk, hI3⟩ := hq
    obtain ⟨v, w4, k1, rfl, C3, k2, k3⟩ := big s3 hwk (some .ret) .done rfl
    exact ⟨_, w4, k1, C3, _, .ret (.v (.bool false)), .inr ⟨rfl, _, s3.H, hI3, rfl⟩, k2, k3, .v _⟩
   | exit i =>
    obtain ⟨s3, hwk, hI3⟩ := hq
    obtain ⟨v, w4, k1, rfl, C3, k2, k3⟩ := big s3 hwk (some (.exit i)) .done rfl
    exact ⟨_, w4, k1, C3, _, .ret (.v (.bool false)), .inr ⟨rfl, _, s3.H, hI3, rfl⟩, k2, k3, .v _⟩
   | goto i =>
    obtain ⟨s3, hwk, hI3⟩ := hq
    obtain ⟨v, w4, k1, rfl, C3, k2, k3⟩ := big s3 hwk (some (.goto i)) .done rfl
    exact ⟨_, w4, k1, C3, _, .ret (.v (.bool false)), .inr ⟨rfl, _, s3.H, hI3, rfl⟩, k2, k3, .v _⟩
   | panic ch => exact hq.elim
   | outgrown => exact hno rfl
  -- the one call
  have hcall := hseq.run i2 J Jx hY _ ⟨Hb0, hI0, rfl⟩
  have hpa : ((i2, AObj.loop s.T s.n ps assign body .ready none) :: (i1, .raw (.deferred (some []))) :: s.H).Perm ((Hit ++ (i2, .loop s.T s.n ps assign body .ready none) :: Hb0) ++ [(i1, .raw (.deferred (some [])))]) := by
   refine List.Perm.trans ?_ (List.perm_append_comm (l₁ := [(i1, AObj.raw (.deferred (some [])))]) (l₂ := Hit ++ (i2, .loop s.T s.n ps assign body .ready none) :: Hb0))
   refine (List.Perm.swap _ _ _).trans ?_
   refine List.Perm.cons _ ?_
   exact (List.Perm.cons _ hp).trans List.perm_middle.symm
  have hvs : VRs C2 (.yld i2 :: caps) (#[.func (.yield (w.heap.size + 1)) #[] #[]] ++ vcaps) := by
   have h1 : VRs C2 [.yld i2] #[.func (.yield (w.heap.size + 1)) #[] #[]] := ⟨rfl, by
    intro i x v hx hv
    cases i with
    | zero => simp at hx hv; subst hx; subst hv; exact .yld i2 _ 0 hm2 List.mem_cons_self
    | succ i => simp at hx⟩
   exact h1.append ⟨hcl, fun i x v hx hv => ((hcv i x v hx hv).mono he1.le).mono he2.le⟩
  refine ((hcall.frame _ _ hpa).run Z C2 w2 _ hw2 hvs).mono ?_
  rintro e w3 ⟨C3, K3, x, ⟨H', ⟨⟨v, rfl⟩, hfin⟩, rfl⟩, hw3, he3, hx⟩
  have hm3 : C3.m i2 = some (w.heap.size + 1, 0) := by rw [he3.le.m i2 List.mem_cons_self]; exact hm2
  -- behind it
  have fin : ∀ (st : LoopState) (pend : Option Code) (Hb : AHeap), H'.Perm ((i2, .loop s.T s.n ps assign body st pend) :: Hb) → st ≠ .busy →
    ∃ w4, (Instr.endLoop (w.heap.size + 1)).run P w3 = .ok pend w4 ∧ SR C3 ⟨s.T, Hb ++ [(i1, .raw (.deferred (some [])))], i1 :: s.D, s.n⟩ { a with defers := [{ target := .collected w.heap.size, args := #[] }] ++ a.defers } w4 ∧
     Ext Z C0 H0 w0 C3 (Hb ++ [(i1, .raw (.deferred (some [])))]) w4 := by
   intro st pend Hb hpm hst
   have hpm' : (H' ++ [(i1, AObj.raw (.deferred (some [])))]).Perm ((i2, .loop s.T s.n ps assign body st pend) :: (Hb ++ [(i1, .raw (.deferred (some [])))])) := by
    exact List.Perm.append_right _ hpm
   have hwl := hw3.perm hpm'
   obtain ⟨_, hor⟩ := hwl.ids _ _ List.mem_cons_self
   obtain ⟨r, g1, g2, g3, _⟩ := Z0j hor hm3
   obtain ⟨ht1, ht2⟩ := Z3y (Z := Z) (st' := .exhausted) (pend' := r.pending) hwl hm3 g1
   refine ⟨_, by rw [← g3]; exact run_endLoop g1 (by rw [g2]; exact hst), ?_, ?_⟩
   ·have hsub : ∀ p, p ∈ (Hb ++ [(i1, AObj.raw (.deferred (some [])))]) → p ∈ (i2, AObj.loop s.T s.n ps assign body .exhausted r.pending) :: (Hb ++ [(i1, AObj.raw (.deferred (some [])))]) := fun p hp => List.mem_cons_of_mem _ hp
    have hnd := ht1.nd
    simp only [List.map_cons, List.nodup_cons] at hnd
    refine ⟨ht1.sub hsub hnd.2, fun t x ht => ?_, ?_, ?_, hs.sz⟩
    ·obtain ⟨v, h1, h2⟩ := hs.sl t x ht
     exact ⟨v, h1, (h2.mono he12.le).mono he3.le⟩
    ·simp only [List.map_cons, List.cons_append, List.nil_append]
     have e1 : mark C3 i1 = { target := .collected w.heap.size, args := #[] } := by
      simp [mark, he3.le.m i1 (List.mem_cons_of_mem _ List.mem_cons_self), hm1]
     rw [e1, hs.df]
     congr 1
     exact List.map_congr_left fun i hi => by
      have e2 : C3.m i = C.m i := (he3.le.m i (he12.le.U i (hs.du i hi))).trans (he12.le.m i (hs.du i hi))
      have e3 : C3.df i = C.df i := (he3.le.df i (he12.le.U i (hs.du i hi))).trans (he12.le.df i (hs.du i hi))
      simp only [mark, e2, e3]
    ·intro i hi
     rcases List.mem_cons.1 hi with rfl | hi
     ·exact he3.le.U _ (List.mem_cons_of_mem _ List.mem_cons_self)
     ·exact he3.le.U i (he12.le.U i (hs.du i hi))
   ·refine (he.trans (he12.trans ((he3.permR hpm').trans ht2))).trans (Ext.sub (fun p hp => List.mem_cons_of_mem _ hp))
  cases e with
  | returned v' =>
   rcases hfin with ⟨ll, H'', hfl, hpm, Hb, hI, rfl⟩ | ⟨pre, H'', hpm, c, Hb, hIx, rfl⟩
   ·obtain ⟨w4, h1, h2, h3⟩ := fin .ready none Hb hpm nofun
    exact ⟨none, w4, h1, nofun, C3, _, done i1 ll Hb hfl hI, h2, h3⟩
   ·obtain ⟨w4, h1, h2, h3⟩ := fin .done (some c) Hb hpm nofun
    exact ⟨some c, w4, h1, stop i1 c pre Hb hIx Z C0 H0 w0 C3 _ w4 h3 h2⟩
  | panicked ch => exact hx.elim
  | outgrown => exact hx.elim
end Go.Sx
namespace Go.Sx
open Go
def idxFrom {α : Type} (f : α → Bool) : List α → Nat → Int
 | [], _ => -1
 | a :: r, i => if f a then i else idxFrom f r (i + 1)
def Prog.av (p : Prog) : AV := .agg p.cells
def classAt (p : Prog) (nm : Str) : Int := idxFrom (fun c => beqS c.name nm) p.classes 0
def inL (l : List Str) (s : Str) : Bool := l.any fun x => beqS x s
theorem Zfe {a : Bool} (h : (!a) = false) : a = true := by cases a <;> simp_all
def Fact.av (f : Fact) : AV := .agg f.cells
def Ty.av (t : Ty) : AV := .agg t.cells
def Cls.av (c : Cls) : AV := .agg c.cells
def clsFind (p : Prog) (nm : Str) : Option Cls := p.classes.find? fun c => beqS c.name nm
def ifaceP (p : Prog) (nm : Str) : Bool := match clsFind p nm with | some c => c.iface | none => false
def isRefK (k : Int) : Bool := decide (2 ≤ k) && decide (k ≤ 6)
def eqF (a b : Fact) : Bool := a.kind == b.kind && beqS a.cls b.cls
def zS : Str := ⟨#[]⟩
def ofT (t : Ty) : Fact :=
 if t.kind = 2 then ⟨1, zS⟩ else if t.kind = 3 then ⟨3, t.cls⟩ else if t.kind = 4 then ⟨4, zS⟩ else if t.kind = 5 then ⟨5, t.cls⟩ else ⟨0, zS⟩
def joinBy (com : Str → Str → Str) (a b : Fact) : Fact :=
 if eqF a b then a else if !isRefK a.kind || !isRefK b.kind then ⟨0, zS⟩ else if a.kind = 2 then b else if b.kind = 2 then a
 else if a.kind = 3 ∧ b.kind = 3 then (if beqS (com a.cls b.cls) zS then ⟨6, zS⟩ else ⟨3, com a.cls b.cls⟩) else ⟨6, zS⟩
def zCls : List AV := [sA zS, sA zS, bA false, bA false, .v (.slice none 0 0), .v (.slice none 0 0), .v (.slice none 0 0)]
def knownA : Option Cls → AV
 | some c => .tup [.agg c.cells, bA true]
 | none => .tup [.agg zCls, bA false]
def upC (c : Cls) : List Str := if beqS c.super zS then c.ifaces else c.super :: c.ifaces
instance : Inhabited Cls := ⟨⟨⟨#[]⟩, ⟨#[]⟩, false, false, [], [], []⟩⟩
instance : Inhabited Fld := ⟨⟨⟨#[]⟩, ⟨0, ⟨#[]⟩⟩, false⟩⟩
instance : Inhabited Meth := ⟨⟨⟨#[]⟩, ⟨#[]⟩, false, false, 0, []⟩⟩
instance : Inhabited Instr := ⟨⟨0, 0, 0, 0, 0, ⟨#[]⟩, ⟨#[]⟩, ⟨#[]⟩, []⟩⟩
instance : Inhabited Fact := ⟨⟨0, ⟨#[]⟩⟩⟩
def sameF : List Fact → List Fact → Bool
 | [], [] => true
 | x :: l, y :: r => eqF x y && sameF l r
 | _, _ => false
theorem Z00 {α : Type} [DecidableEq α] : ∀ {l m : List α}, l.Nodup → (∀ x, x ∈ l → x ∈ m) → l.length ≤ m.length
 | [], m, _, _ => Nat.zero_le _
 | x :: l, m, hn, hs => by
  rw [List.nodup_cons] at hn
  have hx : x ∈ m := hs x List.mem_cons_self
  have h1 : ∀ y, y ∈ l → y ∈ m.erase x := fun y hy => (List.mem_erase_of_ne (by rintro rfl; exact hn.1 hy)).2 (hs y (List.mem_cons_of_mem _ hy))
  have h2 := Z00 hn.2 h1
  have h3 := List.length_erase_of_mem hx
  have h4 : 0 < m.length := List.length_pos_of_mem hx
  simp only [List.length_cons]
  omega
theorem inL_mem {l : List Str} {s : Str} : inL l s = true ↔ s ∈ l := by
 simp only [inL, List.any_eq_true, beqS_iff]
 exact ⟨fun ⟨x, h, e⟩ => e ▸ h, fun h => ⟨s, h, rfl⟩⟩
theorem inL_false {l : List Str} {s : Str} : inL l s = false ↔ s ∉ l := by
 rw [← inL_mem]; cases inL l s <;> simp
def supF (p : Prog) : Nat → Str → List Str → List Str
 | 0, _, out => out
 | n + 1, nm, out => match clsFind p nm with
  | none => out
  | some c => if inL out c.name then out else if beqS c.super zS then out ++ [c.name] else supF p n c.super (out ++ [c.name])
def supers (p : Prog) (nm : Str) : List Str := supF p (p.classes.length + 1) nm []
theorem Zi {p : Prog} {nm : Str} {c : Cls} (h : clsFind p nm = some c) : c.name = nm ∧ c ∈ p.classes := by
 unfold clsFind at h
 have h1 := List.find?_some h
 exact ⟨beqS_iff.1 h1, List.mem_of_find?_eq_some h⟩
structure SupJ (p : Prog) (nm0 nm : Str) (out : List Str) : Prop where
 nd : out.Nodup
 sub : ∀ x, x ∈ out → x ∈ p.classes.map Cls.name
 eq : supF p (p.classes.length + 1 - out.length) nm out = supers p nm0
theorem SupJ.len {p : Prog} {nm0 nm : Str} {out : List Str} (h : SupJ p nm0 nm out) : out.length ≤ p.classes.length := by
 have := Z00 h.nd h.sub
 simpa using this
theorem SupJ.start (p : Prog) (nm : Str) : SupJ p nm nm [] := ⟨List.nodup_nil, nofun, rfl⟩
theorem SupJ.eq' {p : Prog} {nm0 nm : Str} {out : List Str} (h : SupJ p nm0 nm out) : (match clsFind p nm with
  | none => out
  | some c => if inL out c.name then out else if beqS c.super zS then out ++ [c.name] else supF p (p.classes.length - out.length) c.super (out ++ [c.name])) = supers p nm0 := by
 have h1 := h.eq
 have h2 := h.len
 rw [show p.classes.length + 1 - out.length = (p.classes.length - out.length) + 1 from by omega] at h1
 exact h1
theorem SupJ.none {p : Prog} {nm0 nm : Str} {out : List Str} (h : SupJ p nm0 nm out) (hc : clsFind p nm = none) : out = supers p nm0 := by have := h.eq'; rwa [hc] at this
theorem SupJ.top {p : Prog} {nm0 nm : Str} {out : List Str} {c : Cls} (h : SupJ p nm0 nm out) (hc : clsFind p nm = some c) (hi : inL out c.name = false) (hs : beqS c.super zS = true) : out ++ [c.name] = supers p nm0 := by
 have := h.eq'; simpa [hc, hi, hs] using this
theorem SupJ.sub1 {p : Prog} {nm0 nm : Str} {out : List Str} {c : Cls} (h : SupJ p nm0 nm out) (hc : clsFind p nm = some c) (hi : inL out c.name = false) : (out ++ [c.name]).Nodup ∧ ∀ x, x ∈ out ++ [c.name] → x ∈ p.classes.map Cls.name := by
 refine ⟨?_, ?_⟩
 ·rw [List.nodup_append]
  refine ⟨h.nd, by simp, ?_⟩
  intro a ha b hb
  rw [List.mem_singleton] at hb
  rintro rfl
  subst hb
  exact inL_false.1 hi ha
 ·intro x hx
  rcases List.mem_append.1 hx with hx | hx
  ·exact h.sub x hx
  ·rw [List.mem_singleton] at hx
   subst hx
   exact List.mem_map.2 ⟨c, (Zi hc).2, rfl⟩
theorem SupJ.next {p : Prog} {nm0 nm : Str} {out : List Str} {c : Cls} (h : SupJ p nm0 nm out) (hc : clsFind p nm = some c) (hi : inL out c.name = false) (hs : beqS c.super zS = false) : SupJ p nm0 c.super (out ++ [c.name]) := by
 obtain ⟨h1, h2⟩ := h.sub1 hc hi
 refine ⟨h1, h2, ?_⟩
 have h3 := h.eq'
 have h4 := Z00 h1 h2
 simp only [List.length_append, List.length_map, List.length_cons, List.length_nil] at h4
 rw [hc] at h3
 simp only [hi, hs, Bool.false_eq_true, if_false] at h3
 rw [show p.classes.length + 1 - (out ++ [c.name]).length = p.classes.length - out.length from by simp]
 exact h3
theorem SupJ.lt {p : Prog} {nm0 nm : Str} {out : List Str} {c : Cls} (h : SupJ p nm0 nm out) (hc : clsFind p nm = some c) (hi : inL out c.name = false) : out.length + 1 ≤ p.classes.length := by
 obtain ⟨h1, h2⟩ := h.sub1 hc hi
 have h4 := Z00 h1 h2
 simpa using h4
def comF (x y : List Str) : Str := (x.find? fun s => inL y s).getD zS
def com (p : Prog) (a b : Str) : Str := if !beqS a b && (ifaceP p a || ifaceP p b) then zS else comF (supers p a) (supers p b)
def mergeF (j : Fact → Fact → Fact) : List Fact → List Fact → List Fact
 | x :: l, y :: r => j x y :: mergeF j l r
 | _, _ => []
def greatI (x : Instr) : Bool := decide (x.args.length > 60) || decide (x.cls.size > 300) || decide (x.name.size > 300) || decide (x.desc.size > 300)
def greatM0 (m : Meth) : Bool := decide (m.code.length > 300) || decide (m.name.size > 300) || decide (m.desc.size > 300)
def greatM (m : Meth) : Bool := greatM0 m || m.code.any greatI
def greatC0 (c : Cls) : Bool := decide (c.ifaces.length > 40) || decide (c.fields.length > 40) || decide (c.methods.length > 40) || decide (c.name.size > 300) || decide (c.super.size > 300)
def greatC (c : Cls) : Bool := greatC0 c || c.methods.any greatM
def greatP0 (p : Prog) : Bool := decide (p.classes.length > 70) || decide (p.names.length > 70)
def greatP (p : Prog) : Bool := greatP0 p || p.classes.any greatC
def PairsR (f t : Nat) (x y : AV) : AEnd → AHeap → Prop := fun e H => ∃ i1 i2, e = .ret (.fn (.func f) [.ptr i1 1 0 0, .ptr i2 1 0 0]) ∧ H = [(i2, .rows t 1 [[y]]), (i1, .rows t 1 [[x]])]
theorem lts {l : List Nat} {n : Nat} (h : (l.all fun t => Nat.blt t n) = true) : ∀ t, t ∈ l → t < n := fun t ht => Nat.blt_eq ▸ List.all_eq_true.1 h t ht
def setM (out : List Str) : List (Value × AV) := out.map fun s => (.string s, bA true)
section
variable {P : Program} {ro : Option Nat} {Q : Exit → St → Prop} {s : St} {ops : Array Oper} {o : Oper} {rest : List Oper} {T : List (Nat × AV)}
end
theorem Z7h (p : Prog) : ∀ (n : Nat) (nm : Str) (out : List Str), ∃ suf, supF p n nm out = out ++ suf
 | 0, _, out => ⟨[], by simp [supF]⟩
 | n + 1, nm, out => by
  unfold supF
  cases clsFind p nm with
  | none => exact ⟨[], by simp⟩
  | some c =>
   simp only
   split
   ·exact ⟨[], by simp⟩
   ·split
    ·exact ⟨[c.name], rfl⟩
    ·obtain ⟨suf, h⟩ := Z7h p n c.super (out ++ [c.name])
     exact ⟨c.name :: suf, by rw [h]; simp⟩
theorem SupJ.pre {p : Prog} {nm0 nm : Str} {out : List Str} {c : Cls} (h : SupJ p nm0 nm out) (hc : clsFind p nm = some c) (hi : inL out nm = false) : ∃ suf, supers p nm0 = out ++ nm :: suf := by
 have hn := (Zi hc).1
 have := h.eq'
 rw [hc] at this
 simp only [hn, hi, Bool.false_eq_true, if_false] at this
 split at this
 ·exact ⟨[], this.symm⟩
 ·obtain ⟨suf, h2⟩ := Z7h p (p.classes.length - out.length) c.super (out ++ [nm])
  rw [h2] at this
  exact ⟨suf, by rw [← this]; simp⟩
def AboveR (f t n u : Nat) (cells : List AV) (nm : Str) : AEnd → AHeap → Prop := fun e H => ∃ i1 i2, e = .ret (.fn (.func f) [.ptr i1 n 0 0, .ptr i2 1 0 0]) ∧ H = [(i2, .rows u 1 [[sA nm]]), (i1, .rows t n [cells])]
inductive Anc (p : Prog) (nm : Str) : Str → Prop
 | base {c : Cls} (h : clsFind p nm = some c) : Anc p nm nm
 | step {s u : Str} {c d : Cls} (h : Anc p nm s) (hc : clsFind p s = some c) (hu : u ∈ upC c) (hd : clsFind p u = some d) : Anc p nm u
structure AncJ (p : Prog) (nm : Str) (todo out : List Str) : Prop where
 nd : out.Nodup
 sub : ∀ x, x ∈ out → x ∈ p.classes.map Cls.name
 snd : ∀ x, x ∈ out → Anc p nm x
 tsnd : ∀ x, x ∈ todo → ∀ c, clsFind p x = some c → Anc p nm x
 cl : ∀ s, s ∈ out → ∀ c, clsFind p s = some c → ∀ u, u ∈ upC c → ∀ d, clsFind p u = some d → u ∈ out ∨ u ∈ todo
 st : ∀ c, clsFind p nm = some c → nm ∈ out ∨ nm ∈ todo
theorem AncJ.start (p : Prog) (nm : Str) : AncJ p nm [nm] [] :=
 ⟨List.nodup_nil, nofun, nofun, fun x hx c hc => by rw [List.mem_singleton.1 hx] at hc ⊢; exact .base hc, nofun, fun _ _ => .inr List.mem_cons_self⟩
theorem AncJ.fin {p : Prog} {nm : Str} {out : List Str} (h : AncJ p nm [] out) (s : Str) : s ∈ out ↔ Anc p nm s := by
 refine ⟨h.snd s, fun ha => ?_⟩
 induction ha with
 | base hc => exact (h.st _ hc).resolve_right nofun
 | step _ hc hu hd ih => exact (h.cl _ ih _ hc _ hu _ hd).resolve_right nofun
theorem AncJ.skip {p : Prog} {nm sx : Str} {t out : List Str} (h : AncJ p nm (t ++ [sx]) out) (hs : clsFind p sx = none ∨ sx ∈ out) : AncJ p nm t out := by
 refine ⟨h.nd, h.sub, h.snd, fun x hx => h.tsnd x (List.mem_append_left _ hx), ?_, ?_⟩
 ·intro s hs' c hc u hu d hd
  rcases h.cl s hs' c hc u hu d hd with h1 | h1
  ·exact .inl h1
  ·rcases List.mem_append.1 h1 with h2 | h2
   ·exact .inr h2
   ·rw [List.mem_singleton] at h2
    subst h2
    rcases hs with h3 | h3
    ·rw [h3] at hd; cases hd
    ·exact .inl h3
 ·intro c hc
  rcases h.st c hc with h1 | h1
  ·exact .inl h1
  ·rcases List.mem_append.1 h1 with h2 | h2
   ·exact .inr h2
   ·rw [List.mem_singleton] at h2
    subst h2
    rcases hs with h3 | h3
    ·rw [h3] at hc; cases hc
    ·exact .inl h3
theorem AncJ.sub1 {p : Prog} {nm sx : Str} {t out : List Str} {c : Cls} (h : AncJ p nm (t ++ [sx]) out) (hc : clsFind p sx = some c) (hn : sx ∉ out) : (out ++ [sx]).Nodup ∧ ∀ x, x ∈ out ++ [sx] → x ∈ p.classes.map Cls.name := by
 refine ⟨?_, ?_⟩
 ·rw [List.nodup_append]
  refine ⟨h.nd, by simp, ?_⟩
  intro a ha b hb
  rw [List.mem_singleton] at hb
  subst hb
  rintro rfl
  exact hn ha
 ·intro x hx
  rcases List.mem_append.1 hx with hx | hx
  ·exact h.sub x hx
  ·rw [List.mem_singleton] at hx
   subst hx
   obtain ⟨h1, h2⟩ := Zi hc
   exact List.mem_map.2 ⟨c, h2, h1⟩
theorem AncJ.add {p : Prog} {nm sx : Str} {t out : List Str} {c : Cls} (h : AncJ p nm (t ++ [sx]) out) (hc : clsFind p sx = some c) (hn : sx ∉ out) : AncJ p nm (t ++ upC c) (out ++ [sx]) := by
 have ha : Anc p nm sx := h.tsnd sx (List.mem_append_right _ List.mem_cons_self) c hc
 refine ⟨(h.sub1 hc hn).1, (h.sub1 hc hn).2, ?_, ?_, ?_, ?_⟩
 ·intro x hx
  rcases List.mem_append.1 hx with hx | hx
  ·exact h.snd x hx
  ·rw [List.mem_singleton.1 hx]; exact ha
 ·intro x hx d hd
  rcases List.mem_append.1 hx with hx | hx
  ·exact h.tsnd x (List.mem_append_left _ hx) d hd
  ·exact .step ha hc hx hd
 ·intro s hs' c' hc' u hu d hd
  rcases List.mem_append.1 hs' with hs' | hs'
  ·rcases h.cl s hs' c' hc' u hu d hd with h1 | h1
   ·exact .inl (List.mem_append_left _ h1)
   ·rcases List.mem_append.1 h1 with h2 | h2
    ·exact .inr (List.mem_append_left _ h2)
    ·exact .inl (List.mem_append_right _ h2)
  ·rw [List.mem_singleton] at hs'
   subst hs'
   rw [hc] at hc'; cases hc'
   exact .inr (List.mem_append_right _ hu)
 ·intro c' hc'
  rcases h.st c' hc' with h1 | h1
  ·exact .inl (List.mem_append_left _ h1)
  ·rcases List.mem_append.1 h1 with h2 | h2
   ·exact .inr (List.mem_append_left _ h2)
   ·exact .inl (List.mem_append_right _ h2)
theorem AncJ.lt {p : Prog} {nm sx : Str} {t out : List Str} {c : Cls} (h : AncJ p nm (t ++ [sx]) out) (hc : clsFind p sx = some c) (hn : sx ∉ out) : out.length + 1 ≤ p.classes.length := by
 have h4 := Z00 (h.sub1 hc hn).1 (h.sub1 hc hn).2
 simpa using h4
theorem AncJ.len {p : Prog} {nm : Str} {t out : List Str} (h : AncJ p nm t out) : out.length ≤ p.classes.length := by
 have h4 := Z00 h.nd h.sub
 simpa using h4
def MapR (p : Prog) (nm : Str) : AEnd → AHeap → Prop := fun e H => ∃ q out, e = .ret (.map q) ∧ H = [(q, .mp (setM out))] ∧ ∀ s, s ∈ out ↔ Anc p nm s
noncomputable def subP (p : Prog) (a b : Str) : Bool := open Classical in decide (Anc p a b)
def fitsBy (sub : Bool) (f : Fact) (t : Ty) : Bool :=
 if t.kind = 2 then f.kind == 1 else if t.kind = 3 then f.kind == 2 || (f.kind == 3 && sub) else if t.kind = 4 then f.kind == 2 || f.kind == 4 else if t.kind = 5 then f.kind == 2 || (f.kind == 5 && beqS f.cls t.cls) else false
theorem Z8e (a : Str) : beqS a a = true := beqS_iff.2 rfl
def ancRun (p : Prog) : Nat → List Str → List Str → Option (List Str)
 | 0, _, _ => none
 | n + 1, todo, out => match todo.getLast? with
  | none => some out
  | some s => match clsFind p s with
   | none => ancRun p n todo.dropLast out
   | some c => if inL out s then ancRun p n todo.dropLast out else ancRun p n (todo.dropLast ++ upC c) (out ++ [s])
def nA : Str := ⟨#[65]⟩
def nB : Str := ⟨#[66]⟩
def nC : Str := ⟨#[67]⟩
def lvCA : Cls := ⟨nA, zS, false, false, [], [], []⟩
def lvCB : Cls := ⟨nB, nA, false, false, [], [], []⟩
def lvCC : Cls := ⟨nC, nA, false, false, [], [], []⟩
def lvP : Prog := ⟨[lvCA, lvCB, lvCC], [], ⟨zS, zS, zS⟩⟩
end Go.Sx
namespace Go.Sx
open Go
open Go.ChangeMaps (setBlock)
def AWpO (Z : List Nat) (C0 : Ctx) (H0 : AHeap) (w0 : World) (P : Program) (ro : Option Nat) (c : Code) (Q : Exit → St → Prop) (s : St) : Prop :=
 ∀ C a w, Ext Z C0 H0 w0 C s.H w → SR C s a w → c.wpIn (Wd ro) 0 P (Post Z C0 H0 w0 Q) a w
def AOpsO (Z : List Nat) (C0 : Ctx) (H0 : AHeap) (w0 : World) (P : Program) (ro : Option Nat) (ops : Array Oper) (l : List Oper) (Q : Exit → St → Prop) (s : St) : Prop :=
 ∀ k, ops.toList.drop k = l → ∀ C a w, Ext Z C0 H0 w0 C s.H w → SR C s a w → wpOpsIn (Wd ro) 0 P ops (Post Z C0 H0 w0 Q) (List.range' k l.length) a w
section
variable {Z : List Nat} {C0 : Ctx} {H0 : AHeap} {w0 : World} {P : Program} {ro : Option Nat} {Q : Exit → St → Prop} {s : St}
theorem Z6f {c : Code} (h : AWp P ro c Q s) : AWpO Z C0 H0 w0 P ro c Q s := h Z C0 H0 w0
theorem Z9z {ops : Array Oper} {l : List Oper} (h : AOps P ro ops l Q s) : AOpsO Z C0 H0 w0 P ro ops l Q s := fun k hk => h k hk Z C0 H0 w0
theorem Z22 {x y : Code} (h : AWpO Z C0 H0 w0 P ro x (thenQ (AWpO Z C0 H0 w0 P ro y Q) Q) s) : AWpO Z C0 H0 w0 P ro (.seq x y) Q s :=
 fun C a w he hs => wpIn_seq (wpIn_mono (h C a w he hs) (by
  rintro e a' w' ⟨h1, C', s', hq, hs', he'⟩
  cases e with
  | normal => exact hq C' a' w' he' hs'
  | outgrown => exact absurd rfl h1
  | _ => exact ⟨h1, C', s', hq, hs', he'⟩))
theorem Z57 {c : Operand} {x y : Code} {t : Bool} (hc : ev s.T c = some (.v (.bool t))) (ht : t = true → AWpO Z C0 H0 w0 P ro x Q s) (hf : t = false → AWpO Z C0 H0 w0 P ro y Q s) : AWpO Z C0 H0 w0 P ro (.cond c x y) Q s :=
 fun C a w he hs => wpIn_cond_split (t := t) (VR.val (hs.ev hc)) (fun h => ht h C a w he hs) (fun h => hf h C a w he hs)
theorem Z4e {id : Nat} {c : Code} (h : AWpO Z C0 H0 w0 P ro c (blockQ id Q) s) : AWpO Z C0 H0 w0 P ro (.block id c) Q s :=
 fun C a w he hs => wpIn_block (wpIn_mono (h C a w he hs) (by
  rintro e a' w' ⟨h1, C', s', hq, hs', he'⟩
  cases e with
  | exit i =>
   by_cases hi : i = id
   ·simp only [blockQ, hi, if_true] at hq
    simp only [Exit.inBlock, hi, if_true]
    exact ⟨nofun, C', s', hq, hs', he'⟩
   ·simp only [blockQ, hi, if_false] at hq
    simp only [Exit.inBlock, hi, if_false]
    exact ⟨nofun, C', s', hq, hs', he'⟩
  | _ => exact ⟨h1, C', s', hq, hs', he'⟩))
theorem Z8d {c : Code} {s' : St} (hw : Weak s s') (h : AWpO Z C0 H0 w0 P ro c Q s') : AWpO Z C0 H0 w0 P ro c Q s :=
 fun C a w he hs => let ⟨C', h1, h2⟩ := hw Z C a w hs; h C' a w (he.trans h2) h1
theorem Z8c {c : Code} {α : Type} (inv : α → St) (μ : α → Nat) (x0 : α) (h0 : Weak s (inv x0))
  (round : ∀ x, AWpO Z C0 H0 w0 P ro c (thenQ (fun s' => ∃ y, μ y < μ x ∧ Weak s' (inv y)) Q) (inv x)) : AWpO Z C0 H0 w0 P ro (.loop c) Q s := by
 refine Z8d h0 ?_
 intro C a w he hs
 let I : Act → World → Nat → Prop := fun a w n => ∃ x C, μ x ≤ n ∧ SR C (inv x) a w ∧ Ext Z C0 H0 w0 C (inv x).H w
 have hI : ∃ n, I a w n := ⟨μ x0, x0, C, Nat.le_refl _, hs, he⟩
 classical
 refine wpIn_loop (fun a w => ∃ n, I a w n) (fun a w => if h : ∃ n, I a w n then Classical.choose (Z0y h) else 0) hI ?_
 intro a w hx
 obtain ⟨x, C, hle, hs, he⟩ := (Classical.choose_spec (Z0y hx)).1
 refine wpIn_mono (round x C a w he hs) ?_
 rintro e a' w' ⟨h1, C', s', hq, hs', he'⟩
 cases e with
 | normal =>
  obtain ⟨y, hy, hwk⟩ := hq
  obtain ⟨C'', h2, h3⟩ := hwk Z C' a' w' hs'
  have hi : I a' w' (μ y) := ⟨y, C'', Nat.le_refl _, h2, he'.trans h3⟩
  refine ⟨⟨_, hi⟩, ?_⟩
  rw [dif_pos ⟨_, hi⟩, dif_pos hx]
  exact Nat.lt_of_le_of_lt ((Classical.choose_spec (Z0y ⟨_, hi⟩)).2 _ hi) (Nat.lt_of_lt_of_le hy hle)
 | outgrown => exact absurd rfl h1
 | _ => exact ⟨h1, C', s', hq, hs', he'⟩
theorem Z7n {c : Code} {α : Type} (inv : α → St) (J : α → Prop) (μ : α → Nat) (x0 : α) (j0 : J x0) (h0 : Weak s (inv x0))
  (round : ∀ x, J x → AWpO Z C0 H0 w0 P ro c (thenQ (fun s' => ∃ y, J y ∧ μ y < μ x ∧ Weak s' (inv y)) Q) (inv x)) : AWpO Z C0 H0 w0 P ro (.loop c) Q s :=
 Z8c (α := { x : α // J x }) (fun x => inv x.1) (fun x => μ x.1) ⟨x0, j0⟩ h0 fun x => by
  intro C a w he hs
  refine wpIn_mono (round x.1 x.2 C a w he hs) ?_
  rintro e a' w' ⟨h1, C', s', hq, hs', he'⟩
  refine ⟨h1, C', s', ?_, hs', he'⟩
  cases e with
  | normal => obtain ⟨y, h2, h3, h4⟩ := hq; exact ⟨⟨y, h2⟩, h3, h4⟩
  | _ => exact hq
theorem Z1q {id : Nat} {l : List Oper} (h : AOpsO Z C0 H0 w0 P ro l.toArray l Q s) : AWpO Z C0 H0 w0 P ro (.region id l.toArray false) Q s :=
 fun C a w he hs => wpIn_region (by
  have := h 0 (by simp) C a w he hs
  rw [List.range_eq_range']
  simpa using this)
theorem Z3b {ops : Array Oper} (h : Q .normal s) : AOpsO Z C0 H0 w0 P ro ops [] Q s := fun _ _ C _ _ he hs => by
 simp only [List.length_nil, List.range'_zero, wpOpsIn]
 exact ⟨nofun, C, s, h, hs, he⟩
def StepO (Z : List Nat) (C0 : Ctx) (H0 : AHeap) (w0 : World) (P : Program) (ro : Option Nat) (o : Oper) (K : St → Prop) (KP : List PanicEntry → St → Prop) (s : St) : Prop :=
 ∀ C a w, Ext Z C0 H0 w0 C s.H w → SR C s a w →
  o.uponIn (Wd ro) 0 P a (Sat Z C0 H0 w0 K) (fun e a' w' => match e with | .panic ch => Sat Z C0 H0 w0 (KP ch) a' w' | _ => False) ((o.semAt ro a.eval).run P w)
theorem Z0m {ops : Array Oper} {o : Oper} {rest : List Oper} (hw : Wanted ops s.T o true)
  (h : StepO Z C0 H0 w0 P ro o (AOpsO Z C0 H0 w0 P ro ops rest Q) (fun ch => Q (.panic ch)) s) : AOpsO Z C0 H0 w0 P ro ops (o :: rest) Q s := by
 intro k hk C a w he hs
 obtain ⟨h1, h2⟩ := Z3 hk
 have ho : ops[k]? = some o := by rw [← Array.getElem?_toList]; exact h1
 rw [List.length_cons, List.range'_succ, wpOpsIn_cons]
 unfold wpOpIn
 simp only [ho, hs.wanted hw, if_true]
 refine ⟨fun _ _ => trivial, ?_⟩
 refine Z14 ?_ ?_ ?_ (h C a w he hs)
 ·rintro a' w' ⟨C', s', hk', hs', he'⟩
  exact hk' (k + 1) h2 C' a' w' he' hs'
 ·intro c w' hx
  exact ⟨nofun, hx⟩
 ·rintro ⟨a', w', hx⟩
  exact hx.elim
theorem Z87 {ops : Array Oper} {o : Oper} {rest : List Oper} (Hn : AHeap) (x : AV) (hw : Wanted ops s.T o true) (hd : dok o.dst s.n = true)
  (he : Eff P o s.T Hn x []) (hn : ∀ p, p ∈ Hn → p ∈ s.H) (h : AOpsO Z C0 H0 w0 P ro ops rest Q { s with T := Sx.put s.T o.dst x }) : AOpsO Z C0 H0 w0 P ro ops (o :: rest) Q s := by
 refine Z0m hw ?_
 intro C a w hx hs
 refine he Z C s.H a w hs.wr hn (fun p _ y hy => hs.ev hy) nofun List.nodup_nil (fun _ _ => by simp) ro _ _ ?_
 intro v w1 C1 hv hw1 he1
 exact ⟨C1, _, h, hs.put he1.le hw1 (Zg hd) hv, hx.trans he1⟩
theorem Z6c {ops : Array Oper} {o : Oper} {rest : List Oper} {x : AV} (hw : Wanted ops s.T o true) (hd : dok o.dst s.n = true)
  (he : Eff P o s.T [] x []) (h : AOpsO Z C0 H0 w0 P ro ops rest Q { s with T := Sx.put s.T o.dst x }) : AOpsO Z C0 H0 w0 P ro ops (o :: rest) Q s := by
 refine Z0m hw ?_
 intro C a w hx hs
 refine he Z C s.H a w hs.wr nofun (fun p _ y hy => hs.ev hy) nofun List.nodup_nil (fun _ _ => by simp) ro _ _ ?_
 intro v w1 C1 hv hw1 he1
 exact ⟨C1, _, h, hs.put he1.le hw1 (Zg hd) hv, hx.trans he1⟩
theorem Z9e {C : Ctx} {H : AHeap} {w : World} {k id b N : Nat} {o : Obj} (hw : WR C H w) (hH : H[k]? = some (id, .raw o)) (hm : C.m id = some (b, N)) : w.heap[b]? = some o := by
 obtain ⟨_, b', N', h1, h2⟩ := hw.ids _ _ (List.mem_of_getElem? hH)
 rw [hm] at h1; cases h1
 exact h2
theorem Z6e {ops : Array Oper} {o : Oper} {rest : List Oper} {t kt et q mb N : Nat} {p : Operand} {ents : Array MapEntry} {clock : Nat} (k : Nat) [hu : UD P t (.map kt et)] (hw : Wanted ops s.T o true) (hd : dok o.dst s.n = true)
  (ho : o.op = .range t p) (hp : ev s.T p = some (.map q)) (hH : s.H[k]? = some (q, .raw (.map ents clock))) (hq : C0.m q = some (mb, N)) (hqu : q ∈ C0.U)
  (h : ∀ id, AOpsO Z C0 H0 w0 P ro ops rest Q { s with T := Sx.put s.T o.dst (.ptr id 1 0 0), H := (id, .raw (.mapIter (some mb) clock #[] clock)) :: s.H }) : AOpsO Z C0 H0 w0 P ro ops (o :: rest) Q s := by
 refine Z0m hw ?_
 intro C a w hx hs
 have hm : C.m q = some (mb, N) := (hx.le.m q hqu).trans hq
 have hb := Z9e hs.wr hH hm
 have hpv := hs.ev hp
 have hpe : a.eval p = .map (some mb) := by
  generalize a.eval p = u at hpv
  cases hpv with
  | map _ b' N' hid _ => rw [hm] at hid; cases hid; rfl
 obtain ⟨id, hid⟩ := Z4b (C.U ++ Z)
 rw [List.mem_append, not_or] at hid
 have hor : OR (C.bind id w.heap.size 1) id (w.alloc (.mapIter (some mb) clock #[] clock)) (.raw (.mapIter (some mb) clock #[] clock)) := ⟨_, 1, Ctx.bind_m .., heap_alloc_new w _⟩
 obtain ⟨hw1, he1⟩ := Z0q (Z := Z) hs.wr hid.1 hid.2 hor
 have hrun : (o.semAt ro a.eval).run P w = .ok (.value (.pointer (some ⟨w.heap.size, 0, none⟩))) (w.alloc (.mapIter (some mb) clock #[] clock)) := by
  rw [Oper.semAt_eq _ _ _ (by intro c; rw [ho]; nofun)]
  simp only [execOp, ho, hpe]
  simp [Sem.run_bind, run_range_map w t kt et mb ents clock hu.ud hb, Result.andThen]
 rw [hrun]
 refine ⟨_, _, h id, hs.put he1.le hw1 (Zg hd) ?_, hx.trans he1⟩
 have := VR.ptr (C := C.bind id w.heap.size 1) id 1 0 0 w.heap.size 1 (Ctx.bind_m ..) List.mem_cons_self
 simpa using this
theorem Z7l {ops : Array Oper} {o : Oper} {rest : List Oper} {q it mb N since c0 : Nat} {p : Operand} {ents : Array MapEntry} {clock : Nat} {seen : Array Nat} (j k : Nat) (hw : Wanted ops s.T o true) (hd : dok o.dst s.n = true)
  (ho : o.op = .next p false) (hp : ev s.T p = some (.ptr it 1 0 0)) (hI : s.H[j]? = some (it, .raw (.mapIter (some mb) since seen c0))) (hH : s.H[k]? = some (q, .raw (.map ents clock))) (hq : C0.m q = some (mb, N)) (hqu : q ∈ C0.U)
  (hold : ∀ x ∈ ents.toList, x.born < since) (hsc : since ≤ c0)
  (h0 : (leftOf ents seen).size = 0 → AOpsO Z C0 H0 w0 P ro ops rest Q { s with T := Sx.put s.T o.dst (.tup [.v (.bool false)]) })
  (h1 : ∀ e ∈ (leftOf ents seen).toList, AOpsO Z C0 H0 w0 P ro ops rest Q { s with T := Sx.put s.T o.dst (.tup [.v (.bool true), .v e.key, .v e.val]), H := s.H.set j (it, .raw (.mapIter (some mb) since (seen.push e.born) clock)) }) : AOpsO Z C0 H0 w0 P ro ops (o :: rest) Q s := by
 refine Z0m hw ?_
 intro C a w hx hs
 have hm : C.m q = some (mb, N) := (hx.le.m q hqu).trans hq
 have hb := Z9e hs.wr hH hm
 have hpv := hs.ev hp
 have tup1 : ∀ C' : Ctx, VR C' (.tup [.v (.bool false)]) (.tuple #[.bool false]) := fun C' => .tup _ _ rfl (fun i c x hc hv => by
  cases i with
  | zero => simp at hc hv; subst hc; subst hv; exact .v _
  | succ i => simp at hc)
 have tup3 : ∀ (C' : Ctx) (x y : Value), VR C' (.tup [.v (.bool true), .v x, .v y]) (.tuple #[.bool true, x, y]) := fun C' x y => .tup _ _ rfl (fun i c z hc hv => by
  rcases i with _ | _ | _ | i
  ·simp at hc hv; subst hc; subst hv; exact .v _
  ·simp at hc hv; subst hc; subst hv; exact .v _
  ·simp at hc hv; subst hc; subst hv; exact .v _
  ·simp at hc)
 obtain ⟨hu', r, N', hmi, hr⟩ := hs.wr.ids _ _ (List.mem_of_getElem? hI)
 have hpe : a.eval p = .pointer (some ⟨r, 0, none⟩) := by
  generalize a.eval p = u at hpv
  cases hpv with
  | ptr _ _ _ _ b' N'' hid _ => rw [hmi] at hid; cases hid; rfl
 have hsem : ∀ (v : Value) (w' : World), (Instr.next (.pointer (some ⟨r, 0, none⟩)) false o.type).run P w = .ok v w' → (o.semAt ro a.eval).run P w = .ok (.value v) w' := fun v w' hv => by
  rw [Oper.semAt_eq _ _ _ (by intro c; rw [ho]; nofun)]
  simp only [execOp, ho, hpe]
  simp [Sem.run_bind, hv, Result.andThen]
 rcases run_next_at (P := P) w o.type r mb since c0 seen ents clock hr hb hold hsc with ⟨hz, hrun⟩ | ⟨e, hem, w1, hw1, hrun⟩
 ·rw [hsem _ _ hrun]
  exact ⟨C, _, h0 hz, hs.put (.refl C) hs.wr (Zg hd) (tup1 C), hx⟩
 ·rw [hsem _ _ hrun]
  have hlt : r < w.heap.size := (Array.getElem?_eq_some_iff.1 hr).1
  have hh : w1.heap = w.heap ∧ w1.os = w.os ∧ w1.tape = w.tape ∧ w1.output = w.output := by rcases hw1 with rfl | rfl <;> exact ⟨rfl, rfl, rfl, rfl⟩
  have hget : ∀ b, (setBlock w1 r (.mapIter (some mb) since (seen.push e.born) clock)).heap[b]? = if b = r then some (.mapIter (some mb) since (seen.push e.born) clock) else w.heap[b]? := fun b => by
   simp only [setBlock, hh.1]
   rw [Array.getElem?_setIfInBounds]
   split
   ·rename_i hbr; subst hbr; simp [hlt]
   ·rename_i hbr; rw [if_neg (fun h => hbr h.symm)]
  obtain ⟨g1, g2⟩ := Zt (Z := Z) (C' := C) (id' := it) (o' := .raw (.mapIter (some mb) since (seen.push e.born) clock)) (w' := setBlock w1 r (.mapIter (some mb) since (seen.push e.born) clock)) hs.wr hI (.refl C) rfl (.inl rfl) hu' (fun _ _ h => h)
   hh.2.1 hh.2.2.1 hh.2.2.2 (by simp [setBlock, hh.1]) (fun b N' hm' => .inl ⟨N', hm'⟩) (fun b2 hb2 hne => by rw [hget, if_neg (by rintro rfl; exact hne _ hmi)]) ⟨r, N', hmi, by rw [hget, if_pos rfl]⟩
  exact ⟨C, _, h1 e hem, hs.put g2.le g1 (Zg hd) (tup3 C _ _), hx.trans g2⟩
theorem Z6d {ops : Array Oper} {o : Oper} {rest : List Oper} {q it mb N since : Nat} {p : Operand} {ents : Array MapEntry} {clock : Nat} {seen : Array Nat} {e : MapEntry} (j k : Nat) (hw : Wanted ops s.T o true) (hd : dok o.dst s.n = true)
  (ho : o.op = .entry p) (hp : ev s.T p = some (.ptr it 1 0 0)) (hI : s.H[j]? = some (it, .raw (.mapIter (some mb) since (seen.push e.born) clock))) (hH : s.H[k]? = some (q, .raw (.map ents clock))) (hq : C0.m q = some (mb, N)) (hqu : q ∈ C0.U)
  (hem : e ∈ ents.toList) (hn : (ents.toList.map (·.born)).Nodup)
  (h : AOpsO Z C0 H0 w0 P ro ops rest Q { s with T := Sx.put s.T o.dst (.tup [.v e.key, .v e.val]) }) : AOpsO Z C0 H0 w0 P ro ops (o :: rest) Q s := by
 refine Z0m hw ?_
 intro C a w hx hs
 have hm : C.m q = some (mb, N) := (hx.le.m q hqu).trans hq
 have hb := Z9e hs.wr hH hm
 have hpv := hs.ev hp
 obtain ⟨hu', r, N', hmi, hr⟩ := hs.wr.ids _ _ (List.mem_of_getElem? hI)
 have hpe : a.eval p = .pointer (some ⟨r, 0, none⟩) := by
  generalize a.eval p = u at hpv
  cases hpv with
  | ptr _ _ _ _ b' N'' hid _ => rw [hmi] at hid; cases hid; rfl
 have hrun : (o.semAt ro a.eval).run P w = .ok (.value (.tuple #[e.key, e.val])) w := by
  rw [Oper.semAt_eq _ _ _ (by intro c; rw [ho]; nofun)]
  simp only [execOp, ho, hpe]
  simp [Sem.run_bind, run_entry_at w r mb since seen ents clock e hr hb hem hn, Result.andThen]
 rw [hrun]
 refine ⟨C, _, h, hs.put (.refl C) hs.wr (Zg hd) (.tup _ _ rfl (fun i c z hc hv => ?_)), hx⟩
 rcases i with _ | _ | i
 ·simp at hc hv; subst hc; subst hv; exact .v _
 ·simp at hc hv; subst hc; subst hv; exact .v _
 ·simp at hc
end
def keyS (e : MapEntry) : Str := match e.key with | .string s => s | _ => default
def bornsA (x : List MapEntry) : Array Nat := (x.map (·.born)).toArray
theorem Z3f (x : List MapEntry) (e : MapEntry) : (bornsA x).push e.born = bornsA (x ++ [e]) := by simp [bornsA]
theorem bornsA_has {x : List MapEntry} {b : Nat} : (bornsA x).contains b = true ↔ b ∈ x.map (·.born) := by simp [bornsA]
structure SetE (out : List Str) (ents : Array MapEntry) (clock : Nat) : Prop where
 key : ents.toList.map (·.key) = out.map Value.string
 born : ∀ e ∈ ents.toList, e.born < clock
 nd : (ents.toList.map (·.born)).Nodup
theorem SetE.keyS {out : List Str} {ents : Array MapEntry} {clock : Nat} (h : SetE out ents clock) {e : MapEntry} (he : e ∈ ents.toList) : e.key = .string (Sx.keyS e) ∧ Sx.keyS e ∈ out := by
 have h1 : e.key ∈ out.map Value.string := h.key ▸ List.mem_map.2 ⟨e, he, rfl⟩
 obtain ⟨s, hs, hk⟩ := List.mem_map.1 h1
 unfold Sx.keyS
 rw [← hk]
 exact ⟨rfl, hs⟩
theorem SetE.all {out : List Str} {ents : Array MapEntry} {clock : Nat} (h : SetE out ents clock) {s : Str} (hs : s ∈ out) : ∃ e ∈ ents.toList, Sx.keyS e = s := by
 have h1 : Value.string s ∈ ents.toList.map (·.key) := h.key ▸ List.mem_map.2 ⟨s, hs, rfl⟩
 obtain ⟨e, he, hk⟩ := List.mem_map.1 h1
 refine ⟨e, he, ?_⟩
 unfold Sx.keyS
 rw [hk]
theorem SetE.keys {out : List Str} {ents : Array MapEntry} {clock : Nat} (h : SetE out ents clock) : ents.toList.map Sx.keyS = out := by
 have h1 : ents.toList.map Sx.keyS = (ents.toList.map (·.key)).map (fun v => match v with | .string s => s | _ => default) := by rw [List.map_map]; rfl
 rw [h1, h.key, List.map_map]
 exact (List.map_congr_left fun s _ => rfl).trans (List.map_id _)
structure Got (out : List Str) (ents : Array MapEntry) (x : List MapEntry) : Prop where
 sub : ∀ e ∈ x, e ∈ ents.toList
 nd : (x.map (·.born)).Nodup
theorem Got.start (out : List Str) (ents : Array MapEntry) : Got out ents [] := ⟨nofun, List.nodup_nil⟩
theorem Got.step {out : List Str} {ents : Array MapEntry} {x : List MapEntry} {e : MapEntry} (h : Got out ents x) (he : e ∈ (leftOf ents (bornsA x)).toList) : Got out ents (x ++ [e]) := by
 obtain ⟨h1, h2⟩ := mem_left he
 refine ⟨fun z hz => ?_, ?_⟩
 ·rcases List.mem_append.1 hz with hz | hz
  ·exact h.sub z hz
  ·rw [List.mem_singleton.1 hz]; exact h1
 ·rw [List.map_append, List.nodup_append]
  refine ⟨h.nd, by simp, ?_⟩
  rintro a ha b hb rfl
  rw [List.map_singleton, List.mem_singleton] at hb
  subst hb
  rw [bornsA_has.2 ha] at h2; cases h2
theorem Got.keys {out : List Str} {ents : Array MapEntry} {clock : Nat} (hs : SetE out ents clock) (ho : out.Nodup) {x : List MapEntry} (h : Got out ents x) : (x.map keyS).Nodup ∧ ∀ s, s ∈ x.map keyS → s ∈ out := by
 refine ⟨?_, fun s hsx => ?_⟩
 ·have hk : ∀ a b : MapEntry, a ∈ ents.toList → b ∈ ents.toList → keyS a = keyS b → a.born = b.born := by
   intro a b ha hb hab
   obtain ⟨i, hi, rfl⟩ := List.mem_iff_getElem.1 ha
   obtain ⟨j, hj, rfl⟩ := List.mem_iff_getElem.1 hb
   have e1 := hs.keys
   have hnd : (ents.toList.map keyS).Nodup := by rw [e1]; exact ho
   have hi' : i < (ents.toList.map keyS).length := by simpa using hi
   have hj' : j < (ents.toList.map keyS).length := by simpa using hj
   have : i = j := (List.getElem_inj (h₀ := hi') (h₁ := hj') hnd).1 (by simpa using hab)
   subst this; rfl
  have hx := h.nd
  unfold List.Nodup at hx ⊢
  rw [List.pairwise_map] at hx ⊢
  refine List.Pairwise.imp_of_mem ?_ hx
  intro a b ha hb hne hab
  exact hne (hk a b (h.sub a ha) (h.sub b hb) hab)
 ·obtain ⟨e, he, rfl⟩ := List.mem_map.1 hsx
  exact (hs.keyS (h.sub e he)).2
theorem Got.fin {out : List Str} {ents : Array MapEntry} {clock : Nat} (hs : SetE out ents clock) (ho : out.Nodup) {x : List MapEntry} (h : Got out ents x) (hz : (leftOf ents (bornsA x)).size = 0) : (x.map keyS).Perm out := by
 obtain ⟨h1, h2⟩ := h.keys hs ho
 refine (List.perm_ext_iff_of_nodup h1 ho).2 fun s => ⟨h2 s, fun hso => ?_⟩
 obtain ⟨e, he, rfl⟩ := hs.all hso
 have h3 := bornsA_has.1 (all_seen _ _ hz e he)
 obtain ⟨e', he', hb⟩ := List.mem_map.1 h3
 rw [← born_inj hs.nd (h.sub e' he') he hb]
 exact List.mem_map.2 ⟨e', he', rfl⟩
theorem Got.dec {out : List Str} {ents : Array MapEntry} {x : List MapEntry} {e : MapEntry} (he : e ∈ (leftOf ents (bornsA x)).toList) : (leftOf ents (bornsA (x ++ [e]))).size < (leftOf ents (bornsA x)).size := by
 rw [← Z3f]; exact left_shrinks _ _ _ he
def AdmS (out : List Str) (l : List Str) : Prop := l.Nodup ∧ ∀ s, s ∈ l → s ∈ out
def FinS (out : List Str) (l : List Str) : Prop := l.Perm out
theorem AdmS.len {out l : List Str} (h : AdmS out l) : l.length ≤ out.length := Z00 h.1 h.2
def MapN (p : Prog) (nm : Str) : AEnd → AHeap → Prop := fun e H => ∃ q out, e = .ret (.map q) ∧ H = [(q, .mp (setM out))] ∧ out.Nodup ∧ out.length ≤ p.classes.length ∧ ∀ s, s ∈ out ↔ Anc p nm s
end Go.Sx
namespace Go.Sx
open Go
section
variable {α : Type} [DecidableEq α] {kv : α → List Value}
structure SetF (kv : α → List Value) (out : List α) (ents : Array MapEntry) (clock : Nat) : Prop where
 key : ents.toList.map (·.key) = out.map (kagg kv)
 born : ∀ e ∈ ents.toList, e.born < clock
 nd : (ents.toList.map (·.born)).Nodup
theorem SetF.keyF {kd : Value → α} (hkd : ∀ a, kd (kagg kv a) = a) {out : List α} {ents : Array MapEntry} {clock : Nat} (h : SetF kv out ents clock) {e : MapEntry} (he : e ∈ ents.toList) : e.key = kagg kv (kd e.key) ∧ kd e.key ∈ out := by
 have h1 : e.key ∈ out.map (kagg kv) := h.key ▸ List.mem_map.2 ⟨e, he, rfl⟩
 obtain ⟨s, hs, hk⟩ := List.mem_map.1 h1
 rw [← hk, hkd]
 exact ⟨rfl, hs⟩
theorem SetF.all {kd : Value → α} (hkd : ∀ a, kd (kagg kv a) = a) {out : List α} {ents : Array MapEntry} {clock : Nat} (h : SetF kv out ents clock) {s : α} (hs : s ∈ out) : ∃ e ∈ ents.toList, kd e.key = s := by
 have h1 : kagg kv s ∈ ents.toList.map (·.key) := h.key ▸ List.mem_map.2 ⟨s, hs, rfl⟩
 obtain ⟨e, he, hk⟩ := List.mem_map.1 h1
 exact ⟨e, he, by rw [hk, hkd]⟩
theorem SetF.keys {kd : Value → α} (hkd : ∀ a, kd (kagg kv a) = a) {out : List α} {ents : Array MapEntry} {clock : Nat} (h : SetF kv out ents clock) : ents.toList.map (fun e => kd e.key) = out := by
 have h1 : ents.toList.map (fun e => kd e.key) = (ents.toList.map (·.key)).map kd := by rw [List.map_map]; rfl
 rw [h1, h.key, List.map_map]
 exact (List.map_congr_left fun s _ => hkd s).trans (List.map_id _)
structure GotF (ents : Array MapEntry) (x : List MapEntry) : Prop where
 sub : ∀ e ∈ x, e ∈ ents.toList
 nd : (x.map (·.born)).Nodup
theorem GotF.start (ents : Array MapEntry) : GotF ents [] := ⟨nofun, List.nodup_nil⟩
theorem GotF.step {ents : Array MapEntry} {x : List MapEntry} {e : MapEntry} (h : GotF ents x) (he : e ∈ (leftOf ents (bornsA x)).toList) : GotF ents (x ++ [e]) :=
 let g := Got.step (out := []) ⟨h.sub, h.nd⟩ he; ⟨g.sub, g.nd⟩
theorem GotF.dec {ents : Array MapEntry} {x : List MapEntry} {e : MapEntry} (he : e ∈ (leftOf ents (bornsA x)).toList) : (leftOf ents (bornsA (x ++ [e]))).size < (leftOf ents (bornsA x)).size := Got.dec (out := []) he
theorem GotF.keys {kd : Value → α} (hkd : ∀ a, kd (kagg kv a) = a) {out : List α} {ents : Array MapEntry} {clock : Nat} (hs : SetF kv out ents clock) (ho : out.Nodup) {x : List MapEntry} (h : GotF ents x) : (x.map (fun e => kd e.key)).Nodup ∧ ∀ s, s ∈ x.map (fun e => kd e.key) → s ∈ out := by
 refine ⟨?_, fun s hsx => ?_⟩
 ·have hk : ∀ a b : MapEntry, a ∈ ents.toList → b ∈ ents.toList → kd a.key = kd b.key → a.born = b.born := by
   intro a b ha hb hab
   obtain ⟨i, hi, rfl⟩ := List.mem_iff_getElem.1 ha
   obtain ⟨j, hj, rfl⟩ := List.mem_iff_getElem.1 hb
   have e1 := hs.keys hkd
   have hnd : (ents.toList.map (fun e => kd e.key)).Nodup := by rw [e1]; exact ho
   have hi' : i < (ents.toList.map (fun e => kd e.key)).length := by simpa using hi
   have hj' : j < (ents.toList.map (fun e => kd e.key)).length := by simpa using hj
   have : i = j := (List.getElem_inj (h₀ := hi') (h₁ := hj') hnd).1 (by simpa using hab)
   subst this; rfl
  have hx := h.nd
  unfold List.Nodup at hx ⊢
  rw [List.pairwise_map] at hx ⊢
  refine List.Pairwise.imp_of_mem ?_ hx
  intro a b ha hb hne hab
  exact hne (hk a b (h.sub a ha) (h.sub b hb) hab)
 ·obtain ⟨e, he, rfl⟩ := List.mem_map.1 hsx
  exact (hs.keyF hkd (h.sub e he)).2
theorem GotF.fin {kd : Value → α} (hkd : ∀ a, kd (kagg kv a) = a) {out : List α} {ents : Array MapEntry} {clock : Nat} (hs : SetF kv out ents clock) (ho : out.Nodup) {x : List MapEntry} (h : GotF ents x) (hz : (leftOf ents (bornsA x)).size = 0) : (x.map (fun e => kd e.key)).Perm out := by
 obtain ⟨h1, h2⟩ := h.keys hkd hs ho
 refine (List.perm_ext_iff_of_nodup h1 ho).2 fun s => ⟨h2 s, fun hso => ?_⟩
 obtain ⟨e, he, rfl⟩ := hs.all hkd hso
 have h3 := bornsA_has.1 (all_seen _ _ hz e he)
 obtain ⟨e', he', hb⟩ := List.mem_map.1 h3
 rw [← born_inj hs.nd (h.sub e' he') he hb]
 exact List.mem_map.2 ⟨e', he', rfl⟩
theorem Z95 {Z : List Nat} {C : Ctx} {H : AHeap} {w : World} {k q : Nat} {es : List (α × AV)} (hw : WR C H w) (hH : H[k]? = some (q, .mp (fmp kv es))) :
  ∃ mb N ents clock, C.m q = some (mb, N) ∧ q ∈ C.U ∧ SetF kv (es.map Prod.fst) ents clock ∧ WR C (H.set k (q, .raw (.map ents clock))) w ∧ Ext Z C H w C (H.set k (q, .raw (.map ents clock))) w := by
 obtain ⟨hu, b, N, ents, clock, hm, hh, hl, hborn, hinj, hrow⟩ := hw.ids _ _ (List.mem_of_getElem? hH)
 have hlen : ents.toList.length = es.length := by rw [Array.length_toList, hl]; simp [fmp]
 obtain ⟨g1, g2⟩ := Zt (Z := Z) (C' := C) (id' := q) (o' := .raw (.map ents clock)) (w' := w) hw hH (.refl C) rfl (.inl rfl) hu (fun _ _ h => h) rfl rfl rfl (Nat.le_refl _) (fun b N' hm' => .inl ⟨N', hm'⟩) (fun _ _ _ => rfl) ⟨b, N, hm, hh⟩
 refine ⟨b, N, ents, clock, hm, hu, ⟨?_, ?_, ?_⟩, g1, g2⟩
 ·refine List.ext_getElem (by simpa using hlen) fun i h1 h2 => ?_
  have hi : i < es.length := by simpa using h2
  obtain ⟨e, he, hk, _⟩ := hrow i (kagg kv es[i].1) es[i].2 (by simp [fmp, hi])
  rw [← Array.getElem?_toList] at he
  obtain ⟨h3, h4⟩ := List.getElem?_eq_some_iff.1 he
  simp only [List.getElem_map]
  rw [h4, hk]
 ·intro e he
  obtain ⟨i, hi, rfl⟩ := List.mem_iff_getElem.1 he
  exact hborn i _ (by rw [← Array.getElem?_toList, List.getElem?_eq_getElem hi])
 ·unfold List.Nodup
  rw [List.pairwise_map, List.pairwise_iff_getElem]
  intro i j hi hj hlt he
  have := hinj i j _ _ (by rw [← Array.getElem?_toList, List.getElem?_eq_getElem hi]) (by rw [← Array.getElem?_toList, List.getElem?_eq_getElem hj]) he
  omega
def AdmF (out : List α) (l : List α) : Prop := l.Nodup ∧ ∀ s, s ∈ l → s ∈ out
def FinF (out : List α) (l : List α) : Prop := l.Perm out
theorem AdmF.len {out l : List α} (h : AdmF out l) : l.length ≤ out.length := Z00 h.1 h.2
end
end Go.Sx
namespace Go.Sx
open Go
def ltS (a b : Str) : Bool := Op.bytesLess a.toList b.toList
def ddS (o : List Str) (s : Str) : List Str := if inL o s then o else o ++ [s]
def dd (l : List Str) : List Str := l.foldl ddS []
def swapS (l : List Str) (i j : Nat) : List Str := (l.set i (l.getD j default)).set j (l.getD i default)
def insK : Nat → List Str → List Str
 | 0, l => l
 | k + 1, l => if ltS (l.getD (k + 1) default) (l.getD k default) then insK k (swapS l (k + 1) k) else l
def outF : Nat → Nat → List Str → List Str
 | 0, _, l => l
 | f + 1, i, l => outF f (i + 1) (insK i l)
def risF (l : List Str) : List Str := outF ((dd l).length - 1) 1 (dd l)
theorem Zbn {l : List Str} {i : Nat} (h : i < l.length) : l.getD i default = l[i] := by simp [List.getD, h]
def hasC (p : Prog) (s : Str) : Bool := (clsFind p s).isSome
def addS (p : Prog) (o : List Str) (u : Str) : List Str := if hasC p u && !inL o u then o ++ [u] else o
def addU (p : Prog) (l o : List Str) : List Str := l.foldl (addS p) o
theorem Z6x (p : Prog) : ∀ (l o : List Str), ∃ r, addU p l o = o ++ r
 | [], o => ⟨[], by simp [addU]⟩
 | x :: l, o => by
  obtain ⟨r, h⟩ := Z6x p l (addS p o x)
  have h2 : ∃ r2, addS p o x = o ++ r2 := by unfold addS; split; exact ⟨[x], rfl⟩; exact ⟨[], by simp⟩
  obtain ⟨r2, h2⟩ := h2
  exact ⟨r2 ++ r, by rw [show addU p (x :: l) o = addU p l (addS p o x) from rfl, h, h2]; simp⟩
theorem Z1d (p : Prog) (s : Str) : ∀ (l o : List Str), s ∈ addU p l o ↔ s ∈ o ∨ (s ∈ l ∧ hasC p s = true)
 | [], o => by simp [addU]
 | x :: l, o => by
  rw [show addU p (x :: l) o = addU p l (addS p o x) from rfl, Z1d p s l]
  unfold addS
  cases hx : hasC p x with
  | false =>
   simp only [Bool.false_and, Bool.false_eq_true, if_false, List.mem_cons]
   constructor
   ·rintro (h | ⟨h, h2⟩); exact .inl h; exact .inr ⟨.inr h, h2⟩
   ·rintro (h | ⟨rfl | h, h2⟩); exact .inl h; rw [hx] at h2; cases h2; exact .inr ⟨h, h2⟩
  | true =>
   cases hi : inL o x with
   | true =>
    have hi := inL_mem.1 hi
    simp only [Bool.not_true, Bool.and_false, Bool.false_eq_true, if_false, List.mem_cons]
    constructor
    ·rintro (h | ⟨h, h2⟩); exact .inl h; exact .inr ⟨.inr h, h2⟩
    ·rintro (h | ⟨rfl | h, h2⟩); exact .inl h; exact .inl hi; exact .inr ⟨h, h2⟩
   | false =>
    simp only [Bool.not_false, Bool.and_true, if_true, List.mem_append, List.mem_cons, List.not_mem_nil, or_false]
    constructor
    ·rintro ((h | rfl) | ⟨h, h2⟩); exact .inl h; exact .inr ⟨.inl rfl, hx⟩; exact .inr ⟨.inr h, h2⟩
    ·rintro (h | ⟨rfl | h, h2⟩); exact .inl (.inl h); exact .inl (.inr rfl); exact .inr ⟨h, h2⟩
theorem Z4c (p : Prog) : ∀ (l o : List Str), o.Nodup → (addU p l o).Nodup
 | [], o, h => h
 | x :: l, o, h => by
  refine Z4c p l _ ?_
  unfold addS
  split
  ·rename_i h1
   rw [List.nodup_append]
   refine ⟨h, by simp, fun a ha b hb => ?_⟩
   rw [List.mem_singleton] at hb; subst hb
   rintro rfl
   rw [inL_mem.2 ha] at h1; simp at h1
  ·exact h
theorem Z2e {p : Prog} {s : Str} (h : hasC p s = true) : ∃ c, clsFind p s = some c := Option.isSome_iff_exists.1 h
theorem Z4y {p : Prog} {s : Str} (h : hasC p s = true) : s ∈ p.classes.map Cls.name := by
 obtain ⟨c, h⟩ := Z2e h
 obtain ⟨h1, h2⟩ := Zi h
 exact List.mem_map.2 ⟨c, h2, h1⟩
structure AncB (p : Prog) (nm : Str) (out : List Str) (i : Nat) : Prop where
 nd : out.Nodup
 has : ∀ x, x ∈ out → hasC p x = true
 snd : ∀ x, x ∈ out → Anc p nm x
 st : hasC p nm = true → nm ∈ out
 cl : ∀ j, j < i → ∀ s, out[j]? = some s → ∀ c, clsFind p s = some c → ∀ u, u ∈ upC c → hasC p u = true → u ∈ out
 le : i ≤ out.length
theorem AncB.len {p : Prog} {nm : Str} {out : List Str} {i : Nat} (h : AncB p nm out i) : out.length ≤ p.classes.length := by
 have := Z00 h.nd (fun x hx => Z4y (h.has x hx))
 simpa using this
theorem AncB.step {p : Prog} {nm : Str} {out : List Str} {i : Nat} (h : AncB p nm out i) (hi : i < out.length) {c : Cls} (hc : clsFind p out[i] = some c) : AncB p nm (addU p (upC c) out) (i + 1) := by
 obtain ⟨r, hr⟩ := Z6x p (upC c) out
 have ha := h.snd _ (List.getElem_mem hi)
 refine ⟨Z4c p _ _ h.nd, ?_, ?_, fun h2 => (Z1d ..).2 (.inl (h.st h2)), ?_, ?_⟩
 ·intro x hx
  rcases (Z1d ..).1 hx with h1 | h1
  ·exact h.has x h1
  ·exact h1.2
 ·intro x hx
  rcases (Z1d ..).1 hx with h1 | h1
  ·exact h.snd x h1
  ·obtain ⟨d, hd⟩ := Z2e h1.2
   exact .step ha hc h1.1 hd
 ·intro j hj s hs d hd u hu hh
  have hjl : j < out.length := by omega
  have hs' : out[j]? = some s := by rw [hr, List.getElem?_append_left hjl] at hs; exact hs
  rcases Nat.lt_succ_iff_lt_or_eq.1 hj with h1 | h1
  ·exact (Z1d ..).2 (.inl (h.cl j h1 s hs' d hd u hu hh))
  ·subst h1
   rw [List.getElem?_eq_getElem hjl] at hs'; cases hs'
   rw [hc] at hd; cases hd
   exact (Z1d ..).2 (.inr ⟨hu, hh⟩)
 ·rw [hr, List.length_append]; omega
theorem AncB.fin {p : Prog} {nm : Str} {out : List Str} {i : Nat} (h : AncB p nm out i) (hi : ¬ i < out.length) (s : Str) : s ∈ out ↔ Anc p nm s := by
 refine ⟨h.snd s, fun ha => ?_⟩
 induction ha with
 | base hc => exact h.st (by simp [hasC, hc])
 | step _ hc hu hd ih =>
  obtain ⟨j, hj, e⟩ := List.getElem_of_mem ih
  exact h.cl j (by omega) _ (by rw [List.getElem?_eq_getElem hj, e]) _ hc _ hu (by simp [hasC, hd])
noncomputable def chk1 (p : Prog) (c : Cls) : Int :=
 if !beqS c.super zS && !hasC p c.super then 7 else if c.ifaces.any fun s => !hasC p s then 7 else if !beqS c.super zS && ifaceP p c.super then 9 else if c.ifaces.any fun s => !ifaceP p s then 9 else 0
noncomputable def chk2 (p : Prog) (c : Cls) : Bool := (!beqS c.super zS && subP p c.super c.name) || c.ifaces.any fun s => subP p s c.name
noncomputable def checkP (p : Prog) : Int × Str := match p.classes.find? fun c => chk1 p c != 0 with
 | some c => (chk1 p c, c.name)
 | none => match p.classes.find? fun c => chk2 p c with
  | some c => (8, c.name)
  | none => (0, zS)
structure SoundP (p : Prog) : Prop where
 one : ∀ c, c ∈ p.classes → chk1 p c = 0
 two : ∀ c, c ∈ p.classes → chk2 p c = false
noncomputable def f1 (p : Prog) (c : Cls) : Bool := chk1 p c != 0
def nNo : Str := ⟨#[78, 111]⟩
def nearK (k : Int) : Int := (k.tmod 7 + 7).tmod 7
def nearF (p : Prog) (f : Fact) (k : Int) : Fact :=
 ⟨nearK f.kind, if nearK f.kind = 3 ∨ nearK f.kind = 5 then (if 0 < p.classes.length ∧ k < 250 then (p.classes.getD (k.tmod p.classes.length).toNat default).name else nNo) else zS⟩
end Go.Sx
namespace Go.Sx
open Go
theorem Anc.trans {p : Prog} {a b c : Str} (h : Anc p a b) (k : Anc p b c) : Anc p a c := by
 induction k with
 | base _ => exact h
 | step _ hc hu hd ih => exact .step ih hc hu hd
theorem Anc.known {p : Prog} {a b : Str} (h : Anc p a b) : hasC p b = true := by
 cases h with
 | base hc => simp [hasC, hc]
 | step _ _ _ hd => simp [hasC, hd]
theorem subP_iff {p : Prog} {a b : Str} : subP p a b = true ↔ Anc p a b := by unfold subP; simp
theorem Z9o {p : Prog} {a b : Str} (h : subP p a b = false) : ¬ Anc p a b := fun k => by rw [subP_iff.2 k] at h; cases h
theorem beqS_no {a b : Str} : beqS a b = false ↔ a ≠ b := by
 cases h : beqS a b with
 | true => have := beqS_iff.1 h; simp [this]
 | false => simp; intro e; subst e; rw [Z8e] at h; cases h
structure UpOK (p : Prog) (c : Cls) : Prop where
 sup : c.super ≠ zS → hasC p c.super = true ∧ ifaceP p c.super = false ∧ ¬ Anc p c.super c.name
 ifs : ∀ s, s ∈ c.ifaces → hasC p s = true ∧ ifaceP p s = true ∧ ¬ Anc p s c.name
theorem SoundP.ok {p : Prog} (h : SoundP p) {c : Cls} (hc : c ∈ p.classes) : UpOK p c := by
 have h1 := h.one c hc
 have h2 := h.two c hc
 unfold chk1 at h1
 unfold chk2 at h2
 have h3 : (!beqS c.super zS && !hasC p c.super) = false ∧ (c.ifaces.any fun s => !hasC p s) = false ∧ (!beqS c.super zS && ifaceP p c.super) = false ∧ (c.ifaces.any fun s => !ifaceP p s) = false := by
  revert h1
  generalize (!beqS c.super zS && !hasC p c.super) = a
  generalize (c.ifaces.any fun s => !hasC p s) = b
  generalize (!beqS c.super zS && ifaceP p c.super) = d
  generalize (c.ifaces.any fun s => !ifaceP p s) = e
  cases a <;> cases b <;> cases d <;> cases e <;> simp
 obtain ⟨a1, a2, a3, a4⟩ := h3
 rw [Bool.or_eq_false_iff] at h2
 obtain ⟨a5, a6⟩ := h2
 rw [List.any_eq_false] at a2 a4 a6
 refine ⟨fun hn => ?_, fun s hs => ⟨by simpa using a2 s hs, by simpa using a4 s hs, Z9o (by simpa using a6 s hs)⟩⟩
 rw [beqS_no.2 hn] at a1 a3 a5
 exact ⟨by simpa using a1, by simpa using a3, Z9o (by simpa using a5)⟩
theorem Zb7 {p : Prog} (hs : SoundP p) {s : Str} {c : Cls} (hc : clsFind p s = some c) (hn : c.super ≠ zS) : Anc p s c.super := by
 obtain ⟨d, hd⟩ := Z2e ((hs.ok (Zi hc).2).sup hn).1
 exact .step (.base hc) hc (by unfold upC; rw [beqS_no.2 hn]; exact List.mem_cons_self) hd
theorem Zf4 {p : Prog} (hs : SoundP p) {s : Str} {c : Cls} (hc : clsFind p s = some c) (hn : c.super ≠ zS) : ¬ Anc p c.super s := by
 have := ((hs.ok (Zi hc).2).sup hn).2.2
 rwa [(Zi hc).1] at this
theorem Z5d {α : Type} {q r : α → Bool} : ∀ {l : List α} {a : α}, (∀ z, q z = true → r z = true) → a ∈ l → r a = true → q a = false → l.countP q < l.countP r
 | [], _, _, h, _, _ => nomatch h
 | x :: l, a, hm, h, hr, hq => by
  rw [List.countP_cons, List.countP_cons]
  rcases List.mem_cons.1 h with rfl | h
  ·have := List.countP_mono_left (l := l) (p := q) (q := r) (fun z _ => hm z)
   rw [hr, hq]; simp; omega
  ·have ih := Z5d hm h hr hq
   have : (if q x = true then 1 else 0) ≤ (if r x = true then 1 else 0 : Nat) := by
    cases hqx : q x with
    | false => simp
    | true => rw [hm x hqx]; simp
   omega
noncomputable def mu (p : Prog) (s : Str) : Nat := (p.classes.map Cls.name).countP (subP p s)
theorem Zbo {p : Prog} (hs : SoundP p) {s : Str} {c : Cls} (hc : clsFind p s = some c) (hn : c.super ≠ zS) : mu p c.super < mu p s := by
 refine Z5d (a := s) (fun z hz => subP_iff.2 ((Zb7 hs hc hn).trans (subP_iff.1 hz))) (Z4y (by simp [hasC, hc])) (subP_iff.2 (.base hc)) ?_
 cases h : subP p c.super s with
 | false => rfl
 | true => exact absurd (subP_iff.1 h) (Zf4 hs hc hn)
theorem Z97 {p : Prog} {s : Str} (h : mu p s = 0) : clsFind p s = none := by
 cases hc : clsFind p s with
 | none => rfl
 | some c =>
  have hm : s ∈ p.classes.map Cls.name := Z4y (by simp [hasC, hc])
  have := List.countP_pos_iff.2 ⟨s, hm, subP_iff.2 (.base hc)⟩
  unfold mu at h; omega
theorem Zde (p : Prog) (s : Str) : mu p s ≤ p.classes.length := by
 have := List.countP_le_length (p := subP p s) (l := p.classes.map Cls.name)
 simpa [mu] using this
def chain (p : Prog) : Nat → Str → List Str
 | 0, _ => []
 | n + 1, s => match clsFind p s with
  | none => []
  | some c => s :: (if beqS c.super zS then [] else chain p n c.super)
theorem Z3h {p : Prog} (hs : SoundP p) : ∀ {n : Nat} {s z : Str}, z ∈ chain p n s → Anc p s z
 | 0, _, _, h => nomatch h
 | n + 1, s, z, h => by
  unfold chain at h
  cases hc : clsFind p s with
  | none => rw [hc] at h; cases h
  | some c =>
   rw [hc] at h
   rcases List.mem_cons.1 h with rfl | h
   ·exact .base hc
   ·cases hb : beqS c.super zS with
    | true => rw [hb] at h; cases h
    | false => rw [hb] at h; exact (Zb7 hs hc (beqS_no.1 hb)).trans (Z3h hs h)
theorem Z1l {p : Prog} (hs : SoundP p) : ∀ (n : Nat) (s : Str) (out : List Str), (∀ z, z ∈ out → z ∉ chain p n s) → supF p n s out = out ++ chain p n s
 | 0, _, out, _ => by simp [supF, chain]
 | n + 1, s, out, h => by
  unfold supF chain
  unfold chain at h
  cases hc : clsFind p s with
  | none => simp
  | some c =>
   rw [hc] at h
   simp only at h ⊢
   rw [(Zi hc).1]
   have hin : inL out s = false := inL_false.2 fun hx => h s hx List.mem_cons_self
   rw [hin]
   cases hb : beqS c.super zS with
   | true => simp
   | false =>
    rw [hb] at h
    simp only [Bool.false_eq_true, if_false] at h ⊢
    rw [Z1l hs n c.super (out ++ [s])]
    ·simp
    ·intro z hz hk
     rcases List.mem_append.1 hz with hz | hz
     ·exact h z hz (List.mem_cons_of_mem _ hk)
     ·rw [List.mem_singleton] at hz; subst hz
      exact Zf4 hs hc (beqS_no.1 hb) (Z3h hs hk)
theorem Z2u {p : Prog} (hs : SoundP p) : ∀ (n m : Nat) (s : Str), mu p s ≤ n → mu p s ≤ m → chain p n s = chain p m s
 | 0, 0, _, _, _ => rfl
 | 0, m + 1, s, h, _ => by unfold chain; rw [Z97 (by omega)]
 | n + 1, 0, s, _, h => by unfold chain; rw [Z97 (by omega)]
 | n + 1, m + 1, s, h1, h2 => by
  unfold chain
  cases hc : clsFind p s with
  | none => rfl
  | some c =>
   simp only
   cases hb : beqS c.super zS with
   | true => rfl
   | false =>
    have := Zbo hs hc (beqS_no.1 hb)
    simp only [Bool.false_eq_true, if_false]
    rw [Z2u hs n m c.super (by omega) (by omega)]
theorem Z45 {p : Prog} {s : Str} (h : clsFind p s = none) : supers p s = [] := by unfold supers supF; rw [h]
theorem Z43 {p : Prog} (hs : SoundP p) {s : Str} {c : Cls} (hc : clsFind p s = some c) : supers p s = s :: (if beqS c.super zS then [] else supers p c.super) := by
 unfold supers
 rw [Z1l hs _ _ _ (fun _ h => absurd h List.not_mem_nil), Z1l hs _ _ _ (fun _ h => absurd h List.not_mem_nil), List.nil_append, List.nil_append]
 conv => lhs; unfold chain
 rw [hc]
 simp only
 cases hb : beqS c.super zS with
 | true => rfl
 | false =>
  have h1 := Zbo hs hc (beqS_no.1 hb)
  have h2 := Zde p s
  simp only [Bool.false_eq_true, if_false]
  rw [Z2u hs p.classes.length (p.classes.length + 1) c.super (by omega) (by omega)]
theorem Z1m {p : Prog} (hs : SoundP p) : ∀ (n : Nat) (x y : Str), mu p x ≤ n → y ∈ supers p x → ∃ pre, supers p x = pre ++ supers p y
 | 0, x, y, h, hy => by rw [Z45 (Z97 (by omega))] at hy; cases hy
 | n + 1, x, y, h, hy => by
  cases hc : clsFind p x with
  | none => rw [Z45 hc] at hy; cases hy
  | some c =>
   have e := Z43 hs hc
   rw [e] at hy
   rcases List.mem_cons.1 hy with rfl | hy
   ·exact ⟨[], rfl⟩
   ·cases hb : beqS c.super zS with
    | true => rw [hb] at hy; cases hy
    | false =>
     rw [hb] at hy e
     simp only [Bool.false_eq_true, if_false] at hy e
     have := Zbo hs hc (beqS_no.1 hb)
     obtain ⟨pre, h2⟩ := Z1m hs n c.super y (by omega) hy
     exact ⟨x :: pre, by rw [e, h2]; rfl⟩
theorem Z65 {p : Prog} (hs : SoundP p) {x y z : Str} (h : y ∈ supers p x) (k : z ∈ supers p y) : z ∈ supers p x := by
 obtain ⟨pre, e⟩ := Z1m hs _ x y (Nat.le_refl _) h
 rw [e]; exact List.mem_append_right _ k
theorem Z4n {p : Prog} (hs : SoundP p) {x y : Str} (h : y ∈ supers p x) : Anc p x y := by
 unfold supers at h
 rw [Z1l hs _ _ _ (fun _ h => absurd h List.not_mem_nil), List.nil_append] at h
 exact Z3h hs h
theorem Z44 {p : Prog} (hs : SoundP p) {x : Str} (h : hasC p x = true) : ∃ r, supers p x = x :: r := by
 obtain ⟨c, hc⟩ := Z2e h
 exact ⟨_, Z43 hs hc⟩
theorem Z6v {p : Prog} (hs : SoundP p) {x y : Str} (h : y ∈ supers p x) (k : x ∈ supers p y) : x = y := by
 obtain ⟨a, e1⟩ := Z1m hs _ x y (Nat.le_refl _) h
 obtain ⟨b, e2⟩ := Z1m hs _ y x (Nat.le_refl _) k
 have h1 := congrArg List.length e1
 have h2 := congrArg List.length e2
 simp only [List.length_append] at h1 h2
 have ha : a = [] := List.eq_nil_of_length_eq_zero (by omega)
 rw [ha, List.nil_append] at e1
 obtain ⟨r, hx⟩ := Z44 hs (Z4n hs k).known
 obtain ⟨r', hy⟩ := Z44 hs (Z4n hs h).known
 rw [hx, hy] at e1
 exact (List.cons.inj e1).1
def upS (p : Prog) (x z : Str) : Prop := z = x ∨ (ifaceP p x = false ∧ z ∈ supers p x)
theorem Z9p {p : Prog} (hs : SoundP p) {x y z : Str} (h : upS p x y) (k : upS p y z) : upS p x z := by
 rcases h with rfl | ⟨h1, h2⟩
 ·exact k
 ·rcases k with rfl | ⟨k1, k2⟩
  ·exact .inr ⟨h1, h2⟩
  ·exact .inr ⟨h1, Z65 hs h2 k2⟩
theorem Zaw {p : Prog} (hs : SoundP p) {x y : Str} (h : upS p x y) (k : upS p y x) : x = y := by
 rcases h with rfl | ⟨_, h⟩
 ·rfl
 ·rcases k with rfl | ⟨_, k⟩
  ·rfl
  ·exact Z6v hs h k
theorem Z8y {a b : Fact} (h1 : a.kind = b.kind) (h2 : a.cls = b.cls) : a = b := by cases a; cases b; cases h1; cases h2; rfl
def NearOK (f : Fact) : Prop := 0 ≤ f.kind ∧ f.kind ≤ 6 ∧ (f.kind = 3 ∨ f.kind = 5 ∨ f.cls = zS)
def rK (f : Fact) : Prop := 2 ≤ f.kind ∧ f.kind ≤ 6
def LeF (p : Prog) (a b : Fact) : Prop := a = b ∨ b = ⟨0, zS⟩ ∨ (rK a ∧ rK b ∧ (a.kind = 2 ∨ b.kind = 6 ∨ (a.kind = 3 ∧ b.kind = 3 ∧ upS p a.cls b.cls)))
theorem LeF.refl (p : Prog) (a : Fact) : LeF p a a := .inl rfl
theorem rK0 : ¬ rK ⟨0, zS⟩ := fun h => by have := h.1; simp at this
theorem LeF.trans {p : Prog} (hs : SoundP p) {a b c : Fact} (h : LeF p a b) (k : LeF p b c) : LeF p a c := by
 rcases h with rfl | rfl | ⟨h1, h2, h3⟩
 ·exact k
 ·rcases k with rfl | rfl | ⟨k1, k2, k3⟩
  ·exact .inr (.inl rfl)
  ·exact .inr (.inl rfl)
  ·exact absurd k1 rK0
 ·rcases k with rfl | rfl | ⟨k1, k2, k3⟩
  ·exact .inr (.inr ⟨h1, h2, h3⟩)
  ·exact .inr (.inl rfl)
  ·refine .inr (.inr ⟨h1, k2, ?_⟩)
   rcases h3 with h3 | h3 | ⟨h3, h4, h5⟩
   ·exact .inl h3
   ·rcases k3 with k3 | k3 | ⟨k3, _⟩
    ·omega
    ·exact .inr (.inl k3)
    ·omega
   ·rcases k3 with k3 | k3 | ⟨k3, k4, k5⟩
    ·omega
    ·exact .inr (.inl k3)
    ·exact .inr (.inr ⟨h3, k4, Z9p hs h5 k5⟩)
theorem LeF.anti {p : Prog} (hs : SoundP p) {a b : Fact} (ha : NearOK a) (hb : NearOK b) (h : LeF p a b) (k : LeF p b a) : a = b := by
 rcases h with rfl | rfl | ⟨h1, h2, h3⟩
 ·rfl
 ·rcases k with k | k | ⟨k1, _⟩
  ·exact k.symm
  ·exact k
  ·exact absurd k1 rK0
 ·rcases k with k | rfl | ⟨k1, k2, k3⟩
  ·exact k.symm
  ·exact absurd h1 rK0
  ·obtain ⟨_, _, ha⟩ := ha
   obtain ⟨_, _, hb⟩ := hb
   have zz : a.kind = b.kind → a.kind ≠ 3 → a.kind ≠ 5 → a = b := fun e n3 n5 => by
    refine Z8y e ?_
    rcases ha with ha | ha | ha
    ·exact absurd ha n3
    ·exact absurd ha n5
    ·rcases hb with hb | hb | hb
     ·exact absurd (e.trans hb) n3
     ·exact absurd (e.trans hb) n5
     ·rw [ha, hb]
   rcases h3 with h3 | h3 | ⟨h3, h4, h5⟩
   ·rcases k3 with k3 | k3 | ⟨k3, k4, k5⟩
    ·exact zz (by omega) (by omega) (by omega)
    ·omega
    ·omega
   ·rcases k3 with k3 | k3 | ⟨k3, k4, k5⟩
    ·omega
    ·exact zz (by omega) (by omega) (by omega)
    ·omega
   ·rcases k3 with k3 | k3 | ⟨k3, k4, k5⟩
    ·omega
    ·omega
    ·exact Z8y (by omega) (Zaw hs h5 k5)
structure Lub (p : Prog) (a b j : Fact) : Prop where
 ok : NearOK j
 l : LeF p a j
 r : LeF p b j
 u : ∀ c, NearOK c → LeF p a c → LeF p b c → LeF p j c
section
variable {p : Prog} (hs : SoundP p) {a b c : Fact} (ha : NearOK a) (hb : NearOK b) (hc : NearOK c)
include hs ha hb
include hc
end
section
variable {p : Prog} (hs : SoundP p) {a b c : Fact} (ha : NearOK a) (hb : NearOK b) (hc : NearOK c)
include hs ha hb
include hc
end
end Go.Sx
namespace Go.Sx
open Go
structure LtOK {α : Type} (lt : α → α → Bool) : Prop where
 irr : ∀ x, lt x x = false
 asy : ∀ x y, lt x y = true → lt y x = false
 tr : ∀ x y z, lt y x = false → lt z y = false → lt z x = false
section
variable {α : Type} [Inhabited α]
def swp (l : List α) (i j : Nat) : List α := (l.set i (l.getD j default)).set j (l.getD i default)
theorem Zbt (l : List α) (i j : Nat) : (swp l i j).length = l.length := by simp [swp]
theorem Z1w {l : List α} {i j : Nat} (hi : i < l.length) (hj : j < l.length) (k : Nat) : (swp l i j).getD k default = if k = j then l.getD i default else if k = i then l.getD j default else l.getD k default := by
 unfold swp
 simp only [List.getD_eq_getElem?_getD, List.getElem?_set, List.length_set]
 by_cases h1 : j = k
 ·subst h1; simp [hj]
 ·by_cases h2 : i = k
  ·subst h2; simp [h1, Ne.symm h1, hi]
  ·simp [h1, h2, Ne.symm h1, Ne.symm h2]
theorem Z66 {l : List α} {i j : Nat} (hi : i < l.length) (hj : j < l.length) : (swp l i j).getD i default = l.getD j default := by
 rw [Z1w hi hj]; by_cases h : i = j
 ·subst h; simp
 ·simp [h]
theorem Z82 {l : List α} {i j : Nat} (hi : i < l.length) (hj : j < l.length) : (swp l i j).getD j default = l.getD i default := by rw [Z1w hi hj]; simp
theorem Z13 {l : List α} {i j k : Nat} (hi : i < l.length) (hj : j < l.length) (h1 : k ≠ i) (h2 : k ≠ j) : (swp l i j).getD k default = l.getD k default := by rw [Z1w hi hj]; simp [h1, h2]
theorem Zav {l : List α} {i j : Nat} (hi : i < l.length) (hj : j < l.length) : (swp l i j).Perm l := by
 unfold swp
 rw [show l.getD i default = l[i] from by simp [List.getD, hi], show l.getD j default = l[j] from by simp [List.getD, hj]]
 exact List.set_set_perm hi hj
inductive Sw (a b : Nat) (l : List α) : List α → Prop
 | refl : Sw a b l l
 | step {m : List α} (i j : Nat) (h : Sw a b l m) (hi : a ≤ i ∧ i < b) (hj : a ≤ j ∧ j < b) (hb : b ≤ m.length) : Sw a b l (swp m i j)
theorem Sw.len {a b : Nat} {l m : List α} (h : Sw a b l m) : m.length = l.length := by
 induction h with
 | refl => rfl
 | step i j _ _ _ _ ih => rw [Zbt, ih]
theorem Sw.out {a b : Nat} {l m : List α} (h : Sw a b l m) {k : Nat} (hk : k < a ∨ b ≤ k) : m.getD k default = l.getD k default := by
 induction h with
 | refl => rfl
 | step i j _ hi hj hb ih => rw [Z13 (by omega) (by omega) (by omega) (by omega), ih]
theorem Sw.all {a b : Nat} {l m : List α} (h : Sw a b l m) {Q : α → Prop} (hq : ∀ k, a ≤ k → k < b → Q (l.getD k default)) : ∀ k, a ≤ k → k < b → Q (m.getD k default) := by
 induction h with
 | refl => exact hq
 | step i j _ hi hj hb ih =>
  intro k h1 h2
  rw [Z1w (by omega) (by omega)]
  split
  ·exact ih i hi.1 hi.2
  ·split
   ·exact ih j hj.1 hj.2
   ·exact ih k h1 h2
theorem Sw.perm {a b : Nat} {l m : List α} (h : Sw a b l m) : m.Perm l := by
 induction h with
 | refl => exact .refl _
 | step i j _ hi hj hb ih => exact (Zav (by omega) (by omega)).trans ih
theorem Sw.trans {a b : Nat} {l m r : List α} (h : Sw a b l m) (k : Sw a b m r) : Sw a b l r := by
 induction k with
 | refl => exact h
 | step i j _ hi hj hb ih => exact .step i j ih hi hj hb
theorem Sw.mono {a b a' b' : Nat} {l m : List α} (h : Sw a b l m) (ha : a' ≤ a) (hb' : b ≤ b') (hl : b' ≤ l.length) : Sw a' b' l m := by
 induction h with
 | refl => exact .refl
 | step i j h hi hj hb ih => exact .step i j ih (by omega) (by omega) (by rw [h.len]; exact hl)
variable {lt : α → α → Bool}
def SAdj (lt : α → α → Bool) (a b : Nat) (l : List α) : Prop := ∀ k, a < k → k < b → lt (l.getD k default) (l.getD (k - 1) default) = false
def SOn (lt : α → α → Bool) (a b : Nat) (l : List α) : Prop := ∀ i j, a ≤ i → i ≤ j → j < b → lt (l.getD j default) (l.getD i default) = false
theorem SAdj.on (hO : LtOK lt) {a b : Nat} {l : List α} (h : SAdj lt a b l) : SOn lt a b l := by
 intro i j h1 h2 h3
 induction j with
 | zero =>
  have : i = 0 := by omega
  subst this; exact hO.irr _
 | succ j ih =>
  rcases Nat.lt_or_ge j i with h4 | h4
  ·have : i = j + 1 := by omega
   subst this; exact hO.irr _
  ·exact hO.tr _ _ _ (ih h4 (by omega)) (h (j + 1) (by omega) h3)
structure Ins (lt : α → α → Bool) (a j i : Nat) (l : List α) : Prop where
 one : ∀ k, a < k → k ≤ i → k ≠ j → lt (l.getD k default) (l.getD (k - 1) default) = false
 two : j < i → a < j → lt (l.getD (j + 1) default) (l.getD (j - 1) default) = false
theorem Ins.start {a i : Nat} {l : List α} (h : SAdj lt a i l) : Ins lt a i i l := ⟨fun k h1 h2 h3 => h k h1 (by omega), fun h => by omega⟩
theorem Ins.step (hO : LtOK lt) {a j i : Nat} {l : List α} (h : Ins lt a j i l) (hj : a < j) (hi : j ≤ i) (hl : i < l.length) (hlt : lt (l.getD j default) (l.getD (j - 1) default) = true) : Ins lt a (j - 1) i (swp l j (j - 1)) := by
 have hjl : j < l.length := by omega
 have hjl1 : j - 1 < l.length := by omega
 refine ⟨fun k h1 h2 h3 => ?_, fun h1 h2 => ?_⟩
 ·by_cases e1 : k = j
  ·subst e1; rw [Z66 hjl hjl1, Z82 hjl hjl1]; exact hO.asy _ _ hlt
  ·by_cases e2 : k = j + 1
   ·subst e2
    rw [Z13 hjl hjl1 (by omega) (by omega), show j + 1 - 1 = j from by omega, Z66 hjl hjl1]
    exact h.two (by omega) hj
   ·rw [Z13 hjl hjl1 e1 h3, Z13 hjl hjl1 (by omega) (by omega)]; exact h.one k h1 h2 e1
 ·rw [show j - 1 + 1 = j from by omega, Z66 hjl hjl1, Z13 hjl hjl1 (by omega) (by omega)]
  exact h.one (j - 1) h2 (by omega) (by omega)
theorem Ins.done {a j i : Nat} {l : List α} (h : Ins lt a j i l) (he : j ≤ a ∨ lt (l.getD j default) (l.getD (j - 1) default) = false) : SAdj lt a (i + 1) l := by
 intro k h1 h2
 by_cases e : k = j
 ·subst e; rcases he with he | he; omega; exact he
 ·exact h.one k h1 (by omega) e
def hp (l : List α) (f x : Nat) : α := l.getD (f + x) default
def Heap (lt : α → α → Bool) (lo hi f : Nat) (l : List α) : Prop := ∀ x c, lo ≤ x → (c = 2 * x + 1 ∨ c = 2 * x + 2) → c < hi → lt (hp l f x) (hp l f c) = false
structure Sift (lt : α → α → Bool) (lo hi f root : Nat) (l : List α) : Prop where
 one : ∀ x c, lo ≤ x → x ≠ root → (c = 2 * x + 1 ∨ c = 2 * x + 2) → c < hi → lt (hp l f x) (hp l f c) = false
 two : ∀ x c, lo ≤ x → (root = 2 * x + 1 ∨ root = 2 * x + 2) → (c = 2 * root + 1 ∨ c = 2 * root + 2) → c < hi → lt (hp l f x) (hp l f c) = false
theorem Sift.start {lo hi f : Nat} {l : List α} (h : Heap lt (lo + 1) hi f l) : Sift lt lo hi f lo l :=
 ⟨fun x c h1 h2 h3 h4 => h x c (by omega) h3 h4, fun x c h1 h2 => by omega⟩
theorem Z79 {l : List α} {f i j k : Nat} (hi : f + i < l.length) (hj : f + j < l.length) : hp (swp l (f + i) (f + j)) f k = if k = j then hp l f i else if k = i then hp l f j else hp l f k := by
 unfold hp; rw [Z1w hi hj]; simp only [Nat.add_left_cancel_iff]
theorem Sift.step (hO : LtOK lt) {lo hi f root c0 : Nat} {l : List α} (h : Sift lt lo hi f root l) (hlo : lo ≤ root) (hc : c0 = 2 * root + 1 ∨ c0 = 2 * root + 2) (hch : c0 < hi) (hl : f + hi ≤ l.length)
  (hmax : ∀ c, (c = 2 * root + 1 ∨ c = 2 * root + 2) → c < hi → lt (hp l f c0) (hp l f c) = false) (hlt : lt (hp l f root) (hp l f c0) = true) : Sift lt lo hi f c0 (swp l (f + root) (f + c0)) := by
 have h1 : f + root < l.length := by omega
 have h2 : f + c0 < l.length := by omega
 refine ⟨fun x c hx hne hcx hcl => ?_, fun x c hx hcx hcc hcl => ?_⟩
 ·rw [Z79 h1 h2, Z79 h1 h2, if_neg hne]
  by_cases e : x = root
  ·subst e
   rw [if_pos rfl]
   by_cases e2 : c = c0
   ·subst e2; rw [if_pos rfl]; exact hO.asy _ _ hlt
   ·rw [if_neg e2, if_neg (by omega)]; exact hmax c hcx hcl
  ·rw [if_neg e, if_neg (by omega : c ≠ c0)]
   by_cases e2 : c = root
   ·subst e2; rw [if_pos rfl]; exact h.two x c0 hx hcx hc hch
   ·rw [if_neg e2]; exact h.one x c hx e hcx hcl
 ·have e : x = root := by omega
  subst e
  rw [Z79 h1 h2, Z79 h1 h2, if_neg (by omega), if_pos rfl, if_neg (by omega), if_neg (by omega)]
  exact h.one c0 c (by omega) (by omega) hcc hcl
theorem Sift.stop (hO : LtOK lt) {lo hi f root c0 : Nat} {l : List α} (h : Sift lt lo hi f root l) (hmax : ∀ c, (c = 2 * root + 1 ∨ c = 2 * root + 2) → c < hi → lt (hp l f c0) (hp l f c) = false) (hs : lt (hp l f root) (hp l f c0) = false) : Heap lt lo hi f l := fun x c h1 h2 h3 => by
 by_cases e : x = root
 ·subst e; exact hO.tr _ _ _ (hmax c h2 h3) hs
 ·exact h.one x c h1 e h2 h3
theorem Heap.top (hO : LtOK lt) {hi f : Nat} {l : List α} (h : Heap lt 0 hi f l) : ∀ x, x < hi → lt (hp l f 0) (hp l f x) = false := by
 intro x
 induction x using Nat.strongRecOn with
 | _ x ih =>
  intro hx
  by_cases e : x = 0
  ·subst e; exact hO.irr _
  ·exact hO.tr _ _ _ (h ((x - 1) / 2) x (by omega) (by omega) hx) (ih ((x - 1) / 2) (by omega) (by omega))
theorem Heap.none {hi f : Nat} {l : List α} {lo : Nat} (h : hi ≤ 2 * lo + 1) : Heap lt lo hi f l := fun x c h1 h2 h3 => by omega
structure Pops (lt : α → α → Bool) (a b i : Nat) (l : List α) : Prop where
 heap : Heap lt 0 i a l
 srt : SOn lt (a + i) b l
 le : ∀ x y, a ≤ x → x < a + i → a + i ≤ y → y < b → lt (l.getD y default) (l.getD x default) = false
theorem Pops.start {a b : Nat} {l : List α} (hab : a ≤ b) (h : Heap lt 0 (b - a) a l) : Pops lt a b (b - a) l :=
 ⟨h, fun i j h1 h2 h3 => by omega, fun x y h1 h2 h3 h4 => by omega⟩
theorem Pops.swap (hO : LtOK lt) {a b i : Nat} {l : List α} (h : Pops lt a b (i + 1) l) (hb : a + i < b) (hl : b ≤ l.length) :
  Heap lt 1 i a (swp l a (a + i)) ∧ SOn lt (a + i) b (swp l a (a + i)) ∧ ∀ x y, a ≤ x → x < a + i → a + i ≤ y → y < b → lt ((swp l a (a + i)).getD y default) ((swp l a (a + i)).getD x default) = false := by
 have ha : a < l.length := by omega
 have hi : a + i < l.length := by omega
 have top := h.heap.top hO
 have htop : ∀ x, a ≤ x → x < a + (i + 1) → lt (l.getD a default) (l.getD x default) = false := fun x h1 h2 => by
  have := top (x - a) (by omega)
  unfold hp at this
  rwa [show a + (x - a) = x from by omega, Nat.add_zero] at this
 refine ⟨fun x c h1 h2 h3 => ?_, fun x y h1 h2 h3 => ?_, fun x y h1 h2 h3 h4 => ?_⟩
 ·have := h.heap x c (by omega) h2 (by omega)
  unfold hp at this ⊢
  rwa [Z13 ha hi (by omega) (by omega), Z13 ha hi (by omega) (by omega)]
 ·by_cases e : y = a + i
  ·have : x = a + i := by omega
   subst e; subst this; exact hO.irr _
  ·rw [Z13 ha hi (by omega : y ≠ a) e]
   by_cases e2 : x = a + i
   ·subst e2; rw [Z82 ha hi]; exact h.le a y (by omega) (by omega) (by omega) h3
   ·rw [Z13 ha hi (by omega) e2]; exact h.srt x y (by omega) h2 h3
 ·have hx : ∃ z, a ≤ z ∧ z < a + (i + 1) ∧ (swp l a (a + i)).getD x default = l.getD z default := by
   by_cases e : x = a
   ·subst e; exact ⟨x + i, by omega, by omega, Z66 ha hi⟩
   ·exact ⟨x, h1, by omega, Z13 ha hi e (by omega)⟩
  obtain ⟨z, z1, z2, z3⟩ := hx
  rw [z3]
  by_cases e : y = a + i
  ·subst e; rw [Z82 ha hi]; exact htop z z1 z2
  ·rw [Z13 ha hi (by omega) e]; exact h.le z y z1 z2 (by omega) h4
structure Part (lt : α → α → Bool) (a b i j : Nat) (l : List α) : Prop where
 lo : ∀ k, a < k → k < i → lt (l.getD k default) (l.getD a default) = true
 hi : ∀ k, j < k → k < b → lt (l.getD k default) (l.getD a default) = false
structure PartR (lt : α → α → Bool) (a b m : Nat) (l : List α) : Prop where
 lo : ∀ k, a ≤ k → k < m → lt (l.getD k default) (l.getD m default) = true
 hi : ∀ k, m < k → k < b → lt (l.getD k default) (l.getD m default) = false
theorem Part.swap {a b i j : Nat} {l : List α} (h : Part lt a b i j l) (hai : a < i) (hij : i ≤ j) (hj : j < b) (hl : b ≤ l.length) (h1 : lt (l.getD i default) (l.getD a default) = false) (h2 : lt (l.getD j default) (l.getD a default) = true) :
  Part lt a b (i + 1) (j - 1) (swp l i j) := by
 have x : i < l.length := by omega
 have y : j < l.length := by omega
 refine ⟨fun k k1 k2 => ?_, fun k k1 k2 => ?_⟩
 ·rw [Z13 x y (by omega : a ≠ i) (by omega)]
  by_cases e : k = i
  ·subst e; rw [Z66 x y]; exact h2
  ·rw [Z13 x y e (by omega)]; exact h.lo k k1 (by omega)
 ·rw [Z13 x y (by omega : a ≠ i) (by omega)]
  by_cases e : k = j
  ·subst e; rw [Z82 x y]; exact h1
  ·rw [Z1w x y, if_neg e, if_neg (by omega)]; exact h.hi k (by omega) k2
theorem Part.fin {a b i j : Nat} {l : List α} (h : Part lt a b i j l) (hij : i = j + 1) (ha : a ≤ j) (hj : j < b) (hl : b ≤ l.length) (hai : a < i) : PartR lt a b j (swp l j a) := by
 have x : j < l.length := by omega
 have y : a < l.length := by omega
 refine ⟨fun k k1 k2 => ?_, fun k k1 k2 => ?_⟩
 ·rw [Z66 x y]
  by_cases e : k = a
  ·subst e; rw [Z82 x y]; exact h.lo j (by omega) (by omega)
  ·rw [Z13 x y (by omega) e]; exact h.lo k (by omega) (by omega)
 ·rw [Z66 x y, Z13 x y (by omega) (by omega)]; exact h.hi k k1 k2
structure PartE (lt : α → α → Bool) (a b i j : Nat) (l : List α) : Prop where
 lo : ∀ k, a < k → k < i → lt (l.getD a default) (l.getD k default) = false
 hi : ∀ k, j < k → k < b → lt (l.getD a default) (l.getD k default) = true
theorem PartE.swap {a b i j : Nat} {l : List α} (h : PartE lt a b i j l) (hai : a < i) (hij : i ≤ j) (hj : j < b) (hl : b ≤ l.length) (h1 : lt (l.getD a default) (l.getD i default) = true) (h2 : lt (l.getD a default) (l.getD j default) = false) :
  PartE lt a b (i + 1) (j - 1) (swp l i j) := by
 have x : i < l.length := by omega
 have y : j < l.length := by omega
 refine ⟨fun k k1 k2 => ?_, fun k k1 k2 => ?_⟩
 ·rw [Z13 x y (by omega : a ≠ i) (by omega)]
  by_cases e : k = i
  ·subst e; rw [Z66 x y]; exact h2
  ·rw [Z13 x y e (by omega)]; exact h.lo k k1 (by omega)
 ·rw [Z13 x y (by omega : a ≠ i) (by omega)]
  by_cases e : k = j
  ·subst e; rw [Z82 x y]; exact h1
  ·rw [Z1w x y, if_neg e, if_neg (by omega)]; exact h.hi k (by omega) k2
def Bd (lt : α → α → Bool) (a b : Nat) (l : List α) : Prop := a = 0 ∨ ∀ k, a ≤ k → k < b → lt (l.getD k default) (l.getD (a - 1) default) = false
theorem Bd.sw {a b : Nat} {l m : List α} (h : Bd lt a b l) (k : Sw a b l m) : Bd lt a b m := by
 rcases h with h | h
 ·exact .inl h
 ·by_cases e : a = 0
  ·exact .inl e
  ·refine .inr ?_
   rw [k.out (.inl (by omega : a - 1 < a))]
   exact k.all (Q := fun z => lt z (l.getD (a - 1) default) = false) h
structure Rest (lt : α → α → Bool) (a0 b0 : Nat) (l0 : List α) (a b : Nat) (l : List α) : Prop where
 ha : a0 ≤ a
 hb : b ≤ b0
 hab : a ≤ b
 sw : Sw a0 b0 l0 l
 bd : Bd lt a b l
 fin : ∀ m, Sw a b l m → SOn lt a b m → SOn lt a0 b0 m
theorem Rest.start {a b : Nat} {l : List α} (hab : a ≤ b) (h : Bd lt a b l) : Rest lt a b l a b l := ⟨Nat.le_refl _, Nat.le_refl _, hab, .refl, h, fun m _ h => h⟩
theorem Rest.move {a0 b0 a b : Nat} {l0 l m : List α} (h : Rest lt a0 b0 l0 a b l) (hl : b0 ≤ l0.length) (k : Sw a b l m) : Rest lt a0 b0 l0 a b m :=
 ⟨h.ha, h.hb, h.hab, h.sw.trans (k.mono h.ha h.hb (by rw [h.sw.len]; exact hl)), h.bd.sw k, fun r hr hs => h.fin r (k.trans hr) hs⟩
theorem Rest.equal (hO : LtOK lt) {a0 b0 a b i j : Nat} {l0 l : List α} (h : Rest lt a0 b0 l0 a b l) (hl : b0 ≤ l0.length) (ha : 0 < a) (hp : lt (l.getD (a - 1) default) (l.getD a default) = false) (h2 : PartE lt a b i j l) (hij : i = j + 1) (hai : a < i) (hib : i ≤ b) : Rest lt a0 b0 l0 i b l := by
 have hbd : ∀ k, a ≤ k → k < b → lt (l.getD k default) (l.getD (a - 1) default) = false := by
  rcases h.bd with h3 | h3
  ·omega
  ·exact h3
 have hll : b ≤ l.length := by rw [h.sw.len]; have := h.hb; omega
 have lo : ∀ k, a ≤ k → k < i → lt (l.getD a default) (l.getD k default) = false := fun k k1 k2 => by
  by_cases e : k = a
  ·subst e; exact hO.irr _
  ·exact h2.lo k (by omega) k2
 refine ⟨by have := h.ha; omega, h.hb, hib, h.sw, .inr fun k k1 k2 => ?_, fun m hm hs => ?_⟩
 ·exact hO.tr _ _ _ (lo (i - 1) (by omega) (by omega)) (hO.asy _ _ (h2.hi k (by omega) k2))
 ·refine h.fin m (hm.mono (by omega) (Nat.le_refl _) hll) ?_
  intro x y h1 h3 h4
  by_cases e : i ≤ x
  ·exact hs x y e h3 h4
  ·rw [hm.out (.inl (by omega : x < i))]
   by_cases e2 : i ≤ y
   ·have := hm.all (Q := fun z => lt (l.getD a default) z = true) (fun k k1 k2 => h2.hi k (by omega) k2) y e2 h4
    exact hO.tr _ _ _ (lo x h1 (by omega)) (hO.asy _ _ this)
   ·rw [hm.out (.inl (by omega : y < i))]
    exact hO.tr _ _ _ (lo x h1 (by omega)) (hO.tr _ _ _ hp (hbd y (by omega) h4))
theorem SAdj.le {a u v : Nat} {l : List α} (h : SAdj lt a u l) (hv : v ≤ u) : SAdj lt a v l := fun k h1 h2 => h k h1 (by omega)
theorem SAdj.succ {a u : Nat} {l : List α} (h : SAdj lt a u l) (hv : lt (l.getD u default) (l.getD (u - 1) default) = false) : SAdj lt a (u + 1) l := fun k h1 h2 => by
 rcases Nat.lt_succ_iff_lt_or_eq.1 h2 with h3 | h3
 ·exact h k h1 h3
 ·subst h3; exact hv
theorem Bd.gt {a b j : Nat} {l : List α} (h : Bd lt a b l) (h1 : a ≤ j) (h2 : j < b) (h0 : 1 ≤ j) (hlt : lt (l.getD j default) (l.getD (j - 1) default) = true) : a < j := by
 rcases Nat.lt_or_ge a j with h3 | h3
 ·exact h3
 ·have e : j = a := by omega
  subst e
  rcases h with h | h
  ·omega
  ·rw [h j (Nat.le_refl _) h2] at hlt; cases hlt
theorem Bd.le {a b c : Nat} {l : List α} (h : Bd lt a b l) (hc : c ≤ b) : Bd lt a c l := by
 rcases h with h | h
 ·exact .inl h
 ·exact .inr fun k h1 h2 => h k h1 (by omega)
theorem PartR.bd {a b m : Nat} {l : List α} (h : PartR lt a b m l) : Bd lt (m + 1) b l := .inr fun k h1 h2 => h.hi k (by omega) h2
end
end Go.Sx
namespace Go.Sx
open Go
end Go.Sx
namespace Go.Sx
open Go
def longS (s : Str) : Bool := decide (s.size > 64)
def allN (g : Nat → Bool) (n : Nat) : Bool := (List.range n).all fun i => Nat.beq i 0 || g i
def gS (l : List Str) (k : Nat) : Bool := ltS (l.getD (k - 1) default) (l.getD k default)
def rightL (l : List Str) : Bool := decide (l.length ≤ 1024) && !l.any longS && allN (gS l) l.length
def findL (l : List Str) (s : Str) : Int := if rightL l then idxFrom (fun x => beqS x s) l 0 else -1
def sameT : List Str → List Str → Bool
 | [], [] => true
 | x :: l, y :: r => beqS x y && sameT l r
 | _, _ => false
def makeP (l : List Str) : List Str × Int := if l.any longS || decide (1024 < (dd l).length) then ([], 3) else (risF l, 0)
end Go.Sx
namespace Go.Sx
open Go
theorem dec_u8n {P : Program} {t : TypeId} (hu : P.underlying t = some (.int .u8)) : Dec P t (fun n : Nat => [uA n]) (fun n => n ≤ 255) := fun xs h => by
 obtain ⟨n, e, h1, h2⟩ := Zcw hu xs h
 obtain ⟨k, rfl⟩ := Int.eq_ofNat_of_zero_le h1
 exact ⟨k, e, by omega⟩
def rotF (l : List Str) (k i : Nat) : List Str := (List.range i).map fun j => l.getD ((j + k) % l.length) default
end Go.Sx
namespace Go.Sx
open Go
noncomputable def ancL (p : Prog) (nm : Str) : List Str := risF ((p.classes.map Cls.name).filter (subP p nm))
noncomputable def subsL (p : Prog) (nm : Str) : List Str := risF ((p.classes.map Cls.name).filter fun s => subP p s nm)
noncomputable def subN (p : Prog) (nm : Str) (n : Nat) : List Str := ((p.classes.take n).map Cls.name).filter fun s => subP p s nm
def cptS (l : List Str) (n : Nat) : Bool := !beqS (l.getD n default) (l.getD (n - 1) default)
def cptN (l : List Str) (n : Nat) : List Str := ((List.range n).filter fun k => Nat.beq k 0 || cptS l k).map fun k => l.getD k default
theorem Z24 (l : List Str) (n : Nat) : cptN l (n + 1) = cptN l n ++ (if Nat.beq n 0 || cptS l n then [l.getD n default] else []) := by
 unfold cptN
 rw [List.range_succ, List.filter_append, List.map_append]
 congr 1
 simp only [List.filter_cons, List.filter_nil]
 split <;> rfl
theorem Z5e {l : List Str} : ∀ {n : Nat}, n ≤ l.length → (∀ k, 0 < k → k < n → cptS l k = true) → cptN l n = l.take n
 | 0, _, _ => rfl
 | n + 1, hn, h => by
  rw [Z24, Z5e (by omega) (fun k h0 hk => h k h0 (by omega)), Z67 (show n < l.length by omega)]
  congr 1
  rw [if_pos]
  ·rw [Zbn (show n < l.length by omega)]
  ·cases n with
   | zero => rfl
   | succ n => rw [h (n + 1) (by omega) (by omega), Bool.or_true]
structure CptJ (l : List Str) (k : Nat) (m : List Str) (k2 j : Nat) : Prop where
 h1 : 1 ≤ j
 h2 : j ≤ l.length - k
 h3 : k ≤ k2
 h4 : k2 + 1 ≤ k + j
 hl : m.length = l.length
 ht : m.take k2 = cptN l (k + j)
 ho : ∀ i, k2 ≤ i → m.getD i default = l.getD i default
theorem CptJ.start {l : List Str} {k : Nat} (h0 : 1 ≤ k) (h1 : k < l.length) (h : ∀ i, 0 < i → i < k → cptS l i = true) (he : beqS (l.getD k default) (l.getD (k - 1) default) = true) : CptJ l k l k 1 := by
 refine ⟨Nat.le_refl _, by omega, Nat.le_refl _, Nat.le_refl _, rfl, ?_, fun _ _ => rfl⟩
 rw [Z24, if_neg, List.append_nil, Z5e (by omega) h]
 unfold cptS
 rw [he]
 simp
 omega
theorem CptJ.keep {l m : List Str} {k k2 j : Nat} (h : CptJ l k m k2 j) (hj : j < l.length - k) (he : beqS (m.getD (k + j) default) (m.getD (k + (j - 1)) default) = true) : CptJ l k m k2 (j + 1) := by
 have g1 := h.h1
 have g4 := h.h4
 refine ⟨by omega, by omega, h.h3, by omega, h.hl, ?_, h.ho⟩
 rw [h.ho _ (by omega), h.ho _ (by omega)] at he
 rw [show k + (j + 1) = (k + j) + 1 by omega, Z24, if_neg, List.append_nil]
 ·exact h.ht
 ·unfold cptS
  rw [show k + j - 1 = k + (j - 1) by omega, he]
  simp
  omega
theorem CptJ.put {l m : List Str} {k k2 j : Nat} (h : CptJ l k m k2 j) (hj : j < l.length - k) (he : (!beqS (m.getD (k + j) default) (m.getD (k + (j - 1)) default)) = true) : CptJ l k (m.set k2 (m.getD (k + j) default)) (k2 + 1) (j + 1) := by
 have g1 := h.h1
 have g4 := h.h4
 have gl := h.hl
 have hx := h.ho (k + j) (by omega)
 have h0 := h.ho (k + (j - 1)) (by omega)
 refine ⟨by omega, by omega, by have := h.h3; omega, by omega, by rw [List.length_set]; exact gl, ?_, ?_⟩
 ·rw [hx, h0] at he
  rw [show k + (j + 1) = (k + j) + 1 by omega, Z24, if_pos, ← h.ht]
  ·rw [Z67 (by rw [List.length_set]; omega), List.take_set_of_le (Nat.le_refl _), List.getElem_set_self, hx]
  ·unfold cptS
   rw [show k + j - 1 = k + (j - 1) by omega, he, Bool.or_true]
 ·intro i hi
  rw [← h.ho i (by omega)]
  simp only [List.getD, List.getElem?_set]
  rw [if_neg (by omega)]
theorem CptJ.fin {l m : List Str} {k k2 j : Nat} (h : CptJ l k m k2 j) (hk : k < l.length) (hj : ¬ j < l.length - k) : m.take k2 = cptN l l.length ∧ k2 < l.length := by
 have g2 := h.h2
 have g4 := h.h4
 refine ⟨?_, by omega⟩
 rw [h.ht]
 congr 1
 omega
def nno : Str := ⟨#[110, 111]⟩
def nameP (p : Prog) (k : Int) : Str := if p.classes.length = 0 ∨ k = 255 then nno else (p.classes.getD (k.tmod p.classes.length).toNat default).name
end Go.Sx
namespace Go.Sx
open Go
def okU (p : Prog) (i : Nat) : Bool := !((p.classes.getD i default).iface && !beqS (p.classes.getD i default).super zS) && !(beqS (p.classes.getD i default).name zS || classAt p (p.classes.getD i default).name != (i : Int))
def unlikeB (p : Prog) : Bool := (List.range p.classes.length).all (okU p)
structure UnlikeP (p : Prog) : Prop where
 top : ∀ c, c ∈ p.classes → c.iface = true → c.super = zS
 nm : ∀ c, c ∈ p.classes → c.name ≠ zS
section
variable {p : Prog} {a b c : Str}
end
def nI : Str := ⟨#[73]⟩
def lhA : Cls := ⟨nA, zS, false, false, [], [], []⟩
def lhB : Cls := ⟨nB, nA, false, false, [nI], [], []⟩
def lhC : Cls := ⟨nC, nA, false, false, [], [], []⟩
def lhI : Cls := ⟨nI, zS, true, true, [], [], []⟩
def lhP : Prog := ⟨[lhA, lhB, lhC, lhI], [], ⟨zS, zS, zS⟩⟩
def lhA2 : Cls := ⟨nA, nB, false, false, [], [], []⟩
def lhB2 : Cls := ⟨nB, nA, false, false, [], [], []⟩
def lhQ : Prog := ⟨[lhA2, lhB2], [], ⟨zS, zS, zS⟩⟩
def subC (p : Prog) (n : Nat) (a b : Str) : Bool := match ancRun p n [a] [] with | some out => inL out b | none => false
def chk2C (p : Prog) (n : Nat) (c : Cls) : Bool := (upC c).any fun s => subC p n s c.name
end Go.Sx
namespace Go.Sx
open Go
def zCl : Cls := ⟨zS, zS, false, false, [], [], []⟩
def zMt : Meth := ⟨zS, zS, false, false, 0, []⟩
def zMR : MRef := ⟨zS, zS, zS⟩
def zFl : Fld := ⟨zS, ⟨0, zS⟩, false⟩
structure FRef where
 cls : Str
 name : Str
 deriving DecidableEq
def FRef.cells (f : FRef) : List AV := [sA f.cls, sA f.name]
def FRef.av (f : FRef) : AV := .agg f.cells
def Meth.av (m : Meth) : AV := .agg m.cells
def MRef.av (m : MRef) : AV := .agg m.cells
def Fld.av (f : Fld) : AV := .agg f.cells
def Instr.av (i : Instr) : AV := .agg i.cells
def zFR : FRef := ⟨zS, zS⟩
def nInit : Str := ⟨#[60, 99, 108, 105, 110, 105, 116, 62]⟩
def nVd : Str := ⟨#[40, 41, 86]⟩
def knownC (p : Prog) (nm : Str) : Cls := (clsFind p nm).getD zCl
def fldAt (c : Cls) (nm : Str) : Int := idxFrom (fun f : Fld => beqS f.name nm) c.fields 0
def mthAt (c : Cls) (nm d : Str) : Int := idxFrom (fun m : Meth => beqS m.name nm && beqS m.desc d) c.methods 0
def fldC (c : Cls) (nm : Str) : Option Fld := c.fields.find? fun f => beqS f.name nm
def mthC (c : Cls) (nm d : Str) : Option Meth := c.methods.find? fun m => beqS m.name nm && beqS m.desc d
def getP (p : Prog) (m : MRef) : Option Meth := mthC (knownC p m.cls) m.name m.desc
def fldP (p : Prog) (f : FRef) : Option Fld := fldC (knownC p f.cls) f.name
def fieldW (p : Prog) (f : FRef) : Option FRef := ((supers p f.cls).find? fun s => (fldP p ⟨s, f.name⟩).isSome).map fun s => ⟨s, f.name⟩
def firstP (p : Prog) (l : List Str) (m : MRef) : Option MRef := (l.find? fun s => (getP p ⟨s, m.name, m.desc⟩).isSome).map fun s => ⟨s, m.name, m.desc⟩
def declP (p : Prog) (l : List Str) (m : MRef) (may : Meth → Bool) : Option MRef := match firstP p l m with
 | none => none
 | some r => match getP p r with
  | some x => if may x then some r else none
  | none => none
def mayS (x : Meth) : Bool := x.static
def mayD (x : Meth) : Bool := (!x.static && !x.abs) && !beqS x.name nInit
def mayV (x : Meth) : Bool := !x.static && !beqS x.name nInit
def initP (p : Prog) (c : Str) : Option MRef := match getP p ⟨c, nInit, nVd⟩ with
 | some x => if x.static then some ⟨c, nInit, nVd⟩ else none
 | none => none
def askedP (p : Prog) (x y z : Int) : MRef :=
 if p.classes.length = 0 then ⟨nA, ⟨#[109]⟩, nVd⟩ else
 let c := p.classes.getD (y.tmod p.classes.length).toNat default
 let k := c.methods.getD (z.tmod c.methods.length).toNat default
 ⟨(p.classes.getD (x.tmod p.classes.length).toNat default).name, if c.methods.length = 0 then zS else k.name, if c.methods.length = 0 then zS else k.desc⟩
def fieldQ (p : Prog) (x y z : Int) : FRef :=
 let c := p.classes.getD (y.tmod p.classes.length).toNat default
 ⟨(askedP p x y z).cls, if p.classes.length = 0 then ⟨#[102]⟩ else if c.fields.length = 0 then ⟨#[102]⟩ else (c.fields.getD (z.tmod c.fields.length).toNat default).name⟩
end Go.Sx
namespace Go.Sx
open Go
theorem Z02 {P : Program} {b : Frame} {a : Act} {k : List Item} {cs : List Frame} {w : World} {c : Code} : step P (lone (b.atR a (.code (.scope c) :: k)) cs w) = .next (lone (b.atR a (.code c :: .inScope c :: k)) cs w) :=
 step_lone_go (by simp [stepG, stepG.exec, Frame.atR])
theorem Z54 {P : Program} {b : Frame} {a : Act} {k : List Item} {cs : List Frame} {w : World} {c : Code} : step P (lone (b.atR a (.inScope c :: k)) cs w) = .next (lone (b.atR a k) cs w) :=
 step_lone_go (by simp [stepG, stepG.exec, Frame.atR])
theorem Z83 {F : Fence} {n : Nat} {P : Program} {c : Code} {Q : Exit → Act → World → Prop} {a : Act} {w : World} (h : c.wpIn F n P (Exit.noGoto Q) a w) : (Code.scope c).wpIn F n P Q a w := by
 intro b k cs hro hb hr
 have h0 : (lone (b.atR a (.code (.scope c) :: k)) cs w).fenced P F := fenced_calm hb hr rfl
 obtain ⟨e, a₁, w₁, hq, harr⟩ := h b (.inScope c :: k) cs hro hb hr
 cases e with
 | normal => exact ⟨.normal, a₁, w₁, hq, .head h0 Z02 (StepsIn.trans harr (.one (fenced_calm hb hr rfl) Z54))⟩
 | exit id =>
  have hx : exitTo id (.inScope c :: k) = exitTo id k := by simp [exitTo]
  exact ⟨.exit id, a₁, w₁, hq, fun k' hk => .head h0 Z02 (harr.1 k' (by rw [hx]; exact hk)),
   fun hr' hk => let ⟨k₁, h1, h2⟩ := harr.2 hr' (by rw [hx]; exact hk); ⟨k₁, h1, .head h0 Z02 h2⟩⟩
 | goto l => exact hq.elim
 | ret => exact ⟨_, a₁, w₁, hq, .of_steps (.one h0 Z02) harr⟩
 | panic ch => exact ⟨_, a₁, w₁, hq, .of_steps (.one h0 Z02) harr⟩
 | outgrown => exact ⟨_, a₁, w₁, hq, .of_steps (.one h0 Z02) harr⟩
def scopeQ (Q : Exit → St → Prop) : Exit → St → Prop
 | .goto _, _ => False
 | .normal, s => Q .normal s
 | .exit i, s => Q (.exit i) s
 | .ret, s => Q .ret s
 | .panic c, s => Q (.panic c) s
 | .outgrown, s => Q .outgrown s
end Go.Sx
namespace Go.Sx
open Go
variable {P : Program} {ro : Option Nat} {Q : Exit → St → Prop} {s : St} {ops : Array Oper} {o : Oper} {rest : List Oper} {T : List (Nat × AV)}
def Sub (x y : AV) : Prop := ∀ C v, VR C x v → VR C y v
theorem Sub.refl (x : AV) : Sub x x := fun _ _ h => h
theorem Sub.z : Sub (.v (.slice none 0 0)) (.lst []) := fun C v h => by cases h; exact .lstNil
inductive Subs : List AV → List AV → Prop
 | nil : Subs [] []
 | keep {x : AV} {xs ys : List AV} (h : Subs xs ys) : Subs (x :: xs) (x :: ys)
 | z {xs ys : List AV} (h : Subs xs ys) : Subs (.v (.slice none 0 0) :: xs) (.lst [] :: ys)
 | to {x y : AV} {xs ys : List AV} (h0 : Sub x y) (h : Subs xs ys) : Subs (x :: xs) (y :: ys)
theorem Subs.len : ∀ {xs ys : List AV}, Subs xs ys → xs.length = ys.length
 | _, _, .nil => rfl
 | _, _, .keep h => by simp [h.len]
 | _, _, .z h => by simp [h.len]
 | _, _, .to _ h => by simp [h.len]
theorem Subs.get {C : Ctx} : ∀ {xs ys : List AV}, Subs xs ys → ∀ (i : Nat) (y : AV), ys[i]? = some y → ∃ x, xs[i]? = some x ∧ Sub x y
 | _, _, .nil, i, y, h => by simp at h
 | _, _, .keep h, 0, y, hy => by simp at hy; subst hy; exact ⟨_, rfl, .refl _⟩
 | _, _, .z h, 0, y, hy => by simp at hy; subst hy; exact ⟨_, rfl, .z⟩
 | _, _, .to h0 h, 0, y, hy => by simp at hy; subst hy; exact ⟨_, rfl, h0⟩
 | _, _, .keep h, i + 1, y, hy => by simpa using h.get (C := C) i y (by simpa using hy)
 | _, _, .z h, i + 1, y, hy => by simpa using h.get (C := C) i y (by simpa using hy)
 | _, _, .to _ h, i + 1, y, hy => by simpa using h.get (C := C) i y (by simpa using hy)
theorem Sub.agg {xs ys : List AV} (h : Subs xs ys) : Sub (.agg xs) (.agg ys) := fun C v hv => by
 cases hv with
 | agg _ vs hl hh =>
  refine .agg ys vs (h.len.symm.trans hl) fun i y x h1 h2 => ?_
  obtain ⟨z, h3, h4⟩ := h.get (C := C) i y h1
  exact h4 C x (hh i z x h3 h2)
def bitOf (ms : List Nat) (i j : Nat) : Bool := Nat.testBit (ms.getD i 0) j
def okCert (ops : Array Oper) (ms : List Nat) : Bool := (List.range ops.size).all fun i => match ops[i]? with
 | some o => (List.range i).all fun j => !bitOf ms i j || o.after.any fun e => Region.binds .any e && (e.on == j || (Nat.blt j e.on && bitOf ms e.on j))
 | none => true
def okLooksM (ops : Array Oper) (ms : List Nat) (np : Nat) : Bool := (List.range np).all fun i => match ops[i]? with
 | some o => (o.looksAt ops).all fun t => (List.range np).all fun j => !((ops[j]?).bind (·.dst) == some t) || (Nat.blt j i && bitOf ms i j)
 | none => false
def okTailM (ops : Array Oper) (ms : List Nat) (np : Nat) : Bool := (List.range (ops.size - np)).all fun d => (List.range (np + d)).all fun i => bitOf ms (np + d) i
def tidyM (ops : Array Oper) (ms : List Nat) (np : Nat) : Bool := Nat.ble np ops.size && okEdges ops && okDst ops np && okCert ops ms && okLooksM ops ms np && okTailM ops ms np
theorem Z6y {ops : Array Oper} : ∀ {f g i j : Nat}, f ≤ g → anc ops f i j = true → anc ops g i j = true
 | 0, _, _, _, _, h => by cases h
 | f + 1, 0, _, _, hl, _ => by omega
 | f + 1, g + 1, i, j, hl, h => by
  unfold anc at h ⊢
  cases ho : ops[i]? with
  | none => rw [ho] at h; cases h
  | some o =>
   rw [ho] at h
   simp only [Array.any_eq_true, Bool.and_eq_true, Bool.or_eq_true] at h ⊢
   obtain ⟨k, hk, hb, h1⟩ := h
   exact ⟨k, hk, hb, h1.imp id fun h2 => Z6y (by omega) h2⟩
theorem Z31 {ops : Array Oper} {ms : List Nat} (he : okEdges ops = true) (hc : okCert ops ms = true) : ∀ i, i < ops.size → ∀ j, j < i → bitOf ms i j = true → anc ops i i j = true := by
 intro i
 induction i using Nat.strongRecOn with
 | _ i ih =>
  intro hi j hj hb
  have h1 := List.all_eq_true.1 hc i (List.mem_range.2 hi)
  have h2 := List.all_eq_true.1 he i (List.mem_range.2 hi)
  rw [Array.getElem?_eq_getElem hi] at h1 h2
  simp only at h1 h2
  have h1 := List.all_eq_true.1 h1 j (List.mem_range.2 hj)
  rw [hb] at h1
  simp only [Bool.not_true, Bool.false_or, Array.any_eq_true, Bool.and_eq_true, Bool.or_eq_true] at h1
  obtain ⟨k, hk, hbn, h3⟩ := h1
  obtain ⟨i', rfl⟩ : ∃ i', i = i' + 1 := ⟨i - 1, by omega⟩
  have h4 : Nat.blt (ops[i' + 1].after[k]).on (i' + 1) = true := by
   have := Array.all_eq_true.1 h2 k hk
   rw [hbn, Bool.not_true, Bool.false_or] at this
   exact this
  have h4 : (ops[i' + 1].after[k]).on < i' + 1 := Nat.blt_eq ▸ h4
  unfold anc
  rw [Array.getElem?_eq_getElem hi]
  simp only [Array.any_eq_true, Bool.and_eq_true, Bool.or_eq_true]
  refine ⟨k, hk, hbn, h3.imp id fun h5 => ?_⟩
  have h6 : j < (ops[i' + 1].after[k]).on := Nat.blt_eq ▸ h5.1
  exact Z6y (by omega) (ih _ h4 (by omega) j h6 h5.2)
theorem Zbu {ops : Array Oper} {ms : List Nat} {np : Nat} (h : tidyM ops ms np = true) : tidy ops np = true := by
 simp only [tidyM, Bool.and_eq_true] at h
 obtain ⟨⟨⟨⟨⟨h1, h2⟩, h3⟩, h4⟩, h5⟩, h6⟩ := h
 have hle : np ≤ ops.size := Nat.le_of_ble_eq_true h1
 simp only [tidy, Bool.and_eq_true]
 refine ⟨⟨⟨⟨h1, h2⟩, h3⟩, ?_⟩, ?_⟩
 ·refine List.all_eq_true.2 fun i hi => ?_
  have h7 := List.all_eq_true.1 h5 i hi
  have hi' : i < ops.size := by have := List.mem_range.1 hi; omega
  rw [Array.getElem?_eq_getElem hi'] at h7 ⊢
  refine List.all_eq_true.2 fun t ht => List.all_eq_true.2 fun j hj => ?_
  have h8 := List.all_eq_true.1 (List.all_eq_true.1 h7 t ht) j hj
  simp only [Bool.or_eq_true, Bool.and_eq_true] at h8 ⊢
  exact h8.imp id fun h9 => ⟨h9.1, Z31 h2 h4 i hi' j (Nat.blt_eq ▸ h9.1) h9.2⟩
 ·refine List.all_eq_true.2 fun d hd => List.all_eq_true.2 fun i hi => ?_
  have h7 := List.all_eq_true.1 (List.all_eq_true.1 h6 d hd) i hi
  have hd' := List.mem_range.1 hd
  exact Z31 h2 h4 (np + d) (by omega) i (List.mem_range.1 hi) h7
theorem Z89 {id : Nat} {l : List Oper} (ms : List Nat) (np : Nat) (hm : P.follows .mixedOrders = true) (ht : tidyM l.toArray ms (l.take np).length = true)
  (h : Calm P l.toArray s.H (AOps P ro l.toArray (l.drop np) Q) 0 (l.take np) [] s) : AWp P ro (.region id l.toArray true) Q s :=
 Z8a np hm (Zbu ht) h
def GSome {α : Type} (f : α → AV) (φ : α → Prop) : AEnd → AHeap → Prop := fun e H => ∃ a, φ a ∧ e = .ret (f a) ∧ H = []
abbrev SomeB : AEnd → AHeap → Prop := GSome bA (fun _ => True)
abbrev SomeI : AEnd → AHeap → Prop := GSome iA (fun _ => True)
abbrev SomeS : AEnd → AHeap → Prop := GSome sA (fun _ => True)
def byteAt (u : ByteArray) (k : Int) : Int := match u[k.toNat]? with | some c => c.toNat | none => 0
theorem Z26 {t : Nat} {p q : Operand} {u : ByteArray} {kd : IntKind} {k : Int} [h : UD P t .string] (ho : o.op = .index t p q)
  (hp : ev T p = some (.v (.string u))) (hq : ev T q = some (.v (.int kd k))) (h0 : 0 ≤ k) (h1 : k < u.size) : Eff P o T [] (.v (.int .u8 (byteAt u k))) [] := by
 have hl : k.toNat < u.size := by omega
 have e : u[k.toNat]? = some u[k.toNat] := getElem?_pos u k.toNat hl
 have := Z4v (P := P) (T := T) ho hp hq h0 e
 unfold byteAt; rw [e]; exact this
theorem Z8o {t t' : TypeId} {p q : Operand} {k : IntKind} {x y : Int} (ho : o.op = .binOp .rem t p q t') (hp : ev T p = some (.v (.int k x))) (hq : ev T q = some (.v (.int k y))) (hy : y ≠ 0) : Eff P o T [] (.v (.int k (x.tmod y))) [] :=
 Z6 (by intro c; rw [ho]; nofun) fun C H a w hw hn hv => by
  have h2 := VR.val (hv p (by rw [ho]; simp [Op.operands]) _ hp)
  have h3 := VR.val (hv q (by rw [ho]; simp [Op.operands]) _ hq)
  refine ⟨_, ?_, .v _⟩
  simp [execOp, ho, h2, h3, eqGuard, binOp, Op.intDiv, hy, Sem.run_bind, Result.andThen]
def GP {β : Type} (f : β → AV) (Hb : β → AHeap) (φ : β → Prop) : AEnd → AHeap → Prop := fun e H => ∃ b, φ b ∧ e = .ret (f b) ∧ H = Hb b
theorem Z0k {fo : Operand} {args : Array Operand} {ats : Array TypeId} {g : Nat} {caps xs : List AV} {β : Type} {f : β → AV} {Hb : β → AHeap} {φ : β → Prop} (Hf Fr : AHeap) (hw : Wanted ops s.T o true) (hd : dok o.dst s.n = true)
  (ho : o.op = .call { callee := .value fo, args := args, argTypes := ats }) (hfo : ev s.T fo = some (.fn (.func g) caps)) (hxs : evs s.T args.toList = some xs) (hp : s.H.Perm (Hf ++ Fr)) (hc : ACalls P g (xs ++ caps) Hf (GP f Hb φ))
  (h : ∀ b, φ b → AOps P ro ops rest Q { s with T := put s.T o.dst (f b), H := Hb b ++ Fr }) : AOps P ro ops (o :: rest) Q s :=
 Z7j Hf Fr hw hd ho hfo hxs hp hc (fun ch H' hR => by obtain ⟨_, _, h, _⟩ := hR; cases h) (fun x H' hR => by obtain ⟨b, h1, h2, rfl⟩ := hR; cases h2; exact h b h1)
theorem gp {β : Type} {f : β → AV} {Hb : β → AHeap} {φ : β → Prop} {xs : List AV} {H : AHeap} (b : β) (h : φ b) (hx : mkRes xs = f b) (hH : H = Hb b) : GP f Hb φ (.ret (mkRes xs)) H := ⟨b, h, congrArg _ hx, hH⟩
def bitsI (op : BinOp) (k : IntKind) (x y : Int) : Int := match op with
 | .and => k.wrap (BitVec.ofInt k.bits x &&& BitVec.ofInt k.bits y).toNat
 | .or => k.wrap (BitVec.ofInt k.bits x ||| BitVec.ofInt k.bits y).toNat
 | .xor => k.wrap (BitVec.ofInt k.bits x ^^^ BitVec.ofInt k.bits y).toNat
 | _ => k.wrap (BitVec.ofInt k.bits x &&& ~~~BitVec.ofInt k.bits y).toNat
theorem Z4u {b : BinOp} {t t' : TypeId} {p q : Operand} {k : IntKind} {x y : Int} (ho : o.op = .binOp b t p q t') (hb : b = .and ∨ b = .or ∨ b = .xor) (hp : ev T p = some (.v (.int k x))) (hq : ev T q = some (.v (.int k y))) : Eff P o T [] (.v (.int k (bitsI b k x y))) [] :=
 Z6 (by intro c; rw [ho]; nofun) fun C H a w hw hn hv => by
  have h2 := VR.val (hv p (by rw [ho]; simp [Op.operands]) _ hp)
  have h3 := VR.val (hv q (by rw [ho]; simp [Op.operands]) _ hq)
  refine ⟨_, ?_, .v _⟩
  rcases hb with rfl | rfl | rfl <;> simp [execOp, ho, h2, h3, eqGuard, binOp, Op.intBits, bitsI, Sem.run_bind, Result.andThen]
theorem Zbh {t t' : TypeId} {p q : Operand} {k k' : IntKind} {x y : Int} (ho : o.op = .binOp .shl t p q t') (hp : ev T p = some (.v (.int k x))) (hq : ev T q = some (.v (.int k' y))) (hy : 0 ≤ y) : Eff P o T [] (.v (.int k (k.wrap (x * 2 ^ (min y.toNat k.bits))))) [] :=
 Z6 (by intro c; rw [ho]; nofun) fun C H a w hw hn hv => by
  have h2 := VR.val (hv p (by rw [ho]; simp [Op.operands]) _ hp)
  have h3 := VR.val (hv q (by rw [ho]; simp [Op.operands]) _ hq)
  refine ⟨_, ?_, .v _⟩
  have : ¬ y < 0 := by omega
  simp [execOp, ho, h2, h3, eqGuard, binOp, Op.shift, this, Sem.run_bind, Result.andThen]
theorem Zbi {t t' : TypeId} {p q : Operand} {k k' : IntKind} {x y : Int} (ho : o.op = .binOp .shr t p q t') (hp : ev T p = some (.v (.int k x))) (hq : ev T q = some (.v (.int k' y))) (hy : 0 ≤ y) : Eff P o T [] (.v (.int k (x.fdiv (2 ^ (min y.toNat k.bits))))) [] :=
 Z6 (by intro c; rw [ho]; nofun) fun C H a w hw hn hv => by
  have h2 := VR.val (hv p (by rw [ho]; simp [Op.operands]) _ hp)
  have h3 := VR.val (hv q (by rw [ho]; simp [Op.operands]) _ hq)
  refine ⟨_, ?_, .v _⟩
  have : ¬ y < 0 := by omega
  simp [execOp, ho, h2, h3, eqGuard, binOp, Op.shift, this, Sem.run_bind, Result.andThen]
end Go.Sx
namespace Go.Sx
open Go
def EffW (P : Program) (o : Oper) (T : List (Nat × AV)) (H H' : AHeap) : Prop :=
 ∀ Z C a w, WR C H w → (∀ p, p ∈ o.op.operands → ∀ y, ev T p = some y → VR C y (a.eval p)) →
  ∀ ro next R, (∀ v w1 C1, VR C1 (.v undef) v → WR C1 H' w1 → Ext Z C H w C1 H' w1 → next (a.put o.dst v) w1) → o.uponIn (Wd ro) 0 P a next R ((o.semAt ro a.eval).run P w)
section
variable {P : Program} {ro : Option Nat} {Q : Exit → St → Prop} {s : St} {ops : Array Oper} {o : Oper} {rest : List Oper} {T : List (Nat × AV)}
theorem Z7p {t n id sz i c el : Nat} {b : Bool} {p q : Operand} {es : List (List AV)} {e : List AV} {x : AV} {H : AHeap} (k : Nat) [kt : TK P t b n]
  (ho : o.op = .store t p q) (hp : ev T p = some (.ptr id sz i c)) (hH : H[k]? = some (id, .rows el sz es)) (he : es[i]? = some e) (hq : ev T q = some x)
  (hx : (cellsA x).length = n) (h1 : (cellsA x).all one = true) (hc : Nat.ble (c + n) sz = true) :
  EffW P o T H (H.set k (id, .rows el sz (es.set i (e.take c ++ cellsA x ++ e.drop (c + (cellsA x).length))))) := by
 intro Z C a w hswr hv ro next R hk
 have hc := Nat.le_of_ble_eq_true hc
 have hmem := List.mem_of_getElem? hH
 obtain ⟨hu, hlen, hor⟩ := hswr.ids _ _ hmem
 have hpv := hv p (by rw [ho]; simp [Op.operands]) _ hp
 have hqv := hv q (by rw [ho]; simp [Op.operands]) _ hq
 obtain ⟨hcl, hcr⟩ := Z09 hqv
 have hone := Zbq hcl hcr h1
 have hel : e.length = sz := hlen e (List.mem_of_getElem? he)
 have hie : i < es.length := (List.getElem?_eq_some_iff.1 he).1
 rcases hor with ⟨hm, _⟩ | ⟨b', N, cells, hm, hh, hsz, hfit, hrow⟩
 ·generalize a.eval p = u at hpv
  cases hpv with
  | ptr _ _ _ _ b2 N2 hid _ => rw [hm] at hid; cases hid
 ·have hpe : a.eval p = .pointer (some ⟨b', i * sz + c, none⟩) := by
   generalize a.eval p = u at hpv
   cases hpv with
   | ptr _ _ _ _ b2 N2 hid _ => rw [hm] at hid; cases hid; rfl
  have hrowfit : i * sz + sz ≤ es.length * sz := by
   have : (i + 1) * sz ≤ es.length * sz := Nat.mul_le_mul_right _ hie
   rw [Nat.add_mul] at this; omega
  have hvs : (a.eval q).cells.toList.length = n := by rw [Array.length_toList, ← hcl, hx]
  have hst := run_storeCells_at P b' (i * sz + c) el (a.eval q).cells.toList 0 cells w hh (by rw [hvs]; omega) (by
   intro v hv'
   obtain ⟨j, hj⟩ := List.mem_iff_getElem?.1 hv'
   exact hone j v (by rw [← Array.getElem?_toList]; exact hj))
  simp only [Nat.add_zero] at hst
  have hrun : (o.semAt ro a.eval).run P w = .ok .skip (w.setRow b' (cells.toList.take (i * sz + c) ++ (a.eval q).cells.toList ++ cells.toList.drop (i * sz + c + (a.eval q).cells.toList.length)).toArray) := by
   rw [Oper.semAt_eq _ _ _ (by intro c; rw [ho]; nofun)]
   have hsz1 : (a.eval q).cells.size = n := by rw [← hcl, hx]
   simp [execOp, ho, Instr.storeAt, hpe, Instr.sureAddr, storeVar, Ze kt.tk, hsz1, Sem.run_bind, Result.andThen]
   rw [hst]
   simp [hsz1]
  rw [hrun]
  obtain ⟨hw1, he1⟩ := Zt (Z := Z) (C' := C) (id' := id) (o' := .rows el sz (es.set i (e.take c ++ cellsA x ++ e.drop (c + (cellsA x).length))))
   (w' := w.setRow b' (cells.toList.take (i * sz + c) ++ (a.eval q).cells.toList ++ cells.toList.drop (i * sz + c + (a.eval q).cells.toList.length)).toArray) hswr hH (.refl C) rfl (.inl rfl) hu (fun _ _ h => h) rfl rfl rfl (by simp)
   (fun b N' hm' => .inl ⟨N', hm'⟩) (fun b hb hne => setRow_other w b' b _ (by rintro rfl; exact hne N hm)) (by
    refine ⟨?_, .inr ⟨b', N, _, hm, setRow_heap w b' cells _ el (0, 0) hh, ?_, by simpa using hfit, ?_⟩⟩
    ·intro e' he'
     rcases List.mem_or_eq_of_mem_set he' with h2 | h2
     ·exact hlen e' h2
     ·subst h2
      simp only [List.length_append, List.length_take, List.length_drop]
      omega
    ·simp only [List.size_toArray, List.length_append, List.length_take, List.length_drop, Array.length_toList]
     have := hvs
     rw [Array.length_toList] at this
     omega
    ·intro i' e' j cc he' hcc
     rw [List.getElem?_toArray, Zr _ _ _ _ (by rw [hvs, Array.length_toList]; omega), hvs]
     rw [List.getElem?_set] at he'
     by_cases hi : i = i'
     ·subst hi
      rw [if_pos rfl, if_pos hie] at he'
      simp only [Option.some.injEq] at he'
      subst he'
      rw [Zr _ _ _ _ (by omega), hx] at hcc
      have hjlt : j < sz := by
       rcases Nat.lt_or_ge j sz with h2 | h2
       ·exact h2
       ·rw [if_neg (by omega), if_neg (by omega), List.getElem?_eq_none (by omega)] at hcc; cases hcc
      by_cases hj1 : j < c
      ·rw [if_pos hj1] at hcc
       rw [if_pos (by omega)]
       rw [Array.getElem?_toList]
       exact hrow i e j cc he hcc
      ·rw [if_neg hj1] at hcc
       rw [if_neg (by omega)]
       by_cases hj2 : j < c + n
       ·rw [if_pos hj2] at hcc
        rw [if_pos (by omega), show i * sz + j - (i * sz + c) = j - c from by omega]
        have hlt : j - c < (a.eval q).cells.size := by rw [← hcl]; exact (List.getElem?_eq_some_iff.1 hcc).1
        have hg : (a.eval q).cells[j - c]? = some (a.eval q).cells[j - c] := Array.getElem?_eq_getElem hlt
        exact ⟨_, by rw [Array.getElem?_toList]; exact hg, hcr _ _ _ hcc hg, hone _ _ hg⟩
       ·rw [if_neg hj2] at hcc
        rw [if_neg (by omega), Array.getElem?_toList]
        exact hrow i e j cc he hcc
     ·rw [if_neg hi] at he'
      have hel' : e'.length = sz := hlen e' (List.mem_of_getElem? he')
      have hj : j < sz := by rw [← hel']; exact (List.getElem?_eq_some_iff.1 hcc).1
      have hout : ¬ (i * sz + c ≤ i' * sz + j ∧ i' * sz + j < i * sz + c + n) := by
       rintro ⟨h2, h3⟩
       rcases Nat.lt_or_ge i i' with h4 | h4
       ·have := Zw (k := c + n - 1) (sz := sz) h4 (by omega)
        omega
       ·have h5 : i' < i := by omega
        have := Zw (k := j) (sz := sz) h5 hj
        omega
      have hg := hrow i' e' j cc he' hcc
      rw [← Array.getElem?_toList] at hg
      split
      ·exact hg
      ·split
       ·exact (hout ⟨by omega, by omega⟩).elim
       ·exact hg)
  exact hk undef _ C (.v undef) hw1 he1
end
inductive WCalm (P : Program) (ops : Array Oper) (H0 : AHeap) (ws rs : List Nat) (K : St → Prop) : Nat → List Oper → St → Prop
 | done {k : Nat} {s : St} (h : K s) : WCalm P ops H0 ws rs K k [] s
 | eff {k : Nat} {o : Oper} {r : List Oper} {s : St} (Hn : AHeap) (x : AV) (hw : Wanted ops s.T o true) (hd : dok o.dst s.n = true) (he : Eff P o s.T Hn x []) (hn : ∀ p, p ∈ Hn → p ∈ H0) (hr : Hn = [] ∨ rs.contains k = true) (hk : ws.contains k = false)
   (h : WCalm P ops H0 ws rs K (k + 1) r { s with T := put s.T o.dst x }) : WCalm P ops H0 ws rs K k (o :: r) s
 | off {k : Nat} {o : Oper} {r : List Oper} {s : St} (hw : Wanted ops s.T o false) (hd : dok o.dst s.n = true) (hk : ws.contains k = false) (h : WCalm P ops H0 ws rs K (k + 1) r { s with T := put s.T o.dst (.v undef) }) : WCalm P ops H0 ws rs K k (o :: r) s
 | write {k : Nat} {o : Oper} {r : List Oper} {s : St} (H' : AHeap) (hw : Wanted ops s.T o true) (hd : dok o.dst s.n = true) (he : EffW P o s.T s.H H') (hk : ws.contains k = true)
   (h : WCalm P ops H0 ws rs K (k + 1) r { s with T := put s.T o.dst (.v undef), H := H' }) : WCalm P ops H0 ws rs K k (o :: r) s
def GoodW (P : Program) (ops : Array Oper) (n : Nat) (ws rs : List Nat) (xs : Nat → AV) (B : Nat → AHeap) (T0 : List (Nat × AV)) (i : Nat) : Prop :=
 ∃ o, ops[i]? = some o ∧ dok o.dst n = true ∧
  ((ws.contains i = false ∧ B (i + 1) = B i ∧ ((Wanted ops (TT ops xs T0 i) o false ∧ xs i = .v undef) ∨
   (Wanted ops (TT ops xs T0 i) o true ∧ ∃ Hn, Eff P o (TT ops xs T0 i) Hn (xs i) [] ∧ (∀ p, p ∈ Hn → p ∈ B 0) ∧ (Hn = [] ∨ rs.contains i = true)))) ∨
  (ws.contains i = true ∧ Wanted ops (TT ops xs T0 i) o true ∧ xs i = .v undef ∧ EffW P o (TT ops xs T0 i) (B i) (B (i + 1))))
theorem GoodW.congr {P : Program} {ops : Array Oper} {n : Nat} {ws rs : List Nat} {xs ys : Nat → AV} {B D : Nat → AHeap} {T0 : List (Nat × AV)} {i : Nat} (h1 : ∀ j, j ≤ i → xs j = ys j) (h2 : ∀ j, j ≤ i + 1 → B j = D j) (h : GoodW P ops n ws rs xs B T0 i) : GoodW P ops n ws rs ys D T0 i := by
 obtain ⟨o, ho, hd, h⟩ := h
 refine ⟨o, ho, hd, ?_⟩
 rw [← Zb (ops := ops) (T0 := T0) i (fun j hj => h1 j (by omega)), ← h1 i (Nat.le_refl _), ← h2 i (by omega), ← h2 (i + 1) (Nat.le_refl _), ← h2 0 (by omega)]
 exact h
theorem WCalm.tell {P : Program} {ops : Array Oper} {H0 : AHeap} {ws rs : List Nat} {K : St → Prop} {T0 : List (Nat × AV)} {D : List Nat} {n : Nat} {k : Nat} {l : List Oper} {s : St} (h : WCalm P ops H0 ws rs K k l s) :
  ∀ (xs : Nat → AV) (B : Nat → AHeap), ops.toList.drop k = l → B 0 = H0 → s = ⟨TT ops xs T0 k, B k, D, n⟩ → (∀ i, i < k → GoodW P ops n ws rs xs B T0 i) →
   ∃ (ys : Nat → AV) (E : Nat → AHeap), E 0 = H0 ∧ K ⟨TT ops ys T0 (k + l.length), E (k + l.length), D, n⟩ ∧ ∀ i, i < k + l.length → GoodW P ops n ws rs ys E T0 i := by
 have step : ∀ (k : Nat) (o : Oper) (xs : Nat → AV) (B : Nat → AHeap) (x : AV) (H' : AHeap), ops[k]? = some o → (∀ i, i < k → GoodW P ops n ws rs xs B T0 i) → dok o.dst n = true →
   ((ws.contains k = false ∧ H' = B k ∧ ((Wanted ops (TT ops xs T0 k) o false ∧ x = .v undef) ∨
    (Wanted ops (TT ops xs T0 k) o true ∧ ∃ Hn, Eff P o (TT ops xs T0 k) Hn x [] ∧ (∀ p, p ∈ Hn → p ∈ B 0) ∧ (Hn = [] ∨ rs.contains k = true)))) ∨
   (ws.contains k = true ∧ Wanted ops (TT ops xs T0 k) o true ∧ x = .v undef ∧ EffW P o (TT ops xs T0 k) (B k) H')) →
   ∃ (ys : Nat → AV) (E : Nat → AHeap), (∀ i, i < k → ys i = xs i) ∧ (∀ i, i ≤ k → E i = B i) ∧ ys k = x ∧ E (k + 1) = H' ∧ (∀ i, i < k + 1 → GoodW P ops n ws rs ys E T0 i) := by
  intro k o xs B x H' ho hg hd hx
  refine ⟨fun i => if i = k then x else xs i, fun i => if i = k + 1 then H' else B i, fun i hi => if_neg (by omega), fun i hi => if_neg (by omega), if_pos rfl, if_pos rfl, ?_⟩
  intro i hi
  rcases Nat.lt_or_ge i k with hlt | hge
  ·exact (hg i hlt).congr (fun j hj => (if_neg (by omega)).symm) (fun j hj => (if_neg (by omega)).symm)
  ·have e : i = k := by omega
   subst e
   refine ⟨o, ho, hd, ?_⟩
   have e1 : TT ops (fun j => if j = i then x else xs j) T0 i = TT ops xs T0 i := Zb i (fun j hj => if_neg (by omega))
   have e2 : (if i = i + 1 then H' else B i) = B i := if_neg (by omega)
   have e3 : (if 0 = i + 1 then H' else B 0) = B 0 := if_neg (by omega)
   simp only [e1, if_true, e2, e3]
   exact hx
 induction h with
 | done h =>
  intro xs B hl hB hs hg
  subst hs
  exact ⟨xs, B, hB, h, hg⟩
 | @eff k o r s Hn x hw hd he hn hr hk h ih =>
  intro xs B hl hB hs hg
  subst hs
  obtain ⟨h1, h2⟩ := Z3 hl
  have ho : ops[k]? = some o := by rw [← Array.getElem?_toList]; exact h1
  obtain ⟨ys, E, e1, e2, e3, e4, e5⟩ := step k o xs B x (B k) ho hg hd (.inl ⟨hk, rfl, .inr ⟨hw, Hn, he, fun p hp => hB ▸ hn p hp, hr⟩⟩)
  have hlen : k + (o :: r).length = k + 1 + r.length := by simp; omega
  rw [hlen]
  refine ih ys E h2 ((e2 0 (by omega)).trans hB) ?_ e5
  simp only [TT, ho, Option.bind_some, e3, e4]
  rw [Zb k e1]
 | @off k o r s hw hd hk h ih =>
  intro xs B hl hB hs hg
  subst hs
  obtain ⟨h1, h2⟩ := Z3 hl
  have ho : ops[k]? = some o := by rw [← Array.getElem?_toList]; exact h1
  obtain ⟨ys, E, e1, e2, e3, e4, e5⟩ := step k o xs B (.v undef) (B k) ho hg hd (.inl ⟨hk, rfl, .inl ⟨hw, rfl⟩⟩)
  have hlen : k + (o :: r).length = k + 1 + r.length := by simp; omega
  rw [hlen]
  refine ih ys E h2 ((e2 0 (by omega)).trans hB) ?_ e5
  simp only [TT, ho, Option.bind_some, e3, e4]
  rw [Zb k e1]
 | @write k o r s H' hw hd he hk h ih =>
  intro xs B hl hB hs hg
  subst hs
  obtain ⟨h1, h2⟩ := Z3 hl
  have ho : ops[k]? = some o := by rw [← Array.getElem?_toList]; exact h1
  obtain ⟨ys, E, e1, e2, e3, e4, e5⟩ := step k o xs B (.v undef) H' ho hg hd (.inr ⟨hk, hw, rfl, he⟩)
  have hlen : k + (o :: r).length = k + 1 + r.length := by simp; omega
  rw [hlen]
  refine ih ys E h2 ((e2 0 (by omega)).trans hB) ?_ e5
  simp only [TT, ho, Option.bind_some, e3, e4]
  rw [Zb k e1]
def okWrites (ms ws rs : List Nat) : Bool := ws.all fun w => (rs.all fun r => Nat.blt r w && bitOf ms w r) && ws.all fun v => Nat.beq v w || (Nat.blt v w && bitOf ms w v) || (Nat.blt w v && bitOf ms v w)
def tidyW (ops : Array Oper) (ms ws rs : List Nat) : Bool := okEdges ops && okDst ops ops.size && okCert ops ms && okLooksM ops ms ops.size && okWrites ms ws rs && (ws ++ rs).all fun i => Nat.blt i ops.size
structure InvW (P : Program) (ops : Array Oper) (ws : List Nat) (ys : Nat → AV) (B : Nat → AHeap) (cur : Nat) (s : St) (Z : List Nat) (C0 : Ctx) (H0 : AHeap) (w0 : World) (listed : Array Bool) (a : Act) (w : World) (C : Ctx) : Prop where
 wr : WR C (B cur) w
 sl0 : ∀ t x, lk s.T t = some x → (∀ j, j < ops.size → (ops[j]?).bind (·.dst) ≠ some t) → ∃ v, a.tmps[t]? = some v ∧ VR C x v
 sl1 : ∀ j t, j < ops.size → listed.getD j false = true → (ops[j]?).bind (·.dst) = some t → ∃ v, a.tmps[t]? = some v ∧ VR C (ys j) v
 df : a.defers = s.D.map (mark C)
 du : ∀ i, i ∈ s.D → i ∈ C.U
 sz : a.tmps.size = s.n
 ext : Ext Z C0 H0 w0 C (B cur) w
 dn : ∀ i o, ops[i]? = some o → listed.getD i false = true → ∀ e, e ∈ o.after → Region.binds .any e = true → listed.getD e.on false = true
 lw : ∀ v, ws.contains v = true → v < ops.size → (listed.getD v false = true ↔ v < cur)
 lc : cur ≤ ops.size
section
variable {P : Program} {ops : Array Oper} {o : Oper} {rest : List Oper} {H0 : AHeap} {ws rs : List Nat} {K : St → Prop} {k : Nat} {s : St}
end
end Go.Sx
namespace Go.Sx
open Go
def EffA (P : Program) (o : Oper) (T : List (Nat × AV)) (H : AHeap) (x : AV) (H' : AHeap) (id : Nat) : Prop :=
 ∀ Z C a w, WR C H w → (∀ p, p ∈ o.op.operands → ∀ y, ev T p = some y → VR C y (a.eval p)) → id ∉ C.U → id ∉ Z →
  ∀ ro next R, (∀ v w1 C1, VR C1 x v → WR C1 H' w1 → Ext Z C H w C1 H' w1 → next (a.put o.dst v) w1) → o.uponIn (Wd ro) 0 P a next R ((o.semAt ro a.eval).run P w)
inductive VCalm (P : Program) (ops : Array Oper) (H0 : AHeap) (ws rs : List Nat) (K : St → Prop) : Nat → List Oper → List (Nat × (Nat × AObj)) → AHeap → St → Prop
 | done {k : Nat} {M : List (Nat × (Nat × AObj))} {S : AHeap} {s : St} (h : K s) : VCalm P ops H0 ws rs K k [] M S s
 | keep {k : Nat} {l : List Oper} {M : List (Nat × (Nat × AObj))} {S : AHeap} {s : St} (p : Nat × AObj) (hp : p ∈ s.H) (hf : (ws.all fun w => Nat.ble k w) = true) (h : VCalm P ops H0 ws rs K k l M (p :: S) s) : VCalm P ops H0 ws rs K k l M S s
 | eff {k : Nat} {o : Oper} {r : List Oper} {M : List (Nat × (Nat × AObj))} {S : AHeap} {s : St} (Hn : AHeap) (x : AV) (hw : Wanted ops s.T o true) (hd : dok o.dst s.n = true) (he : Eff P o s.T Hn x []) (hk : ws.contains k = false)
   (hn : ∀ p, p ∈ Hn → p ∈ H0 ∨ ∃ j, (j, p) ∈ M ∧ anc ops k k j = true) (hr : Hn = [] ∨ rs.contains k = true ∨ ∀ p, p ∈ Hn → p ∈ S)
   (h : VCalm P ops H0 ws rs K (k + 1) r M S { s with T := put s.T o.dst x }) : VCalm P ops H0 ws rs K k (o :: r) M S s
 | eff1 {k : Nat} {o : Oper} {r : List Oper} {M : List (Nat × (Nat × AObj))} {S : AHeap} {s : St} (x : Nat → AV) (ob : Nat → AObj) (hw : Wanted ops s.T o true) (hd : dok o.dst s.n = true) (he : ∀ id, Eff P o s.T [] (x id) [(id, ob id)]) (hk : rs.contains k = true) (hk2 : ws.contains k = false)
   (h : ∀ id, VCalm P ops H0 ws rs K (k + 1) r ((k, (id, ob id)) :: M) S { s with T := put s.T o.dst (x id), H := (id, ob id) :: s.H }) : VCalm P ops H0 ws rs K k (o :: r) M S s
 | off {k : Nat} {o : Oper} {r : List Oper} {M : List (Nat × (Nat × AObj))} {S : AHeap} {s : St} (hw : Wanted ops s.T o false) (hd : dok o.dst s.n = true) (hk : ws.contains k = false)
   (h : VCalm P ops H0 ws rs K (k + 1) r M S { s with T := put s.T o.dst (.v undef) }) : VCalm P ops H0 ws rs K k (o :: r) M S s
 | write {k : Nat} {o : Oper} {r : List Oper} {M : List (Nat × (Nat × AObj))} {S : AHeap} {s : St} (H' : AHeap) (hw : Wanted ops s.T o true) (hd : dok o.dst s.n = true) (he : EffW P o s.T s.H H') (hk : ws.contains k = true) (hS : ∀ p, p ∈ S → p ∈ H')
   (h : VCalm P ops H0 ws rs K (k + 1) r M S { s with T := put s.T o.dst (.v undef), H := H' }) : VCalm P ops H0 ws rs K k (o :: r) M S s
 | app {k : Nat} {o : Oper} {r : List Oper} {M : List (Nat × (Nat × AObj))} {S : AHeap} {s : St} (x : Nat → AV) (H' : Nat → AHeap) (hw : Wanted ops s.T o true) (hd : dok o.dst s.n = true) (he : ∀ id, EffA P o s.T s.H (x id) (H' id) id) (hk : ws.contains k = true) (hS : ∀ id p, p ∈ S → p ∈ H' id)
   (h : ∀ id, VCalm P ops H0 ws rs K (k + 1) r M S { s with T := put s.T o.dst (x id), H := H' id }) : VCalm P ops H0 ws rs K k (o :: r) M S s
def GV (P : Program) (ops : Array Oper) (ws rs : List Nat) (T : List (Nat × AV)) (os : Nat → AHeap) (H0 S : AHeap) (i : Nat) (o : Oper) (x : AV) (obs B B' : AHeap) : Prop :=
 (ws.contains i = false ∧ obs = [] ∧ B' = B ∧ ((Wanted ops T o false ∧ x = .v undef) ∨
  (Wanted ops T o true ∧ ∃ Hn, Eff P o T Hn x [] ∧ (∀ p, p ∈ Hn → p ∈ H0 ∨ ∃ j, j < i ∧ p ∈ os j ∧ anc ops i i j = true) ∧ (Hn = [] ∨ rs.contains i = true ∨ ∀ p, p ∈ Hn → p ∈ S)))) ∨
 (ws.contains i = false ∧ rs.contains i = true ∧ B' = obs ++ B ∧ Wanted ops T o true ∧ Eff P o T [] x obs) ∨
 (ws.contains i = true ∧ obs = [] ∧ Wanted ops T o true ∧ x = .v undef ∧ EffW P o T B B') ∨
 (ws.contains i = true ∧ Wanted ops T o true ∧ ∃ id, obs = [(id, .rows 0 0 [])] ∧ EffA P o T B x B' id)
theorem GV.mono {P : Program} {ops : Array Oper} {ws rs : List Nat} {T : List (Nat × AV)} {os ps : Nat → AHeap} {H0 S S' : AHeap} {i : Nat} {o : Oper} {x : AV} {obs B B' : AHeap} (hS : ∀ p, p ∈ S → p ∈ S') (ho : ∀ j, j < i → ps j = os j)
  (h : GV P ops ws rs T os H0 S i o x obs B B') : GV P ops ws rs T ps H0 S' i o x obs B B' := by
 rcases h with ⟨h1, h2, h3, h4 | ⟨h4, Hn, h5, h6, h7⟩⟩ | h | h | h
 ·exact .inl ⟨h1, h2, h3, .inl h4⟩
 ·refine .inl ⟨h1, h2, h3, .inr ⟨h4, Hn, h5, fun p hp => (h6 p hp).imp id (fun ⟨j, a, b, c⟩ => ⟨j, a, by rw [ho j a]; exact b, c⟩), h7.imp id (fun h => h.imp id (fun h p hp => hS p (h p hp)))⟩⟩
 ·exact .inr (.inl h)
 ·exact .inr (.inr (.inl h))
 ·exact .inr (.inr (.inr h))
def GoodV (P : Program) (ops : Array Oper) (n : Nat) (ws rs : List Nat) (xs : Nat → AV) (os B : Nat → AHeap) (T0 : List (Nat × AV)) (H0 S : AHeap) (i : Nat) : Prop :=
 ∃ o, ops[i]? = some o ∧ dok o.dst n = true ∧ GV P ops ws rs (TT ops xs T0 i) os H0 S i o (xs i) (os i) (B i) (B (i + 1))
theorem GoodV.congr {P : Program} {ops : Array Oper} {n : Nat} {ws rs : List Nat} {xs ys : Nat → AV} {os ps B E : Nat → AHeap} {T0 : List (Nat × AV)} {H0 S S' : AHeap} {i : Nat} (h1 : ∀ j, j ≤ i → ys j = xs j) (h2 : ∀ j, j ≤ i → ps j = os j) (h3 : ∀ j, j ≤ i + 1 → E j = B j) (hS : ∀ p, p ∈ S → p ∈ S')
  (h : GoodV P ops n ws rs xs os B T0 H0 S i) : GoodV P ops n ws rs ys ps E T0 H0 S' i := by
 obtain ⟨o, ho, hd, h⟩ := h
 refine ⟨o, ho, hd, ?_⟩
 rw [Zb (ops := ops) (T0 := T0) i (fun j hj => h1 j (by omega)), h1 i (Nat.le_refl _), h2 i (Nat.le_refl _), h3 i (by omega), h3 (i + 1) (Nat.le_refl _)]
 exact h.mono hS (fun j hj => h2 j (by omega))
structure ToldV (P : Program) (ops : Array Oper) (n : Nat) (ws rs : List Nat) (T0 : List (Nat × AV)) (H0 : AHeap) (L : List Nat) (k : Nat) (S : AHeap) (xs : Nat → AV) (os B : Nat → AHeap) : Prop where
 b0 : B 0 = H0
 g : ∀ i, i < k → GoodV P ops n ws rs xs os B T0 H0 S i
 fr : ∀ i p, i < k → p ∈ os i → p.1 ∉ L
 di : ∀ i j p q, i < k → j < k → p ∈ os i → q ∈ os j → p.1 = q.1 → i = j
 nd : ∀ i, i < k → ((os i).map Prod.fst).Nodup
 s : ∀ p, p ∈ S → ∀ c, (∃ v, ws.contains v = true ∧ v < c) → c ≤ k → p ∈ B c
theorem ToldV.adv {P : Program} {ops : Array Oper} {n : Nat} {ws rs : List Nat} {T0 : List (Nat × AV)} {H0 : AHeap} {L : List Nat} {k : Nat} {S : AHeap} {xs : Nat → AV} {os B : Nat → AHeap} (h : ToldV P ops n ws rs T0 H0 L k S xs os B)
  {o : Oper} (ho : ops[k]? = some o) (hd : dok o.dst n = true) (x : AV) (obs H' : AHeap) (hg : GV P ops ws rs (TT ops xs T0 k) os H0 S k o x obs (B k) H') (hS : ∀ p, p ∈ S → p ∈ H')
  (h1 : ∀ p, p ∈ obs → p.1 ∉ L) (h2 : ∀ i p q, i < k → p ∈ os i → q ∈ obs → p.1 ≠ q.1) (h3 : (obs.map Prod.fst).Nodup) :
  ∃ (ys : Nat → AV) (ps E : Nat → AHeap), ToldV P ops n ws rs T0 H0 L (k + 1) S ys ps E ∧ TT ops ys T0 (k + 1) = put (TT ops xs T0 k) o.dst x ∧ E (k + 1) = H' ∧ (∀ i, i < k → ps i = os i) ∧ ps k = obs := by
 let ys : Nat → AV := fun i => if i = k then x else xs i
 let ps : Nat → AHeap := fun i => if i = k then obs else os i
 let E : Nat → AHeap := fun i => if i = k + 1 then H' else B i
 have e1 : ∀ i, i < k → ys i = xs i := fun i hi => if_neg (by omega)
 have e2 : ∀ i, i < k → ps i = os i := fun i hi => if_neg (by omega)
 have e3 : ∀ i, i ≤ k → E i = B i := fun i hi => if_neg (by omega)
 have e4 : ys k = x := if_pos rfl
 have e5 : ps k = obs := if_pos rfl
 have e6 : E (k + 1) = H' := if_pos rfl
 have et : TT ops ys T0 k = TT ops xs T0 k := Zb k e1
 refine ⟨ys, ps, E, ⟨(e3 0 (Nat.zero_le _)).trans h.b0, ?_, ?_, ?_, ?_, ?_⟩, ?_, e6, e2, e5⟩
 ·intro i hi
  rcases Nat.lt_or_ge i k with hlt | hge
  ·exact (h.g i hlt).congr (fun j hj => e1 j (by omega)) (fun j hj => e2 j (by omega)) (fun j hj => e3 j (by omega)) (fun _ h => h)
  ·have e : i = k := by omega
   subst e
   refine ⟨o, ho, hd, ?_⟩
   rw [et, e4, e5, e6, e3 i (Nat.le_refl _)]
   exact hg.mono (fun _ h => h) e2
 ·intro i p hi hp
  rcases Nat.lt_or_ge i k with hlt | hge
  ·rw [e2 i hlt] at hp; exact h.fr i p hlt hp
  ·have e : i = k := by omega
   subst e; rw [e5] at hp; exact h1 p hp
 ·intro i j p q hi hj hp hq hpq
  rcases Nat.lt_or_ge i k with hlt | hge <;> rcases Nat.lt_or_ge j k with hlt' | hge'
  ·rw [e2 i hlt] at hp; rw [e2 j hlt'] at hq; exact h.di i j p q hlt hlt' hp hq hpq
  ·have e : j = k := by omega
   subst e; rw [e5] at hq; rw [e2 i hlt] at hp; exact (h2 i p q hlt hp hq hpq).elim
  ·have e : i = k := by omega
   subst e; rw [e5] at hp; rw [e2 j hlt'] at hq; exact (h2 j q p hlt' hq hp hpq.symm).elim
  ·omega
 ·intro i hi
  rcases Nat.lt_or_ge i k with hlt | hge
  ·rw [e2 i hlt]; exact h.nd i hlt
  ·have e : i = k := by omega
   subst e; rw [e5]; exact h3
 ·intro p hp c hv hc
  rcases Nat.lt_or_ge k c with hlt | hge
  ·have e : c = k + 1 := by omega
   subst e; rw [e6]; exact hS p hp
  ·rw [e3 c hge]; exact h.s p hp c hv hge
 ·simp only [TT, ho, Option.bind_some]
  rw [e4, et]
theorem VCalm.tell {P : Program} {ops : Array Oper} {H0 : AHeap} {ws rs : List Nat} {K : St → Prop} {T0 : List (Nat × AV)} {D : List Nat} {n : Nat} (L : List Nat) {k : Nat} {l : List Oper} {M : List (Nat × (Nat × AObj))} {S : AHeap} {s : St} (h : VCalm P ops H0 ws rs K k l M S s) :
  ∀ (xs : Nat → AV) (os B : Nat → AHeap), ToldV P ops n ws rs T0 H0 L k S xs os B → ops.toList.drop k = l → s = ⟨TT ops xs T0 k, B k, D, n⟩ → (∀ j p, (j, p) ∈ M → j < k ∧ p ∈ os j) → (∀ p, p ∈ S → p ∈ B k) →
   ∃ (ys : Nat → AV) (ps E : Nat → AHeap) (S' : AHeap), ToldV P ops n ws rs T0 H0 L (k + l.length) S' ys ps E ∧ K ⟨TT ops ys T0 (k + l.length), E (k + l.length), D, n⟩ := by
 induction h with
 | done h =>
  intro xs os B hT hl hs hM hS
  subst hs
  exact ⟨xs, os, B, _, hT, h⟩
 | @keep k l M S s p hp hf h ih =>
  intro xs os B hT hl hs hM hS
  subst hs
  refine ih xs os B ⟨hT.b0, fun i hi => (hT.g i hi).congr (fun _ _ => rfl) (fun _ _ => rfl) (fun _ _ => rfl) (fun q hq => List.mem_cons_of_mem _ hq), hT.fr, hT.di, hT.nd, ?_⟩ hl rfl hM ?_
  ·intro q hq c hv hc
   rcases List.mem_cons.1 hq with rfl | hq
   ·obtain ⟨v, hv, hvc⟩ := hv
    have := List.all_eq_true.1 hf v (by simpa using hv)
    have := Nat.le_of_ble_eq_true this
    omega
   ·exact hT.s q hq c hv hc
  ·intro q hq
   rcases List.mem_cons.1 hq with rfl | hq
   ·exact hp
   ·exact hS q hq
 | @eff k o r M S s Hn x hw hd he hk hn hr h ih =>
  intro xs os B hT hl hs hM hS
  subst hs
  obtain ⟨h1, h2⟩ := Z3 hl
  have ho : ops[k]? = some o := by rw [← Array.getElem?_toList]; exact h1
  obtain ⟨ys, ps, E, g1, g2, g3, g4, g5⟩ := hT.adv ho hd x [] (B k) (.inl ⟨hk, rfl, rfl, .inr ⟨hw, Hn, he, fun p hp => (hn p hp).imp id (fun ⟨j, a, b⟩ => ⟨j, (hM j p a).1, (hM j p a).2, b⟩), hr⟩⟩) hS nofun (fun _ _ _ _ _ h => nomatch h) List.nodup_nil
  rw [show k + (o :: r).length = k + 1 + r.length by simp; omega]
  exact ih ys ps E g1 h2 (by rw [g2, g3]) (fun j p hp => ⟨by have := (hM j p hp).1; omega, by rw [g4 j (hM j p hp).1]; exact (hM j p hp).2⟩) (by rw [g3]; exact hS)
 | @eff1 k o r M S s x ob hw hd he hk hk2 h ih =>
  intro xs os B hT hl hs hM hS
  subst hs
  obtain ⟨h1, h2⟩ := Z3 hl
  have ho : ops[k]? = some o := by rw [← Array.getElem?_toList]; exact h1
  obtain ⟨id, hid⟩ := Z4b (L ++ ((List.range k).flatMap fun i => (os i).map Prod.fst))
  rw [List.mem_append, not_or] at hid
  obtain ⟨ys, ps, E, g1, g2, g3, g4, g5⟩ := hT.adv ho hd (x id) [(id, ob id)] ((id, ob id) :: B k) (.inr (.inl ⟨hk2, hk, rfl, hw, he id⟩)) (fun p hp => List.mem_cons_of_mem _ (hS p hp)) (fun p hp => by rw [List.mem_singleton.1 hp]; exact hid.1)
   (fun i p q hi hp hq e => by rw [List.mem_singleton.1 hq] at e; exact hid.2 (List.mem_flatMap.2 ⟨i, List.mem_range.2 hi, List.mem_map.2 ⟨p, hp, e⟩⟩)) (by simp)
  rw [show k + (o :: r).length = k + 1 + r.length by simp; omega]
  refine ih id ys ps E g1 h2 (by rw [g2, g3]) ?_ (by rw [g3]; exact fun p hp => List.mem_cons_of_mem _ (hS p hp))
  intro j p hp
  rcases List.mem_cons.1 hp with hp | hp
  ·cases hp; exact ⟨by omega, by rw [g5]; exact List.mem_cons_self⟩
  ·exact ⟨by have := (hM j p hp).1; omega, by rw [g4 j (hM j p hp).1]; exact (hM j p hp).2⟩
 | @off k o r M S s hw hd hk h ih =>
  intro xs os B hT hl hs hM hS
  subst hs
  obtain ⟨h1, h2⟩ := Z3 hl
  have ho : ops[k]? = some o := by rw [← Array.getElem?_toList]; exact h1
  obtain ⟨ys, ps, E, g1, g2, g3, g4, g5⟩ := hT.adv ho hd (.v undef) [] (B k) (.inl ⟨hk, rfl, rfl, .inl ⟨hw, rfl⟩⟩) hS nofun (fun _ _ _ _ _ h => nomatch h) List.nodup_nil
  rw [show k + (o :: r).length = k + 1 + r.length by simp; omega]
  exact ih ys ps E g1 h2 (by rw [g2, g3]) (fun j p hp => ⟨by have := (hM j p hp).1; omega, by rw [g4 j (hM j p hp).1]; exact (hM j p hp).2⟩) (by rw [g3]; exact hS)
 | @write k o r M S s H' hw hd he hk hS' h ih =>
  intro xs os B hT hl hs hM hS
  subst hs
  obtain ⟨h1, h2⟩ := Z3 hl
  have ho : ops[k]? = some o := by rw [← Array.getElem?_toList]; exact h1
  obtain ⟨ys, ps, E, g1, g2, g3, g4, g5⟩ := hT.adv ho hd (.v undef) [] H' (.inr (.inr (.inl ⟨hk, rfl, hw, rfl, he⟩))) hS' nofun (fun _ _ _ _ _ h => nomatch h) List.nodup_nil
  rw [show k + (o :: r).length = k + 1 + r.length by simp; omega]
  exact ih ys ps E g1 h2 (by rw [g2, g3]) (fun j p hp => ⟨by have := (hM j p hp).1; omega, by rw [g4 j (hM j p hp).1]; exact (hM j p hp).2⟩) (by rw [g3]; exact hS')
 | @app k o r M S s x H' hw hd he hk hS' h ih =>
  intro xs os B hT hl hs hM hS
  subst hs
  obtain ⟨h1, h2⟩ := Z3 hl
  have ho : ops[k]? = some o := by rw [← Array.getElem?_toList]; exact h1
  obtain ⟨id, hid⟩ := Z4b (L ++ ((List.range k).flatMap fun i => (os i).map Prod.fst))
  rw [List.mem_append, not_or] at hid
  obtain ⟨ys, ps, E, g1, g2, g3, g4, g5⟩ := hT.adv ho hd (x id) [(id, .rows 0 0 [])] (H' id) (.inr (.inr (.inr ⟨hk, hw, id, rfl, he id⟩))) (hS' id) (fun p hp => by rw [List.mem_singleton.1 hp]; exact hid.1)
   (fun i p q hi hp hq e => by rw [List.mem_singleton.1 hq] at e; exact hid.2 (List.mem_flatMap.2 ⟨i, List.mem_range.2 hi, List.mem_map.2 ⟨p, hp, e⟩⟩)) (by simp)
  rw [show k + (o :: r).length = k + 1 + r.length by simp; omega]
  exact ih id ys ps E g1 h2 (by rw [g2, g3]) (fun j p hp => ⟨by have := (hM j p hp).1; omega, by rw [g4 j (hM j p hp).1]; exact (hM j p hp).2⟩) (by rw [g3]; exact hS' id)
def hpF (N : Nat) (ps : Nat → AHeap) (H0 : AHeap) (B : Nat → AHeap) (listed : Array Bool) (cur : Nat) : AHeap :=
 if cur = 0 then (List.range N).flatMap (fun j => if listed.getD j false = true then ps j else []) ++ H0 else B cur
structure InvV (P : Program) (ops : Array Oper) (ws : List Nat) (ys : Nat → AV) (ps B : Nat → AHeap) (cur : Nat) (s : St) (Z : List Nat) (C0 : Ctx) (H0 : AHeap) (w0 : World) (listed : Array Bool) (a : Act) (w : World) (C : Ctx) : Prop where
 wr : WR C (hpF ops.size ps s.H B listed cur) w
 sl0 : ∀ t x, lk s.T t = some x → (∀ j, j < ops.size → listed.getD j false = true → (ops[j]?).bind (·.dst) ≠ some t) → ∃ v, a.tmps[t]? = some v ∧ VR C x v
 sl1 : ∀ j t, j < ops.size → listed.getD j false = true → (ops[j]?).bind (·.dst) = some t → ∃ v, a.tmps[t]? = some v ∧ VR C (ys j) v
 df : a.defers = s.D.map (mark C)
 du : ∀ i, i ∈ s.D → i ∈ C.U
 sz : a.tmps.size = s.n
 av : ∀ j p, j < ops.size → listed.getD j false = false → p ∈ ps j → p.1 ∉ C.U
 ext : Ext Z C0 H0 w0 C (hpF ops.size ps s.H B listed cur) w
 dn : ∀ i o, ops[i]? = some o → listed.getD i false = true → ∀ e, e ∈ o.after → Region.binds .any e = true → listed.getD e.on false = true
 lw : ∀ v, ws.contains v = true → v < ops.size → (listed.getD v false = true ↔ v < cur)
 lc : cur ≤ ops.size
 lz : cur = 0 ∨ ∃ v, ws.contains v = true ∧ v < cur
def okLooksV (ops : Array Oper) (ms : List Nat) : Bool := (List.range ops.size).all fun i => match ops[i]? with
 | some o => (o.looksAt ops).all fun t => (List.range ops.size).all fun j => !((ops[j]?).bind (·.dst) == some t) || (Nat.blt j i && bitOf ms i j) || (Nat.blt i j && bitOf ms j i)
 | none => false
def tidyV (ops : Array Oper) (ms ws rs : List Nat) : Bool := (okEdges ops && okDst ops ops.size && okCert ops ms && okLooksV ops ms && okWrites ms ws rs && (ws ++ rs).all fun i => Nat.blt i ops.size) && !ws.isEmpty
section
variable {P : Program} {ops : Array Oper} {o : Oper} {rest : List Oper} {H0 : AHeap} {ws rs : List Nat} {K : St → Prop} {k : Nat} {M : List (Nat × (Nat × AObj))} {S : AHeap} {s : St}
def inH (H : AHeap) : AHeap → List Nat → Prop
 | [], _ => True
 | p :: S, j :: js => H[j]? = some p ∧ inH H S js
 | _ :: _, [] => False
end
end Go.Sx
namespace Go.Sx
open Go
section
variable {α : Type} [Inhabited α]
variable {P : Program} {ro : Option Nat} {Q : Exit → St → Prop} {s : St} {ops : Array Oper} {o : Oper} {rest : List Oper}
end
end Go.Sx
namespace Go.Sx
open Go
section
variable {P : Program} {ro : Option Nat} {Q : Exit → St → Prop} {s : St} {ops : Array Oper} {o : Oper} {rest : List Oper} {H0 : AHeap} {K : St → Prop} {k : Nat} {M : List (Nat × (Nat × AObj))} {S : List (AHeap × AHeap)} {ws rs : List Nat} {p : Operand} {x : AV}
theorem qS {x y : Code} (h : AWp P ro x (thenQ (AWp P ro y Q) Q) s) : AWp P ro (.seq x y) Q s := Z16 h
theorem qR {id : Nat} {l : List Oper} (h : AOps P ro l.toArray l Q s) : AWp P ro (.region id l.toArray false) Q s := Zo h
theorem qB {id : Nat} {c : Code} (h : AWp P ro c (blockQ id Q) s) : AWp P ro (.block id c) Q s := Z3d h
theorem qK (h : Q .normal s) : AWp P ro .skip Q s := Z4r h
theorem qX {i : Nat} (h : Q (.exit i) s) : AWp P ro (.exit i) Q s := Z6z h
theorem qe (he : Eff P o s.T [] x []) (h : AOps P ro ops rest Q { s with T := put s.T o.dst x }) (hg : o.guard = none := by rfl) (hd : dok o.dst s.n = true := by rfl) : AOps P ro ops (o :: rest) Q s := Z0 (w0 hg) hd he h
end
end Go.Sx
namespace Go.Sx
open Go
def pcmp (b : BinOp) (nil : Bool) : Option Bool := match b with | .eql => some nil | .neq => some (!nil) | _ => none
section
variable {P : Program} {T : List (Nat × AV)} {o : Oper}
theorem Z9k {t e : TypeId} (h : P.underlying t = some (.pointer e)) (d : Nat) (x : Option Addr) (w : World) : (Op.equalIn (d + 1) t (.pointer x) (.pointer none)).run P w = .ok x.isNone w := by
 cases x with
 | none => simp [Op.equalIn, Go.run_underlying h, Result.andThen, Sem.run_bind]
 | some a => simp [Op.equalIn, Go.run_underlying h, Result.andThen, Sem.run_bind]
theorem Z5i {b : BinOp} {t t' e : TypeId} {p q : Operand} {z : Bool} [h : UD P t (.pointer e)] (ho : o.op = .binOp b t p q t') (hp : ev T p = some (.v (.pointer none))) (hq : ev T q = some (.v (.pointer none)))
  (hb : pcmp b true = some z) : Eff P o T [] (.v (.bool z)) [] :=
 Z6 (by intro c; rw [ho]; nofun) fun C H a w hw hn hv => by
  have h2 := hv p (by rw [ho]; simp [Op.operands]) _ hp
  have h3 := VR.val (hv q (by rw [ho]; simp [Op.operands]) _ hq)
  obtain ⟨y, hy, hyn⟩ : ∃ y : Option Addr, a.eval p = .pointer y ∧ y.isNone = true := ⟨none, VR.val h2, rfl⟩
  refine ⟨.bool z, ?_, .v _⟩
  have hr := fun d => Z9k h.ud d y w
  cases b <;> simp only [pcmp, Option.some.injEq, reduceCtorEq] at hb <;> subst hb
  ·simp [execOp, ho, hy, h3, eqGuard, binOp, Op.equal, Op.maxDepth, hr 9999, hyn, Result.andThen, Sem.run_bind]
  ·simp [execOp, ho, hy, h3, eqGuard, binOp, Op.equal, Op.maxDepth, hr 9999, hyn, Result.andThen, Sem.run_bind]
theorem Z5j {b : BinOp} {t t' e : TypeId} {p q : Operand} {id sz i c : Nat} {z : Bool} [h : UD P t (.pointer e)] (ho : o.op = .binOp b t p q t') (hp : ev T p = some (.ptr id sz i c)) (hq : ev T q = some (.v (.pointer none)))
  (hb : pcmp b false = some z) : Eff P o T [] (.v (.bool z)) [] :=
 Z6 (by intro c; rw [ho]; nofun) fun C H a w hw hn hv => by
  have h2 := hv p (by rw [ho]; simp [Op.operands]) _ hp
  have h3 := VR.val (hv q (by rw [ho]; simp [Op.operands]) _ hq)
  obtain ⟨y, hy, hyn⟩ : ∃ y : Option Addr, a.eval p = .pointer y ∧ y.isNone = false := by
   generalize a.eval p = u at h2
   cases h2 with
   | ptr _ _ _ _ b' N hid _ => exact ⟨_, rfl, rfl⟩
  refine ⟨.bool z, ?_, .v _⟩
  have hr := fun d => Z9k h.ud d y w
  cases b <;> simp only [pcmp, Option.some.injEq, reduceCtorEq] at hb <;> subst hb
  ·simp [execOp, ho, hy, h3, eqGuard, binOp, Op.equal, Op.maxDepth, hr 9999, hyn, Result.andThen, Sem.run_bind]
  ·simp [execOp, ho, hy, h3, eqGuard, binOp, Op.equal, Op.maxDepth, hr 9999, hyn, Result.andThen, Sem.run_bind]
end
end Go.Sx
namespace Go.Sx
open Go
abbrev xA (n : Int) : AV := .v (.int .u64 n)
def LenJ (x y n : Nat) : Prop := y * 2 ^ n ≤ x ∧ (0 < x → 0 < y)
theorem LenJ.start (x : Nat) : LenJ x x 0 := ⟨by simp, id⟩
theorem LenJ.shr {x y n : Nat} (h : LenJ x y n) (s : Nat) (hy : 2 ^ s ≤ y) : LenJ x (y / 2 ^ s) (n + s) := by
 refine ⟨?_, fun _ => Nat.div_pos hy (Nat.two_pow_pos s)⟩
 have h1 : y / 2 ^ s * 2 ^ s ≤ y := Nat.div_mul_le_self y (2 ^ s)
 calc y / 2 ^ s * 2 ^ (n + s) = (y / 2 ^ s * 2 ^ s) * 2 ^ n := by rw [Nat.pow_add]; simp only [Nat.mul_assoc, Nat.mul_comm, Nat.mul_left_comm]
  _ ≤ y * 2 ^ n := Nat.mul_le_mul_right _ h1
  _ ≤ x := h.1
theorem LenJ.fin {x y n t : Nat} (h : LenJ x y n) (ht : 0 < y → 2 ^ t ≤ 2 * y) (hx : 0 < x) : 2 ^ (n + t) ≤ 2 * x := by
 have h1 := ht (h.2 hx)
 calc 2 ^ (n + t) = 2 ^ t * 2 ^ n := by rw [Nat.pow_add, Nat.mul_comm]
  _ ≤ (2 * y) * 2 ^ n := Nat.mul_le_mul_right _ h1
  _ = 2 * (y * 2 ^ n) := by rw [Nat.mul_assoc]
  _ ≤ 2 * x := Nat.mul_le_mul_left _ h.1
def len8 : ByteArray := ⟨#[0, 1, 2, 2, 3, 3, 3, 3, 4, 4, 4, 4, 4, 4, 4, 4, 5, 5, 5, 5, 5, 5, 5, 5, 5, 5, 5, 5, 5, 5, 5, 5, 6, 6, 6, 6, 6, 6, 6, 6, 6, 6, 6, 6, 6, 6, 6, 6, 6, 6, 6, 6, 6, 6, 6, 6, 6, 6, 6, 6, 6, 6, 6, 6, 7, 7, 7, 7, 7, 7, 7, 7, 7, 7, 7, 7, 7, 7, 7, 7, 7, 7, 7, 7, 7, 7, 7, 7, 7, 7, 7, 7, 7, 7, 7, 7, 7, 7, 7, 7, 7, 7, 7, 7, 7, 7, 7, 7, 7, 7, 7, 7, 7, 7, 7, 7, 7, 7, 7, 7, 7, 7, 7, 7, 7, 7, 7, 7, 8, 8, 8, 8, 8, 8, 8, 8, 8, 8, 8, 8, 8, 8, 8, 8, 8, 8, 8, 8, 8, 8, 8, 8, 8, 8, 8, 8, 8, 8, 8, 8, 8, 8, 8, 8, 8, 8, 8, 8, 8, 8, 8, 8, 8, 8, 8, 8, 8, 8, 8, 8, 8, 8, 8, 8, 8, 8, 8, 8, 8, 8, 8, 8, 8, 8, 8, 8, 8, 8, 8, 8, 8, 8, 8, 8, 8, 8, 8, 8, 8, 8, 8, 8, 8, 8, 8, 8, 8, 8, 8, 8, 8, 8, 8, 8, 8, 8, 8, 8, 8, 8, 8, 8, 8, 8, 8, 8, 8, 8, 8, 8, 8, 8, 8, 8, 8, 8, 8, 8, 8, 8, 8, 8, 8, 8, 8, 8]⟩
variable {P : Program} {ro : Option Nat} {Q : Exit → St → Prop} {s : St}
end Go.Sx
namespace Go.Sx
open Go
variable {P : Program} {ro : Option Nat} {Q : Exit → St → Prop} {s : St} {ops : Array Oper} {o : Oper} {rest : List Oper} {T : List (Nat × AV)}
theorem Z7q {t t' : TypeId} {p q : Operand} {k : IntKind} {x y : Int} (ho : o.op = .binOp .andNot t p q t') (hp : ev T p = some (.v (.int k x))) (hq : ev T q = some (.v (.int k y))) : Eff P o T [] (.v (.int k (bitsI .andNot k x y))) [] :=
 Z6 (by intro c; rw [ho]; nofun) fun C H a w hw hn hv => by
  have h2 := VR.val (hv p (by rw [ho]; simp [Op.operands]) _ hp)
  have h3 := VR.val (hv q (by rw [ho]; simp [Op.operands]) _ hq)
  refine ⟨_, ?_, .v _⟩
  simp [execOp, ho, h2, h3, eqGuard, binOp, Op.intBits, bitsI, Sem.run_bind, Result.andThen]
def byteRows (x : ByteArray) : List (List AV) := x.data.toList.map fun b => [.v (.int .u8 b.toNat)]
theorem Z17 (x : ByteArray) : (byteRows x).length = x.size := by
 unfold byteRows
 rw [List.length_map, Array.length_toList]; rfl
theorem Z3c {C : Ctx} {H : AHeap} {w : World} {Z : List Nat} {t tx ty e bytes id id' k : Nat} {v : Value} {x : ByteArray} {xs : List (List AV)} [hu : UD P t (.slice e)] [hux : UD P tx .string] [ha : AP P e 1 bytes]
  (hs : WR C H w) (hH : H[k]? = some (id, .rows e 1 xs)) (hp : VR C (.own id 1 0 xs.length) v)
  (hml : (xs.length + x.size) * bytes ≤ 140737488355328) (hm : xs.length + x.size ≤ maxLen) (hid : id' ∉ C.U) (hidz : id' ∉ Z) :
  ∃ v' w' C', (Builtin.append_ #[t, tx] ty #[v, .string x]).run P w = .ok v' w' ∧ VR C' (.own id' 1 0 (xs.length + x.size)) v' ∧ WR C' (H.set k (id', .rows e 1 (xs ++ byteRows x))) w' ∧ Ext Z C H w C' (H.set k (id', .rows e 1 (xs ++ byteRows x))) w' := by
 obtain ⟨i, z, hi, hz, hsz, hby, hzs, hpos⟩ := AP.open ha.ap
 have hmem := List.mem_of_getElem? hH
 have hown : SlA H 1 (.own id 1 0 xs.length) xs := ⟨rfl, e, xs, hmem, by omega, by simp⟩
 obtain ⟨hu', hlenx, hor⟩ := hs.ids _ _ hmem
 obtain ⟨adp, cp, hv, hnilp, _, hcellsp⟩ := hown.cells hs hp
 have hsrc := Src.ofString (P := P) w hux.ud x
 have hlb := byteCells_length x
 have hlen : ∀ e : List AV, e ∈ byteRows x → e.length = 1 := by
  intro e he; obtain ⟨b, _, rfl⟩ := List.mem_map.1 he; rfl
 have hav : ∀ x, ∀ z, z ∈ Z → z ∉ C.U → z ∉ (C.bindO id' x).U := by
  intro x z hz' hn
  simp only [Ctx.bindO, List.mem_cons, not_or]
  exact ⟨fun e => hidz (e ▸ hz'), hn⟩
 have hle : ∀ x, C.Le (C.bindO id' x) := fun x => Ctx.le_bindO hid
 have hn4 : ∀ (i : Nat) (e : List AV) (j : Nat) (cc : AV), (byteRows x)[i]? = some e → e[j]? = some cc → ∃ u, (byteCells x)[i * 1 + j]? = some u ∧ ∀ C : Ctx, VR C cc u := by
  intro i e j cc h1 h2
  unfold byteRows at h1
  rw [List.getElem?_map] at h1
  cases h3 : x.data.toList[i]? with
  | none => rw [h3] at h1; cases h1
  | some b =>
   rw [h3] at h1; simp at h1; subst h1
   have hj := Z7 h2
   simp at hj; subst hj
   simp at h2; subst h2
   refine ⟨.int .u8 b.toNat, ?_, fun C => .v _⟩
   unfold byteCells
   rw [Nat.mul_one, Nat.add_zero, List.getElem?_map, h3]; rfl
 have grow : ∀ (olds zs : List Value) (N : Nat), olds.length = xs.length * 1 → (olds ++ byteCells x ++ zs).length = N →
   (∀ (i : Nat) (e : List AV) (j : Nat) (cc : AV), xs[i]? = some e → e[j]? = some cc → ∃ u, olds[i * 1 + j]? = some u ∧ VR C cc u) →
   (∀ u, u ∈ olds → u.oneCell' = true) →
   WR (C.bindO id' (some (w.heap.size, N))) (H.set k (id', .rows e 1 (xs ++ byteRows x))) (w.drew.alloc (.cells (olds ++ byteCells x ++ zs).toArray e)) ∧
    Ext Z C H w (C.bindO id' (some (w.heap.size, N))) (H.set k (id', .rows e 1 (xs ++ byteRows x))) (w.drew.alloc (.cells (olds ++ byteCells x ++ zs).toArray e)) := by
  intro olds zs N h1 h3 h4 h6
  have hal : ∀ b, b < w.heap.size → (w.drew.alloc (.cells (olds ++ byteCells x ++ zs).toArray e)).heap[b]? = w.heap[b]? := fun b hb => heap_alloc_old w.drew _ (h := hb)
  refine Zt hs hH (hle _) rfl (.inr hid) List.mem_cons_self (hav _) rfl rfl rfl (by simp) (fun b N' hm => .inr ?_) (fun b hb _ => hal b hb) ?_
  ·rw [Ctx.bindO_m] at hm; cases hm; exact Nat.le_refl _
  ·exact Zb5 (w := w) (Ctx.bindO_m ..) (heap_alloc_new w.drew _) h3 hlenx hlen h1 (by rw [hlb, Z17, Nat.mul_one]) (fun i e' j cc a b => let ⟨u, x, y⟩ := h4 i e' j cc a b; ⟨u, x, y.mono (hle _)⟩) (fun i e' j cc a b => let ⟨u, x, y⟩ := hn4 i e' j cc a b; ⟨u, x, y _⟩) h6 hsrc.one
 have hvgrow : ∀ cap, xs.length + x.size ≤ cap → cap ≤ maxLen → VR (C.bindO id' (some (w.heap.size, cap * 1))) (.own id' 1 0 (xs.length + x.size)) (.slice (some ⟨w.heap.size, 0, none⟩) (xs.length + x.size) cap) := by
  intro cap h1 h2
  have := VR.own (C := C.bindO id' (some (w.heap.size, cap * 1))) id' 1 0 (xs.length + x.size) w.heap.size (cap * 1) cap (Ctx.bindO_m ..) List.mem_cons_self (by simp) h1 h2
  simpa using this
 have hzc : ∀ m cap, m ≤ cap → m * 1 + (Builtin.zeroCells z.cells (cap - m)).size = cap * 1 := by
  intro m cap h
  rw [size_zeroCells, hzs, ← Nat.add_mul]; congr 1; omega
 have hm63 : ((xs.length + x.size : Nat) : Int) ≤ 9223372036854775807 := by simp only [maxLen] at hm; omega
 -- there is no room
 have nogo : ∀ (base : Option Addr) (cap : Nat) (olds : List Value), (Builtin.firstCells i.size xs.length (.slice base xs.length cap)).run P w.drew = .ok olds.toArray w.drew → cap < xs.length + x.size → olds.length = xs.length * 1 →
   (∀ (i : Nat) (e : List AV) (j : Nat) (cc : AV), xs[i]? = some e → e[j]? = some cc → ∃ u, olds[i * 1 + j]? = some u ∧ VR C cc u) → (∀ u, u ∈ olds → u.oneCell' = true) →
   ∃ v' w' C', (Builtin.append_ #[t, tx] ty #[.slice base xs.length cap, .string x]).run P w = .ok v' w' ∧ VR C' (.own id' 1 0 (xs.length + x.size)) v' ∧ WR C' (H.set k (id', .rows e 1 (xs ++ byteRows x))) w' ∧ Ext Z C H w C' (H.set k (id', .rows e 1 (xs ++ byteRows x))) w' := by
  intro base cap olds hold hg h1 h2 h3
  have hcap1 := grownCap_ge w (xs.length + x.size) cap e
  have hcapm := grownCap_le_maxLen w (xs.length + x.size) cap e hm
  have hrun := run_append_grow_src (P := P) w t tx ty e i z hu.ud hi hz base xs.length cap olds hold (.string x) x.size (byteCells x) (by rw [hsz]; exact hsrc) hg hm63 (by rw [hby]; exact growslice_fits hg hml)
  obtain ⟨h4, h5⟩ := grow olds (Builtin.zeroCells z.cells (grownCap w (xs.length + x.size) cap e - (xs.length + x.size))).toList (grownCap w (xs.length + x.size) cap e * 1) h1
   (by have := hzc (xs.length + x.size) _ hcap1; simp only [List.length_append, Array.length_toList, hlb, h1]; omega) h2 h3
  have e0 : ((olds ++ byteCells x).toArray ++ Builtin.zeroCells z.cells (grownCap w (xs.length + x.size) cap e - (xs.length + x.size))) = (olds ++ byteCells x ++ (Builtin.zeroCells z.cells (grownCap w (xs.length + x.size) cap e - (xs.length + x.size))).toList).toArray := by simp
  rw [e0] at hrun
  exact ⟨_, _, _, hrun, hvgrow _ hcap1 hcapm, h4, h5⟩
 have hp' := hp
 generalize hxn : xs.length = n at hp'
 cases hp' with
 | ownNil _ _ hmn =>
  have hx0 : xs = [] := List.length_eq_zero_iff.1 hxn
  subst hx0
  rcases Nat.eq_zero_or_pos x.size with h0 | h0
  ·have hx : byteRows x = [] := List.length_eq_zero_iff.1 (by rw [Z17]; exact h0)
   refine ⟨.slice none 0 0, w, C.bindO id' (C.m id), ?_, ?_, ?_⟩
   ·have hb : byteCells x = [] := List.length_eq_zero_iff.1 (by rw [hlb]; exact h0)
    have hc := hsrc.cells
    rw [h0] at hc
    rw [hb] at hc
    simp [Builtin.append_, Go.run_underlying hu.ud, Go.run_underlying hux.ud, sizeOf, typeInfo, hi, hsz, Builtin.lenOf, h0, hc, Result.andThen, Sem.run_bind]
   ·have := VR.ownNil (C := C.bindO id' (C.m id)) id' 1 (by rw [Ctx.bindO_m]; exact hmn) List.mem_cons_self
    simpa [h0] using this
   ·rw [hx]
    refine Zt hs hH (hle _) rfl (.inr hid) List.mem_cons_self (hav _) rfl rfl rfl (Nat.le_refl _) (fun b N hm => .inl ⟨N, by rw [Ctx.bindO_m] at hm; exact hm⟩) (fun _ _ _ => rfl) ?_
    exact ⟨nofun, .inl ⟨by rw [Ctx.bindO_m]; exact hmn, rfl⟩⟩
  ·have := nogo none 0 [] (by simp [Builtin.firstCells]) (by simpa using h0) rfl (by intro i e j cc h; simp at h) nofun
   simpa using this
 | own _ _ _ _ b N cap hmb _ hcap hlc hcm =>
  subst hxn
  rcases hor with ⟨hm0, _⟩ | ⟨b', N', cells, hmb', hh, hsN, hfit, hrow⟩
  ·rw [hmb] at hm0; cases hm0
  ·rw [hmb] at hmb'; cases hmb'
   simp only [Nat.zero_mul, Nat.zero_add] at hcap hv ⊢
   rcases Nat.lt_or_ge cap (xs.length + x.size) with hg | hg
   ·obtain ⟨olds, ho1, ho2, ho3, ho4⟩ := hcellsp ⟨b, 0, none⟩ (by simpa using (by cases hv; rfl : (some (⟨b, 0, none⟩ : Addr)) = adp).symm)
    exact nogo (some ⟨b, 0, none⟩) cap olds (by rw [hsz]; exact run_firstCells_some w.drew 1 xs.length ⟨b, 0, none⟩ xs.length cap olds ho1 (by simpa using ho2)) hg ho1 ho4 ho3
   ·have hNs : xs.length + x.size ≤ cells.size := by rw [hsN, ← hcap]; omega
    have hst := run_storeCells_at P b xs.length e (byteCells x) 0 cells w hh (by rw [hlb]; omega) hsrc.one
    simp only [Nat.add_zero] at hst
    have hrun : (Builtin.append_ #[t, tx] ty #[.slice (some ⟨b, 0, none⟩) xs.length cap, .string x]).run P w = .ok (.slice (some ⟨b, 0, none⟩) (xs.length + x.size) cap) (w.setRow b (cells.toList.take xs.length ++ byteCells x ++ cells.toList.drop (xs.length + (byteCells x).length)).toArray) := by
     have hc := hsrc.cells
     simp [Builtin.append_, Go.run_underlying hu.ud, Go.run_underlying hux.ud, sizeOf, typeInfo, hi, hsz, Builtin.lenOf, hg, hc, hst, Z1z, Result.andThen, Sem.run_bind]
    refine ⟨_, _, C.bindO id' (C.m id), hrun, ?_, ?_⟩
    ·have := VR.own (C := C.bindO id' (C.m id)) id' 1 0 (xs.length + x.size) b N cap (by rw [Ctx.bindO_m]; exact hmb) List.mem_cons_self (by simpa using hcap) hg hcm
     simpa using this
    ·refine Zt hs hH (hle _) rfl (.inr hid) List.mem_cons_self (hav _) rfl rfl rfl (by simp) (fun b2 N2 hm2 => .inl ⟨N2, by rw [Ctx.bindO_m] at hm2; exact hm2⟩) (fun b2 hb2 hne => setRow_other w b b2 _ (by rintro rfl; exact hne N hmb)) ?_
     refine ⟨?_, .inr ⟨b, N, _, by rw [Ctx.bindO_m]; exact hmb, setRow_heap w b cells _ e (0, 0) hh, ?_, ?_, ?_⟩⟩
     ·intro e' he'
      rcases List.mem_append.1 he' with h | h
      ·exact hlenx e' h
      ·exact hlen e' h
     ·simp only [List.size_toArray, List.length_append, List.length_take, List.length_drop, Array.length_toList, hlb]
      omega
     ·rw [List.length_append, Z17]; omega
     ·intro i' e' j cc he' hcc
      rw [List.getElem?_toArray, Zr _ _ _ _ (by rw [hlb, Array.length_toList]; exact hNs), hlb]
      rw [List.getElem?_append] at he'
      split at he'
      ·rename_i hlt
       have hj : j < 1 := by rw [← hlenx e' (List.mem_of_getElem? he')]; exact Z7 hcc
       rw [if_pos (by omega), Array.getElem?_toList]
       obtain ⟨u, h1, h2, h3⟩ := hrow i' e' j cc he' hcc
       exact ⟨u, h1, h2.mono (hle _), h3⟩
      ·rename_i hge
       obtain ⟨u, h1, h2⟩ := hn4 (i' - xs.length) e' j cc he' hcc
       have hlt := Z7 h1
       rw [hlb] at hlt
       rw [if_neg (by omega), if_pos (by omega)]
       refine ⟨u, ?_, h2 _, hsrc.one u (List.mem_of_getElem? h1)⟩
       rw [← h1]; congr 1; omega
end Go.Sx
namespace Go.Sx
open Go
variable {P : Program} {ro : Option Nat} {Q : Exit → St → Prop} {s : St} {ops : Array Oper} {o : Oper} {rest : List Oper} {T : List (Nat × AV)}
end Go.Sx
namespace Go.Sx
open Go
section
variable {P : Program} {T : List (Nat × AV)} {o : Oper}
end
section
variable {P : Program} {ro : Option Nat} {Q : Exit → St → Prop} {s : St} {ops : Array Oper} {o : Oper} {rest : List Oper}
end
end Go.Sx
namespace Go.Sx
open Go
section
variable {P : Program} {ro : Option Nat} {Q : Exit → St → Prop} {s : St}
end
section
variable {P : Program} {T : List (Nat × AV)} {o : Oper}
theorem Z0n {t t' : TypeId} {p q : Operand} {x y : ByteArray} (ho : o.op = .binOp .add t p q t') (hp : ev T p = some (.v (.string x))) (hq : ev T q = some (.v (.string y))) (hz : x.size + y.size ≤ 9223372036854775807) : Eff P o T [] (.v (.string (x ++ y))) [] :=
 Z6 (by intro c; rw [ho]; nofun) fun C H a w hw hn hv => by
  have h2 := VR.val (hv p (by rw [ho]; simp [Op.operands]) _ hp)
  have h3 := VR.val (hv q (by rw [ho]; simp [Op.operands]) _ hq)
  refine ⟨.string (x ++ y), ?_, .v _⟩
  have hm : ¬ ((x.size + y.size : Nat) : Int) > IntKind.i64.max := by
   have : IntKind.i64.max = 9223372036854775807 := rfl
   omega
  simp [execOp, ho, h2, h3, eqGuard, binOp, Op.stringOp, Sem.run_bind, Result.andThen]
  rw [if_neg (by simpa using hm)]
end
def pull : AHeap → List Nat → Option (AHeap × AHeap)
 | H, [] => some ([], H)
 | H, k :: ks => match H[k]? with
  | some p => match pull (H.eraseIdx k) ks with
   | some (A, B) => some (p :: A, B)
   | none => none
  | none => none
end Go.Sx
namespace Go.Sx
open Go
def ARounds (P : Program) (ro : Option Nat) (c : Code) (Q : Exit → St → Prop) : Nat → St → Prop
 | 0, _ => False
 | m + 1, s => AWp P ro c (thenQ (ARounds P ro c Q m) Q) s
theorem Z4d {P : Program} {ro : Option Nat} {c : Code} {Q : Exit → St → Prop} {s : St} (m : Nat) (h : ARounds P ro c Q m s) : AWp P ro (.loop c) Q s := by
 intro Z C0 H0 w0 C a w he hs
 refine wpIn_loop_rounds m ?_
 induction m generalizing s C a w with
 | zero => exact h.elim
 | succ m ih =>
  refine wpIn_mono (h Z C0 H0 w0 C a w he hs) ?_
  rintro e a' w' ⟨h1, C', s', hq, hs', he'⟩
  cases e with
  | normal => exact ih hq C' a' w' he' hs'
  | outgrown => exact absurd rfl h1
  | _ => exact ⟨h1, C', s', hq, hs', he'⟩
theorem zRd {P : Program} {ro : Option Nat} {c : Code} {Q : Exit → St → Prop} {s : St} {m : Nat} (h : AWp P ro c (thenQ (ARounds P ro c Q m) Q) s) : ARounds P ro c Q (m + 1) s := h
end Go.Sx
