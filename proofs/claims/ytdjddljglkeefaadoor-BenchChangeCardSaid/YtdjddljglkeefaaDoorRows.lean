/-
  NARROWER THAN 'FOR EVERY INPUT', by the rows' own cells (each row's printed sentence says how): BenchRules: laid · BenchTrue: laid · BenchFill: laid · BenchChange: laid · BenchLack: laid.
  DERIVED. THE GIVEN ROWS OF THIS SEAT. 5 by the template 'for every input the law returns true; each argument reads behind the call as it read before'; 0 by the template 'total and deterministic' (their statements: YtdjddljglkeefaaDoorTotals.lean).
  GIVEN WITH THE SEED: the statements are not yours to turn. If you find one false, say at which input.
  Laid BY PROGRAM, IN A SANDBOX (cutbox-rows.mjs): the forced cells as the released guide's own fill.sh prints them over the translation 078598bbdb31360d… (all of the seat's roots in one cut). By AI agents, Wed Nov 11 2026. No macro, syntax, notation, axiom, sorry.
-/
import Derived.Test.YtdjddljglkeefaaDoorChecked
import GoSem.Claim
import GoSem.ClaimJoined
import GoSem.ClaimMapViews
import Derived.JoinedTies
import Derived.KernelRfl
namespace Go.Proofs.YtdjddljglkeefaaDoor
/- THE CELL 'sum', in the pinned program and in every row, IS THE sha256 OF THE DUMP (.gsa) THAT YtdjddljglkeefaaDoorProg.lean LOADS. Nothing in Lean hashes anything: it is a label: what it is worth is what the hold of that sum in a sandbox is worth. -/
noncomputable def Tryd.pinned : Pinned := { name := "ytdjddljglkeefaadoor", sum := "078598bbdb31360de54c42b9c72c71c673e28d129677f053d4d01d329df4e819", checked := Tryd.checked }
namespace Rows
def none {H : Type} : Left H := { results := [], args := [] }

/- WHAT THE LISTED PACKAGE-LEVEL VARIABLES READ AS WHEN THE CALL BEGINS. Each datum BY PROGRAM (the guide's laid-datum.mjs) off the statement by which the dump's own 'gosem.cut.vars' lays the variable. In a bare row this is a premise. The card (YtdjddljglkeefaaDoorCards.lean) ties it to the program's text. -/
def laid_decani_voice_unknown {H : Type} : DataW H := .agg [.lit (.int .i64 (-1)), .lit (.int .i64 (-1)), .lit (.int .i64 (-1)), .lit (.int .i64 (-1)), .lit (.int .i64 (-1))]
def laid_decani_voice_nobody {H : Type} : DataW H := .agg [.lit (.int .i64 (-1)), .lit (.int .i64 (-1))]
def laid_decani_voice_kindsOf {H : Type} : DataW H := .iface "func table" (.agg [.iface "func" (.lit (.string [40, 100, 101, 99, 97, 110, 105, 47, 118, 111, 105, 99, 101, 46, 118, 111, 116, 101, 115, 41, 46, 115, 111, 109, 101])), .iface "func" (.lit (.string [40, 100, 101, 99, 97, 110, 105, 47, 118, 111, 105, 99, 101, 46, 118, 111, 116, 101, 115, 41, 46, 101, 97, 99, 104]))])
def laid_decani_bench_nowhere {H : Type} : DataW H := .agg [.lit (.int .i64 (-1)), .lit (.int .i64 (-1))]

/-- 'decanilaw07.BenchRules': WHATEVER THE INPUT: true; the input reads as it did. -/
def benchRulesSpec : ChangeSpec := { name := "benchRules", fn := fun _ => fun
  | [d1, d2, d3] => { results := [.lit (.bool true)], args := [d1, d2, d3] }
  | _ => none }
def benchRulesRow : OpenClaim := { program := "ytdjddljglkeefaadoor", sum := "078598bbdb31360de54c42b9c72c71c673e28d129677f053d4d01d329df4e819", func := "decani/decanilaw07.BenchRules", spec := "benchRules", unfollowed := true, recurses := true, named := ["decani/voice.nobody", "decani/voice.unknown", "decani/bench.nowhere", "decani/voice.kindsOf"], plainKeys := false, apart := false, laid := [("decani/voice.unknown", laid_decani_voice_unknown), ("decani/voice.nobody", laid_decani_voice_nobody), ("decani/voice.kindsOf", laid_decani_voice_kindsOf), ("decani/bench.nowhere", laid_decani_bench_nowhere)] }
def BenchRulesSaid : Prop := benchRulesRow.holds Tryd.pinned (OpenSpec.ofChange benchRulesSpec)

/-- ITS FALSE NEIGHBOUR: 'it returns false'. Refute it at one input. -/
def benchRulesWrong : ChangeSpec := { name := "benchRules", fn := fun _ => fun
  | [d1, d2, d3] => { results := [.lit (.bool false)], args := [d1, d2, d3] }
  | _ => none }
def BenchRulesWrongFalsely : Prop := benchRulesRow.holds Tryd.pinned (OpenSpec.ofChange benchRulesWrong)

/-- 'decanilaw07.BenchTrue': WHATEVER THE INPUT: true; the input reads as it did. -/
def benchTrueSpec : ChangeSpec := { name := "benchTrue", fn := fun _ => fun
  | [d1, d2] => { results := [.lit (.bool true)], args := [d1, d2] }
  | _ => none }
def benchTrueRow : OpenClaim := { program := "ytdjddljglkeefaadoor", sum := "078598bbdb31360de54c42b9c72c71c673e28d129677f053d4d01d329df4e819", func := "decani/decanilaw07.BenchTrue", spec := "benchTrue", unfollowed := true, recurses := true, named := ["decani/voice.nobody", "decani/voice.unknown", "decani/bench.nowhere", "decani/voice.kindsOf"], plainKeys := false, apart := false, laid := [("decani/voice.unknown", laid_decani_voice_unknown), ("decani/voice.nobody", laid_decani_voice_nobody), ("decani/voice.kindsOf", laid_decani_voice_kindsOf), ("decani/bench.nowhere", laid_decani_bench_nowhere)] }
def BenchTrueSaid : Prop := benchTrueRow.holds Tryd.pinned (OpenSpec.ofChange benchTrueSpec)

/-- ITS FALSE NEIGHBOUR: 'it returns false'. Refute it at one input. -/
def benchTrueWrong : ChangeSpec := { name := "benchTrue", fn := fun _ => fun
  | [d1, d2] => { results := [.lit (.bool false)], args := [d1, d2] }
  | _ => none }
def BenchTrueWrongFalsely : Prop := benchTrueRow.holds Tryd.pinned (OpenSpec.ofChange benchTrueWrong)

/-- 'decanilaw07.BenchFill': WHATEVER THE INPUT: true; the input reads as it did. -/
def benchFillSpec : ChangeSpec := { name := "benchFill", fn := fun _ => fun
  | [d1, d2] => { results := [.lit (.bool true)], args := [d1, d2] }
  | _ => none }
def benchFillRow : OpenClaim := { program := "ytdjddljglkeefaadoor", sum := "078598bbdb31360de54c42b9c72c71c673e28d129677f053d4d01d329df4e819", func := "decani/decanilaw07.BenchFill", spec := "benchFill", unfollowed := true, recurses := true, named := ["decani/voice.nobody", "decani/voice.unknown", "decani/bench.nowhere", "decani/voice.kindsOf"], plainKeys := false, apart := false, laid := [("decani/voice.unknown", laid_decani_voice_unknown), ("decani/voice.nobody", laid_decani_voice_nobody), ("decani/voice.kindsOf", laid_decani_voice_kindsOf), ("decani/bench.nowhere", laid_decani_bench_nowhere)] }
def BenchFillSaid : Prop := benchFillRow.holds Tryd.pinned (OpenSpec.ofChange benchFillSpec)

/-- ITS FALSE NEIGHBOUR: 'it returns false'. Refute it at one input. -/
def benchFillWrong : ChangeSpec := { name := "benchFill", fn := fun _ => fun
  | [d1, d2] => { results := [.lit (.bool false)], args := [d1, d2] }
  | _ => none }
def BenchFillWrongFalsely : Prop := benchFillRow.holds Tryd.pinned (OpenSpec.ofChange benchFillWrong)

/-- 'decanilaw07.BenchChange': WHATEVER THE INPUT: true; the input reads as it did. -/
def benchChangeSpec : ChangeSpec := { name := "benchChange", fn := fun _ => fun
  | [d1, d2, d3] => { results := [.lit (.bool true)], args := [d1, d2, d3] }
  | _ => none }
def benchChangeRow : OpenClaim := { program := "ytdjddljglkeefaadoor", sum := "078598bbdb31360de54c42b9c72c71c673e28d129677f053d4d01d329df4e819", func := "decani/decanilaw07.BenchChange", spec := "benchChange", unfollowed := true, recurses := true, named := ["decani/voice.nobody", "decani/voice.unknown", "decani/bench.nowhere", "decani/voice.kindsOf"], plainKeys := false, apart := false, laid := [("decani/voice.unknown", laid_decani_voice_unknown), ("decani/voice.nobody", laid_decani_voice_nobody), ("decani/voice.kindsOf", laid_decani_voice_kindsOf), ("decani/bench.nowhere", laid_decani_bench_nowhere)] }
def BenchChangeSaid : Prop := benchChangeRow.holds Tryd.pinned (OpenSpec.ofChange benchChangeSpec)

/-- ITS FALSE NEIGHBOUR: 'it returns false'. Refute it at one input. -/
def benchChangeWrong : ChangeSpec := { name := "benchChange", fn := fun _ => fun
  | [d1, d2, d3] => { results := [.lit (.bool false)], args := [d1, d2, d3] }
  | _ => none }
def BenchChangeWrongFalsely : Prop := benchChangeRow.holds Tryd.pinned (OpenSpec.ofChange benchChangeWrong)

/-- 'decanilaw07.BenchLack': WHATEVER THE INPUT: true; the input reads as it did. -/
def benchLackSpec : ChangeSpec := { name := "benchLack", fn := fun _ => fun
  | [d1, d2] => { results := [.lit (.bool true)], args := [d1, d2] }
  | _ => none }
def benchLackRow : OpenClaim := { program := "ytdjddljglkeefaadoor", sum := "078598bbdb31360de54c42b9c72c71c673e28d129677f053d4d01d329df4e819", func := "decani/decanilaw07.BenchLack", spec := "benchLack", unfollowed := true, recurses := true, named := ["decani/voice.nobody", "decani/voice.unknown", "decani/bench.nowhere", "decani/voice.kindsOf"], plainKeys := false, apart := false, laid := [("decani/voice.unknown", laid_decani_voice_unknown), ("decani/voice.nobody", laid_decani_voice_nobody), ("decani/voice.kindsOf", laid_decani_voice_kindsOf), ("decani/bench.nowhere", laid_decani_bench_nowhere)] }
def BenchLackSaid : Prop := benchLackRow.holds Tryd.pinned (OpenSpec.ofChange benchLackSpec)

/-- ITS FALSE NEIGHBOUR: 'it returns false'. Refute it at one input. -/
def benchLackWrong : ChangeSpec := { name := "benchLack", fn := fun _ => fun
  | [d1, d2] => { results := [.lit (.bool false)], args := [d1, d2] }
  | _ => none }
def BenchLackWrongFalsely : Prop := benchLackRow.holds Tryd.pinned (OpenSpec.ofChange benchLackWrong)

/- THE SECOND FORM. 'bulk': how many values and letters a reading holds, each counted each time it is reached (what is shared counts as often as it is met; a slice's spare places count too). A statement '..UptoSaid' is the law's where the arguments, and the package variables that the reading takes, are together of bulk at most 1048576: NARROWER than '..Said'. Prove '..Said' where nothing that the law and all that it calls make is longer than what came in: it says more and counts as full. Else prove '..UptoSaid'. A law counts once. -/
mutual
def uptoBulk {H : Type} : DataW H → Nat
  | .lit (.string bytes) => bytes.length + 1
  | .lit _ => 1
  | .nil => 1
  | .ptr d => uptoBulk d + 1
  | .slice elems spare => uptoBulkAll elems + uptoBulkAll spare + 1
  | .agg parts => uptoBulkAll parts + 1
  | .iface _ d => uptoBulk d + 1
  | .map entries => uptoBulkEntries entries + 1
  | .held _ => 1
def uptoBulkAll {H : Type} : List (DataW H) → Nat
  | [] => 0
  | d :: r => uptoBulk d + uptoBulkAll r
def uptoBulkEntries {H : Type} : List (Lit × DataW H) → Nat
  | [] => 0
  | x :: r => uptoBulkEntry x + uptoBulkEntries r
def uptoBulkEntry {H : Type} : Lit × DataW H → Nat
  | (.string bytes, d) => bytes.length + uptoBulk d + 1
  | (_, d) => uptoBulk d + 1
 end
def uptoSmall : (H : Type) → List (DataW H) → Bool := fun _ ds => decide (uptoBulkAll ds ≤ 1048576)
def OpenSpec.upto (s : _root_.Go.ChangeSpec) : _root_.Go.OpenSpec := { _root_.Go.OpenSpec.ofChange s with cond := some uptoSmall }

/-- 'decanilaw07.BenchRules', WHERE WHAT IT READS IS OF BULK AT MOST 1048576: true; the input reads as it did. -/
def benchRulesUptoRow : OpenClaim := { program := "ytdjddljglkeefaadoor", sum := "078598bbdb31360de54c42b9c72c71c673e28d129677f053d4d01d329df4e819", func := "decani/decanilaw07.BenchRules", spec := "benchRules", unfollowed := true, recurses := true, named := ["decani/voice.nobody", "decani/voice.unknown", "decani/bench.nowhere", "decani/voice.kindsOf"], plainKeys := false, apart := false, laid := [("decani/voice.unknown", laid_decani_voice_unknown), ("decani/voice.nobody", laid_decani_voice_nobody), ("decani/voice.kindsOf", laid_decani_voice_kindsOf), ("decani/bench.nowhere", laid_decani_bench_nowhere)], narrowed := true }
def BenchRulesUptoSaid : Prop := benchRulesUptoRow.holds Tryd.pinned (OpenSpec.upto benchRulesSpec)

/-- 'decanilaw07.BenchTrue', WHERE WHAT IT READS IS OF BULK AT MOST 1048576: true; the input reads as it did. -/
def benchTrueUptoRow : OpenClaim := { program := "ytdjddljglkeefaadoor", sum := "078598bbdb31360de54c42b9c72c71c673e28d129677f053d4d01d329df4e819", func := "decani/decanilaw07.BenchTrue", spec := "benchTrue", unfollowed := true, recurses := true, named := ["decani/voice.nobody", "decani/voice.unknown", "decani/bench.nowhere", "decani/voice.kindsOf"], plainKeys := false, apart := false, laid := [("decani/voice.unknown", laid_decani_voice_unknown), ("decani/voice.nobody", laid_decani_voice_nobody), ("decani/voice.kindsOf", laid_decani_voice_kindsOf), ("decani/bench.nowhere", laid_decani_bench_nowhere)], narrowed := true }
def BenchTrueUptoSaid : Prop := benchTrueUptoRow.holds Tryd.pinned (OpenSpec.upto benchTrueSpec)

/-- 'decanilaw07.BenchFill', WHERE WHAT IT READS IS OF BULK AT MOST 1048576: true; the input reads as it did. -/
def benchFillUptoRow : OpenClaim := { program := "ytdjddljglkeefaadoor", sum := "078598bbdb31360de54c42b9c72c71c673e28d129677f053d4d01d329df4e819", func := "decani/decanilaw07.BenchFill", spec := "benchFill", unfollowed := true, recurses := true, named := ["decani/voice.nobody", "decani/voice.unknown", "decani/bench.nowhere", "decani/voice.kindsOf"], plainKeys := false, apart := false, laid := [("decani/voice.unknown", laid_decani_voice_unknown), ("decani/voice.nobody", laid_decani_voice_nobody), ("decani/voice.kindsOf", laid_decani_voice_kindsOf), ("decani/bench.nowhere", laid_decani_bench_nowhere)], narrowed := true }
def BenchFillUptoSaid : Prop := benchFillUptoRow.holds Tryd.pinned (OpenSpec.upto benchFillSpec)

/-- 'decanilaw07.BenchChange', WHERE WHAT IT READS IS OF BULK AT MOST 1048576: true; the input reads as it did. -/
def benchChangeUptoRow : OpenClaim := { program := "ytdjddljglkeefaadoor", sum := "078598bbdb31360de54c42b9c72c71c673e28d129677f053d4d01d329df4e819", func := "decani/decanilaw07.BenchChange", spec := "benchChange", unfollowed := true, recurses := true, named := ["decani/voice.nobody", "decani/voice.unknown", "decani/bench.nowhere", "decani/voice.kindsOf"], plainKeys := false, apart := false, laid := [("decani/voice.unknown", laid_decani_voice_unknown), ("decani/voice.nobody", laid_decani_voice_nobody), ("decani/voice.kindsOf", laid_decani_voice_kindsOf), ("decani/bench.nowhere", laid_decani_bench_nowhere)], narrowed := true }
def BenchChangeUptoSaid : Prop := benchChangeUptoRow.holds Tryd.pinned (OpenSpec.upto benchChangeSpec)

/-- 'decanilaw07.BenchLack', WHERE WHAT IT READS IS OF BULK AT MOST 1048576: true; the input reads as it did. -/
def benchLackUptoRow : OpenClaim := { program := "ytdjddljglkeefaadoor", sum := "078598bbdb31360de54c42b9c72c71c673e28d129677f053d4d01d329df4e819", func := "decani/decanilaw07.BenchLack", spec := "benchLack", unfollowed := true, recurses := true, named := ["decani/voice.nobody", "decani/voice.unknown", "decani/bench.nowhere", "decani/voice.kindsOf"], plainKeys := false, apart := false, laid := [("decani/voice.unknown", laid_decani_voice_unknown), ("decani/voice.nobody", laid_decani_voice_nobody), ("decani/voice.kindsOf", laid_decani_voice_kindsOf), ("decani/bench.nowhere", laid_decani_bench_nowhere)], narrowed := true }
def BenchLackUptoSaid : Prop := benchLackUptoRow.holds Tryd.pinned (OpenSpec.upto benchLackSpec)

end Rows
end Go.Proofs.YtdjddljglkeefaaDoor
