/-
  NARROWER THAN 'FOR EVERY INPUT', by the rows' own cells (each row's printed sentence says how): BenchCans: laid · BenchFills: laid · BenchChanges: laid.
  DERIVED. THE GIVEN ROWS OF THIS SEAT. 3 by the template 'for every input the law returns true; each argument reads behind the call as it read before'; 0 by the template 'total and deterministic' (their statements: YtopknkghclncnaaGreatDoorTotals.lean).
  GIVEN WITH THE SEED: the statements are not yours to turn. If you find one false, say at which input.
  Laid BY PROGRAM, IN A SANDBOX (cutbox-rows.mjs): the forced cells as the released guide's own fill.sh prints them over the translation d57818a72b78fd78… (all of the seat's roots in one cut). By AI agents, Wed Nov 11 2026. No macro, syntax, notation, axiom, sorry.
-/
import Derived.Test.YtopknkghclncnaaGreatDoorChecked
import GoSem.Claim
import GoSem.ClaimJoined
import GoSem.ClaimMapViews
import Derived.JoinedTies
import Derived.KernelRfl
namespace Go.Proofs.YtopknkghclncnaaGreatDoor
/- THE CELL 'sum', in the pinned program and in every row, IS THE sha256 OF THE DUMP (.gsa) THAT YtopknkghclncnaaGreatDoorProg.lean LOADS. Nothing in Lean hashes anything: it is a label: what it is worth is what the hold of that sum in a sandbox is worth. -/
noncomputable def Tryz.pinned : Pinned := { name := "ytopknkghclncnaagreatdoor", sum := "d57818a72b78fd7846422eebb67fa27c34699b2763202b1175401ea01d236a9b", checked := Tryz.checked }
namespace Rows
def none {H : Type} : Left H := { results := [], args := [] }

/- WHAT THE LISTED PACKAGE-LEVEL VARIABLES READ AS WHEN THE CALL BEGINS. Each datum BY PROGRAM (the guide's laid-datum.mjs) off the statement by which the dump's own 'gosem.cut.vars' lays the variable. In a bare row this is a premise. The card (YtopknkghclncnaaGreatDoorCards.lean) ties it to the program's text. -/
def laid_decani_voice_unknown {H : Type} : DataW H := .agg [.lit (.int .i64 (-1)), .lit (.int .i64 (-1)), .lit (.int .i64 (-1)), .lit (.int .i64 (-1)), .lit (.int .i64 (-1))]
def laid_decani_voice_nobody {H : Type} : DataW H := .agg [.lit (.int .i64 (-1)), .lit (.int .i64 (-1))]
def laid_decani_voice_kindsOf {H : Type} : DataW H := .iface "func table" (.agg [.iface "func" (.lit (.string [40, 100, 101, 99, 97, 110, 105, 47, 118, 111, 105, 99, 101, 46, 118, 111, 116, 101, 115, 41, 46, 115, 111, 109, 101])), .iface "func" (.lit (.string [40, 100, 101, 99, 97, 110, 105, 47, 118, 111, 105, 99, 101, 46, 118, 111, 116, 101, 115, 41, 46, 101, 97, 99, 104]))])
def laid_decani_bench_nowhere {H : Type} : DataW H := .agg [.lit (.int .i64 (-1)), .lit (.int .i64 (-1))]

/-- 'decanilaw07.BenchCans': WHATEVER THE INPUT: true; the input reads as it did. -/
def benchCansSpec : ChangeSpec := { name := "benchCans", fn := fun _ => fun
  | [d1, d2, d3] => { results := [.lit (.bool true)], args := [d1, d2, d3] }
  | _ => none }
def benchCansRow : OpenClaim := { program := "ytopknkghclncnaagreatdoor", sum := "d57818a72b78fd7846422eebb67fa27c34699b2763202b1175401ea01d236a9b", func := "decani/decanilaw07.BenchCans", spec := "benchCans", unfollowed := true, recurses := true, named := ["decani/voice.nobody", "decani/voice.unknown", "decani/bench.nowhere", "decani/voice.kindsOf"], plainKeys := false, apart := false, laid := [("decani/voice.unknown", laid_decani_voice_unknown), ("decani/voice.nobody", laid_decani_voice_nobody), ("decani/voice.kindsOf", laid_decani_voice_kindsOf), ("decani/bench.nowhere", laid_decani_bench_nowhere)] }
def BenchCansSaid : Prop := benchCansRow.holds Tryz.pinned (OpenSpec.ofChange benchCansSpec)

/-- ITS FALSE NEIGHBOUR: 'it returns false'. Refute it at one input. -/
def benchCansWrong : ChangeSpec := { name := "benchCans", fn := fun _ => fun
  | [d1, d2, d3] => { results := [.lit (.bool false)], args := [d1, d2, d3] }
  | _ => none }
def BenchCansWrongFalsely : Prop := benchCansRow.holds Tryz.pinned (OpenSpec.ofChange benchCansWrong)

/-- 'decanilaw07.BenchFills': WHATEVER THE INPUT: true; the input reads as it did. -/
def benchFillsSpec : ChangeSpec := { name := "benchFills", fn := fun _ => fun
  | [d] => { results := [.lit (.bool true)], args := [d] }
  | _ => none }
def benchFillsRow : OpenClaim := { program := "ytopknkghclncnaagreatdoor", sum := "d57818a72b78fd7846422eebb67fa27c34699b2763202b1175401ea01d236a9b", func := "decani/decanilaw07.BenchFills", spec := "benchFills", unfollowed := true, recurses := true, named := ["decani/voice.nobody", "decani/voice.unknown", "decani/bench.nowhere", "decani/voice.kindsOf"], plainKeys := false, apart := false, laid := [("decani/voice.unknown", laid_decani_voice_unknown), ("decani/voice.nobody", laid_decani_voice_nobody), ("decani/voice.kindsOf", laid_decani_voice_kindsOf), ("decani/bench.nowhere", laid_decani_bench_nowhere)] }
def BenchFillsSaid : Prop := benchFillsRow.holds Tryz.pinned (OpenSpec.ofChange benchFillsSpec)

/-- ITS FALSE NEIGHBOUR: 'it returns false'. Refute it at one input. -/
def benchFillsWrong : ChangeSpec := { name := "benchFills", fn := fun _ => fun
  | [d] => { results := [.lit (.bool false)], args := [d] }
  | _ => none }
def BenchFillsWrongFalsely : Prop := benchFillsRow.holds Tryz.pinned (OpenSpec.ofChange benchFillsWrong)

/-- 'decanilaw07.BenchChanges': WHATEVER THE INPUT: true; the input reads as it did. -/
def benchChangesSpec : ChangeSpec := { name := "benchChanges", fn := fun _ => fun
  | [d] => { results := [.lit (.bool true)], args := [d] }
  | _ => none }
def benchChangesRow : OpenClaim := { program := "ytopknkghclncnaagreatdoor", sum := "d57818a72b78fd7846422eebb67fa27c34699b2763202b1175401ea01d236a9b", func := "decani/decanilaw07.BenchChanges", spec := "benchChanges", unfollowed := true, recurses := true, named := ["decani/voice.nobody", "decani/voice.unknown", "decani/bench.nowhere", "decani/voice.kindsOf"], plainKeys := false, apart := false, laid := [("decani/voice.unknown", laid_decani_voice_unknown), ("decani/voice.nobody", laid_decani_voice_nobody), ("decani/voice.kindsOf", laid_decani_voice_kindsOf), ("decani/bench.nowhere", laid_decani_bench_nowhere)] }
def BenchChangesSaid : Prop := benchChangesRow.holds Tryz.pinned (OpenSpec.ofChange benchChangesSpec)

/-- ITS FALSE NEIGHBOUR: 'it returns false'. Refute it at one input. -/
def benchChangesWrong : ChangeSpec := { name := "benchChanges", fn := fun _ => fun
  | [d] => { results := [.lit (.bool false)], args := [d] }
  | _ => none }
def BenchChangesWrongFalsely : Prop := benchChangesRow.holds Tryz.pinned (OpenSpec.ofChange benchChangesWrong)

/- THE SECOND FORM. 'bulk': how many values and letters a reading holds, each counted each time it is reached (what is shared counts as often as it is met; a slice's spare places count too). A statement '..UptoSaid' is the law's where the arguments, and the package variables that the reading takes, are together of bulk at most 1048576: NARROWER than '..Said'. Prove '..Said' where nothing that the law and all that it calls make is longer than what came in: it says more and counts as full. Else prove '..UptoSaid'. A law counts once. -/
mutual
def uptoBulk {H : Type} : DataW H → Nat
  | .lit (.string bytes) => bytes.length + 1
  | .lit _ => 1
  | .nil => 1
  | .ptr d => uptoBulk d + 1
  | .slice elems spare => uptoBulkAll elems + uptoBulkAll spare + 1
  | .agg parts => uptoBulkAll parts + 1
  | .iface _ d => uptoBulk d + 1
  | .map entries => uptoBulkEntries entries + 1
  | .held _ => 1
def uptoBulkAll {H : Type} : List (DataW H) → Nat
  | [] => 0
  | d :: r => uptoBulk d + uptoBulkAll r
def uptoBulkEntries {H : Type} : List (Lit × DataW H) → Nat
  | [] => 0
  | x :: r => uptoBulkEntry x + uptoBulkEntries r
def uptoBulkEntry {H : Type} : Lit × DataW H → Nat
  | (.string bytes, d) => bytes.length + uptoBulk d + 1
  | (_, d) => uptoBulk d + 1
 end
def uptoSmall : (H : Type) → List (DataW H) → Bool := fun _ ds => decide (uptoBulkAll ds ≤ 1048576)
def OpenSpec.upto (s : _root_.Go.ChangeSpec) : _root_.Go.OpenSpec := { _root_.Go.OpenSpec.ofChange s with cond := some uptoSmall }

/-- 'decanilaw07.BenchCans', WHERE WHAT IT READS IS OF BULK AT MOST 1048576: true; the input reads as it did. -/
def benchCansUptoRow : OpenClaim := { program := "ytopknkghclncnaagreatdoor", sum := "d57818a72b78fd7846422eebb67fa27c34699b2763202b1175401ea01d236a9b", func := "decani/decanilaw07.BenchCans", spec := "benchCans", unfollowed := true, recurses := true, named := ["decani/voice.nobody", "decani/voice.unknown", "decani/bench.nowhere", "decani/voice.kindsOf"], plainKeys := false, apart := false, laid := [("decani/voice.unknown", laid_decani_voice_unknown), ("decani/voice.nobody", laid_decani_voice_nobody), ("decani/voice.kindsOf", laid_decani_voice_kindsOf), ("decani/bench.nowhere", laid_decani_bench_nowhere)], narrowed := true }
def BenchCansUptoSaid : Prop := benchCansUptoRow.holds Tryz.pinned (OpenSpec.upto benchCansSpec)

/-- 'decanilaw07.BenchFills', WHERE WHAT IT READS IS OF BULK AT MOST 1048576: true; the input reads as it did. -/
def benchFillsUptoRow : OpenClaim := { program := "ytopknkghclncnaagreatdoor", sum := "d57818a72b78fd7846422eebb67fa27c34699b2763202b1175401ea01d236a9b", func := "decani/decanilaw07.BenchFills", spec := "benchFills", unfollowed := true, recurses := true, named := ["decani/voice.nobody", "decani/voice.unknown", "decani/bench.nowhere", "decani/voice.kindsOf"], plainKeys := false, apart := false, laid := [("decani/voice.unknown", laid_decani_voice_unknown), ("decani/voice.nobody", laid_decani_voice_nobody), ("decani/voice.kindsOf", laid_decani_voice_kindsOf), ("decani/bench.nowhere", laid_decani_bench_nowhere)], narrowed := true }
def BenchFillsUptoSaid : Prop := benchFillsUptoRow.holds Tryz.pinned (OpenSpec.upto benchFillsSpec)

/-- 'decanilaw07.BenchChanges', WHERE WHAT IT READS IS OF BULK AT MOST 1048576: true; the input reads as it did. -/
def benchChangesUptoRow : OpenClaim := { program := "ytopknkghclncnaagreatdoor", sum := "d57818a72b78fd7846422eebb67fa27c34699b2763202b1175401ea01d236a9b", func := "decani/decanilaw07.BenchChanges", spec := "benchChanges", unfollowed := true, recurses := true, named := ["decani/voice.nobody", "decani/voice.unknown", "decani/bench.nowhere", "decani/voice.kindsOf"], plainKeys := false, apart := false, laid := [("decani/voice.unknown", laid_decani_voice_unknown), ("decani/voice.nobody", laid_decani_voice_nobody), ("decani/voice.kindsOf", laid_decani_voice_kindsOf), ("decani/bench.nowhere", laid_decani_bench_nowhere)], narrowed := true }
def BenchChangesUptoSaid : Prop := benchChangesUptoRow.holds Tryz.pinned (OpenSpec.upto benchChangesSpec)

end Rows
end Go.Proofs.YtopknkghclncnaaGreatDoor
