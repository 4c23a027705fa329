/-
  NARROWER THAN 'FOR EVERY INPUT', by the rows' own cells (each row's printed sentence says how): BenchCan: laid · BenchNeed: laid · BenchTrial: laid.
  DERIVED. THE GIVEN ROWS OF THIS SEAT. 3 by the template 'for every input the law returns true; each argument reads behind the call as it read before'; 0 by the template 'total and deterministic' (their statements: YtpkbckdhkaggbaaDoorTotals.lean).
  GIVEN WITH THE SEED: the statements are not yours to turn. If you find one false, say at which input.
  Laid BY PROGRAM, IN A SANDBOX (cutbox-rows.mjs): the forced cells as the released guide's own fill.sh prints them over the translation fee1e81ff63355c5… (all of the seat's roots in one cut). By AI agents, Wed Nov 11 2026. No macro, syntax, notation, axiom, sorry.
-/
import Derived.Test.YtpkbckdhkaggbaaDoorChecked
import GoSem.Claim
import GoSem.ClaimJoined
import GoSem.ClaimMapViews
import Derived.JoinedTies
import Derived.KernelRfl
namespace Go.Proofs.YtpkbckdhkaggbaaDoor
/- THE CELL 'sum', in the pinned program and in every row, IS THE sha256 OF THE DUMP (.gsa) THAT YtpkbckdhkaggbaaDoorProg.lean LOADS. Nothing in Lean hashes anything: it is a label: what it is worth is what the hold of that sum in a sandbox is worth. -/
noncomputable def Tryd.pinned : Pinned := { name := "ytpkbckdhkaggbaadoor", sum := "fee1e81ff63355c5f8d72d366cdeed0c31e4b375f8174b5762609a521599bf01", checked := Tryd.checked }
namespace Rows
def none {H : Type} : Left H := { results := [], args := [] }

/- WHAT THE LISTED PACKAGE-LEVEL VARIABLES READ AS WHEN THE CALL BEGINS. Each datum BY PROGRAM (the guide's laid-datum.mjs) off the statement by which the dump's own 'gosem.cut.vars' lays the variable. In a bare row this is a premise. The card (YtpkbckdhkaggbaaDoorCards.lean) ties it to the program's text. -/
def laid_decani_voice_unknown {H : Type} : DataW H := .agg [.lit (.int .i64 (-1)), .lit (.int .i64 (-1)), .lit (.int .i64 (-1)), .lit (.int .i64 (-1)), .lit (.int .i64 (-1))]
def laid_decani_voice_nobody {H : Type} : DataW H := .agg [.lit (.int .i64 (-1)), .lit (.int .i64 (-1))]
def laid_decani_voice_kindsOf {H : Type} : DataW H := .iface "func table" (.agg [.iface "func" (.lit (.string [40, 100, 101, 99, 97, 110, 105, 47, 118, 111, 105, 99, 101, 46, 118, 111, 116, 101, 115, 41, 46, 115, 111, 109, 101])), .iface "func" (.lit (.string [40, 100, 101, 99, 97, 110, 105, 47, 118, 111, 105, 99, 101, 46, 118, 111, 116, 101, 115, 41, 46, 101, 97, 99, 104]))])
def laid_decani_bench_nowhere {H : Type} : DataW H := .agg [.lit (.int .i64 (-1)), .lit (.int .i64 (-1))]

/-- 'decanilaw07.BenchCan': WHATEVER THE INPUT: true; the input reads as it did. -/
def benchCanSpec : ChangeSpec := { name := "benchCan", fn := fun _ => fun
  | [d1, d2] => { results := [.lit (.bool true)], args := [d1, d2] }
  | _ => none }
def benchCanRow : OpenClaim := { program := "ytpkbckdhkaggbaadoor", sum := "fee1e81ff63355c5f8d72d366cdeed0c31e4b375f8174b5762609a521599bf01", func := "decani/decanilaw07.BenchCan", spec := "benchCan", unfollowed := true, recurses := true, named := ["decani/voice.nobody", "decani/voice.unknown", "decani/bench.nowhere", "decani/voice.kindsOf"], plainKeys := false, apart := false, laid := [("decani/voice.unknown", laid_decani_voice_unknown), ("decani/voice.nobody", laid_decani_voice_nobody), ("decani/voice.kindsOf", laid_decani_voice_kindsOf), ("decani/bench.nowhere", laid_decani_bench_nowhere)] }
def BenchCanSaid : Prop := benchCanRow.holds Tryd.pinned (OpenSpec.ofChange benchCanSpec)

/-- ITS FALSE NEIGHBOUR: 'it returns false'. Refute it at one input. -/
def benchCanWrong : ChangeSpec := { name := "benchCan", fn := fun _ => fun
  | [d1, d2] => { results := [.lit (.bool false)], args := [d1, d2] }
  | _ => none }
def BenchCanWrongFalsely : Prop := benchCanRow.holds Tryd.pinned (OpenSpec.ofChange benchCanWrong)

/-- 'decanilaw07.BenchNeed': WHATEVER THE INPUT: true; the input reads as it did. -/
def benchNeedSpec : ChangeSpec := { name := "benchNeed", fn := fun _ => fun
  | [d1, d2] => { results := [.lit (.bool true)], args := [d1, d2] }
  | _ => none }
def benchNeedRow : OpenClaim := { program := "ytpkbckdhkaggbaadoor", sum := "fee1e81ff63355c5f8d72d366cdeed0c31e4b375f8174b5762609a521599bf01", func := "decani/decanilaw07.BenchNeed", spec := "benchNeed", unfollowed := true, recurses := true, named := ["decani/voice.nobody", "decani/voice.unknown", "decani/bench.nowhere", "decani/voice.kindsOf"], plainKeys := false, apart := false, laid := [("decani/voice.unknown", laid_decani_voice_unknown), ("decani/voice.nobody", laid_decani_voice_nobody), ("decani/voice.kindsOf", laid_decani_voice_kindsOf), ("decani/bench.nowhere", laid_decani_bench_nowhere)] }
def BenchNeedSaid : Prop := benchNeedRow.holds Tryd.pinned (OpenSpec.ofChange benchNeedSpec)

/-- ITS FALSE NEIGHBOUR: 'it returns false'. Refute it at one input. -/
def benchNeedWrong : ChangeSpec := { name := "benchNeed", fn := fun _ => fun
  | [d1, d2] => { results := [.lit (.bool false)], args := [d1, d2] }
  | _ => none }
def BenchNeedWrongFalsely : Prop := benchNeedRow.holds Tryd.pinned (OpenSpec.ofChange benchNeedWrong)

/-- 'decanilaw07.BenchTrial': WHATEVER THE INPUT: true; the input reads as it did. -/
def benchTrialSpec : ChangeSpec := { name := "benchTrial", fn := fun _ => fun
  | [d1, d2, d3] => { results := [.lit (.bool true)], args := [d1, d2, d3] }
  | _ => none }
def benchTrialRow : OpenClaim := { program := "ytpkbckdhkaggbaadoor", sum := "fee1e81ff63355c5f8d72d366cdeed0c31e4b375f8174b5762609a521599bf01", func := "decani/decanilaw07.BenchTrial", spec := "benchTrial", unfollowed := true, recurses := true, named := ["decani/voice.nobody", "decani/voice.unknown", "decani/bench.nowhere", "decani/voice.kindsOf"], plainKeys := false, apart := false, laid := [("decani/voice.unknown", laid_decani_voice_unknown), ("decani/voice.nobody", laid_decani_voice_nobody), ("decani/voice.kindsOf", laid_decani_voice_kindsOf), ("decani/bench.nowhere", laid_decani_bench_nowhere)] }
def BenchTrialSaid : Prop := benchTrialRow.holds Tryd.pinned (OpenSpec.ofChange benchTrialSpec)

/-- ITS FALSE NEIGHBOUR: 'it returns false'. Refute it at one input. -/
def benchTrialWrong : ChangeSpec := { name := "benchTrial", fn := fun _ => fun
  | [d1, d2, d3] => { results := [.lit (.bool false)], args := [d1, d2, d3] }
  | _ => none }
def BenchTrialWrongFalsely : Prop := benchTrialRow.holds Tryd.pinned (OpenSpec.ofChange benchTrialWrong)

/- THE SECOND FORM. 'bulk': how many values and letters a reading holds, each counted each time it is reached (what is shared counts as often as it is met; a slice's spare places count too). A statement '..UptoSaid' is the law's where the arguments, and the package variables that the reading takes, are together of bulk at most 1048576: NARROWER than '..Said'. Prove '..Said' where nothing that the law and all that it calls make is longer than what came in: it says more and counts as full. Else prove '..UptoSaid'. A law counts once. -/
mutual
def uptoBulk {H : Type} : DataW H → Nat
  | .lit (.string bytes) => bytes.length + 1
  | .lit _ => 1
  | .nil => 1
  | .ptr d => uptoBulk d + 1
  | .slice elems spare => uptoBulkAll elems + uptoBulkAll spare + 1
  | .agg parts => uptoBulkAll parts + 1
  | .iface _ d => uptoBulk d + 1
  | .map entries => uptoBulkEntries entries + 1
  | .held _ => 1
def uptoBulkAll {H : Type} : List (DataW H) → Nat
  | [] => 0
  | d :: r => uptoBulk d + uptoBulkAll r
def uptoBulkEntries {H : Type} : List (Lit × DataW H) → Nat
  | [] => 0
  | x :: r => uptoBulkEntry x + uptoBulkEntries r
def uptoBulkEntry {H : Type} : Lit × DataW H → Nat
  | (.string bytes, d) => bytes.length + uptoBulk d + 1
  | (_, d) => uptoBulk d + 1
 end
def uptoSmall : (H : Type) → List (DataW H) → Bool := fun _ ds => decide (uptoBulkAll ds ≤ 1048576)
def OpenSpec.upto (s : _root_.Go.ChangeSpec) : _root_.Go.OpenSpec := { _root_.Go.OpenSpec.ofChange s with cond := some uptoSmall }

/-- 'decanilaw07.BenchCan', WHERE WHAT IT READS IS OF BULK AT MOST 1048576: true; the input reads as it did. -/
def benchCanUptoRow : OpenClaim := { program := "ytpkbckdhkaggbaadoor", sum := "fee1e81ff63355c5f8d72d366cdeed0c31e4b375f8174b5762609a521599bf01", func := "decani/decanilaw07.BenchCan", spec := "benchCan", unfollowed := true, recurses := true, named := ["decani/voice.nobody", "decani/voice.unknown", "decani/bench.nowhere", "decani/voice.kindsOf"], plainKeys := false, apart := false, laid := [("decani/voice.unknown", laid_decani_voice_unknown), ("decani/voice.nobody", laid_decani_voice_nobody), ("decani/voice.kindsOf", laid_decani_voice_kindsOf), ("decani/bench.nowhere", laid_decani_bench_nowhere)], narrowed := true }
def BenchCanUptoSaid : Prop := benchCanUptoRow.holds Tryd.pinned (OpenSpec.upto benchCanSpec)

/-- 'decanilaw07.BenchNeed', WHERE WHAT IT READS IS OF BULK AT MOST 1048576: true; the input reads as it did. -/
def benchNeedUptoRow : OpenClaim := { program := "ytpkbckdhkaggbaadoor", sum := "fee1e81ff63355c5f8d72d366cdeed0c31e4b375f8174b5762609a521599bf01", func := "decani/decanilaw07.BenchNeed", spec := "benchNeed", unfollowed := true, recurses := true, named := ["decani/voice.nobody", "decani/voice.unknown", "decani/bench.nowhere", "decani/voice.kindsOf"], plainKeys := false, apart := false, laid := [("decani/voice.unknown", laid_decani_voice_unknown), ("decani/voice.nobody", laid_decani_voice_nobody), ("decani/voice.kindsOf", laid_decani_voice_kindsOf), ("decani/bench.nowhere", laid_decani_bench_nowhere)], narrowed := true }
def BenchNeedUptoSaid : Prop := benchNeedUptoRow.holds Tryd.pinned (OpenSpec.upto benchNeedSpec)

/-- 'decanilaw07.BenchTrial', WHERE WHAT IT READS IS OF BULK AT MOST 1048576: true; the input reads as it did. -/
def benchTrialUptoRow : OpenClaim := { program := "ytpkbckdhkaggbaadoor", sum := "fee1e81ff63355c5f8d72d366cdeed0c31e4b375f8174b5762609a521599bf01", func := "decani/decanilaw07.BenchTrial", spec := "benchTrial", unfollowed := true, recurses := true, named := ["decani/voice.nobody", "decani/voice.unknown", "decani/bench.nowhere", "decani/voice.kindsOf"], plainKeys := false, apart := false, laid := [("decani/voice.unknown", laid_decani_voice_unknown), ("decani/voice.nobody", laid_decani_voice_nobody), ("decani/voice.kindsOf", laid_decani_voice_kindsOf), ("decani/bench.nowhere", laid_decani_bench_nowhere)], narrowed := true }
def BenchTrialUptoSaid : Prop := benchTrialUptoRow.holds Tryd.pinned (OpenSpec.upto benchTrialSpec)

end Rows
end Go.Proofs.YtpkbckdhkaggbaaDoor
