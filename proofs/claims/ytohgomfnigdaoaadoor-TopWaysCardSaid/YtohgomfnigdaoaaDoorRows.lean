/-
  NARROWER THAN 'FOR EVERY INPUT', by the rows' own cells (each row's printed sentence says how): TopWays: laid · TopHeir: laid.
  DERIVED. THE GIVEN ROWS OF THIS SEAT. 2 by the template 'for every input the law returns true; each argument reads behind the call as it read before'; 0 by the template 'total and deterministic' (their statements: YtohgomfnigdaoaaDoorTotals.lean).
  GIVEN WITH THE SEED: the statements are not yours to turn. If you find one false, say at which input.
  Laid BY PROGRAM, IN A SANDBOX (cutbox-rows.mjs): the forced cells as the released guide's own fill.sh prints them over the translation 99abbc693a674081… (all of the seat's roots in one cut). By AI agents, Wed Nov 11 2026. No macro, syntax, notation, axiom, sorry.
-/
import Derived.Test.YtohgomfnigdaoaaDoorChecked
import GoSem.Claim
import GoSem.ClaimJoined
import GoSem.ClaimMapViews
import Derived.JoinedTies
import Derived.KernelRfl
namespace Go.Proofs.YtohgomfnigdaoaaDoor
/- THE CELL 'sum', in the pinned program and in every row, IS THE sha256 OF THE DUMP (.gsa) THAT YtohgomfnigdaoaaDoorProg.lean LOADS. Nothing in Lean hashes anything: it is a label: what it is worth is what the hold of that sum in a sandbox is worth. -/
noncomputable def Tryd.pinned : Pinned := { name := "ytohgomfnigdaoaadoor", sum := "99abbc693a674081a26b481b3a31b10cc582e7471ff8068d1eab5fcaed0f72a6", checked := Tryd.checked }
namespace Rows
def none {H : Type} : Left H := { results := [], args := [] }

/- WHAT THE LISTED PACKAGE-LEVEL VARIABLES READ AS WHEN THE CALL BEGINS. Each datum BY PROGRAM (the guide's laid-datum.mjs) off the statement by which the dump's own 'gosem.cut.vars' lays the variable. In a bare row this is a premise. The card (YtohgomfnigdaoaaDoorCards.lean) ties it to the program's text. -/
def laid_decani_part_silence {H : Type} : DataW H := .agg [.lit (.int .i64 (-1)), .lit (.int .i64 (-1)), .lit (.int .i64 (-1))]
def laid_decani_part_nowhere {H : Type} : DataW H := .agg [.lit (.int .i64 (-1)), .lit (.int .i64 (-1))]
def laid_decani_part_measures {H : Type} : DataW H := .iface "func table" (.agg [.iface "func" (.lit (.string [40, 100, 101, 99, 97, 110, 105, 47, 112, 97, 114, 116, 46, 119, 97, 121, 41, 46, 115, 116, 101, 112])), .iface "func" (.lit (.string [40, 100, 101, 99, 97, 110, 105, 47, 112, 97, 114, 116, 46, 119, 97, 121, 41, 46, 97, 98, 111, 118, 101]))])
def laid_decani_voice_unknown {H : Type} : DataW H := .agg [.lit (.int .i64 (-1)), .lit (.int .i64 (-1)), .lit (.int .i64 (-1)), .lit (.int .i64 (-1)), .lit (.int .i64 (-1))]
def laid_decani_voice_nobody {H : Type} : DataW H := .agg [.lit (.int .i64 (-1)), .lit (.int .i64 (-1))]
def laid_decani_voice_kindsOf {H : Type} : DataW H := .iface "func table" (.agg [.iface "func" (.lit (.string [40, 100, 101, 99, 97, 110, 105, 47, 118, 111, 105, 99, 101, 46, 118, 111, 116, 101, 115, 41, 46, 115, 111, 109, 101])), .iface "func" (.lit (.string [40, 100, 101, 99, 97, 110, 105, 47, 118, 111, 105, 99, 101, 46, 118, 111, 116, 101, 115, 41, 46, 101, 97, 99, 104]))])
def laid_decani_bench_nowhere {H : Type} : DataW H := .agg [.lit (.int .i64 (-1)), .lit (.int .i64 (-1))]

/-- 'decanitop.TopWays': WHATEVER THE INPUT: true; the input reads as it did. -/
def topWaysSpec : ChangeSpec := { name := "topWays", fn := fun _ => fun
  | [d1, d2] => { results := [.lit (.bool true)], args := [d1, d2] }
  | _ => none }
def topWaysRow : OpenClaim := { program := "ytohgomfnigdaoaadoor", sum := "99abbc693a674081a26b481b3a31b10cc582e7471ff8068d1eab5fcaed0f72a6", func := "decani/decanitop.TopWays", spec := "topWays", unfollowed := true, recurses := true, named := ["decani/voice.nobody", "decani/voice.unknown", "decani/voice.kindsOf", "decani/bench.nowhere", "decani/part.nowhere", "decani/part.silence", "decani/part.measures"], plainKeys := false, apart := false, laid := [("decani/part.silence", laid_decani_part_silence), ("decani/part.nowhere", laid_decani_part_nowhere), ("decani/part.measures", laid_decani_part_measures), ("decani/voice.unknown", laid_decani_voice_unknown), ("decani/voice.nobody", laid_decani_voice_nobody), ("decani/voice.kindsOf", laid_decani_voice_kindsOf), ("decani/bench.nowhere", laid_decani_bench_nowhere)] }
def TopWaysSaid : Prop := topWaysRow.holds Tryd.pinned (OpenSpec.ofChange topWaysSpec)

/-- ITS FALSE NEIGHBOUR: 'it returns false'. Refute it at one input. -/
def topWaysWrong : ChangeSpec := { name := "topWays", fn := fun _ => fun
  | [d1, d2] => { results := [.lit (.bool false)], args := [d1, d2] }
  | _ => none }
def TopWaysWrongFalsely : Prop := topWaysRow.holds Tryd.pinned (OpenSpec.ofChange topWaysWrong)

/-- 'decanitop.TopHeir': WHATEVER THE INPUT: true; the input reads as it did. -/
def topHeirSpec : ChangeSpec := { name := "topHeir", fn := fun _ => fun
  | [d1, d2] => { results := [.lit (.bool true)], args := [d1, d2] }
  | _ => none }
def topHeirRow : OpenClaim := { program := "ytohgomfnigdaoaadoor", sum := "99abbc693a674081a26b481b3a31b10cc582e7471ff8068d1eab5fcaed0f72a6", func := "decani/decanitop.TopHeir", spec := "topHeir", unfollowed := true, recurses := true, named := ["decani/voice.nobody", "decani/voice.unknown", "decani/voice.kindsOf", "decani/bench.nowhere", "decani/part.nowhere", "decani/part.silence", "decani/part.measures"], plainKeys := false, apart := false, laid := [("decani/part.silence", laid_decani_part_silence), ("decani/part.nowhere", laid_decani_part_nowhere), ("decani/part.measures", laid_decani_part_measures), ("decani/voice.unknown", laid_decani_voice_unknown), ("decani/voice.nobody", laid_decani_voice_nobody), ("decani/voice.kindsOf", laid_decani_voice_kindsOf), ("decani/bench.nowhere", laid_decani_bench_nowhere)] }
def TopHeirSaid : Prop := topHeirRow.holds Tryd.pinned (OpenSpec.ofChange topHeirSpec)

/-- ITS FALSE NEIGHBOUR: 'it returns false'. Refute it at one input. -/
def topHeirWrong : ChangeSpec := { name := "topHeir", fn := fun _ => fun
  | [d1, d2] => { results := [.lit (.bool false)], args := [d1, d2] }
  | _ => none }
def TopHeirWrongFalsely : Prop := topHeirRow.holds Tryd.pinned (OpenSpec.ofChange topHeirWrong)

/- THE SECOND FORM. 'bulk': how many values and letters a reading holds, each counted each time it is reached (what is shared counts as often as it is met; a slice's spare places count too). A statement '..UptoSaid' is the law's where the arguments, and the package variables that the reading takes, are together of bulk at most 1048576: NARROWER than '..Said'. Prove '..Said' where nothing that the law and all that it calls make is longer than what came in: it says more and counts as full. Else prove '..UptoSaid'. A law counts once. -/
mutual
def uptoBulk {H : Type} : DataW H → Nat
  | .lit (.string bytes) => bytes.length + 1
  | .lit _ => 1
  | .nil => 1
  | .ptr d => uptoBulk d + 1
  | .slice elems spare => uptoBulkAll elems + uptoBulkAll spare + 1
  | .agg parts => uptoBulkAll parts + 1
  | .iface _ d => uptoBulk d + 1
  | .map entries => uptoBulkEntries entries + 1
  | .held _ => 1
def uptoBulkAll {H : Type} : List (DataW H) → Nat
  | [] => 0
  | d :: r => uptoBulk d + uptoBulkAll r
def uptoBulkEntries {H : Type} : List (Lit × DataW H) → Nat
  | [] => 0
  | x :: r => uptoBulkEntry x + uptoBulkEntries r
def uptoBulkEntry {H : Type} : Lit × DataW H → Nat
  | (.string bytes, d) => bytes.length + uptoBulk d + 1
  | (_, d) => uptoBulk d + 1
 end
def uptoSmall : (H : Type) → List (DataW H) → Bool := fun _ ds => decide (uptoBulkAll ds ≤ 1048576)
def OpenSpec.upto (s : _root_.Go.ChangeSpec) : _root_.Go.OpenSpec := { _root_.Go.OpenSpec.ofChange s with cond := some uptoSmall }

/-- 'decanitop.TopWays', WHERE WHAT IT READS IS OF BULK AT MOST 1048576: true; the input reads as it did. -/
def topWaysUptoRow : OpenClaim := { program := "ytohgomfnigdaoaadoor", sum := "99abbc693a674081a26b481b3a31b10cc582e7471ff8068d1eab5fcaed0f72a6", func := "decani/decanitop.TopWays", spec := "topWays", unfollowed := true, recurses := true, named := ["decani/voice.nobody", "decani/voice.unknown", "decani/voice.kindsOf", "decani/bench.nowhere", "decani/part.nowhere", "decani/part.silence", "decani/part.measures"], plainKeys := false, apart := false, laid := [("decani/part.silence", laid_decani_part_silence), ("decani/part.nowhere", laid_decani_part_nowhere), ("decani/part.measures", laid_decani_part_measures), ("decani/voice.unknown", laid_decani_voice_unknown), ("decani/voice.nobody", laid_decani_voice_nobody), ("decani/voice.kindsOf", laid_decani_voice_kindsOf), ("decani/bench.nowhere", laid_decani_bench_nowhere)], narrowed := true }
def TopWaysUptoSaid : Prop := topWaysUptoRow.holds Tryd.pinned (OpenSpec.upto topWaysSpec)

/-- 'decanitop.TopHeir', WHERE WHAT IT READS IS OF BULK AT MOST 1048576: true; the input reads as it did. -/
def topHeirUptoRow : OpenClaim := { program := "ytohgomfnigdaoaadoor", sum := "99abbc693a674081a26b481b3a31b10cc582e7471ff8068d1eab5fcaed0f72a6", func := "decani/decanitop.TopHeir", spec := "topHeir", unfollowed := true, recurses := true, named := ["decani/voice.nobody", "decani/voice.unknown", "decani/voice.kindsOf", "decani/bench.nowhere", "decani/part.nowhere", "decani/part.silence", "decani/part.measures"], plainKeys := false, apart := false, laid := [("decani/part.silence", laid_decani_part_silence), ("decani/part.nowhere", laid_decani_part_nowhere), ("decani/part.measures", laid_decani_part_measures), ("decani/voice.unknown", laid_decani_voice_unknown), ("decani/voice.nobody", laid_decani_voice_nobody), ("decani/voice.kindsOf", laid_decani_voice_kindsOf), ("decani/bench.nowhere", laid_decani_bench_nowhere)], narrowed := true }
def TopHeirUptoSaid : Prop := topHeirUptoRow.holds Tryd.pinned (OpenSpec.upto topHeirSpec)

end Rows
end Go.Proofs.YtohgomfnigdaoaaDoor
