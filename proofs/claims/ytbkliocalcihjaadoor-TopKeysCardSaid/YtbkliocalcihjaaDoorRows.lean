/-
  NARROWER THAN 'FOR EVERY INPUT', by the rows' own cells (each row's printed sentence says how): TopKeys: laid.
  DERIVED. THE GIVEN ROWS OF THIS SEAT. 1 by the template 'for every input the law returns true; each argument reads behind the call as it read before'; 0 by the template 'total and deterministic' (their statements: YtbkliocalcihjaaDoorTotals.lean).
  GIVEN WITH THE SEED: the statements are not yours to turn. If you find one false, say at which input.
  Laid BY PROGRAM, IN A SANDBOX (cutbox-rows.mjs): the forced cells as the released guide's own fill.sh prints them over the translation 038d7c5c7077cbd9… (all of the seat's roots in one cut). By AI agents, Wed Nov 11 2026. No macro, syntax, notation, axiom, sorry.
-/
import Derived.Test.YtbkliocalcihjaaDoorChecked
import GoSem.Claim
import GoSem.ClaimJoined
import GoSem.ClaimMapViews
import Derived.JoinedTies
import Derived.KernelRfl
namespace Go.Proofs.YtbkliocalcihjaaDoor
/- THE CELL 'sum', in the pinned program and in every row, IS THE sha256 OF THE DUMP (.gsa) THAT YtbkliocalcihjaaDoorProg.lean LOADS. Nothing in Lean hashes anything: it is a label: what it is worth is what the hold of that sum in a sandbox is worth. -/
noncomputable def Tryd.pinned : Pinned := { name := "ytbkliocalcihjaadoor", sum := "038d7c5c7077cbd9c6d7b5ce587bfb667c52f64902bfec54b7f715b8e21ec155", checked := Tryd.checked }
namespace Rows
def none {H : Type} : Left H := { results := [], args := [] }

/- WHAT THE LISTED PACKAGE-LEVEL VARIABLES READ AS WHEN THE CALL BEGINS. Each datum BY PROGRAM (the guide's laid-datum.mjs) off the statement by which the dump's own 'gosem.cut.vars' lays the variable. In a bare row this is a premise. The card (YtbkliocalcihjaaDoorCards.lean) ties it to the program's text. -/
def laid_decani_candle_nowhere {H : Type} : DataW H := .agg [.lit (.int .i64 (-1)), .lit (.int .i64 (-1))]
def laid_decani_voice_unknown {H : Type} : DataW H := .agg [.lit (.int .i64 (-1)), .lit (.int .i64 (-1)), .lit (.int .i64 (-1)), .lit (.int .i64 (-1)), .lit (.int .i64 (-1))]
def laid_decani_voice_nobody {H : Type} : DataW H := .agg [.lit (.int .i64 (-1)), .lit (.int .i64 (-1))]
def laid_decani_voice_kindsOf {H : Type} : DataW H := .iface "func table" (.agg [.iface "func" (.lit (.string [40, 100, 101, 99, 97, 110, 105, 47, 118, 111, 105, 99, 101, 46, 118, 111, 116, 101, 115, 41, 46, 115, 111, 109, 101])), .iface "func" (.lit (.string [40, 100, 101, 99, 97, 110, 105, 47, 118, 111, 105, 99, 101, 46, 118, 111, 116, 101, 115, 41, 46, 101, 97, 99, 104]))])
def laid_decani_bench_nowhere {H : Type} : DataW H := .agg [.lit (.int .i64 (-1)), .lit (.int .i64 (-1))]
def laid_decani_organ_unknown {H : Type} : DataW H := .agg [.lit (.int .i64 1048576), .lit (.int .i64 1048576), .lit (.int .i64 1048576), .lit (.int .i64 1048576), .lit (.int .i64 1048576), .lit (.int .i64 1048576)]
def laid_decani_organ_nowhere {H : Type} : DataW H := .agg [.lit (.int .i64 (-1)), .lit (.int .i64 (-1))]
def laid_decani_organ_ends {H : Type} : DataW H := .iface "func table" (.agg [.iface "func" (.lit (.string [40, 100, 101, 99, 97, 110, 105, 47, 111, 114, 103, 97, 110, 46, 98, 111, 111, 107, 41, 46, 108, 111, 119])), .iface "func" (.lit (.string [40, 100, 101, 99, 97, 110, 105, 47, 111, 114, 103, 97, 110, 46, 98, 111, 111, 107, 41, 46, 104, 105, 103, 104]))])

/-- 'decanitop.TopKeys': WHATEVER THE INPUT: true; the input reads as it did. -/
def topKeysSpec : ChangeSpec := { name := "topKeys", fn := fun _ => fun
  | [d1, d2, d3] => { results := [.lit (.bool true)], args := [d1, d2, d3] }
  | _ => none }
def topKeysRow : OpenClaim := { program := "ytbkliocalcihjaadoor", sum := "038d7c5c7077cbd9c6d7b5ce587bfb667c52f64902bfec54b7f715b8e21ec155", func := "decani/decanitop.TopKeys", spec := "topKeys", unfollowed := true, recurses := true, named := ["decani/voice.nobody", "decani/voice.unknown", "decani/organ.unknown", "decani/organ.nowhere", "decani/voice.kindsOf", "decani/organ.ends", "decani/bench.nowhere", "decani/candle.nowhere"], plainKeys := false, apart := false, laid := [("decani/candle.nowhere", laid_decani_candle_nowhere), ("decani/voice.unknown", laid_decani_voice_unknown), ("decani/voice.nobody", laid_decani_voice_nobody), ("decani/voice.kindsOf", laid_decani_voice_kindsOf), ("decani/bench.nowhere", laid_decani_bench_nowhere), ("decani/organ.unknown", laid_decani_organ_unknown), ("decani/organ.nowhere", laid_decani_organ_nowhere), ("decani/organ.ends", laid_decani_organ_ends)] }
def TopKeysSaid : Prop := topKeysRow.holds Tryd.pinned (OpenSpec.ofChange topKeysSpec)

/-- ITS FALSE NEIGHBOUR: 'it returns false'. Refute it at one input. -/
def topKeysWrong : ChangeSpec := { name := "topKeys", fn := fun _ => fun
  | [d1, d2, d3] => { results := [.lit (.bool false)], args := [d1, d2, d3] }
  | _ => none }
def TopKeysWrongFalsely : Prop := topKeysRow.holds Tryd.pinned (OpenSpec.ofChange topKeysWrong)

/- THE SECOND FORM. 'bulk': how many values and letters a reading holds, each counted each time it is reached (what is shared counts as often as it is met; a slice's spare places count too). A statement '..UptoSaid' is the law's where the arguments, and the package variables that the reading takes, are together of bulk at most 1048576: NARROWER than '..Said'. Prove '..Said' where nothing that the law and all that it calls make is longer than what came in: it says more and counts as full. Else prove '..UptoSaid'. A law counts once. -/
mutual
def uptoBulk {H : Type} : DataW H → Nat
  | .lit (.string bytes) => bytes.length + 1
  | .lit _ => 1
  | .nil => 1
  | .ptr d => uptoBulk d + 1
  | .slice elems spare => uptoBulkAll elems + uptoBulkAll spare + 1
  | .agg parts => uptoBulkAll parts + 1
  | .iface _ d => uptoBulk d + 1
  | .map entries => uptoBulkEntries entries + 1
  | .held _ => 1
def uptoBulkAll {H : Type} : List (DataW H) → Nat
  | [] => 0
  | d :: r => uptoBulk d + uptoBulkAll r
def uptoBulkEntries {H : Type} : List (Lit × DataW H) → Nat
  | [] => 0
  | x :: r => uptoBulkEntry x + uptoBulkEntries r
def uptoBulkEntry {H : Type} : Lit × DataW H → Nat
  | (.string bytes, d) => bytes.length + uptoBulk d + 1
  | (_, d) => uptoBulk d + 1
 end
def uptoSmall : (H : Type) → List (DataW H) → Bool := fun _ ds => decide (uptoBulkAll ds ≤ 1048576)
def OpenSpec.upto (s : _root_.Go.ChangeSpec) : _root_.Go.OpenSpec := { _root_.Go.OpenSpec.ofChange s with cond := some uptoSmall }

/-- 'decanitop.TopKeys', WHERE WHAT IT READS IS OF BULK AT MOST 1048576: true; the input reads as it did. -/
def topKeysUptoRow : OpenClaim := { program := "ytbkliocalcihjaadoor", sum := "038d7c5c7077cbd9c6d7b5ce587bfb667c52f64902bfec54b7f715b8e21ec155", func := "decani/decanitop.TopKeys", spec := "topKeys", unfollowed := true, recurses := true, named := ["decani/voice.nobody", "decani/voice.unknown", "decani/organ.unknown", "decani/organ.nowhere", "decani/voice.kindsOf", "decani/organ.ends", "decani/bench.nowhere", "decani/candle.nowhere"], plainKeys := false, apart := false, laid := [("decani/candle.nowhere", laid_decani_candle_nowhere), ("decani/voice.unknown", laid_decani_voice_unknown), ("decani/voice.nobody", laid_decani_voice_nobody), ("decani/voice.kindsOf", laid_decani_voice_kindsOf), ("decani/bench.nowhere", laid_decani_bench_nowhere), ("decani/organ.unknown", laid_decani_organ_unknown), ("decani/organ.nowhere", laid_decani_organ_nowhere), ("decani/organ.ends", laid_decani_organ_ends)], narrowed := true }
def TopKeysUptoSaid : Prop := topKeysUptoRow.holds Tryd.pinned (OpenSpec.upto topKeysSpec)

end Rows
end Go.Proofs.YtbkliocalcihjaaDoor
