/-
  DERIVED. GIVEN WITH THE SEED: THE PROGRAM's TIES (one call each: nine closed facts by the kernel) AND EACH ROW's TIE, after the 31st guide's Derived/Test/Toyas{Tie, Card}.lean. No idea stands in it: it is a product of the set-up. Laid BY PROGRAM, IN A SANDBOX (cutbox-door.mjs). By AI agents, Wed Nov 11 2026. No macro, syntax, notation, axiom, sorry.
-/
import Derived.Test.YtdjddljglkeefaaDoorRows
import Derived.LaidByTextLater
import Derived.SevenTiedAt
import Derived.LaidSub
import Derived.LaidOnce
namespace Go.Proofs.YtdjddljglkeefaaDoor
open Go
set_option maxRecDepth 100000
theorem seatTie1 : Tryd.prog.laidByTextLater [("decani/voice.unknown", Rows.laid_decani_voice_unknown), ("decani/voice.nobody", Rows.laid_decani_voice_nobody), ("decani/voice.kindsOf", Rows.laid_decani_voice_kindsOf), ("decani/bench.nowhere", Rows.laid_decani_bench_nowhere)] [.data, .data, .funcs, .data] true :=
  Program.laidByTextLater_by_one 29 8 6 (by kernel_rfl) (by kernel_rfl) (by kernel_rfl) (by kernel_rfl) (by kernel_rfl) (by kernel_rfl) (fun _ _ => by kernel_rfl)
theorem noOwnUnsafe : Tryd.pinned.checked.prog.headLifts.contains "ownunsafe" = false := by kernel_rfl
theorem tie : Tryd.prog.laidByTextLater [("decani/voice.unknown", Rows.laid_decani_voice_unknown), ("decani/voice.nobody", Rows.laid_decani_voice_nobody), ("decani/voice.kindsOf", Rows.laid_decani_voice_kindsOf), ("decani/bench.nowhere", Rows.laid_decani_bench_nowhere)] [.data, .data, .funcs, .data] true :=
  Program.laidByTextLater.sub seatTie1 ["decani/voice.unknown", "decani/voice.nobody", "decani/voice.kindsOf", "decani/bench.nowhere"] (by kernel_rfl) (by kernel_rfl)
theorem benchRules_row_tie : Rows.benchRulesRow.laidByTextAt .later Tryd.pinned [.data, .data, .funcs, .data] true :=
  OpenClaim.laidByTextAt_later rfl rfl tie noOwnUnsafe
theorem benchTrue_row_tie : Rows.benchTrueRow.laidByTextAt .later Tryd.pinned [.data, .data, .funcs, .data] true :=
  OpenClaim.laidByTextAt_later rfl rfl tie noOwnUnsafe
theorem benchFill_row_tie : Rows.benchFillRow.laidByTextAt .later Tryd.pinned [.data, .data, .funcs, .data] true :=
  OpenClaim.laidByTextAt_later rfl rfl tie noOwnUnsafe
theorem benchChange_row_tie : Rows.benchChangeRow.laidByTextAt .later Tryd.pinned [.data, .data, .funcs, .data] true :=
  OpenClaim.laidByTextAt_later rfl rfl tie noOwnUnsafe
theorem benchLack_row_tie : Rows.benchLackRow.laidByTextAt .later Tryd.pinned [.data, .data, .funcs, .data] true :=
  OpenClaim.laidByTextAt_later rfl rfl tie noOwnUnsafe
theorem benchRulesUpto_row_tie : Rows.benchRulesUptoRow.laidByTextAt .later Tryd.pinned [.data, .data, .funcs, .data] true :=
  OpenClaim.laidByTextAt_later rfl rfl tie noOwnUnsafe
theorem benchTrueUpto_row_tie : Rows.benchTrueUptoRow.laidByTextAt .later Tryd.pinned [.data, .data, .funcs, .data] true :=
  OpenClaim.laidByTextAt_later rfl rfl tie noOwnUnsafe
theorem benchFillUpto_row_tie : Rows.benchFillUptoRow.laidByTextAt .later Tryd.pinned [.data, .data, .funcs, .data] true :=
  OpenClaim.laidByTextAt_later rfl rfl tie noOwnUnsafe
theorem benchChangeUpto_row_tie : Rows.benchChangeUptoRow.laidByTextAt .later Tryd.pinned [.data, .data, .funcs, .data] true :=
  OpenClaim.laidByTextAt_later rfl rfl tie noOwnUnsafe
theorem benchLackUpto_row_tie : Rows.benchLackUptoRow.laidByTextAt .later Tryd.pinned [.data, .data, .funcs, .data] true :=
  OpenClaim.laidByTextAt_later rfl rfl tie noOwnUnsafe
end Go.Proofs.YtdjddljglkeefaaDoor
