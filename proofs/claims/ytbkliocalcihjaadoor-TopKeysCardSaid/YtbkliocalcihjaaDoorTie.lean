/-
  DERIVED. GIVEN WITH THE SEED: THE PROGRAM's TIES (one call each: nine closed facts by the kernel) AND EACH ROW's TIE, after the 31st guide's Derived/Test/Toyas{Tie, Card}.lean. No idea stands in it: it is a product of the set-up. Laid BY PROGRAM, IN A SANDBOX (cutbox-door.mjs). By AI agents, Wed Nov 11 2026. No macro, syntax, notation, axiom, sorry.
-/
import Derived.Test.YtbkliocalcihjaaDoorRows
import Derived.LaidByTextLater
import Derived.SevenTiedAt
import Derived.LaidSub
import Derived.LaidOnce
namespace Go.Proofs.YtbkliocalcihjaaDoor
open Go
set_option maxRecDepth 100000
theorem seatTie1 : Tryd.prog.laidByTextLater [("decani/candle.nowhere", Rows.laid_decani_candle_nowhere), ("decani/voice.unknown", Rows.laid_decani_voice_unknown), ("decani/voice.nobody", Rows.laid_decani_voice_nobody), ("decani/voice.kindsOf", Rows.laid_decani_voice_kindsOf), ("decani/bench.nowhere", Rows.laid_decani_bench_nowhere), ("decani/organ.unknown", Rows.laid_decani_organ_unknown), ("decani/organ.nowhere", Rows.laid_decani_organ_nowhere), ("decani/organ.ends", Rows.laid_decani_organ_ends)] [.data, .data, .data, .funcs, .data, .data, .data, .funcs] true :=
  Program.laidByTextLater_by_one 49 8 7 (by kernel_rfl) (by kernel_rfl) (by kernel_rfl) (by kernel_rfl) (by kernel_rfl) (by kernel_rfl) (fun _ _ => by kernel_rfl)
theorem noOwnUnsafe : Tryd.pinned.checked.prog.headLifts.contains "ownunsafe" = false := by kernel_rfl
theorem tie : Tryd.prog.laidByTextLater [("decani/candle.nowhere", Rows.laid_decani_candle_nowhere), ("decani/voice.unknown", Rows.laid_decani_voice_unknown), ("decani/voice.nobody", Rows.laid_decani_voice_nobody), ("decani/voice.kindsOf", Rows.laid_decani_voice_kindsOf), ("decani/bench.nowhere", Rows.laid_decani_bench_nowhere), ("decani/organ.unknown", Rows.laid_decani_organ_unknown), ("decani/organ.nowhere", Rows.laid_decani_organ_nowhere), ("decani/organ.ends", Rows.laid_decani_organ_ends)] [.data, .data, .data, .funcs, .data, .data, .data, .funcs] true :=
  Program.laidByTextLater.sub seatTie1 ["decani/candle.nowhere", "decani/voice.unknown", "decani/voice.nobody", "decani/voice.kindsOf", "decani/bench.nowhere", "decani/organ.unknown", "decani/organ.nowhere", "decani/organ.ends"] (by kernel_rfl) (by kernel_rfl)
theorem topKeys_row_tie : Rows.topKeysRow.laidByTextAt .later Tryd.pinned [.data, .data, .data, .funcs, .data, .data, .data, .funcs] true :=
  OpenClaim.laidByTextAt_later rfl rfl tie noOwnUnsafe
theorem topKeysUpto_row_tie : Rows.topKeysUptoRow.laidByTextAt .later Tryd.pinned [.data, .data, .data, .funcs, .data, .data, .data, .funcs] true :=
  OpenClaim.laidByTextAt_later rfl rfl tie noOwnUnsafe
end Go.Proofs.YtbkliocalcihjaaDoor
