/-
  DERIVED. GIVEN WITH THE SEED: THE PROGRAM's TIES (one call each: nine closed facts by the kernel) AND EACH ROW's TIE, after the 31st guide's Derived/Test/Toyas{Tie, Card}.lean. No idea stands in it: it is a product of the set-up. Laid BY PROGRAM, IN A SANDBOX (cutbox-door.mjs). By AI agents, Wed Nov 11 2026. No macro, syntax, notation, axiom, sorry.
-/
import Derived.Test.YtohgomfnigdaoaaDoorRows
import Derived.LaidByTextLater
import Derived.SevenTiedAt
import Derived.LaidSub
import Derived.LaidOnce
namespace Go.Proofs.YtohgomfnigdaoaaDoor
open Go
set_option maxRecDepth 100000
theorem seatTie1 : Tryd.prog.laidByTextLater [("decani/part.silence", Rows.laid_decani_part_silence), ("decani/part.nowhere", Rows.laid_decani_part_nowhere), ("decani/part.measures", Rows.laid_decani_part_measures), ("decani/voice.unknown", Rows.laid_decani_voice_unknown), ("decani/voice.nobody", Rows.laid_decani_voice_nobody), ("decani/voice.kindsOf", Rows.laid_decani_voice_kindsOf), ("decani/bench.nowhere", Rows.laid_decani_bench_nowhere)] [.data, .data, .funcs, .data, .data, .funcs, .data] true :=
  Program.laidByTextLater_by_one 44 8 6 (by kernel_rfl) (by kernel_rfl) (by kernel_rfl) (by kernel_rfl) (by kernel_rfl) (by kernel_rfl) (fun _ _ => by kernel_rfl)
theorem noOwnUnsafe : Tryd.pinned.checked.prog.headLifts.contains "ownunsafe" = false := by kernel_rfl
theorem tie : Tryd.prog.laidByTextLater [("decani/part.silence", Rows.laid_decani_part_silence), ("decani/part.nowhere", Rows.laid_decani_part_nowhere), ("decani/part.measures", Rows.laid_decani_part_measures), ("decani/voice.unknown", Rows.laid_decani_voice_unknown), ("decani/voice.nobody", Rows.laid_decani_voice_nobody), ("decani/voice.kindsOf", Rows.laid_decani_voice_kindsOf), ("decani/bench.nowhere", Rows.laid_decani_bench_nowhere)] [.data, .data, .funcs, .data, .data, .funcs, .data] true :=
  Program.laidByTextLater.sub seatTie1 ["decani/part.silence", "decani/part.nowhere", "decani/part.measures", "decani/voice.unknown", "decani/voice.nobody", "decani/voice.kindsOf", "decani/bench.nowhere"] (by kernel_rfl) (by kernel_rfl)
theorem topWays_row_tie : Rows.topWaysRow.laidByTextAt .later Tryd.pinned [.data, .data, .funcs, .data, .data, .funcs, .data] true :=
  OpenClaim.laidByTextAt_later rfl rfl tie noOwnUnsafe
theorem topHeir_row_tie : Rows.topHeirRow.laidByTextAt .later Tryd.pinned [.data, .data, .funcs, .data, .data, .funcs, .data] true :=
  OpenClaim.laidByTextAt_later rfl rfl tie noOwnUnsafe
theorem topWaysUpto_row_tie : Rows.topWaysUptoRow.laidByTextAt .later Tryd.pinned [.data, .data, .funcs, .data, .data, .funcs, .data] true :=
  OpenClaim.laidByTextAt_later rfl rfl tie noOwnUnsafe
theorem topHeirUpto_row_tie : Rows.topHeirUptoRow.laidByTextAt .later Tryd.pinned [.data, .data, .funcs, .data, .data, .funcs, .data] true :=
  OpenClaim.laidByTextAt_later rfl rfl tie noOwnUnsafe
end Go.Proofs.YtohgomfnigdaoaaDoor
