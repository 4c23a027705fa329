/- A part of the proof. -/
import Derived.Test.YtohgomfnigdaoaaDoorx42
import Derived.KernelRfl
set_option linter.all false
namespace Go.Lf
open Go
set_option maxRecDepth 100000
noncomputable section
abbrev fR : VoiceBook := ⟨.hot [⟨⟨5, 5⟩, ⟨15, 15⟩, ⟨0, 0⟩, ⟨0, 0⟩, 0, ⟨9, 9⟩⟩, ⟨⟨8, 8⟩, ⟨20, 20⟩, ⟨0, 0⟩, ⟨0, 0⟩, 0, ⟨9, 9⟩⟩, ⟨⟨2, 2⟩, ⟨10, 10⟩, ⟨0, 0⟩, ⟨0, 0⟩, 0, ⟨9, 9⟩⟩], 2, .nil⟩
theorem x1 : Ef = some fR := ae.of _ (by kernel_rfl)
theorem x2 : FZ fR 0 1 (Bh 8 10) = some (1, 0) := (gX _ _ _ _).of _ (by kernel_rfl)
abbrev yB : BenchBook := ⟨fR, .hot [⟨1, .cold [⟨⟨8, 10⟩, 1⟩]⟩], 3⟩
abbrev yZ : BenchBook := ⟨fR, .hot [⟨0, .cold [⟨⟨16, 20⟩, 1⟩]⟩], 3⟩
abbrev yz : BenchBook := ⟨fR, .hot [⟨0, .cold [⟨⟨8, 10⟩, 1⟩]⟩, ⟨1, .cold [⟨⟨5, 9⟩, 1⟩]⟩], 3⟩
theorem x3 : CQ fR (Sl.cold [1] : Sl Int) (Sl.cold [(Bh 8 10)] : Sl BW) = some yB := (Na _ _ _).of _ (by kernel_rfl)
theorem x4 : GL yB 0 0 = some (.full [0, 1, 2], 0) := (hT _ _ _).of _ (by kernel_rfl)
theorem x5 : CQ fR (Sl.cold [0] : Sl Int) (Sl.cold [(Bh 16 20)] : Sl BW) = some yZ := (Na _ _ _).of _ (by kernel_rfl)
theorem x6 : Fe yZ = some (.full [1], 0) := (eq _).of _ (by kernel_rfl)
theorem x7 : CQ fR (Sl.cold [0, 1] : Sl Int) (Sl.cold [(Bh 8 10), (Bh 5 9)] : Sl BW) = some yz := (Na _ _ _).of _ (by kernel_rfl)
theorem x8 : FX yz = some (6, 0) := (fp _).of _ (by kernel_rfl)
theorem x9 : Gi (Sl.cold [3, 2] : Sl Int) = some ⟨1, .hot [⟨0, 2⟩, ⟨3, 4⟩], 0, 255, 0, .nil⟩ := (dA _).of _ (by kernel_rfl)
theorem yu : Ru ⟨1, .hot [⟨0, 2⟩, ⟨3, 4⟩], 0, 255, 0, .nil⟩ = some (6, 0) := qU (m := 60) (by kernel_rfl)
theorem xq : CG (.full [0, 1, 2]) (Sl.cold [0, 1, 2] : Sl Int) = some true := (Sv _ _).of _ (by kernel_rfl)
theorem yI : CG (.full [1]) (Sl.cold [1] : Sl Int) = some true := (Sv _ _).of _ (by kernel_rfl)
theorem mg : DD = some true := by
 unfold DD
 simp only [x1, x2, x3, x4, x5, x6, x7, x8, x9, yu, xq, yI, Option.bind_some, decide_true, if_true]
end
end Go.Lf
