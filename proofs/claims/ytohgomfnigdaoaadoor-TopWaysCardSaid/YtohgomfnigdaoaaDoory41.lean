/- A part of the proof. -/
import Derived.Test.YtohgomfnigdaoaaDoory40
import Derived.KernelRfl
set_option linter.all false
namespace Go.Lf
open Go
set_option maxRecDepth 100000
noncomputable section
abbrev fj : VoiceBook := ⟨.hot [⟨⟨5, 5⟩, ⟨15, 15⟩, ⟨0, 0⟩, ⟨0, 0⟩, 0, ⟨9, 9⟩⟩, ⟨⟨8, 8⟩, ⟨20, 20⟩, ⟨0, 0⟩, ⟨0, 0⟩, 0, ⟨9, 9⟩⟩, ⟨⟨2, 2⟩, ⟨10, 10⟩, ⟨0, 0⟩, ⟨0, 0⟩, 0, ⟨9, 9⟩⟩], 2, .nil⟩
theorem x1 : E1 = some fj := dN.of _ (by kernel_rfl)
theorem x2 : GN fj 0 1 (Bt 8 10) = some (1, 0) := (dw _ _ _ _).of _ (by kernel_rfl)
abbrev bk1 : BenchBook := ⟨fj, .hot [⟨1, .cold [⟨⟨8, 10⟩, 1⟩]⟩], 3⟩
abbrev bk2 : BenchBook := ⟨fj, .hot [⟨0, .cold [⟨⟨16, 20⟩, 1⟩]⟩], 3⟩
abbrev bk3 : BenchBook := ⟨fj, .hot [⟨0, .cold [⟨⟨8, 10⟩, 1⟩]⟩, ⟨1, .cold [⟨⟨5, 9⟩, 1⟩]⟩], 3⟩
theorem x3 : CQ fj (Sl.cold [1] : Sl Int) (Sl.cold [(Bt 8 10)] : Sl BS) = some bk1 := (OS _ _ _).of _ (by kernel_rfl)
theorem x4 : Fh bk1 0 0 = some (.full [0, 1, 2], 0) := (jK _ _ _).of _ (by kernel_rfl)
theorem x5 : CQ fj (Sl.cold [0] : Sl Int) (Sl.cold [(Bt 16 20)] : Sl BS) = some bk2 := (OS _ _ _).of _ (by kernel_rfl)
theorem x6 : F6 bk2 = some (.full [1], 0) := (eB _).of _ (by kernel_rfl)
theorem x7 : CQ fj (Sl.cold [0, 1] : Sl Int) (Sl.cold [(Bt 8 10), (Bt 5 9)] : Sl BS) = some bk3 := (OS _ _ _).of _ (by kernel_rfl)
theorem x8 : GE bk3 = some (6, 0) := (eg _).of _ (by kernel_rfl)
theorem x9 : AP (Sl.cold [3, 2] : Sl Int) = some ⟨1, .hot [⟨0, 2⟩, ⟨3, 4⟩], 0, 255, 0, .nil⟩ := (AM _).of _ (by kernel_rfl)
theorem x10 : Ai ⟨1, .hot [⟨0, 2⟩, ⟨3, 4⟩], 0, 255, 0, .nil⟩ = some (6, 0) := Ax (m := 60) (by kernel_rfl)
theorem x11 : CN (.full [0, 1, 2]) (Sl.cold [0, 1, 2] : Sl Int) = some true := (R2 _ _).of _ (by kernel_rfl)
theorem x12 : CN (.full [1]) (Sl.cold [1] : Sl Int) = some true := (R2 _ _).of _ (by kernel_rfl)
theorem nf : Cf = some true := by
 unfold Cf
 simp only [x1, x2, x3, x4, x5, x6, x7, x8, x9, x10, x11, x12, Option.bind_some, decide_true, if_true]
end
end Go.Lf
