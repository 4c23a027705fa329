/- A part of the proof. -/
import Derived.Test.YtohgomfnigdaoaaDoory40
import Derived.KernelRfl
set_option linter.all false
namespace Go.Lf
open Go
set_option maxRecDepth 100000
noncomputable section
theorem yN : AP (Sl.cold [1, 1, 1] : Sl Int) = some ⟨1, .hot [⟨0, 0⟩, ⟨3, 3⟩, ⟨6, 6⟩], 0, 255, 0, .nil⟩ := (AM _).of _ (by kernel_rfl)
theorem xF : Ai ⟨1, .hot [⟨0, 0⟩, ⟨3, 3⟩, ⟨6, 6⟩], 0, 255, 0, .nil⟩ = some (1, 0) := Ax (m := 60) (by kernel_rfl)
theorem xf : AP (Sl.cold [1, 2, 3] : Sl Int) = some ⟨1, .hot [⟨0, 0⟩, ⟨3, 4⟩, ⟨6, 8⟩], 0, 255, 0, .nil⟩ := (AM _).of _ (by kernel_rfl)
theorem xM : Ai ⟨1, .hot [⟨0, 0⟩, ⟨3, 4⟩, ⟨6, 8⟩], 0, 255, 0, .nil⟩ = some (6, 0) := Ax (m := 60) (by kernel_rfl)
theorem yS : AP (Sl.cold [1, 3, 3] : Sl Int) = some ⟨1, .hot [⟨0, 0⟩, ⟨3, 5⟩, ⟨6, 8⟩], 0, 255, 0, .nil⟩ := (AM _).of _ (by kernel_rfl)
theorem yJ : Ai ⟨1, .hot [⟨0, 0⟩, ⟨3, 5⟩, ⟨6, 8⟩], 0, 255, 0, .nil⟩ = some (9, 0) := Ax (m := 60) (by kernel_rfl)
theorem zl : AP (Sl.cold [2, 1] : Sl Int) = some ⟨1, .hot [⟨0, 1⟩, ⟨3, 3⟩], 0, 255, 0, .nil⟩ := (AM _).of _ (by kernel_rfl)
theorem AAN : Ai ⟨1, .hot [⟨0, 1⟩, ⟨3, 3⟩], 0, 255, 0, .nil⟩ = some (2, 0) := Ax (m := 60) (by kernel_rfl)
theorem yM : AP (Sl.cold [2, 1, 1] : Sl Int) = some ⟨1, .hot [⟨0, 1⟩, ⟨3, 3⟩, ⟨6, 6⟩], 0, 255, 0, .nil⟩ := (AM _).of _ (by kernel_rfl)
theorem xb : Ai ⟨1, .hot [⟨0, 1⟩, ⟨3, 3⟩, ⟨6, 6⟩], 0, 255, 0, .nil⟩ = some (2, 0) := Ax (m := 60) (by kernel_rfl)
theorem zZ : AP (Sl.cold [2, 2] : Sl Int) = some ⟨1, .hot [⟨0, 1⟩, ⟨3, 4⟩], 0, 255, 0, .nil⟩ := (AM _).of _ (by kernel_rfl)
theorem zr : Ai ⟨1, .hot [⟨0, 1⟩, ⟨3, 4⟩], 0, 255, 0, .nil⟩ = some (4, 0) := Ax (m := 60) (by kernel_rfl)
theorem yZ : AP (Sl.cold [2, 2, 1] : Sl Int) = some ⟨1, .hot [⟨0, 1⟩, ⟨3, 4⟩, ⟨6, 6⟩], 0, 255, 0, .nil⟩ := (AM _).of _ (by kernel_rfl)
theorem yR : Ai ⟨1, .hot [⟨0, 1⟩, ⟨3, 4⟩, ⟨6, 6⟩], 0, 255, 0, .nil⟩ = some (4, 0) := Ax (m := 60) (by kernel_rfl)
theorem yE : AP (Sl.cold [2, 2, 2] : Sl Int) = some ⟨1, .hot [⟨0, 1⟩, ⟨3, 4⟩, ⟨6, 7⟩], 0, 255, 0, .nil⟩ := (AM _).of _ (by kernel_rfl)
theorem yD : Ai ⟨1, .hot [⟨0, 1⟩, ⟨3, 4⟩, ⟨6, 7⟩], 0, 255, 0, .nil⟩ = some (8, 0) := Ax (m := 60) (by kernel_rfl)
theorem yI : AP (Sl.cold [2, 3, 1] : Sl Int) = some ⟨1, .hot [⟨0, 1⟩, ⟨3, 5⟩, ⟨6, 6⟩], 0, 255, 0, .nil⟩ := (AM _).of _ (by kernel_rfl)
theorem yH : Ai ⟨1, .hot [⟨0, 1⟩, ⟨3, 5⟩, ⟨6, 6⟩], 0, 255, 0, .nil⟩ = some (6, 0) := Ax (m := 60) (by kernel_rfl)
theorem xu : AP (Sl.cold [2, 3, 2] : Sl Int) = some ⟨1, .hot [⟨0, 1⟩, ⟨3, 5⟩, ⟨6, 7⟩], 0, 255, 0, .nil⟩ := (AM _).of _ (by kernel_rfl)
theorem ya : Ai ⟨1, .hot [⟨0, 1⟩, ⟨3, 5⟩, ⟨6, 7⟩], 0, 255, 0, .nil⟩ = some (12, 0) := Ax (m := 60) (by kernel_rfl)
theorem zw : AP (Sl.cold [3, 1] : Sl Int) = some ⟨1, .hot [⟨0, 2⟩, ⟨3, 3⟩], 0, 255, 0, .nil⟩ := (AM _).of _ (by kernel_rfl)
theorem AAC : Ai ⟨1, .hot [⟨0, 2⟩, ⟨3, 3⟩], 0, 255, 0, .nil⟩ = some (3, 0) := Ax (m := 60) (by kernel_rfl)
theorem xR : AP (Sl.cold [3, 1, 1] : Sl Int) = some ⟨1, .hot [⟨0, 2⟩, ⟨3, 3⟩, ⟨6, 6⟩], 0, 255, 0, .nil⟩ := (AM _).of _ (by kernel_rfl)
theorem xY : Ai ⟨1, .hot [⟨0, 2⟩, ⟨3, 3⟩, ⟨6, 6⟩], 0, 255, 0, .nil⟩ = some (3, 0) := Ax (m := 60) (by kernel_rfl)
theorem xa : AP (Sl.cold [3, 3, 3] : Sl Int) = some ⟨1, .hot [⟨0, 2⟩, ⟨3, 5⟩, ⟨6, 8⟩], 0, 255, 0, .nil⟩ := (AM _).of _ (by kernel_rfl)
theorem yQ : Ai ⟨1, .hot [⟨0, 2⟩, ⟨3, 5⟩, ⟨6, 8⟩], 0, 255, 0, .nil⟩ = some (27, 0) := Ax (m := 60) (by kernel_rfl)
end
end Go.Lf
