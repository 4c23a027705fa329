/- A part of the proof. -/
import Derived.Test.YtohgomfnigdaoaaDoory40
import Derived.KernelRfl
set_option linter.all false
namespace Go.Lf
open Go
set_option maxRecDepth 100000
noncomputable section
theorem zb : AP (Sl.cold [1, 1] : Sl Int) = some ⟨1, .hot [⟨0, 0⟩, ⟨3, 3⟩], 0, 255, 0, .nil⟩ := (AM _).of _ (by kernel_rfl)
theorem AAF : Ai ⟨1, .hot [⟨0, 0⟩, ⟨3, 3⟩], 0, 255, 0, .nil⟩ = some (1, 0) := Ax (m := 60) (by kernel_rfl)
theorem ze : AP (Sl.cold [1, 2] : Sl Int) = some ⟨1, .hot [⟨0, 0⟩, ⟨3, 4⟩], 0, 255, 0, .nil⟩ := (AM _).of _ (by kernel_rfl)
theorem AAH : Ai ⟨1, .hot [⟨0, 0⟩, ⟨3, 4⟩], 0, 255, 0, .nil⟩ = some (2, 0) := Ax (m := 60) (by kernel_rfl)
theorem ym : AP (Sl.cold [1, 2, 1] : Sl Int) = some ⟨1, .hot [⟨0, 0⟩, ⟨3, 4⟩, ⟨6, 6⟩], 0, 255, 0, .nil⟩ := (AM _).of _ (by kernel_rfl)
theorem xr : Ai ⟨1, .hot [⟨0, 0⟩, ⟨3, 4⟩, ⟨6, 6⟩], 0, 255, 0, .nil⟩ = some (2, 0) := Ax (m := 60) (by kernel_rfl)
theorem AAM : AP (Sl.cold [1, 3] : Sl Int) = some ⟨1, .hot [⟨0, 0⟩, ⟨3, 5⟩], 0, 255, 0, .nil⟩ := (AM _).of _ (by kernel_rfl)
theorem zu : Ai ⟨1, .hot [⟨0, 0⟩, ⟨3, 5⟩], 0, 255, 0, .nil⟩ = some (3, 0) := Ax (m := 60) (by kernel_rfl)
theorem xq : AP (Sl.cold [1, 3, 1] : Sl Int) = some ⟨1, .hot [⟨0, 0⟩, ⟨3, 5⟩, ⟨6, 6⟩], 0, 255, 0, .nil⟩ := (AM _).of _ (by kernel_rfl)
theorem xP : Ai ⟨1, .hot [⟨0, 0⟩, ⟨3, 5⟩, ⟨6, 6⟩], 0, 255, 0, .nil⟩ = some (3, 0) := Ax (m := 60) (by kernel_rfl)
theorem yU : AP (Sl.cold [2, 1, 2] : Sl Int) = some ⟨1, .hot [⟨0, 1⟩, ⟨3, 3⟩, ⟨6, 7⟩], 0, 255, 0, .nil⟩ := (AM _).of _ (by kernel_rfl)
theorem yP : Ai ⟨1, .hot [⟨0, 1⟩, ⟨3, 3⟩, ⟨6, 7⟩], 0, 255, 0, .nil⟩ = some (4, 0) := Ax (m := 60) (by kernel_rfl)
theorem yt : AP (Sl.cold [2, 1, 3] : Sl Int) = some ⟨1, .hot [⟨0, 1⟩, ⟨3, 3⟩, ⟨6, 8⟩], 0, 255, 0, .nil⟩ := (AM _).of _ (by kernel_rfl)
theorem xm : Ai ⟨1, .hot [⟨0, 1⟩, ⟨3, 3⟩, ⟨6, 8⟩], 0, 255, 0, .nil⟩ = some (6, 0) := Ax (m := 60) (by kernel_rfl)
theorem yG : AP (Sl.cold [2, 3, 3] : Sl Int) = some ⟨1, .hot [⟨0, 1⟩, ⟨3, 5⟩, ⟨6, 8⟩], 0, 255, 0, .nil⟩ := (AM _).of _ (by kernel_rfl)
theorem yW : Ai ⟨1, .hot [⟨0, 1⟩, ⟨3, 5⟩, ⟨6, 8⟩], 0, 255, 0, .nil⟩ = some (18, 0) := Ax (m := 60) (by kernel_rfl)
theorem zq : AP (Sl.cold [3, 2] : Sl Int) = some ⟨1, .hot [⟨0, 2⟩, ⟨3, 4⟩], 0, 255, 0, .nil⟩ := (AM _).of _ (by kernel_rfl)
theorem AAL : Ai ⟨1, .hot [⟨0, 2⟩, ⟨3, 4⟩], 0, 255, 0, .nil⟩ = some (6, 0) := Ax (m := 60) (by kernel_rfl)
theorem xU : AP (Sl.cold [3, 2, 1] : Sl Int) = some ⟨1, .hot [⟨0, 2⟩, ⟨3, 4⟩, ⟨6, 6⟩], 0, 255, 0, .nil⟩ := (AM _).of _ (by kernel_rfl)
theorem xj : Ai ⟨1, .hot [⟨0, 2⟩, ⟨3, 4⟩, ⟨6, 6⟩], 0, 255, 0, .nil⟩ = some (6, 0) := Ax (m := 60) (by kernel_rfl)
theorem AAJ : AP (Sl.cold [3, 3] : Sl Int) = some ⟨1, .hot [⟨0, 2⟩, ⟨3, 5⟩], 0, 255, 0, .nil⟩ := (AM _).of _ (by kernel_rfl)
theorem zg : Ai ⟨1, .hot [⟨0, 2⟩, ⟨3, 5⟩], 0, 255, 0, .nil⟩ = some (9, 0) := Ax (m := 60) (by kernel_rfl)
theorem xQ : AP (Sl.cold [3, 3, 1] : Sl Int) = some ⟨1, .hot [⟨0, 2⟩, ⟨3, 5⟩, ⟨6, 6⟩], 0, 255, 0, .nil⟩ := (AM _).of _ (by kernel_rfl)
theorem yb : Ai ⟨1, .hot [⟨0, 2⟩, ⟨3, 5⟩, ⟨6, 6⟩], 0, 255, 0, .nil⟩ = some (9, 0) := Ax (m := 60) (by kernel_rfl)
theorem xx : AP (Sl.cold [3, 3, 2] : Sl Int) = some ⟨1, .hot [⟨0, 2⟩, ⟨3, 5⟩, ⟨6, 7⟩], 0, 255, 0, .nil⟩ := (AM _).of _ (by kernel_rfl)
theorem yL : Ai ⟨1, .hot [⟨0, 2⟩, ⟨3, 5⟩, ⟨6, 7⟩], 0, 255, 0, .nil⟩ = some (18, 0) := Ax (m := 60) (by kernel_rfl)
end
end Go.Lf
