/- A part of the proof. -/
import Derived.Test.YtohgomfnigdaoaaDoory40
import Derived.KernelRfl
set_option linter.all false
namespace Go.Lf
open Go
set_option maxRecDepth 100000
noncomputable section
theorem ch1 : AP (Sl.cold [1] : Sl Int) = some ⟨1, .hot [⟨0, 0⟩], 0, 255, 0, .nil⟩ := (AM _).of _ (by kernel_rfl)
theorem pw1 : Ai ⟨1, .hot [⟨0, 0⟩], 0, 255, 0, .nil⟩ = some (1, 0) := Ax (m := 60) (by kernel_rfl)
theorem xK : AP (Sl.cold [1, 1, 2] : Sl Int) = some ⟨1, .hot [⟨0, 0⟩, ⟨3, 3⟩, ⟨6, 7⟩], 0, 255, 0, .nil⟩ := (AM _).of _ (by kernel_rfl)
theorem yq : Ai ⟨1, .hot [⟨0, 0⟩, ⟨3, 3⟩, ⟨6, 7⟩], 0, 255, 0, .nil⟩ = some (2, 0) := Ax (m := 60) (by kernel_rfl)
theorem yk : AP (Sl.cold [1, 1, 3] : Sl Int) = some ⟨1, .hot [⟨0, 0⟩, ⟨3, 3⟩, ⟨6, 8⟩], 0, 255, 0, .nil⟩ := (AM _).of _ (by kernel_rfl)
theorem yC : Ai ⟨1, .hot [⟨0, 0⟩, ⟨3, 3⟩, ⟨6, 8⟩], 0, 255, 0, .nil⟩ = some (3, 0) := Ax (m := 60) (by kernel_rfl)
theorem xg : AP (Sl.cold [1, 2, 2] : Sl Int) = some ⟨1, .hot [⟨0, 0⟩, ⟨3, 4⟩, ⟨6, 7⟩], 0, 255, 0, .nil⟩ := (AM _).of _ (by kernel_rfl)
theorem xZ : Ai ⟨1, .hot [⟨0, 0⟩, ⟨3, 4⟩, ⟨6, 7⟩], 0, 255, 0, .nil⟩ = some (4, 0) := Ax (m := 60) (by kernel_rfl)
theorem yY : AP (Sl.cold [1, 3, 2] : Sl Int) = some ⟨1, .hot [⟨0, 0⟩, ⟨3, 5⟩, ⟨6, 7⟩], 0, 255, 0, .nil⟩ := (AM _).of _ (by kernel_rfl)
theorem xI : Ai ⟨1, .hot [⟨0, 0⟩, ⟨3, 5⟩, ⟨6, 7⟩], 0, 255, 0, .nil⟩ = some (6, 0) := Ax (m := 60) (by kernel_rfl)
theorem ch2 : AP (Sl.cold [2] : Sl Int) = some ⟨1, .hot [⟨0, 1⟩], 0, 255, 0, .nil⟩ := (AM _).of _ (by kernel_rfl)
theorem pw2 : Ai ⟨1, .hot [⟨0, 1⟩], 0, 255, 0, .nil⟩ = some (2, 0) := Ax (m := 60) (by kernel_rfl)
theorem xG : AP (Sl.cold [2, 2, 3] : Sl Int) = some ⟨1, .hot [⟨0, 1⟩, ⟨3, 4⟩, ⟨6, 8⟩], 0, 255, 0, .nil⟩ := (AM _).of _ (by kernel_rfl)
theorem xl : Ai ⟨1, .hot [⟨0, 1⟩, ⟨3, 4⟩, ⟨6, 8⟩], 0, 255, 0, .nil⟩ = some (12, 0) := Ax (m := 60) (by kernel_rfl)
theorem AAA : AP (Sl.cold [2, 3] : Sl Int) = some ⟨1, .hot [⟨0, 1⟩, ⟨3, 5⟩], 0, 255, 0, .nil⟩ := (AM _).of _ (by kernel_rfl)
theorem zn : Ai ⟨1, .hot [⟨0, 1⟩, ⟨3, 5⟩], 0, 255, 0, .nil⟩ = some (6, 0) := Ax (m := 60) (by kernel_rfl)
theorem ch3 : AP (Sl.cold [3] : Sl Int) = some ⟨1, .hot [⟨0, 2⟩], 0, 255, 0, .nil⟩ := (AM _).of _ (by kernel_rfl)
theorem pw3 : Ai ⟨1, .hot [⟨0, 2⟩], 0, 255, 0, .nil⟩ = some (3, 0) := Ax (m := 60) (by kernel_rfl)
theorem xk : AP (Sl.cold [3, 1, 2] : Sl Int) = some ⟨1, .hot [⟨0, 2⟩, ⟨3, 3⟩, ⟨6, 7⟩], 0, 255, 0, .nil⟩ := (AM _).of _ (by kernel_rfl)
theorem yr : Ai ⟨1, .hot [⟨0, 2⟩, ⟨3, 3⟩, ⟨6, 7⟩], 0, 255, 0, .nil⟩ = some (6, 0) := Ax (m := 60) (by kernel_rfl)
theorem xc : AP (Sl.cold [3, 1, 3] : Sl Int) = some ⟨1, .hot [⟨0, 2⟩, ⟨3, 3⟩, ⟨6, 8⟩], 0, 255, 0, .nil⟩ := (AM _).of _ (by kernel_rfl)
theorem xX : Ai ⟨1, .hot [⟨0, 2⟩, ⟨3, 3⟩, ⟨6, 8⟩], 0, 255, 0, .nil⟩ = some (9, 0) := Ax (m := 60) (by kernel_rfl)
theorem xp : AP (Sl.cold [3, 2, 2] : Sl Int) = some ⟨1, .hot [⟨0, 2⟩, ⟨3, 4⟩, ⟨6, 7⟩], 0, 255, 0, .nil⟩ := (AM _).of _ (by kernel_rfl)
theorem xt : Ai ⟨1, .hot [⟨0, 2⟩, ⟨3, 4⟩, ⟨6, 7⟩], 0, 255, 0, .nil⟩ = some (12, 0) := Ax (m := 60) (by kernel_rfl)
theorem yc : AP (Sl.cold [3, 2, 3] : Sl Int) = some ⟨1, .hot [⟨0, 2⟩, ⟨3, 4⟩, ⟨6, 8⟩], 0, 255, 0, .nil⟩ := (AM _).of _ (by kernel_rfl)
theorem yT : Ai ⟨1, .hot [⟨0, 2⟩, ⟨3, 4⟩, ⟨6, 8⟩], 0, 255, 0, .nil⟩ = some (18, 0) := Ax (m := 60) (by kernel_rfl)
end
end Go.Lf
