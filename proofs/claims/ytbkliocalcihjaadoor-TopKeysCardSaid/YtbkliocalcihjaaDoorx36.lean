/- A part of the proof. -/
import Derived.Test.YtbkliocalcihjaaDoorx35
set_option linter.all false
namespace Go.Lf
open Go
set_option maxRecDepth 100000
noncomputable section
theorem UY : (okR (.tup [.agg [.int 18, .int 20], .int 0]) (uz kT 60 25 [Rf, .int 1]) && okR (.tup [.agg [.int (-5), .int (-3)], .int 0]) (uz kT 60 28 [Rf, .int 1, .int 2])) = true := by kernel_rfl
theorem lT : A5 (om zL) 25 [Rf, .int 1] = some (.d (.tup [.agg [.int 18, .int 20], .int 0])) := NE ((Bool.and_eq_true _ _ ▸ UY).1)
theorem lI : A5 (om zL) 28 [Rf, .int 1, .int 2] = some (.d (.tup [.agg [.int (-5), .int (-3)], .int 0])) := NE ((Bool.and_eq_true _ _ ▸ UY).2)
end
end Go.Lf
