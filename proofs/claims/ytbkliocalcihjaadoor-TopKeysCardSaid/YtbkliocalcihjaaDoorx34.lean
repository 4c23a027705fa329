/- A part of the proof. -/
import Derived.Test.YtbkliocalcihjaaDoorx28
import Derived.Test.YtbkliocalcihjaaDoorx29
set_option linter.all false
namespace Go.Lf
open Go
set_option maxRecDepth 100000
noncomputable section
theorem ud (xs : List DV) (w : Int) : A5 (om zL) 58 [.agg [.int 1, .nils, .slice 3 [.agg [.int 0, .int (-20), .int 0]], .slice 11 xs, .int w, .nils], .nils] = some (.d (.agg [.int 1, .nils, .slice 3 [.agg [.int 0, .int (-20), .int 0]], .slice 11 xs, .int w, .nils, .fmap 2 [([5, 0], .int (-20)), ([0, 5], .int 20)], .int 0, .int 1048576, .int 1048576, .int 1048576, .int 1048576, .int 20, .int 1048556, .int 1048576, .int 1048576, .int 1048576, .int 1048576, .int 1048576, .int 1048556, .int 1048576, .int 1048576, .int 1048576, .int 1048576, .int 1048576, .int 1048556, .int 1048576, .int 1048576, .int 1048576, .int 1048576, .int 1048576, .int 1048556, .int 1048576, .int 1048576, .int 1048576, .int 1048576, .int 1048576, .int (-20), .int 1048556, .int 1048556, .int 1048556, .int 1048556, .int 0, .bool true])) :=
 HU (K := kT) (m := 60) (by kernel_rfl)
theorem ti (xs ys : List DV) (w : Int) : A5 (om zL) 58 [.agg [.int 1, .nils, .slice 3 [.agg [.int 0, .int (-20), .int 0]], .slice 11 xs, .int w, .slice 4 ys], .nils] = some (.d (.agg [.int 1, .nils, .slice 3 [.agg [.int 0, .int (-20), .int 0]], .slice 11 xs, .int w, .slice 4 ys, .fmap 2 [([5, 0], .int (-20)), ([0, 5], .int 20)], .int 0, .int 1048576, .int 1048576, .int 1048576, .int 1048576, .int 20, .int 1048556, .int 1048576, .int 1048576, .int 1048576, .int 1048576, .int 1048576, .int 1048556, .int 1048576, .int 1048576, .int 1048576, .int 1048576, .int 1048576, .int 1048556, .int 1048576, .int 1048576, .int 1048576, .int 1048576, .int 1048576, .int 1048556, .int 1048576, .int 1048576, .int 1048576, .int 1048576, .int 1048576, .int (-20), .int 1048556, .int 1048556, .int 1048556, .int 1048556, .int 0, .bool true])) :=
 HU (K := kT) (m := 60) (by kernel_rfl)
end
end Go.Lf
