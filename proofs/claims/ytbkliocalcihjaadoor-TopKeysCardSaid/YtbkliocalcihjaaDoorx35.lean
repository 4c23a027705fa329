/- A part of the proof. -/
import Derived.Test.YtbkliocalcihjaaDoorx28
import Derived.Test.YtbkliocalcihjaaDoorx29
set_option linter.all false
namespace Go.Lf
open Go
set_option maxRecDepth 100000
noncomputable section
def sC : DV := .agg [.int 20, .int 22, .int 0, .int 0, .int 1, .int 1, .int 1, .int 1, .slice 5 [.agg [.int 6, .int 2, .int 4, .int 1, .int 0], .agg [.int 6, .int 3, .int 5, .int 1, .int 0]], .nils, .slice 4 [.agg [.int 1, .int 0, .int 16, .int 1]]]
def Rf : DV := .agg [.int 3, .slice 4 [.agg [.int 0, .int 1, .int (-3), .int 1], .agg [.int 1, .int 2, .int (-4), .int 1]], .slice 3 [.agg [.int 0, .int 21, .int 1], .agg [.int 2, .int 16, .int 1]], .slice 11 [.agg [.int 6, .int 6, .int 14, .int 15, .int 1, .int 1, .int 6, .int 6, .int 0, .int 9, .int 9], .agg [.int 8, .int 9, .int 20, .int 20, .int 0, .int 0, .int 0, .int 0, .int 0, .int 7, .int 9]], .int 3, .nils]
theorem qx : A5 (om zL) 23 [.int 20, .slice 1 [.int 2, .int 3], .slice 4 [.agg [.int 1, .int 0, .int 16, .int 1]]] = some (.d sC) := NE (K := kT) (m := 60) (by kernel_rfl)
theorem lR : A5 (om zL) 26 [sC] = some (.d Rf) := NE (K := kT) (m := 60) (by kernel_rfl)
theorem ot : A5 (om zL) 24 [sC, .int 0, .int 0] = some (.d (.tup [.agg [.int 18, .int 20], .int 0])) := NE (K := kT) (m := 60) (by kernel_rfl)
theorem pU : A5 (om zL) 27 [sC, .int 1] = some (.d (.tup [.agg [.int 3, .int 5], .int 0])) := NE (K := kT) (m := 60) (by kernel_rfl)
end
end Go.Lf
