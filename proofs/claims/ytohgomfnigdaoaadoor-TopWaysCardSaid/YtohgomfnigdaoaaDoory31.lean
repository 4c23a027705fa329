/- A part of the proof. -/
import Derived.Test.YtohgomfnigdaoaaDoory30
set_option linter.all false
namespace Go.Lf
open Go Go.Lf.Pl
noncomputable section
section
variable {b : BenchBook} (hv : GT b) (ex : Int → Bool)
include hv
end
end
end Go.Lf
