/- A part of the proof. -/
import Derived.Test.YtpkbckdhkaggbaaDoorx34
set_option linter.all false
namespace Go.Lf.Pl
end Go.Lf.Pl
namespace Go.Lf.Pl
def pick : List Int → Nat → List Int
 | [], _ => []
 | a :: l, s => if s % 2 = 1 then a :: pick l (s / 2) else pick l (s / 2)
section
variable (wk : Int → Int) (most : Nat)
def rest (z : List Vh) : Bool := z.all fun x => decide (Ht wk z (wk x.Piece) x.Boy ≤ most)
theorem Re (a b : List Vh) (w y : Int) : Ht wk (a ++ b) w y = Ht wk a w y + Ht wk b w y := by simp [Ht, List.countP_append]
end
end Go.Lf.Pl
namespace Go.Lf.Pl
section
variable (wk : Int → Int) (most : Nat)
end
end Go.Lf.Pl
