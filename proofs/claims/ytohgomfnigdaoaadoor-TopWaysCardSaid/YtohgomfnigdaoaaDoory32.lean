/- A part of the proof. -/
import Derived.Test.YtohgomfnigdaoaaDoory31
set_option linter.all false
namespace Go.Lf
open Go Go.Lf.Pl
noncomputable section
theorem sn (x y : Sl Int) (hn : x.l.length < 4611686018427387904) : CN x y = some (decide (x.l = y.l)) := by
 have e : Loop (B7 x y) (decide (x.len = y.len), 0) = some (decide (x.l = y.l)) := by
  by_cases hl : x.l.length = y.l.length
  ·have h0 : decide (x.len = y.len) = true := by simp [Sl.len_l, hl]
   rw [h0]
   have main : ∀ post pre, x.l = pre ++ post → x.l.take pre.length = y.l.take pre.length → Loop (B7 x y) (true, (pre.length : Int)) = some (decide (x.l = y.l)) := by
    intro post
    induction post with
    | nil =>
     intro pre h ht
     have hlt : ¬ (pre.length : Int) < x.len := by rw [Sl.len_l, h]; simp
     have : x.l = y.l := by
      rw [List.take_of_length_le (by rw [h]; simp), List.take_of_length_le (by rw [← hl, h]; simp)] at ht
      exact ht
     rw [decide_eq_true this]
     exact Loop.done (by simp [B7, hlt])
    | cons a post ih =>
     intro pre h ht
     have hlt : (pre.length : Int) < x.len := by rw [Sl.len_l, h]; simp; omega
     have hlx : pre.length < x.l.length := by rw [h]; simp
     have hW : W ((pre.length : Int) + 1) = (pre.length : Int) + 1 := Q7 (by omega)
     have hy : y.ix (pre.length : Int) = some (y.l[pre.length]'(by omega)) := by rw [Sl.ix_nat]; simp
     have hxa : x.l[pre.length]'hlx = a := by
      have : x.l[pre.length]? = some a := by rw [h]; simp
      rw [List.getElem?_eq_getElem hlx] at this
      exact Option.some.inj this
     have hf : B7 x y (true, pre.length) = some (.inl (decide (a = y.l[pre.length]'(by omega)), (pre.length : Int) + 1)) := by
      simp only [B7, Bool.true_and, decide_eq_true hlt, if_true, Sl.ix_at h, Option.bind_some, hy, hW]
     rw [Loop.step hf]
     by_cases hc : a = y.l[pre.length]'(by omega)
     ·rw [decide_eq_true hc]
      have := ih (pre ++ [a]) (by rw [h]; simp) (by
       rw [List.length_append, List.length_singleton, List.take_succ_eq_append_getElem hlx, List.take_succ_eq_append_getElem (by omega), ht, hxa, ← hc])
      simpa using this
     ·rw [decide_eq_false hc]
      have : ¬ x.l = y.l := by
       intro he; apply hc; rw [← hxa]; congr 1
      rw [decide_eq_false this]
      exact Loop.done (by simp [B7])
   exact main x.l [] rfl (by simp)
  ·have h0 : decide (x.len = y.len) = false := by simp [Sl.len_l]; omega
   have h1 : ¬ x.l = y.l := by intro h; apply hl; rw [h]
   rw [h0, decide_eq_false h1]
   exact Loop.done (by simp [B7])
 simp only [CN, e, Option.bind_some]
end
end Go.Lf
namespace Go.Lf
open Go Go.Lf.Pl
noncomputable section
section
variable {b : BenchBook} (hv : GT b) (ex : Int → Bool)
include hv
omit hv in
theorem G6 (n : Nat) : (idx n).Pairwise (· < ·) := by
 simp only [idx, List.pairwise_map]
 refine List.Pairwise.imp ?_ (List.pairwise_lt_range (n := n))
 intro a b h; omega
end
end
end Go.Lf
