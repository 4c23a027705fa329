/- A part of the proof. -/
import Derived.Test.YtdjddljglkeefaaDoorx31
set_option linter.all false
namespace Go.Lf
open Go Go.Lf.Pl
noncomputable section
theorem Va (x y : Sl Int) (hn : x.l.length < 4611686018427387904) : CL x y = some (decide (x.l = y.l)) := by
 have e : Loop (Bw x y) (decide (x.len = y.len), 0) = some (decide (x.l = y.l)) := by
  by_cases hl : x.l.length = y.l.length
  ·have h0 : decide (x.len = y.len) = true := by simp [Sl.len_l, hl]
   rw [h0]
   have main : ∀ post pre, x.l = pre ++ post → x.l.take pre.length = y.l.take pre.length → Loop (Bw x y) (true, (pre.length : Int)) = some (decide (x.l = y.l)) := by
    intro post
    induction post with
    | nil =>
     intro pre h ht
     have hlt : ¬ (pre.length : Int) < x.len := by rw [Sl.len_l, h]; simp
     have : x.l = y.l := by
      rw [List.take_of_length_le (by rw [h]; simp), List.take_of_length_le (by rw [← hl, h]; simp)] at ht
      exact ht
     rw [decide_eq_true this]
     exact Loop.done (by simp [Bw, hlt])
    | cons a post ih =>
     intro pre h ht
     have hlt : (pre.length : Int) < x.len := by rw [Sl.len_l, h]; simp; omega
     have hlx : pre.length < x.l.length := by rw [h]; simp
     have hW : W ((pre.length : Int) + 1) = (pre.length : Int) + 1 := Jc (by omega)
     have hy : y.ix (pre.length : Int) = some (y.l[pre.length]'(by omega)) := by rw [Sl.ix_nat]; simp
     have hxa : x.l[pre.length]'hlx = a := by
      have : x.l[pre.length]? = some a := by rw [h]; simp
      rw [List.getElem?_eq_getElem hlx] at this
      exact Option.some.inj this
     have hf : Bw x y (true, pre.length) = some (.inl (decide (a = y.l[pre.length]'(by omega)), (pre.length : Int) + 1)) := by
      simp only [Bw, Bool.true_and, decide_eq_true hlt, if_true, Sl.ix_at h, Option.bind_some, hy, hW]
     rw [Loop.step hf]
     by_cases hc : a = y.l[pre.length]'(by omega)
     ·rw [decide_eq_true hc]
      have := ih (pre ++ [a]) (by rw [h]; simp) (by
       rw [List.length_append, List.length_singleton, List.take_succ_eq_append_getElem hlx, List.take_succ_eq_append_getElem (by omega), ht, hxa, ← hc])
      simpa using this
     ·rw [decide_eq_false hc]
      have : ¬ x.l = y.l := by
       intro he; apply hc; rw [← hxa]; congr 1
      rw [decide_eq_false this]
      exact Loop.done (by simp [Bw])
   exact main x.l [] rfl (by simp)
  ·have h0 : decide (x.len = y.len) = false := by simp [Sl.len_l]; omega
   have h1 : ¬ x.l = y.l := by intro h; apply hl; rw [h]
   rw [h0, decide_eq_false h1]
   exact Loop.done (by simp [Bw])
 simp only [CL, e, Option.bind_some]
theorem cR (a : Sl Int) (hn : a.l.length < 4611686018427387904) (n : Int) : ∃ v, GY a n = some v ∧ decide (v < 0) = !a.l.contains n := by
 have e : Loop (Bz a n) 0 = some (match a.l.findIdx? (fun y => n == y) with | some i => .inl (i : Int) | none => .inr ()) := by
  have main : ∀ post pre, a.l = pre ++ post → Loop (Bz a n) (pre.length : Int) = some (match post.findIdx? (fun y => n == y) with | some i => .inl ((pre.length + i : Nat) : Int) | none => .inr ()) := by
   intro post
   induction post with
   | nil =>
    intro pre h
    have hl : ¬ (pre.length : Int) < a.len := by rw [Sl.len_l, h]; simp
    exact Loop.done (by simp only [Bz, decide_eq_false hl, Bool.false_eq_true, if_false]; rfl)
   | cons y post ih =>
    intro pre h
    have hl : (pre.length : Int) < a.len := by rw [Sl.len_l, h]; simp; omega
    have hW : W ((pre.length : Int) + 1) = (pre.length : Int) + 1 := Jc (by rw [h] at hn; simp at hn; omega)
    by_cases hc : n = y
    ·have hf : Bz a n pre.length = some (.inr (.inl (pre.length : Int))) := by
      simp only [Bz, decide_eq_true hl, if_true, Sl.ix_at h, Option.bind_some, hc, decide_true]
     rw [Loop.done hf]
     simp [List.findIdx?_cons, hc]
    ·have hf : Bz a n pre.length = some (.inl ((pre.length : Int) + 1)) := by
      have hc' : ¬ y = n := fun h => hc h.symm
      simp only [Bz, decide_eq_true hl, if_true, Sl.ix_at h, Option.bind_some, decide_eq_false hc', Bool.false_eq_true, if_false, hW]
     rw [Loop.step hf]
     have := ih (pre ++ [y]) (by rw [h]; simp)
     simp only [List.length_append, List.length_cons, List.length_nil, Nat.zero_add] at this
     rw [show ((pre.length : Int) + 1) = ((pre.length + 1 : Nat) : Int) by simp, this]
     have hb : (n == y) = false := by simpa using hc
     simp only [List.findIdx?_cons, hb, Bool.false_eq_true, if_false]
     cases post.findIdx? (fun y => n == y) with
     | none => rfl
     | some i => simp; omega
  have := main a.l [] rfl
  simpa using this
 have hany : a.l.contains n = (a.l.findIdx? (fun y => n == y)).isSome := by
  rw [List.findIdx?_isSome, List.contains_eq_any_beq]
 simp only [GY, e, Option.bind_some, hany]
 cases a.l.findIdx? (fun y => n == y) with
 | none => exact ⟨-1, rfl, by simp⟩
 | some i => exact ⟨(i : Int), rfl, by simp⟩
end
end Go.Lf
namespace Go.Lf
open Go Go.Lf.Pl
noncomputable section
section
variable {b : BenchBook} (hv : C6 b) (ex : Int → Bool)
include hv
omit hv in
theorem Dp (n : Nat) : (idx n).Pairwise (· < ·) := by
 simp only [idx, List.pairwise_map]
 refine List.Pairwise.imp ?_ (List.pairwise_lt_range (n := n))
 intro a b h; omega
end
end
end Go.Lf
