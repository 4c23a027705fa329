/- A part of the proof. -/
import Derived.Test.YtohgomfnigdaoaaDoorx37
set_option linter.all false
namespace Go.Lf
open Go Go.Lf.Pl
noncomputable section
def xc (s i : Int) : Bool := decide (s.toNat / 2 ^ i.toNat % 2 = 1)
def xa (s : Int) (n : Nat) : List Int := (yX n).filter (xc s)
theorem uu {n : Nat} (h : n ≤ 4) : ym .shl 1 (n : Int) = some ((2 ^ n : Nat) : Int) := by
 have key : ∀ m : _root_.Fin 5, ym .shl 1 ((m.val : Nat) : Int) = some ((2 ^ m.val : Nat) : Int) := by decide
 exact key ⟨n, by omega⟩
def CP : List Int → List Int → Bool
 | a :: x, b :: y => if a = b then CP x y else decide (a < b)
 | x, y => decide (x.length < y.length)
theorem sC (y : List Int) : CP [] y = decide (0 < y.length) := by cases y <;> rfl
theorem qh (x : List Int) : CP x [] = decide (x.length < 0) := by cases x <;> rfl
def bF (x y : List Int) : Bool := decide (x.length < y.length) || (decide (x.length = y.length) && CP x y)
theorem rL (x y : AC) : (if decide ([x.Piece, x.Part, x.Boy] = [y.Piece, y.Part, y.Boy]) = true then false else CP [x.Piece, x.Part, x.Boy] [y.Piece, y.Part, y.Boy]) = (if x = y then false else zA x y) := by
 by_cases hxy : x = y
 ·subst hxy; simp
 ·rw [if_neg hxy]
  have h1 : ¬ [x.Piece, x.Part, x.Boy] = [y.Piece, y.Part, y.Boy] := by
   intro h; simp at h; exact hxy (SO h.1 h.2.1 h.2.2)
  rw [if_neg (by simpa using h1)]
  rw [Bool.eq_iff_iff, M6]
  have hne : ¬ (x.Piece = y.Piece ∧ x.Part = y.Part ∧ x.Boy = y.Boy) := fun h => hxy (SO h.1 h.2.1 h.2.2)
  by_cases e1 : x.Piece = y.Piece
  ·by_cases e2 : x.Part = y.Part
   ·have e3 : ¬ x.Boy = y.Boy := fun h => hne ⟨e1, e2, h⟩
    simp [CP, e1, e2, e3]
   ·simp [CP, e1, e2]
  ·simp [CP, e1]
theorem uU (x y : AC) : CP [x.Piece, x.Part, x.Boy] [y.Piece, y.Part, y.Boy] = zA x y := by
 have h3 := rL x y
 by_cases hxy : x = y
 ·subst hxy; rw [Zv]; simp [CP]
 ·have h1 : ¬ [x.Piece, x.Part, x.Boy] = [y.Piece, y.Part, y.Boy] := by
   intro h; simp at h; exact hxy (SO h.1 h.2.1 h.2.2)
  rw [if_neg (by simpa using h1), if_neg hxy] at h3
  exact h3
end
end Go.Lf
namespace Go.Lf
open Go Go.Lf.Pl
noncomputable section
theorem PV : ∀ c d : List Int, CP c d = true → CP d c = false
 | [], [], h => by simp [CP] at h
 | [], b :: d, _ => by simp [CP]
 | a :: c, [], h => by simp [CP] at h
 | a :: c, b :: d, h => by
  simp only [CP] at h ⊢
  by_cases hab : a = b
  ·subst hab
   rw [if_pos rfl] at h ⊢
   exact PV c d h
  ·rw [if_neg hab] at h
   rw [if_neg (fun e => hab e.symm)]
   have := of_decide_eq_true h
   exact decide_eq_false (by omega)
theorem Jn : ∀ c : List Int, CP c c = false
 | [] => by simp [CP]
 | a :: c => by simp only [CP, if_true]; exact Jn c
theorem WV : ∀ (l : List Int) (m : Nat), l.Pairwise (· < ·) → (DW m l).Pairwise fun c d => CP c d = true
 | _, 0, _ => by simp [DW]
 | [], _ + 1, _ => by simp [DW]
 | a :: l, m + 1, h => by
  rw [List.pairwise_cons] at h
  simp only [DW, List.pairwise_append]
  refine ⟨?_, WV l (m + 1) h.2, ?_⟩
  ·rw [List.pairwise_map]
   refine (WV l m h.2).imp ?_
   intro c d hcd
   simp only [CP, if_true]; exact hcd
  ·intro c hc d hd
   obtain ⟨c', _, rfl⟩ := List.mem_map.mp hc
   obtain ⟨hs, hl⟩ := Es.mp hd
   cases d with
   | nil => simp at hl
   | cons e d =>
    have := h.1 e (hs.subset List.mem_cons_self)
    simp only [CP]
    rw [if_neg (by omega)]
    exact decide_eq_true this
theorem tO {n : Nat} {can : List Int → Bool} {o : List Int} (ho : List.Sublist o (yX n)) (hc : can o = true) : bF o (Di n can) = false := by
 have hlen : o.length ≤ n := by have := ho.length_le; rwa [An] at this
 unfold Di
 cases h : (yX n).findSome? fun many => (DW many.toNat (yX n)).find? can with
 | none =>
  simp only [Option.getD_none]
  by_cases hn : o.length = n
  ·have : o = yX n := ho.eq_of_length (by rw [An]; exact hn)
   subst this
   simp [bF, Jn]
  ·have h2 := List.findSome?_eq_none_iff.mp h (o.length : Int) (Hl.mpr ⟨by omega, by omega⟩)
   rw [List.find?_eq_none] at h2
   exact absurd hc (h2 o (Es.mpr ⟨ho, by simp⟩))
 | some w =>
  simp only [Option.getD_some]
  obtain ⟨pre, a, post, e1, e2, e3⟩ := List.findSome?_eq_some_iff.mp h
  obtain ⟨e4, e5⟩ := P0 e1
  have hw := List.mem_of_find?_eq_some e2
  have hwl := IO hw
  have hge : w.length ≤ o.length := by
   by_cases hlt : o.length < w.length
   ·exfalso
    have hin : (o.length : Int) ∈ pre := by
     have h1 : (o.length : Int) ∈ yX n := Hl.mpr ⟨by omega, by omega⟩
     have hs := Gq n
     rw [e1] at h1 hs
     rw [List.pairwise_append] at hs
     rcases List.mem_append.mp h1 with hq | hq
     ·exact hq
     ·rcases List.mem_cons.mp hq with hq | hq
      ·omega
      ·have := (List.pairwise_cons.mp hs.2.1).1 _ hq; omega
    have := e3 _ hin
    rw [List.find?_eq_none] at this
    exact absurd hc (this o (Es.mpr ⟨ho, by simp⟩))
   ·omega
  simp only [bF, Bool.or_eq_false_iff, decide_eq_false_iff_not, Bool.and_eq_false_iff]
  refine ⟨by omega, ?_⟩
  by_cases heq : o.length = w.length
  ·right
   have hoin : o ∈ DW a.toNat (yX n) := Es.mpr ⟨ho, by omega⟩
   obtain ⟨_, as1, bs, e6, e7⟩ := List.find?_eq_some_iff_append.mp e2
   have hlex := WV (yX n) a.toNat (Gq n)
   rw [e6] at hoin hlex
   rw [List.pairwise_append] at hlex
   rcases List.mem_append.mp hoin with hq | hq
   ·have := e7 o hq; simp [hc] at this
   ·rcases List.mem_cons.mp hq with rfl | hq
    ·exact Jn _
    ·exact PV _ _ ((List.pairwise_cons.mp hlex.2.1).1 o hq)
  ·left; exact heq
theorem X3 (b : BenchBook) (ex : Int → Bool) (p k : Int) : (BA b ex p k).Pairwise (· < ·) := by
 unfold BA
 cases b.Pieces.ix p with
 | none => simp
 | some x =>
  dsimp only
  cases x.Parts.ix k with
  | none => simp
  | some y => exact (Gq _).filter _
theorem iz (b : BenchBook) (ex : Int → Bool) (m : Nat) (ps : List Int) : (Io b ex m ps).Pairwise fun x y => C5 x y = true := by
 refine jD _ _ _ ?_
 intro w hw
 simp only [HO, List.mem_map] at hw
 obtain ⟨w', _, rfl⟩ := hw
 exact X3 b ex _ _
theorem sg {b : BenchBook} {ex : Int → Bool} {x : List AC} (hx : x ∈ Io b ex 3 (GM b (A7 b ex))) : C5 x (LY b ex) = false := by
 have hs := iz b ex 3 (GM b (A7 b ex))
 unfold LY
 unfold A7 at hx hs
 cases hA : Io b ex 3 (GM b (Di b.Pieces.l.length (S9 b ex))) with
 | nil => rw [hA] at hx; cases hx
 | cons y L =>
  simp only [JX]; rw [Sl.l_filled, Sl.l_grow]
  rw [hA] at hx hs
  rcases List.mem_cons.mp hx with rfl | hx
  ·exact I3 _
  ·have h1 := (List.pairwise_cons.mp hs).1 x hx
   cases h2 : C5 x y with
   | false => rfl
   | true => have := J0 _ _ _ h1 h2; rw [I3] at this; cases this
end
end Go.Lf
