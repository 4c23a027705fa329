/- A part of the proof. -/
import Derived.Test.YtohgomfnigdaoaaDoory19
set_option linter.all false
namespace Go.Lf.Pl
open Go.Lf
def Dh : Nat → List Int → List (List Int)
 | 0, _ => [[]]
 | _ + 1, [] => []
 | m + 1, a :: l => (Dh m l).map (a :: ·) ++ Dh (m + 1) l
def m8 : List Int → List (List Int)
 | [] => [[]]
 | a :: l => (m8 l).map (a :: ·) ++ m8 l
theorem PE (l : List Int) : ∀ m, (m8 l).filter (fun c => c.length == m) = Dh m l := by
 induction l with
 | nil => intro m; cases m <;> rfl
 | cons a l ih =>
  intro m
  simp only [m8, List.filter_append, List.filter_map]
  cases m with
  | zero =>
   have h0 : (m8 l).filter ((fun c : List Int => c.length == 0) ∘ fun x => a :: x) = [] := by
    rw [List.filter_eq_nil_iff]; intro x _; simp
   have := ih 0
   rw [h0, this]
   cases l <;> rfl
  | succ m =>
   have h1 : (fun c : List Int => c.length == m + 1) ∘ (fun x => a :: x) = fun c => c.length == m := by
    funext x; simp
   rw [h1, ih m, ih (m + 1)]; rfl
theorem Ig {m : Nat} {l c : List Int} (h : c ∈ Dh m l) : c.length = m := by
 rw [← PE] at h
 have := (List.mem_filter.mp h).2
 simpa using this
theorem rZ {l c : List Int} : c ∈ m8 l ↔ List.Sublist c l := by
 induction l generalizing c with
 | nil => simp [m8]
 | cons a l ih =>
  simp only [m8, List.mem_append, List.mem_map, ih]
  constructor
  ·rintro (⟨x, hx, rfl⟩ | h)
   ·exact hx.cons_cons a
   ·exact h.cons a
  ·intro h
   cases h with
   | cons _ h => exact .inr h
   | cons_cons _ h => exact .inl ⟨_, h, rfl⟩
theorem E6 {m : Nat} {l c : List Int} : c ∈ Dh m l ↔ List.Sublist c l ∧ c.length = m := by
 rw [← PE, List.mem_filter, rZ]; simp
abbrev FK := AC
structure Jd where
 wp : Int
 wk : Int
 many : Nat
 able : List Int
def BO (p k : Int) (c : List Int) : List FK := c.map fun b => ⟨p, k, b⟩
def Ft : List Jd → List (List FK)
 | [] => [[]]
 | w :: W => (Dh w.many w.able).flatMap fun c => (Ft W).map fun r => BO w.wp w.wk c ++ r
section
variable (wk : Int → Int) (most : Nat)
def Fe (pre : List FK) (week boy : Int) : Nat := pre.countP fun y => wk y.Piece == week && y.Boy == boy
def Qq (pre : List FK) (x : FK) : Bool := pre.any fun y => y.Piece == x.Piece && y.Boy == x.Boy
def I7 (pre : List FK) (x : FK) : Bool := !Qq pre x && decide (Fe wk pre (wk x.Piece) x.Boy < most)
def Bh (pre : List FK) : List FK → Bool
 | [] => true
 | x :: xs => I7 wk most pre x && Bh (pre ++ [x]) xs
theorem JE (a b : List FK) : ∀ pre, Bh wk most pre (a ++ b) = (Bh wk most pre a && Bh wk most (pre ++ a) b) := by
 induction a with
 | nil => intro pre; simp [Bh]
 | cons x a ih => intro pre; simp [Bh, ih, Bool.and_assoc, List.append_assoc]
def Rt (p k : Int) (HF : List FK → List (List FK)) : List Int → Nat → List FK → List (List FK)
 | _, 0, pre => HF pre
 | [], _ + 1, _ => []
 | b :: l, m + 1, pre => (if I7 wk most pre ⟨p, k, b⟩ then Rt p k HF l m (pre ++ [⟨p, k, b⟩]) else []) ++ Rt p k HF l (m + 1) pre
def fill : List Jd → List FK → List (List FK)
 | [], pre => [pre]
 | w :: W, pre => Rt wk most w.wp w.wk (fill W) w.able w.many pre
theorem sk (p k : Int) (HF : List FK → List (List FK)) : ∀ (l : List Int) (m : Nat) (pre : List FK),
  Rt wk most p k HF l m pre = (Dh m l).flatMap fun c => if Bh wk most pre (BO p k c) then HF (pre ++ BO p k c) else [] := by
 intro l
 induction l with
 | nil =>
  intro m pre
  cases m with
  | zero => simp [Rt, Dh, BO, Bh]
  | succ m => simp [Rt, Dh]
 | cons b l ih =>
  intro m pre
  cases m with
  | zero => simp [Rt, Dh, BO, Bh]
  | succ m =>
   simp only [Rt, Dh, List.flatMap_append, List.flatMap_map]
   rw [ih (m + 1) pre]
   congr 1
   by_cases h : I7 wk most pre ⟨p, k, b⟩ = true
   ·rw [if_pos h, ih m]
    congr 1; funext c
    simp [BO, Bh, h, List.append_assoc]
   ·rw [if_neg h]
    symm
    rw [List.flatMap_eq_nil_iff]
    intro c _
    simp [BO, Bh, h]
theorem J7 : ∀ (W : List Jd) (pre : List FK), fill wk most W pre = ((Ft W).filter (Bh wk most pre)).map (pre ++ ·)
 | [], pre => by simp [fill, Ft, Bh, List.filter_cons]
 | w :: W, pre => by
  simp only [fill, Ft, sk, List.filter_flatMap, List.map_flatMap]
  congr 1; funext c
  rw [List.filter_map]
  by_cases h : Bh wk most pre (BO w.wp w.wk c) = true
  ·rw [if_pos h, J7 W, List.map_map]
   have e : (Bh wk most pre ∘ fun r => BO w.wp w.wk c ++ r) = Bh wk most (pre ++ BO w.wp w.wk c) := by
    funext r; simp [JE, h]
   rw [e]
   congr 1; funext r; simp
  ·rw [if_neg h]
   have e : (Ft W).filter (Bh wk most pre ∘ fun r => BO w.wp w.wk c ++ r) = [] := by
    rw [List.filter_eq_nil_iff]; intro r _; simp [JE, h]
   rw [e]; rfl
end
end Go.Lf.Pl
