/- A part of the proof. -/
import Derived.Test.YtdjddljglkeefaaDoorx19
set_option linter.all false
namespace Go.Lf.Pl
open Go.Lf
def Di : Nat → List Int → List (List Int)
 | 0, _ => [[]]
 | _ + 1, [] => []
 | m + 1, a :: l => (Di m l).map (a :: ·) ++ Di (m + 1) l
def nG : List Int → List (List Int)
 | [] => [[]]
 | a :: l => (nG l).map (a :: ·) ++ nG l
theorem O3 (l : List Int) : ∀ m, (nG l).filter (fun c => c.length == m) = Di m l := by
 induction l with
 | nil => intro m; cases m <;> rfl
 | cons a l ih =>
  intro m
  simp only [nG, List.filter_append, List.filter_map]
  cases m with
  | zero =>
   have h0 : (nG l).filter ((fun c : List Int => c.length == 0) ∘ fun x => a :: x) = [] := by
    rw [List.filter_eq_nil_iff]; intro x _; simp
   have := ih 0
   rw [h0, this]
   cases l <;> rfl
  | succ m =>
   have h1 : (fun c : List Int => c.length == m + 1) ∘ (fun x => a :: x) = fun c => c.length == m := by
    funext x; simp
   rw [h1, ih m, ih (m + 1)]; rfl
theorem IT {m : Nat} {l c : List Int} (h : c ∈ Di m l) : c.length = m := by
 rw [← O3] at h
 have := (List.mem_filter.mp h).2
 simpa using this
theorem sd {l c : List Int} : c ∈ nG l ↔ List.Sublist c l := by
 induction l generalizing c with
 | nil => simp [nG]
 | cons a l ih =>
  simp only [nG, List.mem_append, List.mem_map, ih]
  constructor
  ·rintro (⟨x, hx, rfl⟩ | h)
   ·exact hx.cons_cons a
   ·exact h.cons a
  ·intro h
   cases h with
   | cons _ h => exact .inr h
   | cons_cons _ h => exact .inl ⟨_, h, rfl⟩
theorem D2 {m : Nat} {l c : List Int} : c ∈ Di m l ↔ List.Sublist c l ∧ c.length = m := by
 rw [← O3, List.mem_filter, sd]; simp
abbrev EJ := AB
structure NB where
 wp : Int
 wk : Int
 many : Nat
 able : List Int
def As (p k : Int) (c : List Int) : List EJ := c.map fun b => ⟨p, k, b⟩
def GE : List NB → List (List EJ)
 | [] => [[]]
 | w :: W => (Di w.many w.able).flatMap fun c => (GE W).map fun r => As w.wp w.wk c ++ r
section
variable (wk : Int → Int) (most : Nat)
def DJ (pre : List EJ) (week boy : Int) : Nat := pre.countP fun y => wk y.Piece == week && y.Boy == boy
def Qf (pre : List EJ) (x : EJ) : Bool := pre.any fun y => y.Piece == x.Piece && y.Boy == x.Boy
def HT (pre : List EJ) (x : EJ) : Bool := !Qf pre x && decide (DJ wk pre (wk x.Piece) x.Boy < most)
def BW (pre : List EJ) : List EJ → Bool
 | [] => true
 | x :: xs => HT wk most pre x && BW (pre ++ [x]) xs
theorem Fg (a b : List EJ) : ∀ pre, BW wk most pre (a ++ b) = (BW wk most pre a && BW wk most (pre ++ a) b) := by
 induction a with
 | nil => intro pre; simp [BW]
 | cons x a ih => intro pre; simp [BW, ih, Bool.and_assoc, List.append_assoc]
def SU (p k : Int) (Gq : List EJ → List (List EJ)) : List Int → Nat → List EJ → List (List EJ)
 | _, 0, pre => Gq pre
 | [], _ + 1, _ => []
 | b :: l, m + 1, pre => (if HT wk most pre ⟨p, k, b⟩ then SU p k Gq l m (pre ++ [⟨p, k, b⟩]) else []) ++ SU p k Gq l (m + 1) pre
def fill : List NB → List EJ → List (List EJ)
 | [], pre => [pre]
 | w :: W, pre => SU wk most w.wp w.wk (fill W) w.able w.many pre
theorem tO (p k : Int) (Gq : List EJ → List (List EJ)) : ∀ (l : List Int) (m : Nat) (pre : List EJ),
  SU wk most p k Gq l m pre = (Di m l).flatMap fun c => if BW wk most pre (As p k c) then Gq (pre ++ As p k c) else [] := by
 intro l
 induction l with
 | nil =>
  intro m pre
  cases m with
  | zero => simp [SU, Di, As, BW]
  | succ m => simp [SU, Di]
 | cons b l ih =>
  intro m pre
  cases m with
  | zero => simp [SU, Di, As, BW]
  | succ m =>
   simp only [SU, Di, List.flatMap_append, List.flatMap_map]
   rw [ih (m + 1) pre]
   congr 1
   by_cases h : HT wk most pre ⟨p, k, b⟩ = true
   ·rw [if_pos h, ih m]
    congr 1; funext c
    simp [As, BW, h, List.append_assoc]
   ·rw [if_neg h]
    symm
    rw [List.flatMap_eq_nil_iff]
    intro c _
    simp [As, BW, h]
theorem Jq : ∀ (W : List NB) (pre : List EJ), fill wk most W pre = ((GE W).filter (BW wk most pre)).map (pre ++ ·)
 | [], pre => by simp [fill, GE, BW, List.filter_cons]
 | w :: W, pre => by
  simp only [fill, GE, tO, List.filter_flatMap, List.map_flatMap]
  congr 1; funext c
  rw [List.filter_map]
  by_cases h : BW wk most pre (As w.wp w.wk c) = true
  ·rw [if_pos h, Jq W, List.map_map]
   have e : (BW wk most pre ∘ fun r => As w.wp w.wk c ++ r) = BW wk most (pre ++ As w.wp w.wk c) := by
    funext r; simp [Fg, h]
   rw [e]
   congr 1; funext r; simp
  ·rw [if_neg h]
   have e : (GE W).filter (BW wk most pre ∘ fun r => As w.wp w.wk c ++ r) = [] := by
    rw [List.filter_eq_nil_iff]; intro r _; simp [Fg, h]
   rw [e]; rfl
end
end Go.Lf.Pl
