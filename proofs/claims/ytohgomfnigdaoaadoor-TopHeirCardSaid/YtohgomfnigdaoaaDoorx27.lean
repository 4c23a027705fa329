/- A part of the proof. -/
import Derived.Test.YtohgomfnigdaoaaDoorx19
set_option linter.all false
namespace Go.Lf.Pl
open Go.Lf
def DW : Nat → List Int → List (List Int)
 | 0, _ => [[]]
 | _ + 1, [] => []
 | m + 1, a :: l => (DW m l).map (a :: ·) ++ DW (m + 1) l
def mc : List Int → List (List Int)
 | [] => [[]]
 | a :: l => (mc l).map (a :: ·) ++ mc l
theorem O6 (l : List Int) : ∀ m, (mc l).filter (fun c => c.length == m) = DW m l := by
 induction l with
 | nil => intro m; cases m <;> rfl
 | cons a l ih =>
  intro m
  simp only [mc, List.filter_append, List.filter_map]
  cases m with
  | zero =>
   have h0 : (mc l).filter ((fun c : List Int => c.length == 0) ∘ fun x => a :: x) = [] := by
    rw [List.filter_eq_nil_iff]; intro x _; simp
   have := ih 0
   rw [h0, this]
   cases l <;> rfl
  | succ m =>
   have h1 : (fun c : List Int => c.length == m + 1) ∘ (fun x => a :: x) = fun c => c.length == m := by
    funext x; simp
   rw [h1, ih m, ih (m + 1)]; rfl
theorem IO {m : Nat} {l c : List Int} (h : c ∈ DW m l) : c.length = m := by
 rw [← O6] at h
 have := (List.mem_filter.mp h).2
 simpa using this
theorem qI {l c : List Int} : c ∈ mc l ↔ List.Sublist c l := by
 induction l generalizing c with
 | nil => simp [mc]
 | cons a l ih =>
  simp only [mc, List.mem_append, List.mem_map, ih]
  constructor
  ·rintro (⟨x, hx, rfl⟩ | h)
   ·exact hx.cons_cons a
   ·exact h.cons a
  ·intro h
   cases h with
   | cons _ h => exact .inr h
   | cons_cons _ h => exact .inl ⟨_, h, rfl⟩
theorem Es {m : Nat} {l c : List Int} : c ∈ DW m l ↔ List.Sublist c l ∧ c.length = m := by
 rw [← O6, List.mem_filter, qI]; simp
abbrev E4 := AC
structure P4 where
 wp : Int
 wk : Int
 many : Nat
 able : List Int
def BG (p k : Int) (c : List Int) : List E4 := c.map fun b => ⟨p, k, b⟩
def G3 : List P4 → List (List E4)
 | [] => [[]]
 | w :: W => (DW w.many w.able).flatMap fun c => (G3 W).map fun r => BG w.wp w.wk c ++ r
section
variable (wk : Int → Int) (most : Nat)
def Ft (pre : List E4) (week boy : Int) : Nat := pre.countP fun y => wk y.Piece == week && y.Boy == boy
def Tv (pre : List E4) (x : E4) : Bool := pre.any fun y => y.Piece == x.Piece && y.Boy == x.Boy
def KB (pre : List E4) (x : E4) : Bool := !Tv pre x && decide (Ft wk pre (wk x.Piece) x.Boy < most)
def B1 (pre : List E4) : List E4 → Bool
 | [] => true
 | x :: xs => KB wk most pre x && B1 (pre ++ [x]) xs
theorem Iy (a b : List E4) : ∀ pre, B1 wk most pre (a ++ b) = (B1 wk most pre a && B1 wk most (pre ++ a) b) := by
 induction a with
 | nil => intro pre; simp [B1]
 | cons x a ih => intro pre; simp [B1, ih, Bool.and_assoc, List.append_assoc]
def SV (p k : Int) (G0 : List E4 → List (List E4)) : List Int → Nat → List E4 → List (List E4)
 | _, 0, pre => G0 pre
 | [], _ + 1, _ => []
 | b :: l, m + 1, pre => (if KB wk most pre ⟨p, k, b⟩ then SV p k G0 l m (pre ++ [⟨p, k, b⟩]) else []) ++ SV p k G0 l (m + 1) pre
def fill : List P4 → List E4 → List (List E4)
 | [], pre => [pre]
 | w :: W, pre => SV wk most w.wp w.wk (fill W) w.able w.many pre
theorem qg (p k : Int) (G0 : List E4 → List (List E4)) : ∀ (l : List Int) (m : Nat) (pre : List E4),
  SV wk most p k G0 l m pre = (DW m l).flatMap fun c => if B1 wk most pre (BG p k c) then G0 (pre ++ BG p k c) else [] := by
 intro l
 induction l with
 | nil =>
  intro m pre
  cases m with
  | zero => simp [SV, DW, BG, B1]
  | succ m => simp [SV, DW]
 | cons b l ih =>
  intro m pre
  cases m with
  | zero => simp [SV, DW, BG, B1]
  | succ m =>
   simp only [SV, DW, List.flatMap_append, List.flatMap_map]
   rw [ih (m + 1) pre]
   congr 1
   by_cases h : KB wk most pre ⟨p, k, b⟩ = true
   ·rw [if_pos h, ih m]
    congr 1; funext c
    simp [BG, B1, h, List.append_assoc]
   ·rw [if_neg h]
    symm
    rw [List.flatMap_eq_nil_iff]
    intro c _
    simp [BG, B1, h]
theorem KZ : ∀ (W : List P4) (pre : List E4), fill wk most W pre = ((G3 W).filter (B1 wk most pre)).map (pre ++ ·)
 | [], pre => by simp [fill, G3, B1, List.filter_cons]
 | w :: W, pre => by
  simp only [fill, G3, qg, List.filter_flatMap, List.map_flatMap]
  congr 1; funext c
  rw [List.filter_map]
  by_cases h : B1 wk most pre (BG w.wp w.wk c) = true
  ·rw [if_pos h, KZ W, List.map_map]
   have e : (B1 wk most pre ∘ fun r => BG w.wp w.wk c ++ r) = B1 wk most (pre ++ BG w.wp w.wk c) := by
    funext r; simp [Iy, h]
   rw [e]
   congr 1; funext r; simp
  ·rw [if_neg h]
   have e : (G3 W).filter (B1 wk most pre ∘ fun r => BG w.wp w.wk c ++ r) = [] := by
    rw [List.filter_eq_nil_iff]; intro r _; simp [Iy, h]
   rw [e]; rfl
end
end Go.Lf.Pl
