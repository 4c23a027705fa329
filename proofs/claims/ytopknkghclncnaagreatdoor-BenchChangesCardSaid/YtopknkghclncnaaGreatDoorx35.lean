/- A part of the proof. -/
import Derived.Test.YtopknkghclncnaaGreatDoorx27
set_option linter.all false
namespace Go.Lf.Pl
open Go.Lf
def Ei : Nat → List Int → List (List Int)
 | 0, _ => [[]]
 | _ + 1, [] => []
 | m + 1, a :: l => (Ei m l).map (a :: ·) ++ Ei (m + 1) l
def qc : List Int → List (List Int)
 | [] => [[]]
 | a :: l => (qc l).map (a :: ·) ++ qc l
theorem Pv (l : List Int) : ∀ m, (qc l).filter (fun c => c.length == m) = Ei m l := by
 induction l with
 | nil => intro m; cases m <;> rfl
 | cons a l ih =>
  intro m
  simp only [qc, List.filter_append, List.filter_map]
  cases m with
  | zero =>
   have h0 : (qc l).filter ((fun c : List Int => c.length == 0) ∘ fun x => a :: x) = [] := by
    rw [List.filter_eq_nil_iff]; intro x _; simp
   have := ih 0
   rw [h0, this]
   cases l <;> rfl
  | succ m =>
   have h1 : (fun c : List Int => c.length == m + 1) ∘ (fun x => a :: x) = fun c => c.length == m := by
    funext x; simp
   rw [h1, ih m, ih (m + 1)]; rfl
theorem Us {m : Nat} {l c : List Int} (h : c ∈ Ei m l) : c.length = m := by
 rw [← Pv] at h
 have := (List.mem_filter.mp h).2
 simpa using this
theorem wO {l c : List Int} : c ∈ qc l ↔ List.Sublist c l := by
 induction l generalizing c with
 | nil => simp [qc]
 | cons a l ih =>
  simp only [qc, List.mem_append, List.mem_map, ih]
  constructor
  ·rintro (⟨x, hx, rfl⟩ | h)
   ·exact hx.cons_cons a
   ·exact h.cons a
  ·intro h
   cases h with
   | cons _ h => exact .inr h
   | cons_cons _ h => exact .inl ⟨_, h, rfl⟩
theorem TI {m : Nat} {l c : List Int} : c ∈ Ei m l ↔ List.Sublist c l ∧ c.length = m := by
 rw [← Pv, List.mem_filter, wO]; simp
abbrev FV := AA
structure WZ where
 wp : Int
 wk : Int
 many : Nat
 able : List Int
def A5 (p k : Int) (c : List Int) : List FV := c.map fun b => ⟨p, k, b⟩
def Kp : List WZ → List (List FV)
 | [] => [[]]
 | w :: W => (Ei w.many w.able).flatMap fun c => (Kp W).map fun r => A5 w.wp w.wk c ++ r
section
variable (wk : Int → Int) (most : Nat)
def DR (pre : List FV) (week boy : Int) : Nat := pre.countP fun y => wk y.Piece == week && y.Boy == boy
def dc (pre : List FV) (x : FV) : Bool := pre.any fun y => y.Piece == x.Piece && y.Boy == x.Boy
def PQ (pre : List FV) (x : FV) : Bool := !dc pre x && decide (DR wk pre (wk x.Piece) x.Boy < most)
def CY (pre : List FV) : List FV → Bool
 | [] => true
 | x :: xs => PQ wk most pre x && CY (pre ++ [x]) xs
theorem Jc (a b : List FV) : ∀ pre, CY wk most pre (a ++ b) = (CY wk most pre a && CY wk most (pre ++ a) b) := by
 induction a with
 | nil => intro pre; simp [CY]
 | cons x a ih => intro pre; simp [CY, ih, Bool.and_assoc, List.append_assoc]
def TB (p k : Int) (HU : List FV → List (List FV)) : List Int → Nat → List FV → List (List FV)
 | _, 0, pre => HU pre
 | [], _ + 1, _ => []
 | b :: l, m + 1, pre => (if PQ wk most pre ⟨p, k, b⟩ then TB p k HU l m (pre ++ [⟨p, k, b⟩]) else []) ++ TB p k HU l (m + 1) pre
def fill : List WZ → List FV → List (List FV)
 | [], pre => [pre]
 | w :: W, pre => TB wk most w.wp w.wk (fill W) w.able w.many pre
theorem vW (p k : Int) (HU : List FV → List (List FV)) : ∀ (l : List Int) (m : Nat) (pre : List FV),
  TB wk most p k HU l m pre = (Ei m l).flatMap fun c => if CY wk most pre (A5 p k c) then HU (pre ++ A5 p k c) else [] := by
 intro l
 induction l with
 | nil =>
  intro m pre
  cases m with
  | zero => simp [TB, Ei, A5, CY]
  | succ m => simp [TB, Ei]
 | cons b l ih =>
  intro m pre
  cases m with
  | zero => simp [TB, Ei, A5, CY]
  | succ m =>
   simp only [TB, Ei, List.flatMap_append, List.flatMap_map]
   rw [ih (m + 1) pre]
   congr 1
   by_cases h : PQ wk most pre ⟨p, k, b⟩ = true
   ·rw [if_pos h, ih m]
    congr 1; funext c
    simp [A5, CY, h, List.append_assoc]
   ·rw [if_neg h]
    symm
    rw [List.flatMap_eq_nil_iff]
    intro c _
    simp [A5, CY, h]
theorem T0 : ∀ (W : List WZ) (pre : List FV), fill wk most W pre = ((Kp W).filter (CY wk most pre)).map (pre ++ ·)
 | [], pre => by simp [fill, Kp, CY, List.filter_cons]
 | w :: W, pre => by
  simp only [fill, Kp, vW, List.filter_flatMap, List.map_flatMap]
  congr 1; funext c
  rw [List.filter_map]
  by_cases h : CY wk most pre (A5 w.wp w.wk c) = true
  ·rw [if_pos h, T0 W, List.map_map]
   have e : (CY wk most pre ∘ fun r => A5 w.wp w.wk c ++ r) = CY wk most (pre ++ A5 w.wp w.wk c) := by
    funext r; simp [Jc, h]
   rw [e]
   congr 1; funext r; simp
  ·rw [if_neg h]
   have e : (Kp W).filter (CY wk most pre ∘ fun r => A5 w.wp w.wk c ++ r) = [] := by
    rw [List.filter_eq_nil_iff]; intro r _; simp [Jc, h]
   rw [e]; rfl
end
end Go.Lf.Pl
