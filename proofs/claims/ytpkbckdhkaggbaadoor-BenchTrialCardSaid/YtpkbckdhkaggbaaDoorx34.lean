/- A part of the proof. -/
import Derived.Test.YtpkbckdhkaggbaaDoorx26
set_option linter.all false
namespace Go.Lf.Pl
open Go.Lf
def FO : Nat → List Int → List (List Int)
 | 0, _ => [[]]
 | _ + 1, [] => []
 | m + 1, a :: l => (FO m l).map (a :: ·) ++ FO (m + 1) l
def mW : List Int → List (List Int)
 | [] => [[]]
 | a :: l => (mW l).map (a :: ·) ++ mW l
theorem Qo (l : List Int) : ∀ m, (mW l).filter (fun c => c.length == m) = FO m l := by
 induction l with
 | nil => intro m; cases m <;> rfl
 | cons a l ih =>
  intro m
  simp only [mW, List.filter_append, List.filter_map]
  cases m with
  | zero =>
   have h0 : (mW l).filter ((fun c : List Int => c.length == 0) ∘ fun x => a :: x) = [] := by
    rw [List.filter_eq_nil_iff]; intro x _; simp
   have := ih 0
   rw [h0, this]
   cases l <;> rfl
  | succ m =>
   have h1 : (fun c : List Int => c.length == m + 1) ∘ (fun x => a :: x) = fun c => c.length == m := by
    funext x; simp
   rw [h1, ih m, ih (m + 1)]; rfl
theorem I2 {m : Nat} {l c : List Int} (h : c ∈ FO m l) : c.length = m := by
 rw [← Qo] at h
 have := (List.mem_filter.mp h).2
 simpa using this
abbrev Vh := AC
structure ox where
 wp : Int
 wk : Int
 many : Nat
 able : List Int
def HZ (p k : Int) (c : List Int) : List Vh := c.map fun b => ⟨p, k, b⟩
def fw : List ox → List (List Vh)
 | [] => [[]]
 | w :: W => (FO w.many w.able).flatMap fun c => (fw W).map fun r => HZ w.wp w.wk c ++ r
section
variable (wk : Int → Int) (most : Nat)
def Ht (pre : List Vh) (week boy : Int) : Nat := pre.countP fun y => wk y.Piece == week && y.Boy == boy
def ll (pre : List Vh) (x : Vh) : Bool := pre.any fun y => y.Piece == x.Piece && y.Boy == x.Boy
def Rf (pre : List Vh) (x : Vh) : Bool := !ll pre x && decide (Ht wk pre (wk x.Piece) x.Boy < most)
def HL (pre : List Vh) : List Vh → Bool
 | [] => true
 | x :: xs => Rf wk most pre x && HL (pre ++ [x]) xs
theorem Pe (a b : List Vh) : ∀ pre, HL wk most pre (a ++ b) = (HL wk most pre a && HL wk most (pre ++ a) b) := by
 induction a with
 | nil => intro pre; simp [HL]
 | cons x a ih => intro pre; simp [HL, ih, Bool.and_assoc, List.append_assoc]
def PY (p k : Int) (Fh : List Vh → List (List Vh)) : List Int → Nat → List Vh → List (List Vh)
 | _, 0, pre => Fh pre
 | [], _ + 1, _ => []
 | b :: l, m + 1, pre => (if Rf wk most pre ⟨p, k, b⟩ then PY p k Fh l m (pre ++ [⟨p, k, b⟩]) else []) ++ PY p k Fh l (m + 1) pre
def fill : List ox → List Vh → List (List Vh)
 | [], pre => [pre]
 | w :: W, pre => PY wk most w.wp w.wk (fill W) w.able w.many pre
theorem mf (p k : Int) (Fh : List Vh → List (List Vh)) : ∀ (l : List Int) (m : Nat) (pre : List Vh),
  PY wk most p k Fh l m pre = (FO m l).flatMap fun c => if HL wk most pre (HZ p k c) then Fh (pre ++ HZ p k c) else [] := by
 intro l
 induction l with
 | nil =>
  intro m pre
  cases m with
  | zero => simp [PY, FO, HZ, HL]
  | succ m => simp [PY, FO]
 | cons b l ih =>
  intro m pre
  cases m with
  | zero => simp [PY, FO, HZ, HL]
  | succ m =>
   simp only [PY, FO, List.flatMap_append, List.flatMap_map]
   rw [ih (m + 1) pre]
   congr 1
   by_cases h : Rf wk most pre ⟨p, k, b⟩ = true
   ·rw [if_pos h, ih m]
    congr 1; funext c
    simp [HZ, HL, h, List.append_assoc]
   ·rw [if_neg h]
    symm
    rw [List.flatMap_eq_nil_iff]
    intro c _
    simp [HZ, HL, h]
theorem Y9 : ∀ (W : List ox) (pre : List Vh), fill wk most W pre = ((fw W).filter (HL wk most pre)).map (pre ++ ·)
 | [], pre => by simp [fill, fw, HL, List.filter_cons]
 | w :: W, pre => by
  simp only [fill, fw, mf, List.filter_flatMap, List.map_flatMap]
  congr 1; funext c
  rw [List.filter_map]
  by_cases h : HL wk most pre (HZ w.wp w.wk c) = true
  ·rw [if_pos h, Y9 W, List.map_map]
   have e : (HL wk most pre ∘ fun r => HZ w.wp w.wk c ++ r) = HL wk most (pre ++ HZ w.wp w.wk c) := by
    funext r; simp [Pe, h]
   rw [e]
   congr 1; funext r; simp
  ·rw [if_neg h]
   have e : (fw W).filter (HL wk most pre ∘ fun r => HZ w.wp w.wk c ++ r) = [] := by
    rw [List.filter_eq_nil_iff]; intro r _; simp [Pe, h]
   rw [e]; rfl
end
end Go.Lf.Pl
