/- A part of the proof. -/
import Derived.Test.YtdjddljglkeefaaDoorx22
import Derived.Test.YtdjddljglkeefaaDoorx36
set_option linter.all false
namespace Go.Lf
open Go
noncomputable section
theorem AP {α β : Type} {a : α} {f : α → Option β} : Option.bind (some a) f = f a := rfl
theorem wR {n m : Int} (hm : m ≠ 0) : zV .rem n m = some (n.tmod m) := by
 simp [zV, binOp, B2, Op.intDiv, hm]
 rfl
theorem dG {n m : Int} (hm : 1 ≤ m) (hn : m < 4611686018427387904) : ∃ r, E3 n m = some r ∧ 0 ≤ r ∧ r < m := by
 unfold E3
 rw [if_neg (by simp; omega), wR (by omega), AP]
 have h1 : n.tmod m < m := by
  have := Int.tmod_lt_of_pos n (show 0 < m by omega)
  exact this
 have h2 : -m < n.tmod m := by
  have := Int.lt_tmod_of_pos n (show 0 < m by omega)
  exact this
 by_cases h : n.tmod m < 0
 ·rw [if_pos (by simpa using h)]
  exact ⟨_, rfl, by rw [J9 (by omega) (by omega)]; omega, by rw [J9 (by omega) (by omega)]; omega⟩
 ·rw [if_neg (by simpa using h)]
  exact ⟨_, rfl, by omega, h1⟩
theorem oU (y : Aj) : (if JF y.Notes 0 40 40 = true then some (AY y.Many 1 3) else some false) = some (NI y) := by
 rw [← qT]
 cases JF y.Notes 0 40 40 <;> rfl
theorem SK {b : BenchBook} (h : Tf b) : Ec b = some (zO b) := by
 have e1 : ∀ (x : AE) (t : Bool), x.Parts.l.length < 4611686018427387904 → Loop (D8 x) (t, 0) = some (t && x.Parts.l.all NI) := by
  intro x t hx
  refine Loop.all (fun t i => (t, i)) x.Parts.l NI id hx rfl ?_ ?_ ?_
  ·intro pre a post hx _ _ hW
   have hl : (pre.length : Int) < x.Parts.len := by rw [Sl.len_l, hx]; simp; omega
   simp only [D8, Bool.true_and, decide_eq_true hl, if_true, Sl.ix_at hx, AP, oU, hW]
  ·have hl : ¬ (x.Parts.l.length : Int) < x.Parts.len := by rw [Sl.len_l]; omega
   simp only [D8, Bool.true_and, decide_eq_false hl, Bool.false_eq_true, if_false, id]
  ·intro i
   simp only [D8, Bool.false_and, Bool.false_eq_true, if_false, id]
 have e2 : ∀ t : Bool, Loop (EC b) (t, 0) = some (t && b.Pieces.l.all (KJ b)) := by
  intro t
  refine Loop.all (fun t i => (t, i)) b.Pieces.l (KJ b) id h.pieces rfl ?_ ?_ ?_
  ·intro pre a post hx _ _ hW
   have ha := h.parts a (by rw [hx]; simp)
   have hl : (pre.length : Int) < b.Pieces.len := by rw [Sl.len_l, hx]; simp; omega
   simp only [EC, Bool.true_and, decide_eq_true hl, if_true, Sl.ix_at hx, AP, e1 a _ ha, hW]
   rfl
  ·have hl : ¬ (b.Pieces.l.length : Int) < b.Pieces.len := by rw [Sl.len_l]; omega
   simp only [EC, Bool.true_and, decide_eq_false hl, Bool.false_eq_true, if_false, id]
  ·intro i
   simp only [EC, Bool.false_and, Bool.false_eq_true, if_false, id]
 simp only [Ec, KX h, ID h.voice, AP, e2]
 by_cases ho : zO b = true
 ·have hv := F7 h ho
  have hb := hv.voice
  have h1 : AY b.Voice.Boys.len 1 4 = true := by
   have := hv.vok; simp only [vOk, VA, Bool.and_eq_true] at this; exact this.1.1
  have h2 : AY b.Voice.Weeks 1 6 = true := by
   have := hv.vok; simp only [vOk, VA, Bool.and_eq_true] at this; exact this.1.2.1
  have h3 : AY b.Pieces.len 1 3 = true := by
   have := ho; simp only [zO, VG, Bool.and_eq_true] at this; exact this.1.2.1
  have h4 : AY b.Most 1 3 = true := by
   have := ho; simp only [zO, VG, Bool.and_eq_true] at this; exact this.1.2.2
  have h5 : decide (b.Voice.Trials.len ≤ 6) = true := by
   have := hv.vok; simp only [vOk, VA, Bool.and_eq_true] at this; exact this.1.2.2
  have h6 : b.Pieces.l.all (KJ b) = true := by
   have := ho; simp only [zO, Bool.and_eq_true] at this; exact this.2
  simp only [ho, hv.vok, h1, h2, h3, h4, h5, h6, if_true, decide_true, AP, Bool.and_self]
 ·have ho' : zO b = false := by simpa using ho
  simp only [ho', Bool.false_eq_true, if_false]
  simp
theorem SS {b : VoiceBook} {boy week note : Int} (h : 0 < (FZ b boy).length) : K7 b boy week note = 2 ↔ ∀ t ∈ FZ b boy, eL (Wu b boy) t week note = true := by
 unfold K7 many
 constructor
 ·intro hs
  split at hs
  ·cases hs
  ·split at hs
   ·rename_i h2; exact List.countP_eq_length.mp h2
   ·cases hs
 ·intro ha
  have h2 := List.countP_eq_length.mpr ha
  rw [h2, if_neg (by omega), if_pos rfl]
theorem pL {b : BenchBook} {boy week : Int} {s : Ew} (hs : s.Low ≤ s.High) (h : 0 < (FZ b.Voice boy).length) : rm b week s boy = true ↔ K7 b.Voice boy week s.Low = 2 ∧ K7 b.Voice boy week s.High = 2 := by
 unfold rm
 rw [List.all_eq_true]
 constructor
 ·intro ha
  exact ⟨of_decide_eq_true (ha _ (Ii.mpr ⟨Int.le_refl _, hs⟩)), of_decide_eq_true (ha _ (Ii.mpr ⟨hs, Int.le_refl _⟩))⟩
 ·rintro ⟨h1, h2⟩ n hn
  obtain ⟨h3, h4⟩ := Ii.mp hn
  rw [SS h] at h1 h2
  refine decide_eq_true ((SS h).mpr fun t ht => ?_)
  have a1 := h1 t ht
  have a2 := h2 t ht
  simp only [eL, Ah, Bool.and_eq_true, decide_eq_true_eq] at a1 a2 ⊢
  exact ⟨a1.1, by omega, by omega⟩
end
end Go.Lf
namespace Go.Lf
open Go
noncomputable section
theorem W2 (q : Int → Bool) : ∀ (l : List Int) (prev : Option Int), l.Pairwise (· < ·) → (∀ p ∈ l, q p = true) → (∀ x, prev = some x → ∀ p ∈ l, x < p) → oh q prev l = true
 | [], _, _, _, _ => rfl
 | p :: l, prev, h1, h2, h3 => by
  rw [List.pairwise_cons] at h1
  simp only [oh, Bool.and_eq_true]
  refine ⟨⟨h2 p (by simp), ?_⟩, W2 q l (some p) h1.2 (fun x hx => h2 x (by simp [hx])) fun x hx y hy => by cases hx; exact h1.1 y hy⟩
  cases prev with
  | none => rfl
  | some x => exact decide_eq_true (h3 x rfl p (by simp))
end
end Go.Lf
