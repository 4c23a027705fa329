/- A part of the proof. -/
import Derived.Test.YtohgomfnigdaoaaDoory22
import Derived.Test.YtohgomfnigdaoaaDoory31
import Derived.Test.YtohgomfnigdaoaaDoory32
import Derived.Test.YtohgomfnigdaoaaDoory35
set_option linter.all false
namespace Go.Lf
open Go
noncomputable section
theorem BV {α β : Type} {a : α} {f : α → Option β} : Option.bind (some a) f = f a := rfl
theorem vR {n m : Int} (hm : m ≠ 0) : opI .rem n m = some (n.tmod m) := by
 simp [opI, binOp, CO, Op.intDiv, hm]
 rfl
theorem YR {n m : Int} (hm : 1 ≤ m) (hn : m < 4611686018427387904) : ∃ r, F8 n m = some r ∧ 0 ≤ r ∧ r < m := by
 unfold F8
 rw [if_neg (by simp; omega), vR (by omega), BV]
 have h1 : n.tmod m < m := by
  have := Int.tmod_lt_of_pos n (show 0 < m by omega)
  exact this
 have h2 : -m < n.tmod m := by
  have := Int.lt_tmod_of_pos n (show 0 < m by omega)
  exact this
 by_cases h : n.tmod m < 0
 ·rw [if_pos (by simpa using h)]
  exact ⟨_, rfl, by rw [TK (by omega) (by omega)]; omega, by rw [TK (by omega) (by omega)]; omega⟩
 ·rw [if_neg (by simpa using h)]
  exact ⟨_, rfl, by omega, h1⟩
theorem ed {b : VoiceBook} {boy week note : Int} (h : 0 < (Fb b boy).length) : Hr b boy week note = 2 ↔ ∀ t ∈ Fb b boy, iY (mP b boy) t week note = true := by
 unfold Hr many
 constructor
 ·intro hs
  split at hs
  ·cases hs
  ·split at hs
   ·rename_i h2; exact List.countP_eq_length.mp h2
   ·cases hs
 ·intro ha
  have h2 := List.countP_eq_length.mpr ha
  rw [h2, if_neg (by omega), if_pos rfl]
theorem wT {b : BenchBook} {boy week : Int} {s : BS} (hs : s.Low ≤ s.High) (h : 0 < (Fb b.Voice boy).length) : Yf b week s boy = true ↔ Hr b.Voice boy week s.Low = 2 ∧ Hr b.Voice boy week s.High = 2 := by
 unfold Yf
 rw [List.all_eq_true]
 constructor
 ·intro ha
  exact ⟨of_decide_eq_true (ha _ (OO.mpr ⟨Int.le_refl _, hs⟩)), of_decide_eq_true (ha _ (OO.mpr ⟨hs, Int.le_refl _⟩))⟩
 ·rintro ⟨h1, h2⟩ n hn
  obtain ⟨h3, h4⟩ := OO.mp hn
  rw [ed h] at h1 h2
  refine decide_eq_true ((ed h).mpr fun t ht => ?_)
  have a1 := h1 t ht
  have a2 := h2 t ht
  simp only [iY, Aa, Bool.and_eq_true, decide_eq_true_eq] at a1 a2 ⊢
  exact ⟨a1.1, by omega, by omega⟩
end
end Go.Lf
namespace Go.Lf
open Go
noncomputable section
theorem jw (q : Int → Bool) : ∀ (l : List Int) (prev : Option Int), l.Pairwise (· < ·) → (∀ p ∈ l, q p = true) → (∀ x, prev = some x → ∀ p ∈ l, x < p) → ru q prev l = true
 | [], _, _, _, _ => rfl
 | p :: l, prev, h1, h2, h3 => by
  rw [List.pairwise_cons] at h1
  simp only [ru, Bool.and_eq_true]
  refine ⟨⟨h2 p (by simp), ?_⟩, jw q l (some p) h1.2 (fun x hx => h2 x (by simp [hx])) fun x hx y hy => by cases hx; exact h1.1 y hy⟩
  cases prev with
  | none => rfl
  | some x => exact decide_eq_true (h3 x rfl p (by simp))
end
end Go.Lf
