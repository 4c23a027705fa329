/- A part of the proof. -/
import Derived.Test.YtdjddljglkeefaaDoorx39
set_option linter.all false
namespace Go.Lf
open Go Go.Lf.Pl
noncomputable section
theorem kd {b : VoiceBook} (ht : b.Trials.l = []) {i : Int} {x : AO} (hx : b.Boys.ix i = some x) {t : T5} (h1 : t.lo ∈ rng x.Low) (h2 : t.hi ∈ rng x.High) (h3 : t.ga ∈ rng x.Gain) (h4 : t.tu ∈ rng x.Turn) (h5 : t.br ∈ rng x.Break) : t ∈ FZ b i := by
 unfold FZ
 simp only [hx, tl, List.mem_flatMap, List.mem_filter, List.mem_map]
 exact ⟨t.lo, h1, t.hi, h2, t.ga, h3, t.tu, h4, ⟨t.br, h5, rfl⟩, by simp [SL, ht]⟩
theorem nE {b : BenchBook} {ex : Int → Bool} {p k i : Int} {x : AE} {y : Aj} (hv : C6 b) (hfi : JU b.Voice = true) (hx : b.Pieces.ix p = some x) (hy : x.Parts.ix k = some y) (hi : i ∈ A2 b ex p k) :
  ∀ t ∈ FZ b.Voice i, x.Week < t.br ∧ t.lo ≤ y.Notes.Low ∧ y.Notes.High ≤ tr (Wu b.Voice i) t x.Week := by
 intro t ht
 have hxm := (CN hx).2.2
 have hym := (CN hy).2.2
 have hpt := hv.part x hxm y hym
 simp only [A2, hx, hy, d6, List.mem_filter, Bool.and_eq_true] at hi
 have hb := D9.mp hi.1
 have h0 := gA hfi hb
 have h1 := (pL hpt.2.1 h0).mp hi.2.2
 have a1 := (SS h0).mp h1.1 t ht
 have a2 := (SS h0).mp h1.2 t ht
 simp only [eL, Ah, Bool.and_eq_true, decide_eq_true_eq] at a1 a2
 exact ⟨a1.1, a1.2.1, a2.2.2⟩
theorem qB {b : BenchBook} {ex : Int → Bool} {m : Nat} {ps : List Int} (hs : ps.Pairwise (· < ·)) {x : List AB} (hx : x ∈ FD b ex m ps) {s : AB} (h : s ∈ x) :
  s.Piece ∈ ps ∧ s.Boy ∈ A2 b ex s.Piece s.Part := by
 have hw : ∀ w ∈ EO b ex m ps, w.wp ∈ ps ∧ w.able = A2 b ex w.wp w.wk := by
  intro w hw
  simp only [EO, FN, List.mem_map, List.mem_flatMap, Iq] at hw
  obtain ⟨w', ⟨p, hp, k, hk, rfl⟩, rfl⟩ := hw
  exact ⟨hp, rfl⟩
 have hp : ∀ (L : List NB), (∀ w ∈ L, w.wp ∈ ps ∧ w.able = A2 b ex w.wp w.wk) → ∀ x ∈ GE L, ∀ s ∈ x, s.Piece ∈ ps ∧ s.Boy ∈ A2 b ex s.Piece s.Part := by
  intro L
  induction L with
  | nil => intro _ x hx s hs; simp only [GE, List.mem_singleton] at hx; subst hx; cases hs
  | cons w L ih =>
   intro hL x hx s hs
   simp only [GE, List.mem_flatMap, List.mem_map] at hx
   obtain ⟨c, hc, r, hr, rfl⟩ := hx
   obtain ⟨e1, e2⟩ := hL w List.mem_cons_self
   rcases List.mem_append.mp hs with hs | hs
   ·simp only [As, List.mem_map] at hs
    obtain ⟨a, ha, rfl⟩ := hs
    exact ⟨e1, e2 ▸ (D2.mp hc).1.subset ha⟩
   ·exact ih (fun w' h => hL w' (List.mem_cons_of_mem _ h)) r hr s hs
 simp only [FD, Jq, List.nil_append, List.map_id', List.mem_filter] at hx
 exact hp _ hw x hx.1 s h
theorem ut {x : AO} (ho : iG x) {t : T5} (h2 : t.hi ∈ rng x.High) (h3 : t.ga ∈ rng x.Gain) (h4 : t.tu ∈ rng x.Turn) {week : Int} (hw : 0 ≤ week ∧ week < 6) : tr x.Loss t week = t.hi + t.ga * min week t.tu - x.Loss * max 0 (week - t.tu) := by
 have a2 := Ii.mp h2
 have a3 := Ii.mp h3
 have a4 := Ii.mp h4
 obtain ⟨⟨b1, b2, b3⟩, _⟩ := ho.high
 obtain ⟨⟨c1, c2, c3⟩, c4⟩ := ho.gain
 obtain ⟨⟨d1, d2, d3⟩, d4⟩ := ho.turn
 have hl := ho.loss
 have hm : week - min week t.tu = max 0 (week - t.tu) := by omega
 have e1 : 0 ≤ min week t.tu ∧ min week t.tu ≤ 6 := by omega
 have e2 : 0 ≤ min week t.tu * t.ga ∧ min week t.tu * t.ga ≤ 12 := by
  refine ⟨Int.mul_nonneg e1.1 (by omega), ?_⟩
  have := Int.mul_le_mul e1.2 (show t.ga ≤ 2 by omega) (by omega) (by omega)
  omega
 have e3 : 0 ≤ max 0 (week - t.tu) ∧ max 0 (week - t.tu) ≤ 6 := by omega
 have e4 : 0 ≤ max 0 (week - t.tu) * x.Loss ∧ max 0 (week - t.tu) * x.Loss ≤ 12 := by
  refine ⟨Int.mul_nonneg e3.1 hl.1, ?_⟩
  have := Int.mul_le_mul e3.2 hl.2 (by omega) (by omega)
  omega
 unfold tr
 rw [hm, J9 (x := max 0 (week - t.tu)) (by omega) (by omega), J9 (x := min week t.tu * t.ga) (by omega) (by omega), J9 (x := max 0 (week - t.tu) * x.Loss) (by omega) (by omega), J9 (x := t.hi + min week t.tu * t.ga) (by omega) (by omega), J9 (by omega) (by omega), Int.mul_comm t.ga, Int.mul_comm x.Loss]
end
end Go.Lf
