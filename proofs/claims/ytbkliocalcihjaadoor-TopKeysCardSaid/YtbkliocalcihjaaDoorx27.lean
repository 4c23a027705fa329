/- A part of the proof. -/
import Derived.Test.YtbkliocalcihjaaDoorx22
import Derived.Test.YtbkliocalcihjaaDoorx26
set_option linter.all false
namespace Go.Lf
open Go
noncomputable section
def sV : Int → Bool := fun _ => false
def qQ (b : BenchBook) (p k : Int) : Bool := Dc b p && (match b.Pieces.ix p with | some x => AO k 0 (W (x.Parts.len - 1)) | none => false)
theorem WV {b : BenchBook} (hf : rG b) (p : Int) : Dc b p = true ↔ 0 ≤ p ∧ p < b.Pieces.l.length := by
 have := hf.pieces
 simp only [Dc, AO, Sl.len_l, Bool.and_eq_true, decide_eq_true_eq]
 rw [LY (by omega) (by omega)]; omega
section
variable {b : BenchBook} (hf : rG b)
include hf
theorem rO {p k : Int} {x : AL} (hx : b.Pieces.ix p = some x) : AO k 0 (W (x.Parts.len - 1)) = true ↔ 0 ≤ k ∧ k < x.Parts.l.length := by
 have := hf.parts x (ME hx).2.2
 simp only [AO, Sl.len_l, Bool.and_eq_true, decide_eq_true_eq]
 rw [LY (by omega) (by omega)]; omega
theorem dE (p k : Int) : ∃ l : Sl Int, FY b p k = some (l, HS b (qQ b p k)) ∧ l.l = if HS b (qQ b p k) = 0 then IL b sV p k else [] := by
 have hq : (if (Dc b p) then Option.bind (b.Pieces.ix p) fun v3 => Option.bind (DD b (AO k 0 (W (v3.Parts.len - 1)))) fun v5 => some (v5.1, v5.2) else Option.bind (DD b false) fun v7 => some (v7.1, v7.2) : Option (AB × Int)) = DD b (qQ b p k) := by
  have hs : ∀ o : Option (AB × Int), (o.bind fun v => some (v.1, v.2)) = o := by intro o; cases o <;> rfl
  simp only [hs, qQ]
  by_cases h : Dc b p = true
  ·obtain ⟨h1, h2⟩ := (WV hf p).mp h
   obtain ⟨x, hx, _⟩ := vS h1 h2
   simp [h, hx]
  ·simp [h]
 obtain ⟨bk, he, h2⟩ := Xc hf (qQ b p k)
 simp only [FY, hq, he, Option.bind_some]
 by_cases h0 : HS b (qQ b p k) = 0
 ·obtain ⟨es, rfl, hes⟩ := h2 h0
  simp only [if_pos h0, h0, decide_true, if_true, Sl.sub3_all, Option.bind_some]
  exact ⟨_, rfl, by rw [Sl.l_filled]; exact qC hes p k⟩
 ·simp only [if_neg h0, decide_eq_false h0, Bool.false_eq_true, if_false]
  exact ⟨Sl.nil, rfl, rfl⟩
end
section
variable {b : BenchBook} (hf : rG b)
include hf
end
end
end Go.Lf
namespace Go.Lf
open Go
noncomputable section
theorem Ax {α β : Type} {a : α} {f : α → Option β} : Option.bind (some a) f = f a := rfl
theorem vh {n m : Int} (hm : m ≠ 0) : zt .rem n m = some (n.tmod m) := by
 simp [zt, binOp, BZ, Op.intDiv, hm]
 rfl
theorem Qo {n m : Int} (hm : 1 ≤ m) (hn : m < 4611686018427387904) : ∃ r, Eh n m = some r ∧ 0 ≤ r ∧ r < m := by
 unfold Eh
 rw [if_neg (by simp; omega), vh (by omega), Ax]
 have h1 : n.tmod m < m := by
  have := Int.tmod_lt_of_pos n (show 0 < m by omega)
  exact this
 have h2 : -m < n.tmod m := by
  have := Int.lt_tmod_of_pos n (show 0 < m by omega)
  exact this
 by_cases h : n.tmod m < 0
 ·rw [if_pos (by simpa using h)]
  exact ⟨_, rfl, by rw [LY (by omega) (by omega)]; omega, by rw [LY (by omega) (by omega)]; omega⟩
 ·rw [if_neg (by simpa using h)]
  exact ⟨_, rfl, by omega, h1⟩
theorem dP {b : VoiceBook} {boy week note : Int} (h : 0 < (tlAt b boy).length) : Gz b boy week note = 2 ↔ ∀ t ∈ tlAt b boy, gC (UW b boy) t week note = true := by
 unfold Gz cn
 constructor
 ·intro hs
  split at hs
  ·cases hs
  ·split at hs
   ·rename_i h2; exact List.countP_eq_length.mp h2
   ·cases hs
 ·intro ha
  have h2 := List.countP_eq_length.mpr ha
  rw [h2, if_neg (by omega), if_pos rfl]
theorem wF {b : BenchBook} {boy week : Int} {s : BJ} (hs : s.Low ≤ s.High) (h : 0 < (tlAt b.Voice boy).length) : nb b week s boy = true ↔ Gz b.Voice boy week s.Low = 2 ∧ Gz b.Voice boy week s.High = 2 := by
 unfold nb
 rw [List.all_eq_true]
 constructor
 ·intro ha
  exact ⟨of_decide_eq_true (ha _ (IC.mpr ⟨Int.le_refl _, hs⟩)), of_decide_eq_true (ha _ (IC.mpr ⟨hs, Int.le_refl _⟩))⟩
 ·rintro ⟨h1, h2⟩ n hn
  obtain ⟨h3, h4⟩ := IC.mp hn
  rw [dP h] at h1 h2
  refine decide_eq_true ((dP h).mpr fun t ht => ?_)
  have a1 := h1 t ht
  have a2 := h2 t ht
  simp only [gC, Ab, Bool.and_eq_true, decide_eq_true_eq] at a1 a2 ⊢
  exact ⟨a1.1, by omega, by omega⟩
end
end Go.Lf
namespace Go.Lf
open Go
noncomputable section
structure Qs (b c : VoiceBook) : Prop where
 boys : b.Boys.l = c.Boys.l
 weeks : b.Weeks = c.Weeks
 trials : b.Trials.l = c.Trials.l
theorem pn {α : Type} {x y : Sl α} (h : x.l = y.l) (i : Int) : x.ix i = y.ix i := by simp only [Sl.ix, h]
section
variable {b c : VoiceBook} (h : Qs b c)
include h
theorem Qs.tl (i : Int) (x : AK) : Go.Lf.tl b i x = Go.Lf.tl c i x := by
 have : Mc b i x.Loss = Mc c i x.Loss := funext fun t => by simp only [Mc, h.trials]
 simp only [Go.Lf.tl, this]
theorem Qs.tlAt (i : Int) : Go.Lf.tlAt b i = Go.Lf.tlAt c i := by
 unfold Go.Lf.tlAt
 rw [pn h.boys i]
 cases c.Boys.ix i with
 | none => rfl
 | some x => exact h.tl i x
theorem Qs.loss (i : Int) : UW b i = UW c i := by
 unfold UW
 rw [pn h.boys i]
theorem Qs.sings (boy week note : Int) : Gz b boy week note = Gz c boy week note := by
 unfold Gz cn
 rw [h.tlAt boy, h.loss boy]
theorem Qs.fine : FZ b = FZ c := by
 unfold FZ
 rw [h.boys]
 congr 1
 funext i
 rw [h.tlAt i]
theorem Qs.vok : vOk b = vOk c := by
 have e1 : b.Boys.len = c.Boys.len := by rw [Sl.len_l, Sl.len_l, h.boys]
 have e2 : b.Trials.len = c.Trials.len := by rw [Sl.len_l, Sl.len_l, h.trials]
 have e3 : DX b = DX c := by
  funext y
  simp only [DX, CZ, B0, e1, h.weeks]
 unfold vOk aB
 rw [e1, e2, e3, h.boys, h.weeks, h.trials]
theorem Qs.few (hf : Wz c) : Wz b := ⟨h.boys ▸ hf.boys, h.trials ▸ hf.trials⟩
end
theorem jn {α : Type} [Enc α] (hi : ∀ x y : α, Enc.enc x = Enc.enc y → x = y) {x y : Sl α} (h : Enc.enc x = Enc.enc y) : x.l = y.l := by
 have key : ∀ xs ys : List α, xs.map Enc.enc = ys.map (Enc.enc (α := α)) → xs = ys := by
  intro xs
  induction xs with
  | nil => intro ys h; cases ys with
   | nil => rfl
   | cons _ _ => simp at h
  | cons a xs ih =>
   intro ys h
   cases ys with
   | nil => simp at h
   | cons c ys =>
    simp only [List.map_cons, List.cons.injEq] at h
    rw [hi a c h.1, ih ys h.2]
 have h' : x.dv = y.dv := h
 cases x <;> cases y <;> simp only [Sl.dv, Sl.l, DV.slice.injEq, reduceCtorEq, true_and] at h' ⊢
 all_goals first | exact key _ _ h' | trivial
theorem nr {x y : AK} (h : Enc.enc x = Enc.enc y) : x = y := by
 obtain ⟨⟨a1, a2⟩, ⟨a3, a4⟩, ⟨a5, a6⟩, ⟨a7, a8⟩, a9, ⟨b1, b2⟩⟩ := x
 obtain ⟨⟨c1, c2⟩, ⟨c3, c4⟩, ⟨c5, c6⟩, ⟨c7, c8⟩, c9, ⟨d1, d2⟩⟩ := y
 have h' := DV.agg.inj h
 simp only [List.cons.injEq, DV.int.injEq, and_true] at h'
 obtain ⟨rfl, rfl, rfl, rfl, rfl, rfl, rfl, rfl, rfl, rfl, rfl⟩ := h'
 rfl
theorem eu {x y : AI} (h : Enc.enc x = Enc.enc y) : x = y := by
 obtain ⟨a1, a2, a3, a4⟩ := x
 obtain ⟨c1, c2, c3, c4⟩ := y
 have h' := DV.agg.inj h
 simp only [List.cons.injEq, DV.int.injEq, and_true] at h'
 obtain ⟨rfl, rfl, rfl, rfl⟩ := h'
 rfl
theorem xe {b c : VoiceBook} (h : Enc.enc b = Enc.enc c) : Qs b c := by
 have h' := DV.agg.inj h
 simp only [List.cons.injEq, and_true] at h'
 obtain ⟨h1, h2, h3⟩ := h'
 exact ⟨jn (fun _ _ => nr) h1, DV.int.inj h2, jn (fun _ _ => eu) h3⟩
end
end Go.Lf
