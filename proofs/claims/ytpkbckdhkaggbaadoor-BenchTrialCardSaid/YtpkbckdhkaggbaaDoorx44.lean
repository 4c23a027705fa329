/- A part of the proof. -/
import Derived.Test.YtpkbckdhkaggbaaDoorx29
import Derived.Test.YtpkbckdhkaggbaaDoorx43
set_option linter.all false
namespace Go.Lf
open Go
noncomputable section
theorem Be {α β : Type} {a : α} {f : α → Option β} : Option.bind (some a) f = f a := rfl
theorem rM {n m : Int} (hm : m ≠ 0) : uO .rem n m = some (n.tmod m) := by
 simp [uO, binOp, Bm, Op.intDiv, hm]
 rfl
theorem Qy {n m : Int} (hm : 1 ≤ m) (hn : m < 4611686018427387904) : ∃ r, ES n m = some r ∧ 0 ≤ r ∧ r < m := by
 unfold ES
 rw [if_neg (by simp; omega), rM (by omega), Be]
 have h1 : n.tmod m < m := by
  have := Int.tmod_lt_of_pos n (show 0 < m by omega)
  exact this
 have h2 : -m < n.tmod m := by
  have := Int.lt_tmod_of_pos n (show 0 < m by omega)
  exact this
 by_cases h : n.tmod m < 0
 ·rw [if_pos (by simpa using h)]
  exact ⟨_, rfl, by rw [TJ (by omega) (by omega)]; omega, by rw [TJ (by omega) (by omega)]; omega⟩
 ·rw [if_neg (by simpa using h)]
  exact ⟨_, rfl, by omega, h1⟩
theorem jV (y : Ao) : (if H2 y.Notes 0 40 40 = true then some (Aj y.Many 1 3) else some false) = some (NV y) := by
 rw [← kJ]
 cases H2 y.Notes 0 40 40 <;> rfl
theorem YE {b : BenchBook} (h : TG b) : FK b = some (uw b) := by
 have e1 : ∀ (x : AK) (t : Bool), x.Parts.l.length < 4611686018427387904 → Loop (Dp x) (t, 0) = some (t && x.Parts.l.all NV) := by
  intro x t hx
  refine Loop.all (fun t i => (t, i)) x.Parts.l NV id hx rfl ?_ ?_ ?_
  ·intro pre a post hx _ _ hW
   have hl : (pre.length : Int) < x.Parts.len := by rw [Sl.len_l, hx]; simp; omega
   simp only [Dp, Bool.true_and, decide_eq_true hl, if_true, Sl.ix_at hx, Be, jV, hW]
  ·have hl : ¬ (x.Parts.l.length : Int) < x.Parts.len := by rw [Sl.len_l]; omega
   simp only [Dp, Bool.true_and, decide_eq_false hl, Bool.false_eq_true, if_false, id]
  ·intro i
   simp only [Dp, Bool.false_and, Bool.false_eq_true, if_false, id]
 have e2 : ∀ t : Bool, Loop (Dq b) (t, 0) = some (t && b.Pieces.l.all (IO b)) := by
  intro t
  refine Loop.all (fun t i => (t, i)) b.Pieces.l (IO b) id h.pieces rfl ?_ ?_ ?_
  ·intro pre a post hx _ _ hW
   have ha := h.parts a (by rw [hx]; simp)
   have hl : (pre.length : Int) < b.Pieces.len := by rw [Sl.len_l, hx]; simp; omega
   simp only [Dq, Bool.true_and, decide_eq_true hl, if_true, Sl.ix_at hx, Be, e1 a _ ha, hW]
   rfl
  ·have hl : ¬ (b.Pieces.l.length : Int) < b.Pieces.len := by rw [Sl.len_l]; omega
   simp only [Dq, Bool.true_and, decide_eq_false hl, Bool.false_eq_true, if_false, id]
  ·intro i
   simp only [Dq, Bool.false_and, Bool.false_eq_true, if_false, id]
 simp only [FK, NJ h, G5 h.voice, Be, e2]
 by_cases ho : uw b = true
 ·have hv := Ji h ho
  have hb := hv.voice
  have h1 : Aj b.Voice.Boys.len 1 4 = true := by
   have := hv.vok; simp only [uS, Qj, Bool.and_eq_true] at this; exact this.1.1
  have h2 : Aj b.Voice.Weeks 1 6 = true := by
   have := hv.vok; simp only [uS, Qj, Bool.and_eq_true] at this; exact this.1.2.1
  have h3 : Aj b.Pieces.len 1 3 = true := by
   have := ho; simp only [uw, Vx, Bool.and_eq_true] at this; exact this.1.2.1
  have h4 : Aj b.Most 1 3 = true := by
   have := ho; simp only [uw, Vx, Bool.and_eq_true] at this; exact this.1.2.2
  have h5 : decide (b.Voice.Trials.len ≤ 6) = true := by
   have := hv.vok; simp only [uS, Qj, Bool.and_eq_true] at this; exact this.1.2.2
  have h6 : b.Pieces.l.all (IO b) = true := by
   have := ho; simp only [uw, Bool.and_eq_true] at this; exact this.2
  simp only [ho, hv.vok, h1, h2, h3, h4, h5, h6, if_true, decide_true, Be, Bool.and_self]
 ·have ho' : uw b = false := by simpa using ho
  simp only [ho', Bool.false_eq_true, if_false]
  simp
theorem Ox {b : VoiceBook} {boy week note : Int} (h : 0 < (Ed b boy).length) : E9 b boy week note = 2 ↔ ∀ t ∈ Ed b boy, dW (US b boy) t week note = true := by
 unfold E9 many
 constructor
 ·intro hs
  split at hs
  ·cases hs
  ·split at hs
   ·rename_i h2; exact List.countP_eq_length.mp h2
   ·cases hs
 ·intro ha
  have h2 := List.countP_eq_length.mpr ha
  rw [h2, if_neg (by omega), if_pos rfl]
theorem kG {b : BenchBook} {boy week : Int} {s : Ec} (hs : s.Low ≤ s.High) (h : 0 < (Ed b.Voice boy).length) : Z1 b week s boy = true ↔ E9 b.Voice boy week s.Low = 2 ∧ E9 b.Voice boy week s.High = 2 := by
 unfold Z1
 rw [List.all_eq_true]
 constructor
 ·intro ha
  exact ⟨of_decide_eq_true (ha _ (QW.mpr ⟨Int.le_refl _, hs⟩)), of_decide_eq_true (ha _ (QW.mpr ⟨hs, Int.le_refl _⟩))⟩
 ·rintro ⟨h1, h2⟩ n hn
  obtain ⟨h3, h4⟩ := QW.mp hn
  rw [Ox h] at h1 h2
  refine decide_eq_true ((Ox h).mpr fun t ht => ?_)
  have a1 := h1 t ht
  have a2 := h2 t ht
  simp only [dW, Ad, Bool.and_eq_true, decide_eq_true_eq] at a1 a2 ⊢
  exact ⟨a1.1, by omega, by omega⟩
end
end Go.Lf
namespace Go.Lf
open Go
noncomputable section
theorem dh (q : Int → Bool) : ∀ (l : List Int) (prev : Option Int), l.Pairwise (· < ·) → (∀ p ∈ l, q p = true) → (∀ x, prev = some x → ∀ p ∈ l, x < p) → jx q prev l = true
 | [], _, _, _, _ => rfl
 | p :: l, prev, h1, h2, h3 => by
  rw [List.pairwise_cons] at h1
  simp only [jx, Bool.and_eq_true]
  refine ⟨⟨h2 p (by simp), ?_⟩, dh q l (some p) h1.2 (fun x hx => h2 x (by simp [hx])) fun x hx y hy => by cases hx; exact h1.1 y hy⟩
  cases prev with
  | none => rfl
  | some x => exact decide_eq_true (h3 x rfl p (by simp))
theorem aL {b : BenchBook} (hf : TG b) (n : Ar 3 Int) : G9 b n = some true := by
 unfold G9
 rw [YE hf, Be]
 by_cases ho : uw b = true
 case neg =>
  have : uw b = false := by simpa using ho
  simp only [this, Bool.false_eq_true, if_false, CW, Be]
 case pos =>
  have hv := Ji hf ho
  rw [if_pos ho]
  obtain ⟨l, hl⟩ := n
  match l, hl with
  | [n0, n1, n2], hl =>
   have hp := hv.pieces
   obtain ⟨p, e1, p0, p1⟩ := Qy (n := n0) (m := b.Pieces.len) (by rw [Sl.len_l]; omega) (by rw [Sl.len_l]; omega)
   have hbl := hv.voice.boys
   obtain ⟨x, hx, hxm⟩ : ∃ x, b.Pieces.ix p = some x ∧ x ∈ b.Pieces.l := by
    rw [Sl.len_l] at p1
    have h0 : p.toNat < b.Pieces.l.length := by omega
    refine ⟨b.Pieces.l[p.toNat], ?_, List.getElem_mem h0⟩
    unfold Sl.ix
    rw [if_pos p0, List.getElem?_eq_getElem h0]
   have hxp := hv.parts x hxm
   obtain ⟨k, e2, k0, k1⟩ := Qy (n := n1) (m := x.Parts.len) (by rw [Sl.len_l]; omega) (by rw [Sl.len_l]; omega)
   obtain ⟨y, hy, hym⟩ : ∃ y, x.Parts.ix k = some y ∧ y ∈ x.Parts.l := by
    rw [Sl.len_l] at k1
    have h0 : k.toNat < x.Parts.l.length := by omega
    refine ⟨x.Parts.l[k.toNat], ?_, List.getElem_mem h0⟩
    unfold Sl.ix
    rw [if_pos k0, List.getElem?_eq_getElem h0]
   obtain ⟨boy, e3, b0, b1⟩ := Qy (n := n2) (m := b.Voice.Boys.len) (by rw [Sl.len_l]; omega) (by rw [Sl.len_l]; omega)
   have i0 : (⟨[n0, n1, n2], hl⟩ : Ar 3 Int).ix 0 = some n0 := rfl
   have i1 : (⟨[n0, n1, n2], hl⟩ : Ar 3 Int).ix 1 = some n1 := rfl
   have i2 : (⟨[n0, n1, n2], hl⟩ : Ar 3 Int).ix 2 = some n2 := rfl
   simp only [i0, i1, i2, Be, e1, hx, e2, e3, hy]
   obtain ⟨l, c1, c2⟩ := Io (hf := hf) p k
   have hq : jw b p k = true := by
    simp only [jw, hx, Bool.and_eq_true]
    exact ⟨(IY hf p).mpr ⟨p0, by rw [Sl.len_l] at p1; exact p1⟩, (iO hf hx).mpr ⟨k0, by rw [Sl.len_l] at k1; exact k1⟩⟩
   rw [Sl.len_l] at b1
   have hw := hv.week x hxm
   have hy4 := hv.part x hxm y hym
   have q1 : uX b.Voice boy x.Week y.Notes.Low = true := by
    simp only [uX, Bool.and_eq_true]
    exact ⟨(Ob hv.voice boy).mpr ⟨b0, b1⟩, (Me hv.voice x.Week).mpr hw, by simp [C4, Ad]; omega⟩
   have q2 : uX b.Voice boy x.Week y.Notes.High = true := by
    simp only [uX, Bool.and_eq_true]
    exact ⟨(Ob hv.voice boy).mpr ⟨b0, b1⟩, (Me hv.voice x.Week).mpr hw, by simp [C4, Ad]; omega⟩
   by_cases hfi : E3 b.Voice = true
   case neg =>
    have hfi' : E3 b.Voice = false := by simpa using hfi
    have g1 : AZ b true = 72 := by simp [AZ, ho, hfi']
    have g2 : Hu b.Voice true = 22 := by simp [Hu, hv.vok, hfi']
    rw [hq, g1] at c1
    simp [c1, I8 hf.voice, q1, q2, g2, CW]
   case pos =>
    have g1 : AZ b true = 0 := by simp [AZ, ho, hfi]
    have g2 : Hu b.Voice true = 0 := by simp [Hu, hv.vok, hfi]
    rw [hq, g1] at c1 c2
    rw [if_pos rfl] at c2
    have c3 : l.l = SR b A0 x.Week y.Notes := by rw [c2]; simp only [BK, hx, hy]
    have hlen : l.l.length < 4611686018427387904 := by
     rw [c3]
     have := List.length_filter_le (fun boy => !A0 boy && Z1 b x.Week y.Notes boy) (ue b.Voice.Boys.l.length)
     rw [Aw] at this
     simp only [SR]
     omega
    have ho1 : Dc l b.Voice.Boys.len = some true := by
     rw [Ug b.Voice.Boys.len l hlen, c3]
     refine congrArg some (dh _ _ _ ((Qg _).filter _) (fun z hz => ?_) (fun _ h => by cases h))
     have hz1 := I7.mp (List.mem_filter.mp hz).1
     simp only [Aj, Sl.len_l, Bool.and_eq_true, decide_eq_true_eq]
     rw [TJ (by omega) (by omega)]; omega
    obtain ⟨v, w1, w2⟩ := gZ l hlen boy
    have hc : l.l.contains boy = decide (E9 b.Voice boy x.Week y.Notes.Low = 2 ∧ E9 b.Voice boy x.Week y.Notes.High = 2) := by
     rw [c3, Bool.eq_iff_iff]
     simp only [List.contains_iff_mem, SR, List.mem_filter, A0, Bool.not_false, Bool.true_and, decide_eq_true_eq]
     rw [kG hy4.2.1 (UI hfi ⟨b0, b1⟩)]
     exact ⟨fun h => h.2, fun h => ⟨I7.mpr ⟨b0, b1⟩, h⟩⟩
    rw [hc] at w2
    simp only [c1, I8 hf.voice, q1, q2, g2, if_true, Be, decide_true, ho1, w1, CW]
    have hv0 : decide (0 ≤ v) = decide (E9 b.Voice boy x.Week y.Notes.Low = 2 ∧ E9 b.Voice boy x.Week y.Notes.High = 2) := by
     have : decide (0 ≤ v) = !decide (v < 0) := by
      by_cases h : v < 0
      ·have h' : ¬ 0 ≤ v := by omega
       simp [h, h']
      ·have h' : 0 ≤ v := by omega
       simp [h, h']
     rw [this, w2, Bool.not_not]
    rw [hv0]
    by_cases a1 : E9 b.Voice boy x.Week y.Notes.Low = 2 <;> by_cases a2 : E9 b.Voice boy x.Week y.Notes.High = 2 <;> simp [a1, a2]
end
end Go.Lf
