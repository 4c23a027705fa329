/- A part of the proof. -/
import Derived.Test.YtopknkghclncnaaGreatDoorx43
import Derived.Test.YtopknkghclncnaaGreatDoorx44
set_option linter.all false
namespace Go.Lf
open Go Go.Lf.Pl
set_option maxRecDepth 100000
theorem YR : Wi CB := ⟨⟨by decide +kernel, by decide +kernel⟩, by decide +kernel, by decide +kernel⟩
theorem pr : Wi Ij := ⟨⟨by decide +kernel, by decide +kernel⟩, by decide +kernel, by decide +kernel⟩
theorem oz : Wi GV := ⟨⟨by decide +kernel, by decide +kernel⟩, by decide +kernel, by decide +kernel⟩
theorem o1 : AU CB (Zp CB 0 1) = 0 := by decide +kernel
theorem o2 : As CB Ap 0 1 = [0, 1] := by decide +kernel
theorem o3 : AU GV (AS GV 0) = 0 := by decide +kernel
theorem o4 : sF GV 0 = (0, 0) := by decide +kernel
theorem o5 : AU CB (rO CB (Sl.cold [0, 2] : Sl Int).l) = 0 := by decide +kernel
theorem o6 : xt CB (Sl.cold [0, 2] : Sl Int).l HB.l = true := by decide +kernel
theorem o7 : AU Ij true = 0 := by decide +kernel
theorem o8 : (hG Ij).length = 1 := by decide +kernel
theorem o9 : AU CB true = 0 := by decide +kernel
theorem o10 : BQ CB Ap = [1] := by decide +kernel
theorem o11 : VZ CB Ap = HB.l := by decide +kernel
theorem o12 : hG Ij = [[CE 0 0 0, CE 0 1 1, CE 1 0 1, CE 2 0 1]] := by decide +kernel
theorem o13 : AU GV true = 0 := by decide +kernel
theorem o14 : ka GV = [1] := by decide +kernel
theorem o15 : AU CB (AS CB 0) = 0 := by decide +kernel
theorem o16 : sF CB 0 = (0, 4) := by decide +kernel
theorem Qk : EM = some true := by
 obtain ⟨c1, c2, c3⟩ := Vg YR 0 1
 rw [o1] at c2 c3
 rw [if_pos rfl, o2] at c3
 obtain ⟨d1, d2, d3⟩ := OZ YR
 rw [o9] at d2 d3
 rw [if_pos rfl, o10] at d3
 obtain ⟨s1, s2, s3⟩ := QP YR
 rw [o9] at s2 s3
 rw [if_pos rfl, o11] at s3
 obtain ⟨f1, f2, f3⟩ := TD pr
 rw [o7, if_pos rfl] at f2 f3
 rw [o12] at f2 f3
 obtain ⟨n1, n2, n3⟩ := SH oz
 rw [o13] at n2 n3
 rw [if_pos rfl, o14] at n3
 have h1 := MY oz 0
 rw [o3, if_pos rfl, o4] at h1
 have h2 := Oe YR (Sl.cold [0, 2] : Sl Int) (by decide) HB
 rw [o5, if_pos rfl, o6] at h2
 have h3 := Ro pr
 rw [o7, if_pos rfl, o8] at h3
 have h4 := MY YR 0
 rw [o15, if_pos rfl, o16] at h4
 have e1 : BW c1 (Sl.cold [0, 1] : Sl Int) = some true := by rw [Ni _ _ (by rw [c3]; decide), c3]; rfl
 have e2 : BW d1 (Sl.cold [1] : Sl Int) = some true := by rw [Ni _ _ (by rw [d3]; decide), d3]; rfl
 have e3 : BW n1 (Sl.cold [1] : Sl Int) = some true := by rw [Ni _ _ (by rw [n3]; decide), n3]; rfl
 have e4 : FM s1 HB = some true := fW _ _ (by rw [s3]; decide) s3
 have e5 : FM f1 (Sl.cold [(CE 0 0 0), (CE 0 1 1), (CE 1 0 1), (CE 2 0 1)] : Sl AA) = some true := fW _ _ (by rw [f3]; decide) f3
 simp only [EM, c2, h1, h2, h3, d2, s2, f2, n2, h4, e1, e2, e3, e4, e5, Option.bind_some, decide_true, if_true, Bool.not_true, Bool.false_eq_true, if_false]
 rfl
end Go.Lf
namespace Go.Lf
open Go Go.Lf.Pl
set_option maxRecDepth 100000
theorem ua {b : BenchBook} (hf : Wi b) : FA b = some true := qw hf Qk
theorem mD {b : BenchBook} (hf : Wi b) : ED b = some true := iq hf Qk
theorem wB {b : BenchBook} (hf : Wi b) (p k : Int) : (As b Ap p k).length < 4611686018427387904 := by
 have h : ∀ week s, (QA b Ap week s).length < 4611686018427387904 := by
  intro week s
  have := List.length_filter_le (fun boy => !Ap boy && qn b week s boy) (idx b.Voice.Boys.l.length)
  rw [AQ] at this
  exact Nat.lt_of_le_of_lt this hf.voice.boys
 unfold As
 split
 ·split
  ·exact h _ _
  ·exact Nat.zero_lt_succ _
 ·exact Nat.zero_lt_succ _
theorem vC {b : BenchBook} (hf : Wi b) (a : Ar 2 Int) (x : Sl AA) (hx : x.l.length < 4611686018427387904) : Hr b a x = some true := by
 obtain ⟨v0, h0⟩ : ∃ v, a.ix 0 = some v := ⟨_, by simp only [Ar.ix]; exact List.getElem?_eq_getElem (by rw [a.h]; decide)⟩
 obtain ⟨v1, h1⟩ : ∃ v, a.ix 1 = some v := ⟨_, by simp only [Ar.ix]; exact List.getElem?_eq_getElem (by rw [a.h]; decide)⟩
 obtain ⟨l1, f1, f2⟩ := Vg hf v0 v1
 obtain ⟨l2, g1, g2⟩ := jV hf v0 v1
 have hl1 : l1.l.length < 4611686018427387904 := by
  rw [f2]; split
  ·exact wB hf _ _
  ·exact Nat.zero_lt_succ _
 have he : BW l1 l2 = some true := by rw [Ni l1 l2 hl1, f2, g2, decide_eq_true rfl]
 have hm : ∀ y : Sl Int, y.l.length < 4611686018427387904 → KT b y x = MO b y x := fun y hy => by rw [Oe hf y hy x, U9 hf y hy x hx]
 have hloop : Loop (B7 b x v0) 0 = some (.inr ()) := by
  have := Loop.find (f := B7 b x v0) (fun i => i) [(Sl.cold [v0] : Sl Int), (Sl.cold [0, v0] : Sl Int), (Sl.cold [0, 1, 2] : Sl Int)] (fun _ => (none : Option (Bool ⊕ Unit))) (x0 := 0) (r0 := .inr ()) (by exact (by decide : (3 : Nat) < 4611686018427387904)) rfl (by
   intro pre y post hpre _ hW
   have hlt : (pre.length : Int) < (Sl.cold [(Sl.cold [v0] : Sl Int), (Sl.cold [0, v0] : Sl Int), (Sl.cold [0, 1, 2] : Sl Int)] : Sl (Sl Int)).len := by
    have := congrArg List.length hpre
    rw [Sl.len_l]
    simp [Sl.l] at this ⊢; omega
   have hy : (Sl.cold [(Sl.cold [v0] : Sl Int), (Sl.cold [0, v0] : Sl Int), (Sl.cold [0, 1, 2] : Sl Int)] : Sl (Sl Int)).ix pre.length = some y := Sl.ix_at (by exact hpre)
   have hyl : y.l.length < 4611686018427387904 := by
    have : y ∈ [(Sl.cold [v0] : Sl Int), (Sl.cold [0, v0] : Sl Int), (Sl.cold [0, 1, 2] : Sl Int)] := by rw [hpre]; simp
    simp only [List.mem_cons, List.not_mem_nil, or_false] at this
    rcases this with rfl | rfl | rfl
    ·exact (by decide : (1 : Nat) < 4611686018427387904)
    ·exact (by decide : (2 : Nat) < 4611686018427387904)
    ·exact (by decide : (3 : Nat) < 4611686018427387904)
   have hmy := Oe hf y hyl x
   have hry := U9 hf y hyl x hx
   simp only [B7, decide_eq_true hlt, if_true, hy, Option.bind_some, hmy, hry, bne_self_eq_false, Bool.false_or, decide_true, Bool.not_true, Bool.false_eq_true, if_false, hW]) (by
   intro _
   have hlt : ¬ (([(Sl.cold [v0] : Sl Int), (Sl.cold [0, v0] : Sl Int), (Sl.cold [0, 1, 2] : Sl Int)].length : Int) < (Sl.cold [(Sl.cold [v0] : Sl Int), (Sl.cold [0, v0] : Sl Int), (Sl.cold [0, 1, 2] : Sl Int)] : Sl (Sl Int)).len) := by
    rw [Sl.len_l]; simp [Sl.l]
   simp only [B7, decide_eq_false hlt, Bool.false_eq_true, if_false])
  rw [this]; rfl
 simp only [Hr, h0, h1, Option.bind_some, f1, g1, he, if_true, decide_true, QT hf, Qa hf, Bool.not_true, Bool.false_eq_true, if_false, MY hf, fH hf, hloop, Qk]
end Go.Lf
