/- A part of the proof. -/
import Derived.Test.YtopknkghclncnaaGreatDoorx33
set_option linter.all false
namespace Go.Lf
open Go
noncomputable section
def S8 (y : Ax) : Bool := Aa y.Notes.Low 0 y.Notes.High && (decide (y.Notes.High ≤ 40) && Aa y.Many 1 3)
def YT (b : BenchBook) (x : AM) : Bool := (Aa x.Week 0 (W (b.Voice.Weeks - 1)) && Aa x.Parts.len 1 3) && x.Parts.l.all S8
def gY (b : BenchBook) : Bool := vOk b.Voice && (Aa b.Pieces.len 1 3 && Aa b.Most 1 3)
def bOk (b : BenchBook) : Bool := gY b && b.Pieces.l.all (YT b)
structure Wi (b : BenchBook) : Prop where
 voice : qu b.Voice
 pieces : b.Pieces.l.length < 4611686018427387904
 parts : ∀ x ∈ b.Pieces.l, x.Parts.l.length < 4611686018427387904
theorem QT {b : BenchBook} (h : Wi b) : IY b = some (if bOk b then 0 else 70) := by
 have e1 : ∀ (x : AM) (t : Bool), x.Parts.l.length < 4611686018427387904 → Loop (FQ x) (t, 0) = some (t && x.Parts.l.all S8) := by
  intro x t hx
  refine Cj (fun t i => (t, i)) x.Parts.l (fun pre => t && pre.all S8) hx (by simp) ?_ ?_
  ·intro pre a post hx hW
   simp [FQ, Sl.ix_at hx, Sl.len_l, hx, hW, S8, Bool.and_assoc]
   omega
  ·simp [FQ, Sl.len_l]
 have e2 : Loop (FN b) (gY b, 0) = some (bOk b) := by
  refine Cj (fun t i => (t, i)) b.Pieces.l (fun pre => gY b && pre.all (YT b)) h.pieces (by simp) ?_ ?_
  ·intro pre a post hx hW
   have ha := h.parts a (by rw [hx]; simp)
   have hl : (pre.length : Int) < b.Pieces.len := by rw [Sl.len_l, hx]; simp; omega
   simp only [FN, decide_eq_true hl, if_true, Sl.ix_at hx, Option.bind_some, e1 a _ ha, hW, List.all_append, List.all_cons, List.all_nil, YT]
   congr 3
   simp [Bool.and_assoc]
  ·have hl : ¬ (b.Pieces.l.length : Int) < b.Pieces.len := by rw [Sl.len_l]; omega
   simp only [FN, decide_eq_false hl, Bool.false_eq_true, if_false, bOk]
 have e3 : (Option.bind (Fp b.Voice) fun v2 => if (decide (v2 = 0)) then if (Aa b.Pieces.len 1 3) then some ((Aa b.Most 1 3)) else some (false) else some (false) : Option (Bool)) = some (gY b) := by
  rw [LR h.voice, Option.bind_some, gY]
  by_cases h1 : vOk b.Voice = true
  ·by_cases h2 : Aa b.Pieces.len 1 3 = true
   ·simp [h1, h2]
   ·simp [h1, h2]
  ·simp [h1]
 simp only [IY, e3, e2, Option.bind_some]
 cases bOk b <;> rfl
theorem uV (y : Ax) : (BR y.Notes 0 40 40 && Ai y.Many 1 3) = S8 y := by
 rw [Bool.eq_iff_iff]
 simp only [BR, Ai, S8, Aa, Bool.and_eq_true, decide_eq_true_eq]
 constructor
 ·rintro ⟨⟨h1, h2, h3, h4⟩, h5⟩; exact ⟨⟨h1, h2⟩, h3, h5⟩
 ·rintro ⟨⟨h1, h2⟩, h3, h5⟩; exact ⟨⟨h1, h2, h3, by rw [VV (by omega) (by omega)]; omega⟩, h5⟩
theorem Qa {b : BenchBook} (h : Wi b) : IR b = some (if bOk b then 0 else 70) := by
 have e1 : ∀ (x : AM) (t : Bool), x.Parts.l.length < 4611686018427387904 → Loop (EW x) (t, 0) = some (t && x.Parts.l.all S8) := by
  intro x t hx
  refine Loop.all (fun t i => (t, i)) x.Parts.l S8 id hx rfl ?_ ?_ ?_
  ·intro pre a post hx _ _ hW
   have hl : (pre.length : Int) < x.Parts.len := by rw [Sl.len_l, hx]; simp; omega
   simp only [EW, decide_eq_true hl, Bool.true_and, if_true, Sl.ix_at hx, Option.bind_some, hW, ← uV]
   cases BR a.Notes 0 40 40 <;> simp
  ·have hl : ¬ (x.Parts.l.length : Int) < x.Parts.len := by rw [Sl.len_l]; omega
   simp [EW, hl]
  ·intro i; simp [EW]
 have e2 : Loop (EZ b) (gY b, 0) = some (bOk b) := by
  refine Loop.all (fun t i => (t, i)) b.Pieces.l (YT b) id h.pieces rfl ?_ ?_ ?_
  ·intro pre a post hx _ _ hW
   have ha := h.parts a (by rw [hx]; simp)
   have hl : (pre.length : Int) < b.Pieces.len := by rw [Sl.len_l, hx]; simp; omega
   simp only [EZ, decide_eq_true hl, Bool.true_and, if_true, Sl.ix_at hx, Option.bind_some, e1 a _ ha, hW]
   rfl
  ·have hl : ¬ (b.Pieces.l.length : Int) < b.Pieces.len := by rw [Sl.len_l]; omega
   simp [EZ, hl]
  ·intro i; simp [EZ]
 have e3 : (Option.bind (Ft b.Voice) fun v2 => if (decide (v2 = 0)) then if (Ai b.Pieces.len 1 3) then some ((Ai b.Most 1 3)) else some (false) else some (false) : Option (Bool)) = some (gY b) := by
  rw [LA h.voice, Option.bind_some, gY]
  by_cases h1 : vOk b.Voice = true
  ·by_cases h2 : Aa b.Pieces.len 1 3 = true
   ·have h3 : Ai b.Pieces.len 1 3 = true := h2
    simp only [h1, h2, h3, if_true, decide_true, Bool.true_and]; rfl
   ·have h3 : ¬ Ai b.Pieces.len 1 3 = true := h2
    simp [h1, h2, h3]
  ·simp [h1]
 simp only [IR, e3, e2, Option.bind_some]
 cases bOk b <;> rfl
structure Ek (b : BenchBook) : Prop where
 few : Wi b
 voice : ZC b.Voice
 vok : vOk b.Voice = true
 pieces : 1 ≤ b.Pieces.l.length ∧ b.Pieces.l.length ≤ 3
 most : 1 ≤ b.Most ∧ b.Most ≤ 3
 week : ∀ x ∈ b.Pieces.l, 0 ≤ x.Week ∧ x.Week < b.Voice.Weeks
 parts : ∀ x ∈ b.Pieces.l, 1 ≤ x.Parts.l.length ∧ x.Parts.l.length ≤ 3
 part : ∀ x ∈ b.Pieces.l, ∀ y ∈ x.Parts.l, 0 ≤ y.Notes.Low ∧ y.Notes.Low ≤ y.Notes.High ∧ y.Notes.High ≤ 40 ∧ 1 ≤ y.Many ∧ y.Many ≤ 3
theorem XJ {b : BenchBook} (hf : Wi b) (h : bOk b = true) : Ek b := by
 simp only [bOk, gY, Aa, Bool.and_eq_true, decide_eq_true_eq] at h
 obtain ⟨⟨h1, h2, h3⟩, h4⟩ := h
 have hv := Ip hf.voice h1
 rw [Sl.len_l] at h2
 have hp : ∀ x ∈ b.Pieces.l, (0 ≤ x.Week ∧ x.Week < b.Voice.Weeks) ∧ (1 ≤ x.Parts.l.length ∧ x.Parts.l.length ≤ 3) ∧ ∀ y ∈ x.Parts.l, 0 ≤ y.Notes.Low ∧ y.Notes.Low ≤ y.Notes.High ∧ y.Notes.High ≤ 40 ∧ 1 ≤ y.Many ∧ y.Many ≤ 3 := by
  intro x hx
  have := List.all_eq_true.mp h4 x hx
  simp only [YT, Aa, Bool.and_eq_true, decide_eq_true_eq] at this
  obtain ⟨⟨g1, g2⟩, g3⟩ := this
  rw [Sl.len_l] at g2
  have hw := hv.weeks
  rw [VV (by omega) (by omega)] at g1
  refine ⟨by omega, by omega, fun y hy => ?_⟩
  have := List.all_eq_true.mp g3 y hy
  simp only [S8, Aa, Bool.and_eq_true, decide_eq_true_eq] at this
  omega
 exact ⟨hf, hv, h1, by omega, h3, fun x hx => (hp x hx).1, fun x hx => (hp x hx).2.1, fun x hx => (hp x hx).2.2⟩
def qn (b : BenchBook) (week : Int) (s : Fo) (boy : Int) : Bool := (rng s).all fun n => decide (J3 b.Voice boy week n = 2)
theorem mI (b : VoiceBook) (boy week note : Int) : J3 b boy week note = 0 ∨ J3 b boy week note = 1 ∨ J3 b boy week note = 2 := by
 unfold J3
 split
 ·simp
 ·split <;> simp
theorem Yr {b : VoiceBook} (hok : vOk b = true) (hfi : LL b = true) {boy week note : Int} (hb : 0 ≤ boy ∧ boy < b.Boys.l.length) (hw : 0 ≤ week ∧ week < b.Weeks) (hn : 0 ≤ note ∧ note ≤ 40) (hf : qu b) : GH b (isQ b boy week note) = 0 := by
 have hv := Ip hf hok
 have h1 := (XL hv boy).mpr hb
 have h2 := (cb hv week).mpr hw
 have h3 : EE note = true := by simp [EE, Ak, hn]
 simp [GH, isQ, h1, h2, h3, hok, hfi]
theorem fY {α β : Type} (p : α → Bool) (r : β) (g : Option β → Option Bool) (h0 : g none = some true) (h1 : g (some r) = some false) : ∀ l : List α, g (l.findSome? fun x => if p x then none else some r) = some (l.all p)
 | [] => h0
 | a :: l => by
  have ih := fY p r g h0 h1 l
  by_cases h : p a = true
  ·simp [h, ih]
  ·simp [h, h1]
theorem kJ {s : Fo} (h : MR s) : (rng s).length < 4611686018427387904 := by have := xb h; omega
section
variable {b : BenchBook} (hv : Ek b) (hfi : LL b.Voice = true) {p k boy : Int} {x : AM} {y : Ax} (hx : b.Pieces.ix p = some x) (hy : x.Parts.ix k = some y) (hb : 0 ≤ boy ∧ boy < b.Voice.Boys.l.length)
include hv hfi hx hy hb
theorem uR (m : Mp 2 (Sl Int)) : C9 ⟨b, m⟩ ⟨p, k⟩ boy = some (qn b x.Week y.Notes boy) := by
 obtain ⟨n1, n2, n3, _, _⟩ := hv.part x (E6 hx).2.2 y (E6 hy).2.2
 have hs : MR y.Notes := ⟨n1, n2, n3⟩
 have hw := hv.week x (E6 hx).2.2
 have e : Loop (CX ⟨b, m⟩ boy x y) 0 = some (((rng y.Notes).findSome? fun n => if decide (J3 b.Voice boy x.Week n = 2) then none else some (.inl false : Bool ⊕ Unit)).getD (.inr ())) := by
  refine Loop.find (fun i => i) (rng y.Notes) _ (kJ hs) rfl ?_ ?_
  ·intro pre a post h _ hW
   have ha := pR h
   have hm := Nk.mp (show a ∈ rng y.Notes by rw [h]; simp)
   have hl : (pre.length : Int) < W (W (y.Notes.High - y.Notes.Low) + 1) := by rw [pG hs]; omega
   have hWa : W (y.Notes.Low + pre.length) = a := by rw [ha]; exact VV (by omega) (by omega)
   simp only [CX, decide_eq_true hl, if_true, hWa, aw hv.few.voice, Yr hv.vok hfi hb hw (by omega : 0 ≤ a ∧ a ≤ 40) hv.few.voice, Option.bind_some, hW, decide_true]
   rcases mI b.Voice boy x.Week a with h1 | h1 | h1 <;> simp [h1]
  ·intro _
   have hl : ¬ ((rng y.Notes).length : Int) < W (W (y.Notes.High - y.Notes.Low) + 1) := by rw [pG hs, Jn]; omega
   simp only [CX, decide_eq_false hl, Bool.false_eq_true, if_false]
 simp only [C9, hx, hy, Option.bind_some, e]
 exact fY (fun n => decide (J3 b.Voice boy x.Week n = 2)) (.inl false : Bool ⊕ Unit) (fun o => match o.getD (.inr ()) with | .inl w10 => some w10 | .inr _ => some true) rfl rfl _
theorem sw : Ou b p k boy = some (qn b x.Week y.Notes boy) := by
 obtain ⟨n1, n2, n3, _, _⟩ := hv.part x (E6 hx).2.2 y (E6 hy).2.2
 have hs : MR y.Notes := ⟨n1, n2, n3⟩
 have hw := hv.week x (E6 hx).2.2
 have e : Loop (HM b k boy x) y.Notes.Low = some (((rng y.Notes).findSome? fun n => if decide (J3 b.Voice boy x.Week n = 2) then none else some (.inl false : Bool ⊕ Unit)).getD (.inr ())) := by
  refine Loop.find (fun i => y.Notes.Low + i) (rng y.Notes) _ (kJ hs) (by simp) ?_ ?_
  ·intro pre a post h _ hW
   have ha := pR h
   have hm := Nk.mp (show a ∈ rng y.Notes by rw [h]; simp)
   have hWa : W (a + 1) = a + 1 := VV (by omega) (by omega)
   have ha1 : y.Notes.Low + ((pre.length : Int) + 1) = a + 1 := by omega
   rw [← ha, ha1]
   simp only [HM, hy, Option.bind_some, decide_eq_true hm.2, if_true, Z1 hv.few.voice, Yr hv.vok hfi hb hw (by omega : 0 ≤ a ∧ a ≤ 40) hv.few.voice, hWa]
   by_cases h1 : J3 b.Voice boy x.Week a = 2 <;> simp [h1]
  ·intro _
   have hl : ¬ y.Notes.Low + ((rng y.Notes).length : Int) ≤ y.Notes.High := by rw [Jn]; omega
   simp only [HM, hy, Option.bind_some, decide_eq_false hl, Bool.false_eq_true, if_false]
 simp only [Ou, hx, hy, Option.bind_some, e]
 exact fY (fun n => decide (J3 b.Voice boy x.Week n = 2)) (.inl false : Bool ⊕ Unit) (fun o => match o.getD (.inr ()) with | .inl w10 => some w10 | .inr _ => some true) rfl rfl _
end
end
end Go.Lf
namespace Go.Lf
open Go
noncomputable section
def QA (b : BenchBook) (ex : Int → Bool) (week : Int) (s : Fo) : List Int := (idx b.Voice.Boys.l.length).filter fun boy => !ex boy && qn b week s boy
def As (b : BenchBook) (ex : Int → Bool) (p k : Int) : List Int := match b.Pieces.ix p with
 | some x => match x.Parts.ix k with
  | some y => QA b ex x.Week y.Notes
  | none => []
 | none => []
abbrev dI := List (List Int × Sl Int)
def WhI (es : dI) (F : Int → Int → List Int) : Prop := ∀ p k, (OJ Sl.nil es [p, k]).warm ∧ (OJ Sl.nil es [p, k]).l = F p k
theorem WhI.congr {es : dI} {F G : Int → Int → List Int} (h : WhI es F) (e : ∀ p k, F p k = G p k) : WhI es G := fun p k => ⟨(h p k).1, (h p k).2.trans (e p k)⟩
def yu (ex : Int → Bool) (a0 : BenchBook) (x7 x16 : Int) : dI × Int → Option ((dI × Int) ⊕ dI)
 | (x22, x23) => if (decide (x23 < a0.Voice.Boys.len)) then Option.bind (if ex x23 then some (true) else Option.bind (C9 (AC.mk a0 (Mp.nil : (Mp 2 (Sl Int)))) (AL.mk x7 x16) x23) fun v30 => some ((!v30)) : Option (Bool)) fun o33 => if o33 then some (.inl (x22, (W (x23 + 1)))) else Option.bind (Sl.app 8 (OJ (Sl.nil : (Sl Int)) x22 (Bq.key (AL.mk x7 x16))) ([x23])) fun v36 => some (.inl ((FC x22 (Bq.key (AL.mk x7 x16)) v36), (W (x23 + 1)))) else some (.inr x22)
def zK (ex : Int → Bool) (a0 : BenchBook) (x7 : Int) (v12 : AM) : dI × Int → Option ((dI × Int) ⊕ dI)
 | (x15, x16) => if (decide (x16 < v12.Parts.len)) then Option.bind (Loop (yu ex a0 x7 x16) (x15, 0)) (fun y24 => some (.inl (y24, (W (x16 + 1))))) else some (.inr x15)
def AAa (ex : Int → Bool) (a0 : BenchBook) : dI × Int → Option ((dI × Int) ⊕ dI)
 | (x6, x7) => if (decide (x7 < a0.Pieces.len)) then Option.bind (a0.Pieces.ix x7) fun v12 => Option.bind (Loop (zK ex a0 x7 v12) (x6, 0)) (fun y17 => some (.inl (y17, (W (x7 + 1))))) else some (.inr x6)
def opn (ex : Int → Bool) (a0 : BenchBook) : Option (AC) := Option.bind (Loop (AAa ex a0) ((FC ([] : dI) (Bq.key (AL.mk (-1) (-1))) (Sl.nil : (Sl Int))), 0)) (fun y8 => some ((AC.mk a0 (Mp.mk y8))))
theorem rM (b : BenchBook) : Ik b = opn (fun _ => false) b := rfl
theorem nL (b : BenchBook) (boy : Int) : Hu b boy = opn (fun i => decide (i = boy)) b := rfl
theorem E4 {α : Type} (p : α → Bool) (l : List α) (a : α) : (l ++ [a]).filter p = l.filter p ++ (if p a then [a] else []) := by
 simp only [List.filter_append, List.filter_cons, List.filter_nil]
section
variable {b : BenchBook} (hv : Ek b) (hfi : LL b.Voice = true) (ex : Int → Bool)
include hv hfi
theorem yW {p k : Int} {x : AM} {y : Ax} (hx : b.Pieces.ix p = some x) (hy : x.Parts.ix k = some y) {es : dI} {F : Int → Int → List Int} (h : WhI es F) (h0 : F p k = []) :
  ∃ es', WhI es' (fun p' k' => if p' = p ∧ k' = k then QA b ex x.Week y.Notes else F p' k') ∧ Loop (yu ex b p k) (es, 0) = some es' := by
 have h4 := hv.voice.boys.1
 obtain ⟨r, hr, he⟩ := Iy (f := yu ex b p k) (fun es i => (es, i)) (idx b.Voice.Boys.l.length) (fun pre es' => WhI es' (fun p' k' => if p' = p ∧ k' = k then pre.filter (fun boy => !ex boy && qn b x.Week y.Notes boy) else F p' k'))
  (fun es' => WhI es' (fun p' k' => if p' = p ∧ k' = k then QA b ex x.Week y.Notes else F p' k')) (x0 := (es, 0)) (t0 := es) (by rw [AQ]; omega) rfl (h.congr fun p' k' => by
   by_cases hc : p' = p ∧ k' = k
   ·rw [if_pos hc, hc.1, hc.2, h0]; rfl
   ·rw [if_neg hc]) (by
   intro pre a post es1 hx1 hi hW
   obtain ⟨ha, hlt⟩ := IG hx1
   have hlt2 : (pre.length : Int) < b.Voice.Boys.len := by rw [Sl.len_l]; exact hlt
   have hcan := uR hv hfi hx hy ⟨Int.natCast_nonneg pre.length, hlt⟩ (Mp.nil : Mp 2 (Sl Int))
   obtain ⟨hw, hl⟩ := hi p k
   dsimp only at hl
   rw [if_pos ⟨rfl, rfl⟩] at hl
   have hle := List.length_filter_le (fun boy => !ex boy && qn b x.Week y.Notes boy) pre
   have hlen : (OJ Sl.nil es1 [p, k]).l.length + ([(pre.length : Int)] : List Int).length ≤ 1000000000 := by rw [hl]; simp; omega
   have hkey : Bq.key (AL.mk p k) = [p, k] := rfl
   by_cases hc : (!ex a && qn b x.Week y.Notes a) = true
   ·refine ⟨FC es1 [p, k] (.hot ((OJ Sl.nil es1 [p, k]).l ++ [(pre.length : Int)])), ?_, ?_⟩
    ·intro p' k'
     rw [ei]
     dsimp only
     by_cases hpk : p' = p ∧ k' = k
     ·obtain ⟨rfl, rfl⟩ := hpk
      rw [if_pos rfl, if_pos ⟨rfl, rfl⟩, E4, if_pos hc, ← ha]
      exact ⟨Sl.warm_hot _, by rw [Sl.l_hot, hl]⟩
     ·rw [if_neg (by simp; omega), if_neg hpk]
      have := hi p' k'
      dsimp only at this
      rwa [if_neg hpk] at this
    ·simp only [Bool.and_eq_true, Bool.not_eq_true', ha] at hc
     simp only [yu, decide_eq_true hlt2, if_true, hc.1, Bool.false_eq_true, if_false, hcan, Option.bind_some, hc.2, Bool.not_true, hkey, Sl.app_warm (q := 8) hw (by simp) (A8 hlen (by omega)), hW]
   ·refine ⟨es1, ?_, ?_⟩
    ·refine hi.congr fun p' k' => ?_
     rw [E4, if_neg hc, List.append_nil]
    ·rw [ha] at hc
     simp only [yu, decide_eq_true hlt2, if_true, hcan, hW]
     cases he : ex pre.length with
     | true => simp
     | false =>
      rw [he] at hc
      simp only [Bool.not_false, Bool.true_and] at hc
      simp [hc]) (by
   intro es1 hi
   refine ⟨es1, hi, ?_⟩
   have hlt2 : ¬ ((idx b.Voice.Boys.l.length).length : Int) < b.Voice.Boys.len := by rw [Sl.len_l, AQ]; omega
   simp only [yu, decide_eq_false hlt2, Bool.false_eq_true, if_false])
 exact ⟨r, hr, he⟩
theorem yD {p : Int} {x : AM} (hx : b.Pieces.ix p = some x) {es : dI} {F : Int → Int → List Int} (h : WhI es F) (h0 : ∀ k, F p k = []) :
  ∃ es', WhI es' (fun p' k' => if p' = p then As b ex p k' else F p' k') ∧ Loop (zK ex b p x) (es, 0) = some es' := by
 have hp3 := hv.parts x (E6 hx).2.2
 obtain ⟨r, hr, he⟩ := Iy (f := zK ex b p x) (fun es i => (es, i)) x.Parts.l (fun pre es' => WhI es' (fun p' k' => if p' = p then (if k' < pre.length then As b ex p k' else []) else F p' k'))
  (fun es' => WhI es' (fun p' k' => if p' = p then As b ex p k' else F p' k')) (x0 := (es, 0)) (t0 := es) (by omega) rfl (h.congr fun p' k' => by
   by_cases hc : p' = p
   ·rw [if_pos hc, hc, h0]
    by_cases h1 : k' < (([] : List Ax).length : Int)
    ·rw [if_pos h1]
     have : x.Parts.ix k' = none := by unfold Sl.ix; rw [if_neg (by simp at h1; omega)]
     simp [As, hx, this]
    ·rw [if_neg h1]
   ·rw [if_neg hc]) (by
   intro pre y post es1 hx1 hi hW
   have hy : x.Parts.ix pre.length = some y := Sl.ix_at hx1
   have hlt2 : (pre.length : Int) < x.Parts.len := by rw [Sl.len_l, hx1]; simp; omega
   obtain ⟨es2, h2, he2⟩ := yW hv hfi ex hx hy hi (by rw [if_pos rfl, if_neg (by omega)])
   refine ⟨es2, h2.congr fun p' k' => ?_, ?_⟩
   ·by_cases hp : p' = p
    ·subst hp
     rw [if_pos rfl, if_pos rfl]
     by_cases hk : k' = pre.length
     ·subst hk
      rw [if_pos ⟨rfl, rfl⟩, if_pos (by rw [List.length_append]; simp; omega)]
      simp [As, hx, hy]
     ·rw [if_neg (by omega)]
      by_cases hk2 : k' < pre.length
      ·rw [if_pos hk2, if_pos (by rw [List.length_append]; simp; omega)]
      ·rw [if_neg hk2, if_neg (by rw [List.length_append]; simp; omega)]
    ·rw [if_neg (by omega), if_neg hp, if_neg hp]
   ·simp only [zK, decide_eq_true hlt2, if_true, he2, Option.bind_some, hW]) (by
   intro es1 hi
   refine ⟨es1, hi.congr fun p' k' => ?_, ?_⟩
   ·by_cases hp : p' = p
    ·subst hp
     rw [if_pos rfl, if_pos rfl]
     by_cases hk : k' < x.Parts.l.length
     ·rw [if_pos hk]
     ·rw [if_neg hk]
      have : x.Parts.ix k' = none := by
       unfold Sl.ix; split
       ·rw [List.getElem?_eq_none]; omega
       ·rfl
      simp [As, hx, this]
    ·rw [if_neg hp, if_neg hp]
   ·have hlt2 : ¬ (x.Parts.l.length : Int) < x.Parts.len := by rw [Sl.len_l]; omega
    simp only [zK, decide_eq_false hlt2, Bool.false_eq_true, if_false])
 exact ⟨r, hr, he⟩
theorem wd : ∃ es, WhI es (As b ex) ∧ opn ex b = some ⟨b, Mp.mk es⟩ := by
 obtain ⟨r, hr, he⟩ := Iy (f := AAa ex b) (fun es i => (es, i)) b.Pieces.l (fun pre es' => WhI es' (fun p' k' => if p' < pre.length then As b ex p' k' else []))
  (fun es' => WhI es' (As b ex)) (x0 := ((FC ([] : dI) (Bq.key (AL.mk (-1) (-1))) (Sl.nil : (Sl Int))), 0)) (t0 := FC ([] : dI) (Bq.key (AL.mk (-1) (-1))) (Sl.nil : (Sl Int))) (by have := hv.pieces; omega) rfl (by
   intro p k
   rw [ei, vM]
   dsimp only
   have e : (if [p, k] = Bq.key (AL.mk (-1) (-1)) then (Sl.nil : Sl Int) else Sl.nil) = Sl.nil := by split <;> rfl
   rw [e]
   refine ⟨Sl.warm_nil, ?_⟩
   by_cases h1 : p < (([] : List AM).length : Int)
   ·rw [if_pos h1]
    have : b.Pieces.ix p = none := by unfold Sl.ix; rw [if_neg (by simp at h1; omega)]
    simp [As, this, Sl.l]
   ·rw [if_neg h1]; rfl) (by
   intro pre x post es1 hx1 hi hW
   have hx : b.Pieces.ix pre.length = some x := Sl.ix_at hx1
   have hlt2 : (pre.length : Int) < b.Pieces.len := by rw [Sl.len_l, hx1]; simp; omega
   obtain ⟨es2, h2, he2⟩ := yD hv hfi ex hx hi (by intro k; rw [if_neg (by omega)])
   refine ⟨es2, h2.congr fun p' k' => ?_, ?_⟩
   ·by_cases hp : p' = pre.length
    ·rw [if_pos hp, if_pos (by rw [List.length_append]; simp; omega), hp]
    ·rw [if_neg hp]
     by_cases hp2 : p' < pre.length
     ·rw [if_pos hp2, if_pos (by rw [List.length_append]; simp; omega)]
     ·rw [if_neg hp2, if_neg (by rw [List.length_append]; simp; omega)]
   ·simp only [AAa, decide_eq_true hlt2, if_true, hx, he2, Option.bind_some, hW]) (by
   intro es1 hi
   refine ⟨es1, hi.congr fun p' k' => ?_, ?_⟩
   ·by_cases hp : p' < b.Pieces.l.length
    ·rw [if_pos hp]
    ·rw [if_neg hp]
     have : b.Pieces.ix p' = none := by
      unfold Sl.ix; split
      ·rw [List.getElem?_eq_none]; omega
      ·rfl
     simp [As, this]
   ·have hlt2 : ¬ (b.Pieces.l.length : Int) < b.Pieces.len := by rw [Sl.len_l]; omega
    simp only [AAa, decide_eq_false hlt2, Bool.false_eq_true, if_false])
 exact ⟨r, hr, by simp only [opn, he, Option.bind_some]⟩
def Jb (b : BenchBook) (ex : Int → Bool) : Sl (Sl (Sl Int)) := Sl.grow (b.Pieces.l.map fun x => Sl.grow (x.Parts.l.map fun y => Sl.hot (QA b ex x.Week y.Notes)))
theorem Y6 {but : Int} (hex : ∀ boy : Int, 0 ≤ boy → boy < b.Voice.Boys.l.length → F3 but boy = some (ex boy)) : C2 b but = some (Jb b ex) := by
 have h4 := hv.voice.boys.1
 have e3 : ∀ {p k : Int} {x : AM} {y : Ax}, b.Pieces.ix p = some x → x.Parts.ix k = some y → Loop (GZ b but p k) (Sl.hot [], 0) = some (Sl.hot (QA b ex x.Week y.Notes)) := by
  intro p k x y hx hy
  refine Cj (fun t i => (t, i)) (idx b.Voice.Boys.l.length) (fun pre => Sl.hot (pre.filter fun boy => !ex boy && qn b x.Week y.Notes boy)) (by rw [AQ]; omega) rfl ?_ ?_
  ·intro pre a post hx1 hW
   obtain ⟨ha, hlt⟩ := IG hx1
   have hlt2 : (pre.length : Int) < b.Voice.Boys.len := by rw [Sl.len_l]; exact hlt
   have hcan := sw hv hfi hx hy ⟨Int.natCast_nonneg pre.length, hlt⟩
   have hle := List.length_filter_le (fun boy => !ex boy && qn b x.Week y.Notes boy) pre
   have hlen : (pre.filter fun boy => !ex boy && qn b x.Week y.Notes boy).length + ([(pre.length : Int)] : List Int).length ≤ 1000000000 := by simp; omega
   rw [E4]
   simp only [GZ, decide_eq_true hlt2, if_true, hex _ (Int.natCast_nonneg pre.length) hlt, Option.bind_some, hcan, hW, ha]
   cases he : ex pre.length with
   | true => simp
   | false =>
    cases hc : qn b x.Week y.Notes pre.length with
    | false => simp
    | true => simp [Sl.app_hot (q := 8) (A8 hlen (by omega))]
  ·have hlt2 : ¬ ((idx b.Voice.Boys.l.length).length : Int) < b.Voice.Boys.len := by rw [Sl.len_l, AQ]; omega
   simp only [GZ, decide_eq_false hlt2, Bool.false_eq_true, if_false]; rfl
 have e2 : ∀ {p : Int} {x : AM} (out : Sl (Sl (Sl Int))), b.Pieces.ix p = some x → Loop (GF b but) (out, p, Sl.nil, 0) = some (out, p, Sl.grow (x.Parts.l.map fun y => Sl.hot (QA b ex x.Week y.Notes))) := by
  intro p x out hx
  have hp3 := hv.parts x (E6 hx).2.2
  refine Cj (fun t i => (out, p, t, i)) x.Parts.l (fun pre => Sl.grow (pre.map fun y => Sl.hot (QA b ex x.Week y.Notes))) (by omega) rfl ?_ ?_
  ·intro pre y post hx1 hW
   have hy : x.Parts.ix pre.length = some y := Sl.ix_at hx1
   have hlt2 : (pre.length : Int) < x.Parts.len := by rw [Sl.len_l, hx1]; simp; omega
   have hle : pre.length ≤ 3 := by rw [hx1] at hp3; simp at hp3; omega
   have hlen : (pre.map fun y => Sl.hot (QA b ex x.Week y.Notes)).length + ([Sl.hot (QA b ex x.Week y.Notes)] : List (Sl Int)).length ≤ 1000000000 := by simp; omega
   simp only [GF, hx, Option.bind_some, decide_eq_true hlt2, if_true, e3 hx hy, Sl.app_grow (q := 24) (List.cons_ne_nil _ _) (A8 hlen (by omega)), hW]
   simp
  ·have hlt2 : ¬ (x.Parts.l.length : Int) < x.Parts.len := by rw [Sl.len_l]; omega
   simp only [GF, hx, Option.bind_some, decide_eq_false hlt2, Bool.false_eq_true, if_false]
 have e1 : Loop (Ge b but) (Sl.nil, 0) = some (Jb b ex) := by
  refine Cj (fun t i => (t, i)) b.Pieces.l (fun pre => Sl.grow (pre.map fun x => Sl.grow (x.Parts.l.map fun y => Sl.hot (QA b ex x.Week y.Notes)))) (by have := hv.pieces; omega) rfl ?_ ?_
  ·intro pre x post hx1 hW
   have hx : b.Pieces.ix pre.length = some x := Sl.ix_at hx1
   have hlt2 : (pre.length : Int) < b.Pieces.len := by rw [Sl.len_l, hx1]; simp; omega
   have hle : pre.length ≤ 3 := by have := hv.pieces; rw [hx1] at this; simp at this; omega
   have hlen : (pre.map fun x => Sl.grow (x.Parts.l.map fun y => Sl.hot (QA b ex x.Week y.Notes))).length + ([Sl.grow (x.Parts.l.map fun y => Sl.hot (QA b ex x.Week y.Notes))] : List (Sl (Sl Int))).length ≤ 1000000000 := by simp; omega
   simp only [Ge, decide_eq_true hlt2, if_true, e2 _ hx, Option.bind_some, Sl.app_grow (q := 24) (List.cons_ne_nil _ _) (A8 hlen (by omega)), hW]
   simp
  ·have hlt2 : ¬ (b.Pieces.l.length : Int) < b.Pieces.len := by rw [Sl.len_l]; omega
   simp only [Ge, decide_eq_false hlt2, Bool.false_eq_true, if_false, Jb]
 simp only [C2, e1, Option.bind_some]
end
theorem gI {b : BenchBook} {ex : Int → Bool} {p k : Int} {x : AM} {y : Ax} (hx : b.Pieces.ix p = some x) (hy : x.Parts.ix k = some y) : ∃ l, (Jb b ex).ix p = some l ∧ l.ix k = some (Sl.hot (As b ex p k)) := by
 refine ⟨Sl.grow (x.Parts.l.map fun y => Sl.hot (QA b ex x.Week y.Notes)), ?_, ?_⟩
 ·have := hx
  unfold Sl.ix at this ⊢
  split at this
  ·rw [if_pos (by assumption), Jb, Sl.l_grow, List.getElem?_map, this]; rfl
  ·cases this
 ·have := hy
  unfold Sl.ix at this ⊢
  split at this
  ·rw [if_pos (by assumption), Sl.l_grow, List.getElem?_map, this]
   simp [As, hx, hy]
  ·cases this
def AU (b : BenchBook) (q : Bool) : Int := if bOk b then (if q then (if LL b.Voice then 0 else 72) else 71) else 70
theorem Dh {b : BenchBook} (hf : Wi b) (q : Bool) : ∃ bk, Bg b q = some (bk, AU b q) ∧ (AU b q = 0 → ∃ es, bk = ⟨b, Mp.mk es⟩ ∧ WhI es (As b fun _ => false)) := by
 simp only [Bg, QT hf, Option.bind_some, AU]
 by_cases h : bOk b = true
 case neg => simp [h]
 case pos =>
  by_cases hq : q = true
  case neg => simp [h, hq]
  case pos =>
   have hv := XJ hf h
   simp only [h, hq, if_true, decide_true, aG hf.voice, hv.vok, Option.bind_some]
   by_cases hfi : LL b.Voice = true
   case neg => simp [hfi]
   case pos =>
    obtain ⟨es, h1, he⟩ := wd hv hfi fun _ => false
    simp only [hfi, if_true, rM, he, Option.bind_some]
    exact ⟨_, rfl, fun _ => ⟨es, rfl, h1⟩⟩
theorem Df {b : BenchBook} (hf : Wi b) (q : Bool) : DJ b q = some (AU b q) := by
 simp only [DJ, Qa hf, Option.bind_some, AU]
 by_cases h : bOk b = true
 case neg => simp [h]
 case pos =>
  by_cases hq : q = true
  case neg => simp [h, hq]
  case pos =>
   have hv := XJ hf h
   simp only [h, hq, if_true, decide_true, Zj hf.voice, hv.vok, Option.bind_some]
   by_cases hfi : LL b.Voice = true <;> simp [hfi]
theorem A4 {b : BenchBook} (hf : Wi b) {q : Bool} (h : AU b q = 0) : Ek b ∧ q = true ∧ LL b.Voice = true := by
 unfold AU at h
 by_cases h1 : bOk b = true
 ·by_cases h2 : q = true
  ·by_cases h3 : LL b.Voice = true
   ·exact ⟨XJ hf h1, h2, h3⟩
   ·simp [h1, h2, h3] at h
  ·simp [h1, h2] at h
 ·simp [h1] at h
theorem qS {b : BenchBook} {es : dI} {ex : Int → Bool} (h : WhI es (As b ex)) (p k : Int) : ((Mp.get (Mp.mk es : Mp 2 (Sl Int)) (Bq.key (AL.mk p k))).getD Sl.nil).l = As b ex p k := by
 have e : (Mp.get (Mp.mk es : Mp 2 (Sl Int)) (Bq.key (AL.mk p k))).getD Sl.nil = OJ Sl.nil es [p, k] := xQ _ _ _
 rw [e]; exact (h p k).2
end
end Go.Lf
