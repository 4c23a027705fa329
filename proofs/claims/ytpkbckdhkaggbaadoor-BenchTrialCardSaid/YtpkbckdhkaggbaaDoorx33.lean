/- A part of the proof. -/
import Derived.Test.YtpkbckdhkaggbaaDoorx32
set_option linter.all false
namespace Go.Lf
open Go
noncomputable section
def NV (y : Ao) : Bool := AV y.Notes.Low 0 y.Notes.High && (decide (y.Notes.High ≤ 40) && AV y.Many 1 3)
def IO (b : BenchBook) (x : AK) : Bool := (AV x.Week 0 (W (b.Voice.Weeks - 1)) && AV x.Parts.len 1 3) && x.Parts.l.all NV
def Vx (b : BenchBook) : Bool := uS b.Voice && (AV b.Pieces.len 1 3 && AV b.Most 1 3)
def uw (b : BenchBook) : Bool := Vx b && b.Pieces.l.all (IO b)
structure TG (b : BenchBook) : Prop where
 voice : lX b.Voice
 pieces : b.Pieces.l.length < 4611686018427387904
 parts : ∀ x ∈ b.Pieces.l, x.Parts.l.length < 4611686018427387904
theorem NJ {b : BenchBook} (h : TG b) : Gw b = some (if uw b then 0 else 70) := by
 have e1 : ∀ (x : AK) (t : Bool), x.Parts.l.length < 4611686018427387904 → Loop (ET x) (t, 0) = some (t && x.Parts.l.all NV) := by
  intro x t hx
  refine FG (fun t i => (t, i)) x.Parts.l (fun pre => t && pre.all NV) hx (by simp) ?_ ?_
  ·intro pre a post hx hW
   simp [ET, Sl.ix_at hx, Sl.len_l, hx, hW, NV, Bool.and_assoc]
   omega
  ·simp [ET, Sl.len_l]
 have e2 : Loop (ER b) (Vx b, 0) = some (uw b) := by
  refine FG (fun t i => (t, i)) b.Pieces.l (fun pre => Vx b && pre.all (IO b)) h.pieces (by simp) ?_ ?_
  ·intro pre a post hx hW
   have ha := h.parts a (by rw [hx]; simp)
   have hl : (pre.length : Int) < b.Pieces.len := by rw [Sl.len_l, hx]; simp; omega
   simp only [ER, decide_eq_true hl, if_true, Sl.ix_at hx, Option.bind_some, e1 a _ ha, hW, List.all_append, List.all_cons, List.all_nil, IO]
   congr 3
   simp [Bool.and_assoc]
  ·have hl : ¬ (b.Pieces.l.length : Int) < b.Pieces.len := by rw [Sl.len_l]; omega
   simp only [ER, decide_eq_false hl, Bool.false_eq_true, if_false, uw]
 have e3 : (Option.bind (EB b.Voice) fun v2 => if (decide (v2 = 0)) then if (AV b.Pieces.len 1 3) then some ((AV b.Most 1 3)) else some (false) else some (false) : Option (Bool)) = some (Vx b) := by
  rw [G5 h.voice, Option.bind_some, Vx]
  by_cases h1 : uS b.Voice = true
  ·by_cases h2 : AV b.Pieces.len 1 3 = true
   ·simp [h1, h2]
   ·simp [h1, h2]
  ·simp [h1]
 simp only [Gw, e3, e2, Option.bind_some]
 cases uw b <;> rfl
theorem kJ (y : Ao) : (H2 y.Notes 0 40 40 && Aj y.Many 1 3) = NV y := by
 rw [Bool.eq_iff_iff]
 simp only [H2, Aj, NV, AV, Bool.and_eq_true, decide_eq_true_eq]
 constructor
 ·rintro ⟨⟨h1, h2, h3, h4⟩, h5⟩; exact ⟨⟨h1, h2⟩, h3, h5⟩
 ·rintro ⟨⟨h1, h2⟩, h3, h5⟩; exact ⟨⟨h1, h2, h3, by rw [TJ (by omega) (by omega)]; omega⟩, h5⟩
structure Ez (b : BenchBook) : Prop where
 few : TG b
 voice : cI b.Voice
 vok : uS b.Voice = true
 pieces : 1 ≤ b.Pieces.l.length ∧ b.Pieces.l.length ≤ 3
 most : 1 ≤ b.Most ∧ b.Most ≤ 3
 week : ∀ x ∈ b.Pieces.l, 0 ≤ x.Week ∧ x.Week < b.Voice.Weeks
 parts : ∀ x ∈ b.Pieces.l, 1 ≤ x.Parts.l.length ∧ x.Parts.l.length ≤ 3
 part : ∀ x ∈ b.Pieces.l, ∀ y ∈ x.Parts.l, 0 ≤ y.Notes.Low ∧ y.Notes.Low ≤ y.Notes.High ∧ y.Notes.High ≤ 40 ∧ 1 ≤ y.Many ∧ y.Many ≤ 3
theorem Ji {b : BenchBook} (hf : TG b) (h : uw b = true) : Ez b := by
 simp only [uw, Vx, AV, Bool.and_eq_true, decide_eq_true_eq] at h
 obtain ⟨⟨h1, h2, h3⟩, h4⟩ := h
 have hv := Ip hf.voice h1
 rw [Sl.len_l] at h2
 have hp : ∀ x ∈ b.Pieces.l, (0 ≤ x.Week ∧ x.Week < b.Voice.Weeks) ∧ (1 ≤ x.Parts.l.length ∧ x.Parts.l.length ≤ 3) ∧ ∀ y ∈ x.Parts.l, 0 ≤ y.Notes.Low ∧ y.Notes.Low ≤ y.Notes.High ∧ y.Notes.High ≤ 40 ∧ 1 ≤ y.Many ∧ y.Many ≤ 3 := by
  intro x hx
  have := List.all_eq_true.mp h4 x hx
  simp only [IO, AV, Bool.and_eq_true, decide_eq_true_eq] at this
  obtain ⟨⟨g1, g2⟩, g3⟩ := this
  rw [Sl.len_l] at g2
  have hw := hv.weeks
  rw [TJ (by omega) (by omega)] at g1
  refine ⟨by omega, by omega, fun y hy => ?_⟩
  have := List.all_eq_true.mp g3 y hy
  simp only [NV, AV, Bool.and_eq_true, decide_eq_true_eq] at this
  omega
 exact ⟨hf, hv, h1, by omega, h3, fun x hx => (hp x hx).1, fun x hx => (hp x hx).2.1, fun x hx => (hp x hx).2.2⟩
def Z1 (b : BenchBook) (week : Int) (s : Ec) (boy : Int) : Bool := (rng s).all fun n => decide (E9 b.Voice boy week n = 2)
theorem dk (b : VoiceBook) (boy week note : Int) : E9 b boy week note = 0 ∨ E9 b boy week note = 1 ∨ E9 b boy week note = 2 := by
 unfold E9
 split
 ·simp
 ·split <;> simp
theorem eC {b : VoiceBook} (hok : uS b = true) (hfi : E3 b = true) {boy week note : Int} (hb : 0 ≤ boy ∧ boy < b.Boys.l.length) (hw : 0 ≤ week ∧ week < b.Weeks) (hn : 0 ≤ note ∧ note ≤ 40) (hf : lX b) : Hu b (uX b boy week note) = 0 := by
 have hv := Ip hf hok
 have h1 := (Ob hv boy).mpr hb
 have h2 := (Me hv week).mpr hw
 have h3 : C4 note = true := by simp [C4, Ad, hn]
 simp [Hu, uX, h1, h2, h3, hok, hfi]
theorem f9 {α β : Type} (p : α → Bool) (r : β) (g : Option β → Option Bool) (h0 : g none = some true) (h1 : g (some r) = some false) : ∀ l : List α, g (l.findSome? fun x => if p x then none else some r) = some (l.all p)
 | [] => h0
 | a :: l => by
  have ih := f9 p r g h0 h1 l
  by_cases h : p a = true
  ·simp [h, ih]
  ·simp [h, h1]
theorem lz {s : Ec} (h : MF s) : (rng s).length < 4611686018427387904 := by have := pL h; omega
section
variable {b : BenchBook} (hv : Ez b) (hfi : E3 b.Voice = true) {p k boy : Int} {x : AK} {y : Ao} (hx : b.Pieces.ix p = some x) (hy : x.Parts.ix k = some y) (hb : 0 ≤ boy ∧ boy < b.Voice.Boys.l.length)
include hv hfi hx hy hb
theorem lR (m : Mp 2 (Sl Int)) : CY ⟨b, m⟩ ⟨p, k⟩ boy = some (Z1 b x.Week y.Notes boy) := by
 obtain ⟨n1, n2, n3, _, _⟩ := hv.part x (IG hx).2.2 y (IG hy).2.2
 have hs : MF y.Notes := ⟨n1, n2, n3⟩
 have hw := hv.week x (IG hx).2.2
 have e : Loop (B5 ⟨b, m⟩ boy x y) 0 = some (((rng y.Notes).findSome? fun n => if decide (E9 b.Voice boy x.Week n = 2) then none else some (.inl false : Bool ⊕ Unit)).getD (.inr ())) := by
  refine Loop.find (fun i => i) (rng y.Notes) _ (lz hs) rfl ?_ ?_
  ·intro pre a post h _ hW
   have ha := oM h
   have hm := QW.mp (show a ∈ rng y.Notes by rw [h]; simp)
   have hl : (pre.length : Int) < W (W (y.Notes.High - y.Notes.Low) + 1) := by rw [gu hs]; omega
   have hWa : W (y.Notes.Low + pre.length) = a := by rw [ha]; exact TJ (by omega) (by omega)
   simp only [B5, decide_eq_true hl, if_true, hWa, I8 hv.few.voice, eC hv.vok hfi hb hw (by omega : 0 ≤ a ∧ a ≤ 40) hv.few.voice, Option.bind_some, hW, decide_true]
   rcases dk b.Voice boy x.Week a with h1 | h1 | h1 <;> simp [h1]
  ·intro _
   have hl : ¬ ((rng y.Notes).length : Int) < W (W (y.Notes.High - y.Notes.Low) + 1) := by rw [gu hs, MQ]; omega
   simp only [B5, decide_eq_false hl, Bool.false_eq_true, if_false]
 simp only [CY, hx, hy, Option.bind_some, e]
 exact f9 (fun n => decide (E9 b.Voice boy x.Week n = 2)) (.inl false : Bool ⊕ Unit) (fun o => match o.getD (.inr ()) with | .inl w10 => some w10 | .inr _ => some true) rfl rfl _
end
end
end Go.Lf
namespace Go.Lf
open Go
noncomputable section
def SR (b : BenchBook) (ex : Int → Bool) (week : Int) (s : Ec) : List Int := (ue b.Voice.Boys.l.length).filter fun boy => !ex boy && Z1 b week s boy
def BK (b : BenchBook) (ex : Int → Bool) (p k : Int) : List Int := match b.Pieces.ix p with
 | some x => match x.Parts.ix k with
  | some y => SR b ex x.Week y.Notes
  | none => []
 | none => []
abbrev XP := List (List Int × Sl Int)
def ut (es : XP) (F : Int → Int → List Int) : Prop := ∀ p k, (LH Sl.nil es [p, k]).warm ∧ (LH Sl.nil es [p, k]).l = F p k
theorem ut.congr {es : XP} {F G : Int → Int → List Int} (h : ut es F) (e : ∀ p k, F p k = G p k) : ut es G := fun p k => ⟨(h p k).1, (h p k).2.trans (e p k)⟩
def qX (ex : Int → Bool) (a0 : BenchBook) (x7 x16 : Int) : XP × Int → Option ((XP × Int) ⊕ XP)
 | (x22, x23) => if (decide (x23 < a0.Voice.Boys.len)) then Option.bind (if ex x23 then some (true) else Option.bind (CY (AB.mk a0 (Mp.nil : (Mp 2 (Sl Int)))) (AI.mk x7 x16) x23) fun v30 => some ((!v30)) : Option (Bool)) fun o33 => if o33 then some (.inl (x22, (W (x23 + 1)))) else Option.bind (Sl.app 8 (LH (Sl.nil : (Sl Int)) x22 (BZ.key (AI.mk x7 x16))) ([x23])) fun v36 => some (.inl ((EI x22 (BZ.key (AI.mk x7 x16)) v36), (W (x23 + 1)))) else some (.inr x22)
def rk (ex : Int → Bool) (a0 : BenchBook) (x7 : Int) (v12 : AK) : XP × Int → Option ((XP × Int) ⊕ XP)
 | (x15, x16) => if (decide (x16 < v12.Parts.len)) then Option.bind (Loop (qX ex a0 x7 x16) (x15, 0)) (fun y24 => some (.inl (y24, (W (x16 + 1))))) else some (.inr x15)
def sO (ex : Int → Bool) (a0 : BenchBook) : XP × Int → Option ((XP × Int) ⊕ XP)
 | (x6, x7) => if (decide (x7 < a0.Pieces.len)) then Option.bind (a0.Pieces.ix x7) fun v12 => Option.bind (Loop (rk ex a0 x7 v12) (x6, 0)) (fun y17 => some (.inl (y17, (W (x7 + 1))))) else some (.inr x6)
def uE (ex : Int → Bool) (a0 : BenchBook) : Option (AB) := Option.bind (Loop (sO ex a0) ((EI ([] : XP) (BZ.key (AI.mk (-1) (-1))) (Sl.nil : (Sl Int))), 0)) (fun y8 => some ((AB.mk a0 (Mp.mk y8))))
theorem jg (b : BenchBook) : Gz b = uE (fun _ => false) b := rfl
theorem eg (b : BenchBook) (boy : Int) : GN b boy = uE (fun i => decide (i = boy)) b := rfl
theorem Ko {α : Type} (p : α → Bool) (l : List α) (a : α) : (l ++ [a]).filter p = l.filter p ++ (if p a then [a] else []) := by
 simp only [List.filter_append, List.filter_cons, List.filter_nil]
section
variable {b : BenchBook} (hv : Ez b) (hfi : E3 b.Voice = true) (ex : Int → Bool)
include hv hfi
theorem pS {p k : Int} {x : AK} {y : Ao} (hx : b.Pieces.ix p = some x) (hy : x.Parts.ix k = some y) {es : XP} {F : Int → Int → List Int} (h : ut es F) (h0 : F p k = []) :
  ∃ es', ut es' (fun p' k' => if p' = p ∧ k' = k then SR b ex x.Week y.Notes else F p' k') ∧ Loop (qX ex b p k) (es, 0) = some es' := by
 have h4 := hv.voice.boys.1
 obtain ⟨r, hr, he⟩ := PQ (f := qX ex b p k) (fun es i => (es, i)) (ue b.Voice.Boys.l.length) (fun pre es' => ut es' (fun p' k' => if p' = p ∧ k' = k then pre.filter (fun boy => !ex boy && Z1 b x.Week y.Notes boy) else F p' k'))
  (fun es' => ut es' (fun p' k' => if p' = p ∧ k' = k then SR b ex x.Week y.Notes else F p' k')) (x0 := (es, 0)) (t0 := es) (by rw [Aw]; omega) rfl (h.congr fun p' k' => by
   by_cases hc : p' = p ∧ k' = k
   ·rw [if_pos hc, hc.1, hc.2, h0]; rfl
   ·rw [if_neg hc]) (by
   intro pre a post es1 hx1 hi hW
   obtain ⟨ha, hlt⟩ := RO hx1
   have hlt2 : (pre.length : Int) < b.Voice.Boys.len := by rw [Sl.len_l]; exact hlt
   have hcan := lR hv hfi hx hy ⟨Int.natCast_nonneg pre.length, hlt⟩ (Mp.nil : Mp 2 (Sl Int))
   obtain ⟨hw, hl⟩ := hi p k
   dsimp only at hl
   rw [if_pos ⟨rfl, rfl⟩] at hl
   have hle := List.length_filter_le (fun boy => !ex boy && Z1 b x.Week y.Notes boy) pre
   have hlen : (LH Sl.nil es1 [p, k]).l.length + ([(pre.length : Int)] : List Int).length ≤ 1000000000 := by rw [hl]; simp; omega
   have hkey : BZ.key (AI.mk p k) = [p, k] := rfl
   by_cases hc : (!ex a && Z1 b x.Week y.Notes a) = true
   ·refine ⟨EI es1 [p, k] (.hot ((LH Sl.nil es1 [p, k]).l ++ [(pre.length : Int)])), ?_, ?_⟩
    ·intro p' k'
     rw [Y3]
     dsimp only
     by_cases hpk : p' = p ∧ k' = k
     ·obtain ⟨rfl, rfl⟩ := hpk
      rw [if_pos rfl, if_pos ⟨rfl, rfl⟩, Ko, if_pos hc, ← ha]
      exact ⟨Sl.warm_hot _, by rw [Sl.l_hot, hl]⟩
     ·rw [if_neg (by simp; omega), if_neg hpk]
      have := hi p' k'
      dsimp only at this
      rwa [if_neg hpk] at this
    ·simp only [Bool.and_eq_true, Bool.not_eq_true', ha] at hc
     simp only [qX, decide_eq_true hlt2, if_true, hc.1, Bool.false_eq_true, if_false, hcan, Option.bind_some, hc.2, Bool.not_true, hkey, Sl.app_warm (q := 8) hw (by simp) (B2 hlen (by omega)), hW]
   ·refine ⟨es1, ?_, ?_⟩
    ·refine hi.congr fun p' k' => ?_
     rw [Ko, if_neg hc, List.append_nil]
    ·rw [ha] at hc
     simp only [qX, decide_eq_true hlt2, if_true, hcan, hW]
     cases he : ex pre.length with
     | true => simp
     | false =>
      rw [he] at hc
      simp only [Bool.not_false, Bool.true_and] at hc
      simp [hc]) (by
   intro es1 hi
   refine ⟨es1, hi, ?_⟩
   have hlt2 : ¬ ((ue b.Voice.Boys.l.length).length : Int) < b.Voice.Boys.len := by rw [Sl.len_l, Aw]; omega
   simp only [qX, decide_eq_false hlt2, Bool.false_eq_true, if_false])
 exact ⟨r, hr, he⟩
theorem pq {p : Int} {x : AK} (hx : b.Pieces.ix p = some x) {es : XP} {F : Int → Int → List Int} (h : ut es F) (h0 : ∀ k, F p k = []) :
  ∃ es', ut es' (fun p' k' => if p' = p then BK b ex p k' else F p' k') ∧ Loop (rk ex b p x) (es, 0) = some es' := by
 have hp3 := hv.parts x (IG hx).2.2
 obtain ⟨r, hr, he⟩ := PQ (f := rk ex b p x) (fun es i => (es, i)) x.Parts.l (fun pre es' => ut es' (fun p' k' => if p' = p then (if k' < pre.length then BK b ex p k' else []) else F p' k'))
  (fun es' => ut es' (fun p' k' => if p' = p then BK b ex p k' else F p' k')) (x0 := (es, 0)) (t0 := es) (by omega) rfl (h.congr fun p' k' => by
   by_cases hc : p' = p
   ·rw [if_pos hc, hc, h0]
    by_cases h1 : k' < (([] : List Ao).length : Int)
    ·rw [if_pos h1]
     have : x.Parts.ix k' = none := by unfold Sl.ix; rw [if_neg (by simp at h1; omega)]
     simp [BK, hx, this]
    ·rw [if_neg h1]
   ·rw [if_neg hc]) (by
   intro pre y post es1 hx1 hi hW
   have hy : x.Parts.ix pre.length = some y := Sl.ix_at hx1
   have hlt2 : (pre.length : Int) < x.Parts.len := by rw [Sl.len_l, hx1]; simp; omega
   obtain ⟨es2, h2, he2⟩ := pS hv hfi ex hx hy hi (by rw [if_pos rfl, if_neg (by omega)])
   refine ⟨es2, h2.congr fun p' k' => ?_, ?_⟩
   ·by_cases hp : p' = p
    ·subst hp
     rw [if_pos rfl, if_pos rfl]
     by_cases hk : k' = pre.length
     ·subst hk
      rw [if_pos ⟨rfl, rfl⟩, if_pos (by rw [List.length_append]; simp; omega)]
      simp [BK, hx, hy]
     ·rw [if_neg (by omega)]
      by_cases hk2 : k' < pre.length
      ·rw [if_pos hk2, if_pos (by rw [List.length_append]; simp; omega)]
      ·rw [if_neg hk2, if_neg (by rw [List.length_append]; simp; omega)]
    ·rw [if_neg (by omega), if_neg hp, if_neg hp]
   ·simp only [rk, decide_eq_true hlt2, if_true, he2, Option.bind_some, hW]) (by
   intro es1 hi
   refine ⟨es1, hi.congr fun p' k' => ?_, ?_⟩
   ·by_cases hp : p' = p
    ·subst hp
     rw [if_pos rfl, if_pos rfl]
     by_cases hk : k' < x.Parts.l.length
     ·rw [if_pos hk]
     ·rw [if_neg hk]
      have : x.Parts.ix k' = none := by
       unfold Sl.ix; split
       ·rw [List.getElem?_eq_none]; omega
       ·rfl
      simp [BK, hx, this]
    ·rw [if_neg hp, if_neg hp]
   ·have hlt2 : ¬ (x.Parts.l.length : Int) < x.Parts.len := by rw [Sl.len_l]; omega
    simp only [rk, decide_eq_false hlt2, Bool.false_eq_true, if_false])
 exact ⟨r, hr, he⟩
theorem pB : ∃ es, ut es (BK b ex) ∧ uE ex b = some ⟨b, Mp.mk es⟩ := by
 obtain ⟨r, hr, he⟩ := PQ (f := sO ex b) (fun es i => (es, i)) b.Pieces.l (fun pre es' => ut es' (fun p' k' => if p' < pre.length then BK b ex p' k' else []))
  (fun es' => ut es' (BK b ex)) (x0 := ((EI ([] : XP) (BZ.key (AI.mk (-1) (-1))) (Sl.nil : (Sl Int))), 0)) (t0 := EI ([] : XP) (BZ.key (AI.mk (-1) (-1))) (Sl.nil : (Sl Int))) (by have := hv.pieces; omega) rfl (by
   intro p k
   rw [Y3, nr]
   dsimp only
   have e : (if [p, k] = BZ.key (AI.mk (-1) (-1)) then (Sl.nil : Sl Int) else Sl.nil) = Sl.nil := by split <;> rfl
   rw [e]
   refine ⟨Sl.warm_nil, ?_⟩
   by_cases h1 : p < (([] : List AK).length : Int)
   ·rw [if_pos h1]
    have : b.Pieces.ix p = none := by unfold Sl.ix; rw [if_neg (by simp at h1; omega)]
    simp [BK, this, Sl.l]
   ·rw [if_neg h1]; rfl) (by
   intro pre x post es1 hx1 hi hW
   have hx : b.Pieces.ix pre.length = some x := Sl.ix_at hx1
   have hlt2 : (pre.length : Int) < b.Pieces.len := by rw [Sl.len_l, hx1]; simp; omega
   obtain ⟨es2, h2, he2⟩ := pq hv hfi ex hx hi (by intro k; rw [if_neg (by omega)])
   refine ⟨es2, h2.congr fun p' k' => ?_, ?_⟩
   ·by_cases hp : p' = pre.length
    ·rw [if_pos hp, if_pos (by rw [List.length_append]; simp; omega), hp]
    ·rw [if_neg hp]
     by_cases hp2 : p' < pre.length
     ·rw [if_pos hp2, if_pos (by rw [List.length_append]; simp; omega)]
     ·rw [if_neg hp2, if_neg (by rw [List.length_append]; simp; omega)]
   ·simp only [sO, decide_eq_true hlt2, if_true, hx, he2, Option.bind_some, hW]) (by
   intro es1 hi
   refine ⟨es1, hi.congr fun p' k' => ?_, ?_⟩
   ·by_cases hp : p' < b.Pieces.l.length
    ·rw [if_pos hp]
    ·rw [if_neg hp]
     have : b.Pieces.ix p' = none := by
      unfold Sl.ix; split
      ·rw [List.getElem?_eq_none]; omega
      ·rfl
     simp [BK, this]
   ·have hlt2 : ¬ (b.Pieces.l.length : Int) < b.Pieces.len := by rw [Sl.len_l]; omega
    simp only [sO, decide_eq_false hlt2, Bool.false_eq_true, if_false])
 exact ⟨r, hr, by simp only [uE, he, Option.bind_some]⟩
end
def AZ (b : BenchBook) (q : Bool) : Int := if uw b then (if q then (if E3 b.Voice then 0 else 72) else 71) else 70
theorem C3 {b : BenchBook} (hf : TG b) (q : Bool) : ∃ bk, BP b q = some (bk, AZ b q) ∧ (AZ b q = 0 → ∃ es, bk = ⟨b, Mp.mk es⟩ ∧ ut es (BK b fun _ => false)) := by
 simp only [BP, NJ hf, Option.bind_some, AZ]
 by_cases h : uw b = true
 case neg => simp [h]
 case pos =>
  by_cases hq : q = true
  case neg => simp [h, hq]
  case pos =>
   have hv := Ji hf h
   simp only [h, hq, if_true, decide_true, WQ hf.voice, hv.vok, Option.bind_some]
   by_cases hfi : E3 b.Voice = true
   case neg => simp [hfi]
   case pos =>
    obtain ⟨es, h1, he⟩ := pB hv hfi fun _ => false
    simp only [hfi, if_true, jg, he, Option.bind_some]
    exact ⟨_, rfl, fun _ => ⟨es, rfl, h1⟩⟩
theorem D6 {b : BenchBook} (hf : TG b) {q : Bool} (h : AZ b q = 0) : Ez b ∧ q = true ∧ E3 b.Voice = true := by
 unfold AZ at h
 by_cases h1 : uw b = true
 ·by_cases h2 : q = true
  ·by_cases h3 : E3 b.Voice = true
   ·exact ⟨Ji hf h1, h2, h3⟩
   ·simp [h1, h2, h3] at h
  ·simp [h1, h2] at h
 ·simp [h1] at h
theorem fB {b : BenchBook} {es : XP} {ex : Int → Bool} (h : ut es (BK b ex)) (p k : Int) : ((Mp.get (Mp.mk es : Mp 2 (Sl Int)) (BZ.key (AI.mk p k))).getD Sl.nil).l = BK b ex p k := by
 have e : (Mp.get (Mp.mk es : Mp 2 (Sl Int)) (BZ.key (AI.mk p k))).getD Sl.nil = LH Sl.nil es [p, k] := oV _ _ _
 rw [e]; exact (h p k).2
end
end Go.Lf
