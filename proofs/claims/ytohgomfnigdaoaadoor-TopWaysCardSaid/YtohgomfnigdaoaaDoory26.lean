/- A part of the proof. -/
import Derived.Test.YtohgomfnigdaoaaDoory25
set_option linter.all false
namespace Go.Lf
open Go
noncomputable section
def Xc (y : A7) : Bool := AQ y.Notes.Low 0 y.Notes.High && (decide (y.Notes.High ≤ 40) && AQ y.Many 1 3)
def YH (b : BenchBook) (x : AK) : Bool := (AQ x.Week 0 (W (b.Voice.Weeks - 1)) && AQ x.Parts.len 1 3) && x.Parts.l.all Xc
def iz (b : BenchBook) : Bool := vOk b.Voice && (AQ b.Pieces.len 1 3 && AQ b.Most 1 3)
def bOk (b : BenchBook) : Bool := iz b && b.Pieces.l.all (YH b)
structure pi (b : BenchBook) : Prop where
 voice : dU b.Voice
 pieces : b.Pieces.l.length < 4611686018427387904
 parts : ∀ x ∈ b.Pieces.l, x.Parts.l.length < 4611686018427387904
theorem Y4 {b : BenchBook} (h : pi b) : G2 b = some (if bOk b then 0 else 70) := by
 have e1 : ∀ (x : AK) (t : Bool), x.Parts.l.length < 4611686018427387904 → Loop (ET x) (t, 0) = some (t && x.Parts.l.all Xc) := by
  intro x t hx
  refine FV (fun t i => (t, i)) x.Parts.l (fun pre => t && pre.all Xc) hx (by simp) ?_ ?_
  ·intro pre a post hx hW
   simp [ET, Sl.ix_at hx, Sl.len_l, hx, hW, Xc, Bool.and_assoc]
   omega
  ·simp [ET, Sl.len_l]
 have e2 : Loop (Di b) (iz b, 0) = some (bOk b) := by
  refine FV (fun t i => (t, i)) b.Pieces.l (fun pre => iz b && pre.all (YH b)) h.pieces (by simp) ?_ ?_
  ·intro pre a post hx hW
   have ha := h.parts a (by rw [hx]; simp)
   have hl : (pre.length : Int) < b.Pieces.len := by rw [Sl.len_l, hx]; simp; omega
   simp only [Di, decide_eq_true hl, if_true, Sl.ix_at hx, Option.bind_some, e1 a _ ha, hW, List.all_append, List.all_cons, List.all_nil, YH]
   congr 3
   simp [Bool.and_assoc]
  ·have hl : ¬ (b.Pieces.l.length : Int) < b.Pieces.len := by rw [Sl.len_l]; omega
   simp only [Di, decide_eq_false hl, Bool.false_eq_true, if_false, bOk]
 have e3 : (Option.bind (Dv b.Voice) fun v2 => if (decide (v2 = 0)) then if (AQ b.Pieces.len 1 3) then some ((AQ b.Most 1 3)) else some (false) else some (false) : Option (Bool)) = some (iz b) := by
  rw [IR h.voice, Option.bind_some, iz]
  by_cases h1 : vOk b.Voice = true
  ·by_cases h2 : AQ b.Pieces.len 1 3 = true
   ·simp [h1, h2]
   ·simp [h1, h2]
  ·simp [h1]
 simp only [G2, e3, e2, Option.bind_some]
 cases bOk b <;> rfl
structure GT (b : BenchBook) : Prop where
 few : pi b
 voice : bO b.Voice
 vok : vOk b.Voice = true
 pieces : 1 ≤ b.Pieces.l.length ∧ b.Pieces.l.length ≤ 3
 most : 1 ≤ b.Most ∧ b.Most ≤ 3
 week : ∀ x ∈ b.Pieces.l, 0 ≤ x.Week ∧ x.Week < b.Voice.Weeks
 parts : ∀ x ∈ b.Pieces.l, 1 ≤ x.Parts.l.length ∧ x.Parts.l.length ≤ 3
 part : ∀ x ∈ b.Pieces.l, ∀ y ∈ x.Parts.l, 0 ≤ y.Notes.Low ∧ y.Notes.Low ≤ y.Notes.High ∧ y.Notes.High ≤ 40 ∧ 1 ≤ y.Many ∧ y.Many ≤ 3
theorem WZ {b : BenchBook} (hf : pi b) (h : bOk b = true) : GT b := by
 simp only [bOk, iz, AQ, Bool.and_eq_true, decide_eq_true_eq] at h
 obtain ⟨⟨h1, h2, h3⟩, h4⟩ := h
 have hv := FM hf.voice h1
 rw [Sl.len_l] at h2
 have hp : ∀ x ∈ b.Pieces.l, (0 ≤ x.Week ∧ x.Week < b.Voice.Weeks) ∧ (1 ≤ x.Parts.l.length ∧ x.Parts.l.length ≤ 3) ∧ ∀ y ∈ x.Parts.l, 0 ≤ y.Notes.Low ∧ y.Notes.Low ≤ y.Notes.High ∧ y.Notes.High ≤ 40 ∧ 1 ≤ y.Many ∧ y.Many ≤ 3 := by
  intro x hx
  have := List.all_eq_true.mp h4 x hx
  simp only [YH, AQ, Bool.and_eq_true, decide_eq_true_eq] at this
  obtain ⟨⟨g1, g2⟩, g3⟩ := this
  rw [Sl.len_l] at g2
  have hw := hv.weeks
  rw [TK (by omega) (by omega)] at g1
  refine ⟨by omega, by omega, fun y hy => ?_⟩
  have := List.all_eq_true.mp g3 y hy
  simp only [Xc, AQ, Bool.and_eq_true, decide_eq_true_eq] at this
  omega
 exact ⟨hf, hv, h1, by omega, h3, fun x hx => (hp x hx).1, fun x hx => (hp x hx).2.1, fun x hx => (hp x hx).2.2⟩
def Yf (b : BenchBook) (week : Int) (s : BS) (boy : Int) : Bool := (rng s).all fun n => decide (Hr b.Voice boy week n = 2)
theorem jZ (b : VoiceBook) (boy week note : Int) : Hr b boy week note = 0 ∨ Hr b boy week note = 1 ∨ Hr b boy week note = 2 := by
 unfold Hr
 split
 ·simp
 ·split <;> simp
theorem jS {b : VoiceBook} (hok : vOk b = true) (hfi : HI b = true) {boy week note : Int} (hb : 0 ≤ boy ∧ boy < b.Boys.l.length) (hw : 0 ≤ week ∧ week < b.Weeks) (hn : 0 ≤ note ∧ note ≤ 40) (hf : dU b) : Sj b (isQ b boy week note) = 0 := by
 have hv := FM hf hok
 have h1 := (YP hv boy).mpr hb
 have h2 := (UV hv week).mpr hw
 have h3 : D6 note = true := by simp [D6, Aa, hn]
 simp [Sj, isQ, h1, h2, h3, hok, hfi]
theorem lM {α β : Type} (p : α → Bool) (r : β) (g : Option β → Option Bool) (h0 : g none = some true) (h1 : g (some r) = some false) : ∀ l : List α, g (l.findSome? fun x => if p x then none else some r) = some (l.all p)
 | [] => h0
 | a :: l => by
  have ih := lM p r g h0 h1 l
  by_cases h : p a = true
  ·simp [h, ih]
  ·simp [h, h1]
theorem iI {s : BS} (h : G5 s) : (rng s).length < 4611686018427387904 := by have := ul h; omega
section
variable {b : BenchBook} (hv : GT b) (hfi : HI b.Voice = true) {p k boy : Int} {x : AK} {y : A7} (hx : b.Pieces.ix p = some x) (hy : x.Parts.ix k = some y) (hb : 0 ≤ boy ∧ boy < b.Voice.Boys.l.length)
include hv hfi hx hy hb
theorem pL (m : Mp 2 (Sl Int)) : B9 ⟨b, m⟩ ⟨p, k⟩ boy = some (Yf b x.Week y.Notes boy) := by
 obtain ⟨n1, n2, n3, _, _⟩ := hv.part x (Ji hx).2.2 y (Ji hy).2.2
 have hs : G5 y.Notes := ⟨n1, n2, n3⟩
 have hw := hv.week x (Ji hx).2.2
 have e : Loop (Ba ⟨b, m⟩ boy x y) 0 = some (((rng y.Notes).findSome? fun n => if decide (Hr b.Voice boy x.Week n = 2) then none else some (.inl false : Bool ⊕ Unit)).getD (.inr ())) := by
  refine Loop.find (fun i => i) (rng y.Notes) _ (iI hs) rfl ?_ ?_
  ·intro pre a post h _ hW
   have ha := pw h
   have hm := OO.mp (show a ∈ rng y.Notes by rw [h]; simp)
   have hl : (pre.length : Int) < W (W (y.Notes.High - y.Notes.Low) + 1) := by rw [kz hs]; omega
   have hWa : W (y.Notes.Low + pre.length) = a := by rw [ha]; exact TK (by omega) (by omega)
   simp only [Ba, decide_eq_true hl, if_true, hWa, Yw hv.few.voice, jS hv.vok hfi hb hw (by omega : 0 ≤ a ∧ a ≤ 40) hv.few.voice, Option.bind_some, hW, decide_true]
   rcases jZ b.Voice boy x.Week a with h1 | h1 | h1 <;> simp [h1]
  ·intro _
   have hl : ¬ ((rng y.Notes).length : Int) < W (W (y.Notes.High - y.Notes.Low) + 1) := by rw [kz hs, Lj]; omega
   simp only [Ba, decide_eq_false hl, Bool.false_eq_true, if_false]
 simp only [B9, hx, hy, Option.bind_some, e]
 exact lM (fun n => decide (Hr b.Voice boy x.Week n = 2)) (.inl false : Bool ⊕ Unit) (fun o => match o.getD (.inr ()) with | .inl w10 => some w10 | .inr _ => some true) rfl rfl _
end
end
end Go.Lf
namespace Go.Lf
open Go
noncomputable section
def jg (b : BenchBook) (ex : Int → Bool) (week : Int) (s : BS) : List Int := (idx b.Voice.Boys.l.length).filter fun boy => !ex boy && Yf b week s boy
def BD (b : BenchBook) (ex : Int → Bool) (p k : Int) : List Int := match b.Pieces.ix p with
 | some x => match x.Parts.ix k with
  | some y => jg b ex x.Week y.Notes
  | none => []
 | none => []
abbrev Zy := List (List Int × Sl Int)
def WhI (es : Zy) (F : Int → Int → List Int) : Prop := ∀ p k, (Nb Sl.nil es [p, k]).warm ∧ (Nb Sl.nil es [p, k]).l = F p k
theorem WhI.congr {es : Zy} {F G : Int → Int → List Int} (h : WhI es F) (e : ∀ p k, F p k = G p k) : WhI es G := fun p k => ⟨(h p k).1, (h p k).2.trans (e p k)⟩
def vH (ex : Int → Bool) (a0 : BenchBook) (x7 x16 : Int) : Zy × Int → Option ((Zy × Int) ⊕ Zy)
 | (x22, x23) => if (decide (x23 < a0.Voice.Boys.len)) then Option.bind (if ex x23 then some (true) else Option.bind (B9 (AB.mk a0 (Mp.nil : (Mp 2 (Sl Int)))) (AG.mk x7 x16) x23) fun v30 => some ((!v30)) : Option (Bool)) fun o33 => if o33 then some (.inl (x22, (W (x23 + 1)))) else Option.bind (Sl.app 8 (Nb (Sl.nil : (Sl Int)) x22 (Bc.key (AG.mk x7 x16))) ([x23])) fun v36 => some (.inl ((EW x22 (Bc.key (AG.mk x7 x16)) v36), (W (x23 + 1)))) else some (.inr x22)
def wB (ex : Int → Bool) (a0 : BenchBook) (x7 : Int) (v12 : AK) : Zy × Int → Option ((Zy × Int) ⊕ Zy)
 | (x15, x16) => if (decide (x16 < v12.Parts.len)) then Option.bind (Loop (vH ex a0 x7 x16) (x15, 0)) (fun y24 => some (.inl (y24, (W (x16 + 1))))) else some (.inr x15)
def wx (ex : Int → Bool) (a0 : BenchBook) : Zy × Int → Option ((Zy × Int) ⊕ Zy)
 | (x6, x7) => if (decide (x7 < a0.Pieces.len)) then Option.bind (a0.Pieces.ix x7) fun v12 => Option.bind (Loop (wB ex a0 x7 v12) (x6, 0)) (fun y17 => some (.inl (y17, (W (x7 + 1))))) else some (.inr x6)
def opn (ex : Int → Bool) (a0 : BenchBook) : Option (AB) := Option.bind (Loop (wx ex a0) ((EW ([] : Zy) (Bc.key (AG.mk (-1) (-1))) (Sl.nil : (Sl Int))), 0)) (fun y8 => some ((AB.mk a0 (Mp.mk y8))))
theorem np (b : BenchBook) : FA b = opn (fun _ => false) b := rfl
theorem jj (b : BenchBook) (boy : Int) : Eh b boy = opn (fun i => decide (i = boy)) b := rfl
theorem Js {α : Type} (p : α → Bool) (l : List α) (a : α) : (l ++ [a]).filter p = l.filter p ++ (if p a then [a] else []) := by
 simp only [List.filter_append, List.filter_cons, List.filter_nil]
section
variable {b : BenchBook} (hv : GT b) (hfi : HI b.Voice = true) (ex : Int → Bool)
include hv hfi
theorem uJ {p k : Int} {x : AK} {y : A7} (hx : b.Pieces.ix p = some x) (hy : x.Parts.ix k = some y) {es : Zy} {F : Int → Int → List Int} (h : WhI es F) (h0 : F p k = []) :
  ∃ es', WhI es' (fun p' k' => if p' = p ∧ k' = k then jg b ex x.Week y.Notes else F p' k') ∧ Loop (vH ex b p k) (es, 0) = some es' := by
 have h4 := hv.voice.boys.1
 obtain ⟨r, hr, he⟩ := SE (f := vH ex b p k) (fun es i => (es, i)) (idx b.Voice.Boys.l.length) (fun pre es' => WhI es' (fun p' k' => if p' = p ∧ k' = k then pre.filter (fun boy => !ex boy && Yf b x.Week y.Notes boy) else F p' k'))
  (fun es' => WhI es' (fun p' k' => if p' = p ∧ k' = k then jg b ex x.Week y.Notes else F p' k')) (x0 := (es, 0)) (t0 := es) (by rw [Ao]; omega) rfl (h.congr fun p' k' => by
   by_cases hc : p' = p ∧ k' = k
   ·rw [if_pos hc, hc.1, hc.2, h0]; rfl
   ·rw [if_neg hc]) (by
   intro pre a post es1 hx1 hi hW
   obtain ⟨ha, hlt⟩ := P8 hx1
   have hlt2 : (pre.length : Int) < b.Voice.Boys.len := by rw [Sl.len_l]; exact hlt
   have hcan := pL hv hfi hx hy ⟨Int.natCast_nonneg pre.length, hlt⟩ (Mp.nil : Mp 2 (Sl Int))
   obtain ⟨hw, hl⟩ := hi p k
   dsimp only at hl
   rw [if_pos ⟨rfl, rfl⟩] at hl
   have hle := List.length_filter_le (fun boy => !ex boy && Yf b x.Week y.Notes boy) pre
   have hlen : (Nb Sl.nil es1 [p, k]).l.length + ([(pre.length : Int)] : List Int).length ≤ 1000000000 := by rw [hl]; simp; omega
   have hkey : Bc.key (AG.mk p k) = [p, k] := rfl
   by_cases hc : (!ex a && Yf b x.Week y.Notes a) = true
   ·refine ⟨EW es1 [p, k] (.hot ((Nb Sl.nil es1 [p, k]).l ++ [(pre.length : Int)])), ?_, ?_⟩
    ·intro p' k'
     rw [bu]
     dsimp only
     by_cases hpk : p' = p ∧ k' = k
     ·obtain ⟨rfl, rfl⟩ := hpk
      rw [if_pos rfl, if_pos ⟨rfl, rfl⟩, Js, if_pos hc, ← ha]
      exact ⟨Sl.warm_hot _, by rw [Sl.l_hot, hl]⟩
     ·rw [if_neg (by simp; omega), if_neg hpk]
      have := hi p' k'
      dsimp only at this
      rwa [if_neg hpk] at this
    ·simp only [Bool.and_eq_true, Bool.not_eq_true', ha] at hc
     simp only [vH, decide_eq_true hlt2, if_true, hc.1, Bool.false_eq_true, if_false, hcan, Option.bind_some, hc.2, Bool.not_true, hkey, Sl.app_warm (q := 8) hw (by simp) (Bl hlen (by omega)), hW]
   ·refine ⟨es1, ?_, ?_⟩
    ·refine hi.congr fun p' k' => ?_
     rw [Js, if_neg hc, List.append_nil]
    ·rw [ha] at hc
     simp only [vH, decide_eq_true hlt2, if_true, hcan, hW]
     cases he : ex pre.length with
     | true => simp
     | false =>
      rw [he] at hc
      simp only [Bool.not_false, Bool.true_and] at hc
      simp [hc]) (by
   intro es1 hi
   refine ⟨es1, hi, ?_⟩
   have hlt2 : ¬ ((idx b.Voice.Boys.l.length).length : Int) < b.Voice.Boys.len := by rw [Sl.len_l, Ao]; omega
   simp only [vH, decide_eq_false hlt2, Bool.false_eq_true, if_false])
 exact ⟨r, hr, he⟩
theorem ua {p : Int} {x : AK} (hx : b.Pieces.ix p = some x) {es : Zy} {F : Int → Int → List Int} (h : WhI es F) (h0 : ∀ k, F p k = []) :
  ∃ es', WhI es' (fun p' k' => if p' = p then BD b ex p k' else F p' k') ∧ Loop (wB ex b p x) (es, 0) = some es' := by
 have hp3 := hv.parts x (Ji hx).2.2
 obtain ⟨r, hr, he⟩ := SE (f := wB ex b p x) (fun es i => (es, i)) x.Parts.l (fun pre es' => WhI es' (fun p' k' => if p' = p then (if k' < pre.length then BD b ex p k' else []) else F p' k'))
  (fun es' => WhI es' (fun p' k' => if p' = p then BD b ex p k' else F p' k')) (x0 := (es, 0)) (t0 := es) (by omega) rfl (h.congr fun p' k' => by
   by_cases hc : p' = p
   ·rw [if_pos hc, hc, h0]
    by_cases h1 : k' < (([] : List A7).length : Int)
    ·rw [if_pos h1]
     have : x.Parts.ix k' = none := by unfold Sl.ix; rw [if_neg (by simp at h1; omega)]
     simp [BD, hx, this]
    ·rw [if_neg h1]
   ·rw [if_neg hc]) (by
   intro pre y post es1 hx1 hi hW
   have hy : x.Parts.ix pre.length = some y := Sl.ix_at hx1
   have hlt2 : (pre.length : Int) < x.Parts.len := by rw [Sl.len_l, hx1]; simp; omega
   obtain ⟨es2, h2, he2⟩ := uJ hv hfi ex hx hy hi (by rw [if_pos rfl, if_neg (by omega)])
   refine ⟨es2, h2.congr fun p' k' => ?_, ?_⟩
   ·by_cases hp : p' = p
    ·subst hp
     rw [if_pos rfl, if_pos rfl]
     by_cases hk : k' = pre.length
     ·subst hk
      rw [if_pos ⟨rfl, rfl⟩, if_pos (by rw [List.length_append]; simp; omega)]
      simp [BD, hx, hy]
     ·rw [if_neg (by omega)]
      by_cases hk2 : k' < pre.length
      ·rw [if_pos hk2, if_pos (by rw [List.length_append]; simp; omega)]
      ·rw [if_neg hk2, if_neg (by rw [List.length_append]; simp; omega)]
    ·rw [if_neg (by omega), if_neg hp, if_neg hp]
   ·simp only [wB, decide_eq_true hlt2, if_true, he2, Option.bind_some, hW]) (by
   intro es1 hi
   refine ⟨es1, hi.congr fun p' k' => ?_, ?_⟩
   ·by_cases hp : p' = p
    ·subst hp
     rw [if_pos rfl, if_pos rfl]
     by_cases hk : k' < x.Parts.l.length
     ·rw [if_pos hk]
     ·rw [if_neg hk]
      have : x.Parts.ix k' = none := by
       unfold Sl.ix; split
       ·rw [List.getElem?_eq_none]; omega
       ·rfl
      simp [BD, hx, this]
    ·rw [if_neg hp, if_neg hp]
   ·have hlt2 : ¬ (x.Parts.l.length : Int) < x.Parts.len := by rw [Sl.len_l]; omega
    simp only [wB, decide_eq_false hlt2, Bool.false_eq_true, if_false])
 exact ⟨r, hr, he⟩
theorem tf : ∃ es, WhI es (BD b ex) ∧ opn ex b = some ⟨b, Mp.mk es⟩ := by
 obtain ⟨r, hr, he⟩ := SE (f := wx ex b) (fun es i => (es, i)) b.Pieces.l (fun pre es' => WhI es' (fun p' k' => if p' < pre.length then BD b ex p' k' else []))
  (fun es' => WhI es' (BD b ex)) (x0 := ((EW ([] : Zy) (Bc.key (AG.mk (-1) (-1))) (Sl.nil : (Sl Int))), 0)) (t0 := EW ([] : Zy) (Bc.key (AG.mk (-1) (-1))) (Sl.nil : (Sl Int))) (by have := hv.pieces; omega) rfl (by
   intro p k
   rw [bu, sa]
   dsimp only
   have e : (if [p, k] = Bc.key (AG.mk (-1) (-1)) then (Sl.nil : Sl Int) else Sl.nil) = Sl.nil := by split <;> rfl
   rw [e]
   refine ⟨Sl.warm_nil, ?_⟩
   by_cases h1 : p < (([] : List AK).length : Int)
   ·rw [if_pos h1]
    have : b.Pieces.ix p = none := by unfold Sl.ix; rw [if_neg (by simp at h1; omega)]
    simp [BD, this, Sl.l]
   ·rw [if_neg h1]; rfl) (by
   intro pre x post es1 hx1 hi hW
   have hx : b.Pieces.ix pre.length = some x := Sl.ix_at hx1
   have hlt2 : (pre.length : Int) < b.Pieces.len := by rw [Sl.len_l, hx1]; simp; omega
   obtain ⟨es2, h2, he2⟩ := ua hv hfi ex hx hi (by intro k; rw [if_neg (by omega)])
   refine ⟨es2, h2.congr fun p' k' => ?_, ?_⟩
   ·by_cases hp : p' = pre.length
    ·rw [if_pos hp, if_pos (by rw [List.length_append]; simp; omega), hp]
    ·rw [if_neg hp]
     by_cases hp2 : p' < pre.length
     ·rw [if_pos hp2, if_pos (by rw [List.length_append]; simp; omega)]
     ·rw [if_neg hp2, if_neg (by rw [List.length_append]; simp; omega)]
   ·simp only [wx, decide_eq_true hlt2, if_true, hx, he2, Option.bind_some, hW]) (by
   intro es1 hi
   refine ⟨es1, hi.congr fun p' k' => ?_, ?_⟩
   ·by_cases hp : p' < b.Pieces.l.length
    ·rw [if_pos hp]
    ·rw [if_neg hp]
     have : b.Pieces.ix p' = none := by
      unfold Sl.ix; split
      ·rw [List.getElem?_eq_none]; omega
      ·rfl
     simp [BD, this]
   ·have hlt2 : ¬ (b.Pieces.l.length : Int) < b.Pieces.len := by rw [Sl.len_l]; omega
    simp only [wx, decide_eq_false hlt2, Bool.false_eq_true, if_false])
 exact ⟨r, hr, by simp only [opn, he, Option.bind_some]⟩
end
def BA (b : BenchBook) (q : Bool) : Int := if bOk b then (if q then (if HI b.Voice then 0 else 72) else 71) else 70
theorem FC {b : BenchBook} (hf : pi b) (q : Bool) : ∃ bk, Bm b q = some (bk, BA b q) ∧ (BA b q = 0 → ∃ es, bk = ⟨b, Mp.mk es⟩ ∧ WhI es (BD b fun _ => false)) := by
 simp only [Bm, Y4 hf, Option.bind_some, BA]
 by_cases h : bOk b = true
 case neg => simp [h]
 case pos =>
  by_cases hq : q = true
  case neg => simp [h, hq]
  case pos =>
   have hv := WZ hf h
   simp only [h, hq, if_true, decide_true, P6 hf.voice, hv.vok, Option.bind_some]
   by_cases hfi : HI b.Voice = true
   case neg => simp [hfi]
   case pos =>
    obtain ⟨es, h1, he⟩ := tf hv hfi fun _ => false
    simp only [hfi, if_true, np, he, Option.bind_some]
    exact ⟨_, rfl, fun _ => ⟨es, rfl, h1⟩⟩
theorem HM {b : BenchBook} (hf : pi b) {q : Bool} (h : BA b q = 0) : GT b ∧ q = true ∧ HI b.Voice = true := by
 unfold BA at h
 by_cases h1 : bOk b = true
 ·by_cases h2 : q = true
  ·by_cases h3 : HI b.Voice = true
   ·exact ⟨WZ hf h1, h2, h3⟩
   ·simp [h1, h2, h3] at h
  ·simp [h1, h2] at h
 ·simp [h1] at h
theorem mD {b : BenchBook} {es : Zy} {ex : Int → Bool} (h : WhI es (BD b ex)) (p k : Int) : ((Mp.get (Mp.mk es : Mp 2 (Sl Int)) (Bc.key (AG.mk p k))).getD Sl.nil).l = BD b ex p k := by
 have e : (Mp.get (Mp.mk es : Mp 2 (Sl Int)) (Bc.key (AG.mk p k))).getD Sl.nil = Nb Sl.nil es [p, k] := tV _ _ _
 rw [e]; exact (h p k).2
end
end Go.Lf
