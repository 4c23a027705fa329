/- A part of the proof. -/
import Derived.Test.YtbkliocalcihjaaDoorx25
set_option linter.all false
namespace Go.Lf
open Go
noncomputable section
def Rj (y : A4) : Bool := AO y.Notes.Low 0 y.Notes.High && (decide (y.Notes.High ≤ 40) && AO y.Many 1 3)
def RG (b : BenchBook) (x : AL) : Bool := (AO x.Week 0 (W (b.Voice.Weeks - 1)) && AO x.Parts.len 1 3) && x.Parts.l.all Rj
def dG (b : BenchBook) : Bool := vOk b.Voice && (AO b.Pieces.len 1 3 && AO b.Most 1 3)
def bOk (b : BenchBook) : Bool := dG b && b.Pieces.l.all (RG b)
structure rG (b : BenchBook) : Prop where
 voice : Wz b.Voice
 pieces : b.Pieces.l.length < 4611686018427387904
 parts : ∀ x ∈ b.Pieces.l, x.Parts.l.length < 4611686018427387904
theorem Nr {b : BenchBook} (h : rG b) : EO b = some (if bOk b then 0 else 70) := by
 have e1 : ∀ (x : AL) (t : Bool), x.Parts.l.length < 4611686018427387904 → Loop (Dn x) (t, 0) = some (t && x.Parts.l.all Rj) := by
  intro x t hx
  refine JC (fun t i => (t, i)) x.Parts.l (fun pre => t && pre.all Rj) hx (by simp) ?_ ?_
  ·intro pre a post hx hW
   simp [Dn, Sl.ix_at hx, Sl.len_l, hx, hW, Rj, Bool.and_assoc]
   omega
  ·simp [Dn, Sl.len_l]
 have e2 : Loop (C2 b) (dG b, 0) = some (bOk b) := by
  refine JC (fun t i => (t, i)) b.Pieces.l (fun pre => dG b && pre.all (RG b)) h.pieces (by simp) ?_ ?_
  ·intro pre a post hx hW
   have ha := h.parts a (by rw [hx]; simp)
   have hl : (pre.length : Int) < b.Pieces.len := by rw [Sl.len_l, hx]; simp; omega
   simp only [C2, decide_eq_true hl, if_true, Sl.ix_at hx, Option.bind_some, e1 a _ ha, hW, List.all_append, List.all_cons, List.all_nil, RG]
   congr 3
   simp [Bool.and_assoc]
  ·have hl : ¬ (b.Pieces.l.length : Int) < b.Pieces.len := by rw [Sl.len_l]; omega
   simp only [C2, decide_eq_false hl, Bool.false_eq_true, if_false, bOk]
 have e3 : (Option.bind (Bo b.Voice) fun v2 => if (decide (v2 = 0)) then if (AO b.Pieces.len 1 3) then some ((AO b.Most 1 3)) else some (false) else some (false) : Option (Bool)) = some (dG b) := by
  rw [Fa h.voice, Option.bind_some, dG]
  by_cases h1 : vOk b.Voice = true
  ·by_cases h2 : AO b.Pieces.len 1 3 = true
   ·simp [h1, h2]
   ·simp [h1, h2]
  ·simp [h1]
 simp only [EO, e3, e2, Option.bind_some]
 cases bOk b <;> rfl
structure jf (b : BenchBook) : Prop where
 few : rG b
 voice : dw b.Voice
 vok : vOk b.Voice = true
 pieces : 1 ≤ b.Pieces.l.length ∧ b.Pieces.l.length ≤ 3
 most : 1 ≤ b.Most ∧ b.Most ≤ 3
 week : ∀ x ∈ b.Pieces.l, 0 ≤ x.Week ∧ x.Week < b.Voice.Weeks
 parts : ∀ x ∈ b.Pieces.l, 1 ≤ x.Parts.l.length ∧ x.Parts.l.length ≤ 3
 part : ∀ x ∈ b.Pieces.l, ∀ y ∈ x.Parts.l, 0 ≤ y.Notes.Low ∧ y.Notes.Low ≤ y.Notes.High ∧ y.Notes.High ≤ 40 ∧ 1 ≤ y.Many ∧ y.Many ≤ 3
theorem fP {b : BenchBook} (hf : rG b) (h : bOk b = true) : jf b := by
 simp only [bOk, dG, AO, Bool.and_eq_true, decide_eq_true_eq] at h
 obtain ⟨⟨h1, h2, h3⟩, h4⟩ := h
 have hv := D1 hf.voice h1
 rw [Sl.len_l] at h2
 have hp : ∀ x ∈ b.Pieces.l, (0 ≤ x.Week ∧ x.Week < b.Voice.Weeks) ∧ (1 ≤ x.Parts.l.length ∧ x.Parts.l.length ≤ 3) ∧ ∀ y ∈ x.Parts.l, 0 ≤ y.Notes.Low ∧ y.Notes.Low ≤ y.Notes.High ∧ y.Notes.High ≤ 40 ∧ 1 ≤ y.Many ∧ y.Many ≤ 3 := by
  intro x hx
  have := List.all_eq_true.mp h4 x hx
  simp only [RG, AO, Bool.and_eq_true, decide_eq_true_eq] at this
  obtain ⟨⟨g1, g2⟩, g3⟩ := this
  rw [Sl.len_l] at g2
  have hw := hv.weeks
  rw [LY (by omega) (by omega)] at g1
  refine ⟨by omega, by omega, fun y hy => ?_⟩
  have := List.all_eq_true.mp g3 y hy
  simp only [Rj, AO, Bool.and_eq_true, decide_eq_true_eq] at this
  omega
 exact ⟨hf, hv, h1, by omega, h3, fun x hx => (hp x hx).1, fun x hx => (hp x hx).2.1, fun x hx => (hp x hx).2.2⟩
def nb (b : BenchBook) (week : Int) (s : BJ) (boy : Int) : Bool := (rng s).all fun n => decide (Gz b.Voice boy week n = 2)
theorem iP (b : VoiceBook) (boy week note : Int) : Gz b boy week note = 0 ∨ Gz b boy week note = 1 ∨ Gz b boy week note = 2 := by
 unfold Gz
 split
 ·simp
 ·split <;> simp
theorem ig {b : VoiceBook} (hok : vOk b = true) (hfi : FZ b = true) {boy week note : Int} (hb : 0 ≤ boy ∧ boy < b.Boys.l.length) (hw : 0 ≤ week ∧ week < b.Weeks) (hn : 0 ≤ note ∧ note ≤ 40) (hf : Wz b) : IO b (isQ b boy week note) = 0 := by
 have hv := D1 hf hok
 have h1 := (UK hv boy).mpr hb
 have h2 := (RO hv week).mpr hw
 have h3 : BP note = true := by simp [BP, Ab, hn]
 simp [IO, isQ, h1, h2, h3, hok, hfi]
theorem TW {α β : Type} (p : α → Bool) (r : β) (g : Option β → Option Bool) (h0 : g none = some true) (h1 : g (some r) = some false) : ∀ l : List α, g (l.findSome? fun x => if p x then none else some r) = some (l.all p)
 | [] => h0
 | a :: l => by
  have ih := TW p r g h0 h1 l
  by_cases h : p a = true
  ·simp [h, ih]
  ·simp [h, h1]
theorem nU {s : BJ} (h : La s) : (rng s).length < 4611686018427387904 := by have := uj h; omega
section
variable {b : BenchBook} (hv : jf b) (hfi : FZ b.Voice = true) {p k boy : Int} {x : AL} {y : A4} (hx : b.Pieces.ix p = some x) (hy : x.Parts.ix k = some y) (hb : 0 ≤ boy ∧ boy < b.Voice.Boys.l.length)
include hv hfi hx hy hb
theorem nB (m : Mp 2 (Sl Int)) : B2 ⟨b, m⟩ ⟨p, k⟩ boy = some (nb b x.Week y.Notes boy) := by
 obtain ⟨n1, n2, n3, _, _⟩ := hv.part x (ME hx).2.2 y (ME hy).2.2
 have hs : La y.Notes := ⟨n1, n2, n3⟩
 have hw := hv.week x (ME hx).2.2
 have e : Loop (BM ⟨b, m⟩ boy x y) 0 = some (((rng y.Notes).findSome? fun n => if decide (Gz b.Voice boy x.Week n = 2) then none else some (.inl false : Bool ⊕ Unit)).getD (.inr ())) := by
  refine Loop.find (fun i => i) (rng y.Notes) _ (nU hs) rfl ?_ ?_
  ·intro pre a post h _ hW
   have ha := jp h
   have hm := IC.mp (show a ∈ rng y.Notes by rw [h]; simp)
   have hl : (pre.length : Int) < W (W (y.Notes.High - y.Notes.Low) + 1) := by rw [kJ hs]; omega
   have hWa : W (y.Notes.Low + pre.length) = a := by rw [ha]; exact LY (by omega) (by omega)
   simp only [BM, decide_eq_true hl, if_true, hWa, Ni hv.few.voice, ig hv.vok hfi hb hw (by omega : 0 ≤ a ∧ a ≤ 40) hv.few.voice, Option.bind_some, hW, decide_true]
   rcases iP b.Voice boy x.Week a with h1 | h1 | h1 <;> simp [h1]
  ·intro _
   have hl : ¬ ((rng y.Notes).length : Int) < W (W (y.Notes.High - y.Notes.Low) + 1) := by rw [kJ hs, FR]; omega
   simp only [BM, decide_eq_false hl, Bool.false_eq_true, if_false]
 simp only [B2, hx, hy, Option.bind_some, e]
 exact TW (fun n => decide (Gz b.Voice boy x.Week n = 2)) (.inl false : Bool ⊕ Unit) (fun o => match o.getD (.inr ()) with | .inl w10 => some w10 | .inr _ => some true) rfl rfl _
end
end
end Go.Lf
namespace Go.Lf
open Go
noncomputable section
def qK (b : BenchBook) (ex : Int → Bool) (week : Int) (s : BJ) : List Int := (idx b.Voice.Boys.l.length).filter fun boy => !ex boy && nb b week s boy
def IL (b : BenchBook) (ex : Int → Bool) (p k : Int) : List Int := match b.Pieces.ix p with
 | some x => match x.Parts.ix k with
  | some y => qK b ex x.Week y.Notes
  | none => []
 | none => []
abbrev di := List (List Int × Sl Int)
def zh (es : di) (F : Int → Int → List Int) : Prop := ∀ p k, (NW Sl.nil es [p, k]).warm ∧ (NW Sl.nil es [p, k]).l = F p k
theorem zh.congr {es : di} {F G : Int → Int → List Int} (h : zh es F) (e : ∀ p k, F p k = G p k) : zh es G := fun p k => ⟨(h p k).1, (h p k).2.trans (e p k)⟩
def u6 (ex : Int → Bool) (a0 : BenchBook) (x7 x16 : Int) : di × Int → Option ((di × Int) ⊕ di)
 | (x22, x23) => if (decide (x23 < a0.Voice.Boys.len)) then Option.bind (if ex x23 then some (true) else Option.bind (B2 (AB.mk a0 (Mp.nil : (Mp 2 (Sl Int)))) (AQ.mk x7 x16) x23) fun v30 => some ((!v30)) : Option (Bool)) fun o33 => if o33 then some (.inl (x22, (W (x23 + 1)))) else Option.bind (Sl.app 8 (NW (Sl.nil : (Sl Int)) x22 (Bj.key (AQ.mk x7 x16))) ([x23])) fun v36 => some (.inl ((EX x22 (Bj.key (AQ.mk x7 x16)) v36), (W (x23 + 1)))) else some (.inr x22)
def xH (ex : Int → Bool) (a0 : BenchBook) (x7 : Int) (v12 : AL) : di × Int → Option ((di × Int) ⊕ di)
 | (x15, x16) => if (decide (x16 < v12.Parts.len)) then Option.bind (Loop (u6 ex a0 x7 x16) (x15, 0)) (fun y24 => some (.inl (y24, (W (x16 + 1))))) else some (.inr x15)
def xn (ex : Int → Bool) (a0 : BenchBook) : di × Int → Option ((di × Int) ⊕ di)
 | (x6, x7) => if (decide (x7 < a0.Pieces.len)) then Option.bind (a0.Pieces.ix x7) fun v12 => Option.bind (Loop (xH ex a0 x7 v12) (x6, 0)) (fun y17 => some (.inl (y17, (W (x7 + 1))))) else some (.inr x6)
def opn (ex : Int → Bool) (a0 : BenchBook) : Option (AB) := Option.bind (Loop (xn ex a0) ((EX ([] : di) (Bj.key (AQ.mk (-1) (-1))) (Sl.nil : (Sl Int))), 0)) (fun y8 => some ((AB.mk a0 (Mp.mk y8))))
theorem lb (b : BenchBook) : Eg b = opn (fun _ => false) b := rfl
theorem UM {α : Type} (p : α → Bool) (l : List α) (a : α) : (l ++ [a]).filter p = l.filter p ++ (if p a then [a] else []) := by
 simp only [List.filter_append, List.filter_cons, List.filter_nil]
section
variable {b : BenchBook} (hv : jf b) (hfi : FZ b.Voice = true) (ex : Int → Bool)
include hv hfi
theorem tM {p k : Int} {x : AL} {y : A4} (hx : b.Pieces.ix p = some x) (hy : x.Parts.ix k = some y) {es : di} {F : Int → Int → List Int} (h : zh es F) (h0 : F p k = []) :
  ∃ es', zh es' (fun p' k' => if p' = p ∧ k' = k then qK b ex x.Week y.Notes else F p' k') ∧ Loop (u6 ex b p k) (es, 0) = some es' := by
 have h4 := hv.voice.boys.1
 obtain ⟨r, hr, he⟩ := K9 (f := u6 ex b p k) (fun es i => (es, i)) (idx b.Voice.Boys.l.length) (fun pre es' => zh es' (fun p' k' => if p' = p ∧ k' = k then pre.filter (fun boy => !ex boy && nb b x.Week y.Notes boy) else F p' k'))
  (fun es' => zh es' (fun p' k' => if p' = p ∧ k' = k then qK b ex x.Week y.Notes else F p' k')) (x0 := (es, 0)) (t0 := es) (by rw [FO]; omega) rfl (h.congr fun p' k' => by
   by_cases hc : p' = p ∧ k' = k
   ·rw [if_pos hc, hc.1, hc.2, h0]; rfl
   ·rw [if_neg hc]) (by
   intro pre a post es1 hx1 hi hW
   obtain ⟨ha, hlt⟩ := pS hx1
   have hlt2 : (pre.length : Int) < b.Voice.Boys.len := by rw [Sl.len_l]; exact hlt
   have hcan := nB hv hfi hx hy ⟨Int.natCast_nonneg pre.length, hlt⟩ (Mp.nil : Mp 2 (Sl Int))
   obtain ⟨hw, hl⟩ := hi p k
   dsimp only at hl
   rw [if_pos ⟨rfl, rfl⟩] at hl
   have hle := List.length_filter_le (fun boy => !ex boy && nb b x.Week y.Notes boy) pre
   have hlen : (NW Sl.nil es1 [p, k]).l.length + ([(pre.length : Int)] : List Int).length ≤ 1000000000 := by rw [hl]; simp; omega
   have hkey : Bj.key (AQ.mk p k) = [p, k] := rfl
   by_cases hc : (!ex a && nb b x.Week y.Notes a) = true
   ·refine ⟨EX es1 [p, k] (.hot ((NW Sl.nil es1 [p, k]).l ++ [(pre.length : Int)])), ?_, ?_⟩
    ·intro p' k'
     rw [cY]
     dsimp only
     by_cases hpk : p' = p ∧ k' = k
     ·obtain ⟨rfl, rfl⟩ := hpk
      rw [if_pos rfl, if_pos ⟨rfl, rfl⟩, UM, if_pos hc, ← ha]
      exact ⟨Sl.warm_hot _, by rw [Sl.l_hot, hl]⟩
     ·rw [if_neg (by simp; omega), if_neg hpk]
      have := hi p' k'
      dsimp only at this
      rwa [if_neg hpk] at this
    ·simp only [Bool.and_eq_true, Bool.not_eq_true', ha] at hc
     simp only [u6, decide_eq_true hlt2, if_true, hc.1, Bool.false_eq_true, if_false, hcan, Option.bind_some, hc.2, Bool.not_true, hkey, Sl.app_warm (q := 8) hw (by simp) (HK hlen (by omega)), hW]
   ·refine ⟨es1, ?_, ?_⟩
    ·refine hi.congr fun p' k' => ?_
     rw [UM, if_neg hc, List.append_nil]
    ·rw [ha] at hc
     simp only [u6, decide_eq_true hlt2, if_true, hcan, hW]
     cases he : ex pre.length with
     | true => simp
     | false =>
      rw [he] at hc
      simp only [Bool.not_false, Bool.true_and] at hc
      simp [hc]) (by
   intro es1 hi
   refine ⟨es1, hi, ?_⟩
   have hlt2 : ¬ ((idx b.Voice.Boys.l.length).length : Int) < b.Voice.Boys.len := by rw [Sl.len_l, FO]; omega
   simp only [u6, decide_eq_false hlt2, Bool.false_eq_true, if_false])
 exact ⟨r, hr, he⟩
theorem tR {p : Int} {x : AL} (hx : b.Pieces.ix p = some x) {es : di} {F : Int → Int → List Int} (h : zh es F) (h0 : ∀ k, F p k = []) :
  ∃ es', zh es' (fun p' k' => if p' = p then IL b ex p k' else F p' k') ∧ Loop (xH ex b p x) (es, 0) = some es' := by
 have hp3 := hv.parts x (ME hx).2.2
 obtain ⟨r, hr, he⟩ := K9 (f := xH ex b p x) (fun es i => (es, i)) x.Parts.l (fun pre es' => zh es' (fun p' k' => if p' = p then (if k' < pre.length then IL b ex p k' else []) else F p' k'))
  (fun es' => zh es' (fun p' k' => if p' = p then IL b ex p k' else F p' k')) (x0 := (es, 0)) (t0 := es) (by omega) rfl (h.congr fun p' k' => by
   by_cases hc : p' = p
   ·rw [if_pos hc, hc, h0]
    by_cases h1 : k' < (([] : List A4).length : Int)
    ·rw [if_pos h1]
     have : x.Parts.ix k' = none := by unfold Sl.ix; rw [if_neg (by simp at h1; omega)]
     simp [IL, hx, this]
    ·rw [if_neg h1]
   ·rw [if_neg hc]) (by
   intro pre y post es1 hx1 hi hW
   have hy : x.Parts.ix pre.length = some y := Sl.ix_at hx1
   have hlt2 : (pre.length : Int) < x.Parts.len := by rw [Sl.len_l, hx1]; simp; omega
   obtain ⟨es2, h2, he2⟩ := tM hv hfi ex hx hy hi (by rw [if_pos rfl, if_neg (by omega)])
   refine ⟨es2, h2.congr fun p' k' => ?_, ?_⟩
   ·by_cases hp : p' = p
    ·subst hp
     rw [if_pos rfl, if_pos rfl]
     by_cases hk : k' = pre.length
     ·subst hk
      rw [if_pos ⟨rfl, rfl⟩, if_pos (by rw [List.length_append]; simp; omega)]
      simp [IL, hx, hy]
     ·rw [if_neg (by omega)]
      by_cases hk2 : k' < pre.length
      ·rw [if_pos hk2, if_pos (by rw [List.length_append]; simp; omega)]
      ·rw [if_neg hk2, if_neg (by rw [List.length_append]; simp; omega)]
    ·rw [if_neg (by omega), if_neg hp, if_neg hp]
   ·simp only [xH, decide_eq_true hlt2, if_true, he2, Option.bind_some, hW]) (by
   intro es1 hi
   refine ⟨es1, hi.congr fun p' k' => ?_, ?_⟩
   ·by_cases hp : p' = p
    ·subst hp
     rw [if_pos rfl, if_pos rfl]
     by_cases hk : k' < x.Parts.l.length
     ·rw [if_pos hk]
     ·rw [if_neg hk]
      have : x.Parts.ix k' = none := by
       unfold Sl.ix; split
       ·rw [List.getElem?_eq_none]; omega
       ·rfl
      simp [IL, hx, this]
    ·rw [if_neg hp, if_neg hp]
   ·have hlt2 : ¬ (x.Parts.l.length : Int) < x.Parts.len := by rw [Sl.len_l]; omega
    simp only [xH, decide_eq_false hlt2, Bool.false_eq_true, if_false])
 exact ⟨r, hr, he⟩
theorem we : ∃ es, zh es (IL b ex) ∧ opn ex b = some ⟨b, Mp.mk es⟩ := by
 obtain ⟨r, hr, he⟩ := K9 (f := xn ex b) (fun es i => (es, i)) b.Pieces.l (fun pre es' => zh es' (fun p' k' => if p' < pre.length then IL b ex p' k' else []))
  (fun es' => zh es' (IL b ex)) (x0 := ((EX ([] : di) (Bj.key (AQ.mk (-1) (-1))) (Sl.nil : (Sl Int))), 0)) (t0 := EX ([] : di) (Bj.key (AQ.mk (-1) (-1))) (Sl.nil : (Sl Int))) (by have := hv.pieces; omega) rfl (by
   intro p k
   rw [cY, qN]
   dsimp only
   have e : (if [p, k] = Bj.key (AQ.mk (-1) (-1)) then (Sl.nil : Sl Int) else Sl.nil) = Sl.nil := by split <;> rfl
   rw [e]
   refine ⟨Sl.warm_nil, ?_⟩
   by_cases h1 : p < (([] : List AL).length : Int)
   ·rw [if_pos h1]
    have : b.Pieces.ix p = none := by unfold Sl.ix; rw [if_neg (by simp at h1; omega)]
    simp [IL, this, Sl.l]
   ·rw [if_neg h1]; rfl) (by
   intro pre x post es1 hx1 hi hW
   have hx : b.Pieces.ix pre.length = some x := Sl.ix_at hx1
   have hlt2 : (pre.length : Int) < b.Pieces.len := by rw [Sl.len_l, hx1]; simp; omega
   obtain ⟨es2, h2, he2⟩ := tR hv hfi ex hx hi (by intro k; rw [if_neg (by omega)])
   refine ⟨es2, h2.congr fun p' k' => ?_, ?_⟩
   ·by_cases hp : p' = pre.length
    ·rw [if_pos hp, if_pos (by rw [List.length_append]; simp; omega), hp]
    ·rw [if_neg hp]
     by_cases hp2 : p' < pre.length
     ·rw [if_pos hp2, if_pos (by rw [List.length_append]; simp; omega)]
     ·rw [if_neg hp2, if_neg (by rw [List.length_append]; simp; omega)]
   ·simp only [xn, decide_eq_true hlt2, if_true, hx, he2, Option.bind_some, hW]) (by
   intro es1 hi
   refine ⟨es1, hi.congr fun p' k' => ?_, ?_⟩
   ·by_cases hp : p' < b.Pieces.l.length
    ·rw [if_pos hp]
    ·rw [if_neg hp]
     have : b.Pieces.ix p' = none := by
      unfold Sl.ix; split
      ·rw [List.getElem?_eq_none]; omega
      ·rfl
     simp [IL, this]
   ·have hlt2 : ¬ (b.Pieces.l.length : Int) < b.Pieces.len := by rw [Sl.len_l]; omega
    simp only [xn, decide_eq_false hlt2, Bool.false_eq_true, if_false])
 exact ⟨r, hr, by simp only [opn, he, Option.bind_some]⟩
end
def HS (b : BenchBook) (q : Bool) : Int := if bOk b then (if q then (if FZ b.Voice then 0 else 72) else 71) else 70
theorem Xc {b : BenchBook} (hf : rG b) (q : Bool) : ∃ bk, DD b q = some (bk, HS b q) ∧ (HS b q = 0 → ∃ es, bk = ⟨b, Mp.mk es⟩ ∧ zh es (IL b fun _ => false)) := by
 simp only [DD, Nr hf, Option.bind_some, HS]
 by_cases h : bOk b = true
 case neg => simp [h]
 case pos =>
  by_cases hq : q = true
  case neg => simp [h, hq]
  case pos =>
   have hv := fP hf h
   simp only [h, hq, if_true, decide_true, Ha hf.voice, hv.vok, Option.bind_some]
   by_cases hfi : FZ b.Voice = true
   case neg => simp [hfi]
   case pos =>
    obtain ⟨es, h1, he⟩ := we hv hfi fun _ => false
    simp only [hfi, if_true, lb, he, Option.bind_some]
    exact ⟨_, rfl, fun _ => ⟨es, rfl, h1⟩⟩
theorem rU {b : BenchBook} (hf : rG b) {q : Bool} (h : HS b q = 0) : jf b ∧ q = true ∧ FZ b.Voice = true := by
 unfold HS at h
 by_cases h1 : bOk b = true
 ·by_cases h2 : q = true
  ·by_cases h3 : FZ b.Voice = true
   ·exact ⟨fP hf h1, h2, h3⟩
   ·simp [h1, h2, h3] at h
  ·simp [h1, h2] at h
 ·simp [h1] at h
theorem qC {b : BenchBook} {es : di} {ex : Int → Bool} (h : zh es (IL b ex)) (p k : Int) : ((Mp.get (Mp.mk es : Mp 2 (Sl Int)) (Bj.key (AQ.mk p k))).getD Sl.nil).l = IL b ex p k := by
 have e : (Mp.get (Mp.mk es : Mp 2 (Sl Int)) (Bj.key (AQ.mk p k))).getD Sl.nil = NW Sl.nil es [p, k] := sX _ _ _
 rw [e]; exact (h p k).2
end
end Go.Lf
