/- A part of the proof. -/
import Derived.Test.YtdjddljglkeefaaDoorx25
set_option linter.all false
namespace Go.Lf
open Go
noncomputable section
def NI (y : Aj) : Bool := AQ y.Notes.Low 0 y.Notes.High && (decide (y.Notes.High ≤ 40) && AQ y.Many 1 3)
def KJ (b : BenchBook) (x : AE) : Bool := (AQ x.Week 0 (W (b.Voice.Weeks - 1)) && AQ x.Parts.len 1 3) && x.Parts.l.all NI
def VG (b : BenchBook) : Bool := vOk b.Voice && (AQ b.Pieces.len 1 3 && AQ b.Most 1 3)
def zO (b : BenchBook) : Bool := VG b && b.Pieces.l.all (KJ b)
structure Tf (b : BenchBook) : Prop where
 voice : tL b.Voice
 pieces : b.Pieces.l.length < 4611686018427387904
 parts : ∀ x ∈ b.Pieces.l, x.Parts.l.length < 4611686018427387904
theorem KX {b : BenchBook} (h : Tf b) : Hn b = some (if zO b then 0 else 70) := by
 have e1 : ∀ (x : AE) (t : Bool), x.Parts.l.length < 4611686018427387904 → Loop (Ey x) (t, 0) = some (t && x.Parts.l.all NI) := by
  intro x t hx
  refine Dw (fun t i => (t, i)) x.Parts.l (fun pre => t && pre.all NI) hx (by simp) ?_ ?_
  ·intro pre a post hx hW
   simp [Ey, Sl.ix_at hx, Sl.len_l, hx, hW, NI, Bool.and_assoc]
   omega
  ·simp [Ey, Sl.len_l]
 have e2 : Loop (Et b) (VG b, 0) = some (zO b) := by
  refine Dw (fun t i => (t, i)) b.Pieces.l (fun pre => VG b && pre.all (KJ b)) h.pieces (by simp) ?_ ?_
  ·intro pre a post hx hW
   have ha := h.parts a (by rw [hx]; simp)
   have hl : (pre.length : Int) < b.Pieces.len := by rw [Sl.len_l, hx]; simp; omega
   simp only [Et, decide_eq_true hl, if_true, Sl.ix_at hx, Option.bind_some, e1 a _ ha, hW, List.all_append, List.all_cons, List.all_nil, KJ]
   congr 3
   simp [Bool.and_assoc]
  ·have hl : ¬ (b.Pieces.l.length : Int) < b.Pieces.len := by rw [Sl.len_l]; omega
   simp only [Et, decide_eq_false hl, Bool.false_eq_true, if_false, zO]
 have e3 : (Option.bind (Ee b.Voice) fun v2 => if (decide (v2 = 0)) then if (AQ b.Pieces.len 1 3) then some ((AQ b.Most 1 3)) else some (false) else some (false) : Option (Bool)) = some (VG b) := by
  rw [ID h.voice, Option.bind_some, VG]
  by_cases h1 : vOk b.Voice = true
  ·by_cases h2 : AQ b.Pieces.len 1 3 = true
   ·simp [h1, h2]
   ·simp [h1, h2]
  ·simp [h1]
 simp only [Hn, e3, e2, Option.bind_some]
 cases zO b <;> rfl
theorem qT (y : Aj) : (JF y.Notes 0 40 40 && AY y.Many 1 3) = NI y := by
 rw [Bool.eq_iff_iff]
 simp only [JF, AY, NI, AQ, Bool.and_eq_true, decide_eq_true_eq]
 constructor
 ·rintro ⟨⟨h1, h2, h3, h4⟩, h5⟩; exact ⟨⟨h1, h2⟩, h3, h5⟩
 ·rintro ⟨⟨h1, h2⟩, h3, h5⟩; exact ⟨⟨h1, h2, h3, by rw [J9 (by omega) (by omega)]; omega⟩, h5⟩
structure C6 (b : BenchBook) : Prop where
 few : Tf b
 voice : fP b.Voice
 vok : vOk b.Voice = true
 pieces : 1 ≤ b.Pieces.l.length ∧ b.Pieces.l.length ≤ 3
 most : 1 ≤ b.Most ∧ b.Most ≤ 3
 week : ∀ x ∈ b.Pieces.l, 0 ≤ x.Week ∧ x.Week < b.Voice.Weeks
 parts : ∀ x ∈ b.Pieces.l, 1 ≤ x.Parts.l.length ∧ x.Parts.l.length ≤ 3
 part : ∀ x ∈ b.Pieces.l, ∀ y ∈ x.Parts.l, 0 ≤ y.Notes.Low ∧ y.Notes.Low ≤ y.Notes.High ∧ y.Notes.High ≤ 40 ∧ 1 ≤ y.Many ∧ y.Many ≤ 3
theorem F7 {b : BenchBook} (hf : Tf b) (h : zO b = true) : C6 b := by
 simp only [zO, VG, AQ, Bool.and_eq_true, decide_eq_true_eq] at h
 obtain ⟨⟨h1, h2, h3⟩, h4⟩ := h
 have hv := MR hf.voice h1
 rw [Sl.len_l] at h2
 have hp : ∀ x ∈ b.Pieces.l, (0 ≤ x.Week ∧ x.Week < b.Voice.Weeks) ∧ (1 ≤ x.Parts.l.length ∧ x.Parts.l.length ≤ 3) ∧ ∀ y ∈ x.Parts.l, 0 ≤ y.Notes.Low ∧ y.Notes.Low ≤ y.Notes.High ∧ y.Notes.High ≤ 40 ∧ 1 ≤ y.Many ∧ y.Many ≤ 3 := by
  intro x hx
  have := List.all_eq_true.mp h4 x hx
  simp only [KJ, AQ, Bool.and_eq_true, decide_eq_true_eq] at this
  obtain ⟨⟨g1, g2⟩, g3⟩ := this
  rw [Sl.len_l] at g2
  have hw := hv.weeks
  rw [J9 (by omega) (by omega)] at g1
  refine ⟨by omega, by omega, fun y hy => ?_⟩
  have := List.all_eq_true.mp g3 y hy
  simp only [NI, AQ, Bool.and_eq_true, decide_eq_true_eq] at this
  omega
 exact ⟨hf, hv, h1, by omega, h3, fun x hx => (hp x hx).1, fun x hx => (hp x hx).2.1, fun x hx => (hp x hx).2.2⟩
def rm (b : BenchBook) (week : Int) (s : Ew) (boy : Int) : Bool := (rng s).all fun n => decide (K7 b.Voice boy week n = 2)
theorem il (b : VoiceBook) (boy week note : Int) : K7 b boy week note = 0 ∨ K7 b boy week note = 1 ∨ K7 b boy week note = 2 := by
 unfold K7
 split
 ·simp
 ·split <;> simp
theorem kJ {b : VoiceBook} (hok : vOk b = true) (hfi : JU b = true) {boy week note : Int} (hb : 0 ≤ boy ∧ boy < b.Boys.l.length) (hw : 0 ≤ week ∧ week < b.Weeks) (hn : 0 ≤ note ∧ note ≤ 40) (hf : tL b) : SN b (zu b boy week note) = 0 := by
 have hv := MR hf hok
 have h1 := (gv hv boy).mpr hb
 have h2 := (Zm hv week).mpr hw
 have h3 : EX note = true := by simp [EX, Ah, hn]
 simp [SN, zu, h1, h2, h3, hok, hfi]
theorem lY {α β : Type} (p : α → Bool) (r : β) (g : Option β → Option Bool) (h0 : g none = some true) (h1 : g (some r) = some false) : ∀ l : List α, g (l.findSome? fun x => if p x then none else some r) = some (l.all p)
 | [] => h0
 | a :: l => by
  have ih := lY p r g h0 h1 l
  by_cases h : p a = true
  ·simp [h, ih]
  ·simp [h, h1]
theorem pI {s : Ew} (h : LK s) : (rng s).length < 4611686018427387904 := by have := u0 h; omega
section
variable {b : BenchBook} (hv : C6 b) (hfi : JU b.Voice = true) {p k boy : Int} {x : AE} {y : Aj} (hx : b.Pieces.ix p = some x) (hy : x.Parts.ix k = some y) (hb : 0 ≤ boy ∧ boy < b.Voice.Boys.l.length)
include hv hfi hx hy hb
theorem rR (m : Mp 2 (Sl Int)) : C3 ⟨b, m⟩ ⟨p, k⟩ boy = some (rm b x.Week y.Notes boy) := by
 obtain ⟨n1, n2, n3, _, _⟩ := hv.part x (CN hx).2.2 y (CN hy).2.2
 have hs : LK y.Notes := ⟨n1, n2, n3⟩
 have hw := hv.week x (CN hx).2.2
 have e : Loop (CO ⟨b, m⟩ boy x y) 0 = some (((rng y.Notes).findSome? fun n => if decide (K7 b.Voice boy x.Week n = 2) then none else some (.inl false : Bool ⊕ Unit)).getD (.inr ())) := by
  refine Loop.find (fun i => i) (rng y.Notes) _ (pI hs) rfl ?_ ?_
  ·intro pre a post h _ hW
   have ha := tn h
   have hm := Ii.mp (show a ∈ rng y.Notes by rw [h]; simp)
   have hl : (pre.length : Int) < W (W (y.Notes.High - y.Notes.Low) + 1) := by rw [my hs]; omega
   have hWa : W (y.Notes.Low + pre.length) = a := by rw [ha]; exact J9 (by omega) (by omega)
   simp only [CO, decide_eq_true hl, if_true, hWa, YR hv.few.voice, kJ hv.vok hfi hb hw (by omega : 0 ≤ a ∧ a ≤ 40) hv.few.voice, Option.bind_some, hW, decide_true]
   rcases il b.Voice boy x.Week a with h1 | h1 | h1 <;> simp [h1]
  ·intro _
   have hl : ¬ ((rng y.Notes).length : Int) < W (W (y.Notes.High - y.Notes.Low) + 1) := by rw [my hs, PG]; omega
   simp only [CO, decide_eq_false hl, Bool.false_eq_true, if_false]
 simp only [C3, hx, hy, Option.bind_some, e]
 exact lY (fun n => decide (K7 b.Voice boy x.Week n = 2)) (.inl false : Bool ⊕ Unit) (fun o => match o.getD (.inr ()) with | .inl w10 => some w10 | .inr _ => some true) rfl rfl _
end
end
end Go.Lf
namespace Go.Lf
open Go
noncomputable section
def d6 (b : BenchBook) (ex : Int → Bool) (week : Int) (s : Ew) : List Int := (idx b.Voice.Boys.l.length).filter fun boy => !ex boy && rm b week s boy
def A2 (b : BenchBook) (ex : Int → Bool) (p k : Int) : List Int := match b.Pieces.ix p with
 | some x => match x.Parts.ix k with
  | some y => d6 b ex x.Week y.Notes
  | none => []
 | none => []
abbrev Zd := List (List Int × Sl Int)
def zc (es : Zd) (F : Int → Int → List Int) : Prop := ∀ p k, (NY Sl.nil es [p, k]).warm ∧ (NY Sl.nil es [p, k]).l = F p k
theorem zc.congr {es : Zd} {F G : Int → Int → List Int} (h : zc es F) (e : ∀ p k, F p k = G p k) : zc es G := fun p k => ⟨(h p k).1, (h p k).2.trans (e p k)⟩
def vk (ex : Int → Bool) (a0 : BenchBook) (x7 x16 : Int) : Zd × Int → Option ((Zd × Int) ⊕ Zd)
 | (x22, x23) => if (decide (x23 < a0.Voice.Boys.len)) then Option.bind (if ex x23 then some (true) else Option.bind (C3 (AC.mk a0 (Mp.nil : (Mp 2 (Sl Int)))) (AL.mk x7 x16) x23) fun v30 => some ((!v30)) : Option (Bool)) fun o33 => if o33 then some (.inl (x22, (W (x23 + 1)))) else Option.bind (Sl.app 8 (NY (Sl.nil : (Sl Int)) x22 (Bm.key (AL.mk x7 x16))) ([x23])) fun v36 => some (.inl ((Ei x22 (Bm.key (AL.mk x7 x16)) v36), (W (x23 + 1)))) else some (.inr x22)
def xH (ex : Int → Bool) (a0 : BenchBook) (x7 : Int) (v12 : AE) : Zd × Int → Option ((Zd × Int) ⊕ Zd)
 | (x15, x16) => if (decide (x16 < v12.Parts.len)) then Option.bind (Loop (vk ex a0 x7 x16) (x15, 0)) (fun y24 => some (.inl (y24, (W (x16 + 1))))) else some (.inr x15)
def xj (ex : Int → Bool) (a0 : BenchBook) : Zd × Int → Option ((Zd × Int) ⊕ Zd)
 | (x6, x7) => if (decide (x7 < a0.Pieces.len)) then Option.bind (a0.Pieces.ix x7) fun v12 => Option.bind (Loop (xH ex a0 x7 v12) (x6, 0)) (fun y17 => some (.inl (y17, (W (x7 + 1))))) else some (.inr x6)
def zZ (ex : Int → Bool) (a0 : BenchBook) : Option (AC) := Option.bind (Loop (xj ex a0) ((Ei ([] : Zd) (Bm.key (AL.mk (-1) (-1))) (Sl.nil : (Sl Int))), 0)) (fun y8 => some ((AC.mk a0 (Mp.mk y8))))
theorem nz (b : BenchBook) : IA b = zZ (fun _ => false) b := rfl
theorem jt (b : BenchBook) (boy : Int) : G7 b boy = zZ (fun i => decide (i = boy)) b := rfl
theorem HY {α : Type} (p : α → Bool) (l : List α) (a : α) : (l ++ [a]).filter p = l.filter p ++ (if p a then [a] else []) := by
 simp only [List.filter_append, List.filter_cons, List.filter_nil]
section
variable {b : BenchBook} (hv : C6 b) (hfi : JU b.Voice = true) (ex : Int → Bool)
include hv hfi
theorem vP {p k : Int} {x : AE} {y : Aj} (hx : b.Pieces.ix p = some x) (hy : x.Parts.ix k = some y) {es : Zd} {F : Int → Int → List Int} (h : zc es F) (h0 : F p k = []) :
  ∃ es', zc es' (fun p' k' => if p' = p ∧ k' = k then d6 b ex x.Week y.Notes else F p' k') ∧ Loop (vk ex b p k) (es, 0) = some es' := by
 have h4 := hv.voice.boys.1
 obtain ⟨r, hr, he⟩ := J0 (f := vk ex b p k) (fun es i => (es, i)) (idx b.Voice.Boys.l.length) (fun pre es' => zc es' (fun p' k' => if p' = p ∧ k' = k then pre.filter (fun boy => !ex boy && rm b x.Week y.Notes boy) else F p' k'))
  (fun es' => zc es' (fun p' k' => if p' = p ∧ k' = k then d6 b ex x.Week y.Notes else F p' k')) (x0 := (es, 0)) (t0 := es) (by rw [AU]; omega) rfl (h.congr fun p' k' => by
   by_cases hc : p' = p ∧ k' = k
   ·rw [if_pos hc, hc.1, hc.2, h0]; rfl
   ·rw [if_neg hc]) (by
   intro pre a post es1 hx1 hi hW
   obtain ⟨ha, hlt⟩ := Jm hx1
   have hlt2 : (pre.length : Int) < b.Voice.Boys.len := by rw [Sl.len_l]; exact hlt
   have hcan := rR hv hfi hx hy ⟨Int.natCast_nonneg pre.length, hlt⟩ (Mp.nil : Mp 2 (Sl Int))
   obtain ⟨hw, hl⟩ := hi p k
   dsimp only at hl
   rw [if_pos ⟨rfl, rfl⟩] at hl
   have hle := List.length_filter_le (fun boy => !ex boy && rm b x.Week y.Notes boy) pre
   have hlen : (NY Sl.nil es1 [p, k]).l.length + ([(pre.length : Int)] : List Int).length ≤ 1000000000 := by rw [hl]; simp; omega
   have hkey : Bm.key (AL.mk p k) = [p, k] := rfl
   by_cases hc : (!ex a && rm b x.Week y.Notes a) = true
   ·refine ⟨Ei es1 [p, k] (.hot ((NY Sl.nil es1 [p, k]).l ++ [(pre.length : Int)])), ?_, ?_⟩
    ·intro p' k'
     rw [b6]
     dsimp only
     by_cases hpk : p' = p ∧ k' = k
     ·obtain ⟨rfl, rfl⟩ := hpk
      rw [if_pos rfl, if_pos ⟨rfl, rfl⟩, HY, if_pos hc, ← ha]
      exact ⟨Sl.warm_hot _, by rw [Sl.l_hot, hl]⟩
     ·rw [if_neg (by simp; omega), if_neg hpk]
      have := hi p' k'
      dsimp only at this
      rwa [if_neg hpk] at this
    ·simp only [Bool.and_eq_true, Bool.not_eq_true', ha] at hc
     simp only [vk, decide_eq_true hlt2, if_true, hc.1, Bool.false_eq_true, if_false, hcan, Option.bind_some, hc.2, Bool.not_true, hkey, Sl.app_warm (q := 8) hw (by simp) (BU hlen (by omega)), hW]
   ·refine ⟨es1, ?_, ?_⟩
    ·refine hi.congr fun p' k' => ?_
     rw [HY, if_neg hc, List.append_nil]
    ·rw [ha] at hc
     simp only [vk, decide_eq_true hlt2, if_true, hcan, hW]
     cases he : ex pre.length with
     | true => simp
     | false =>
      rw [he] at hc
      simp only [Bool.not_false, Bool.true_and] at hc
      simp [hc]) (by
   intro es1 hi
   refine ⟨es1, hi, ?_⟩
   have hlt2 : ¬ ((idx b.Voice.Boys.l.length).length : Int) < b.Voice.Boys.len := by rw [Sl.len_l, AU]; omega
   simp only [vk, decide_eq_false hlt2, Bool.false_eq_true, if_false])
 exact ⟨r, hr, he⟩
theorem ul {p : Int} {x : AE} (hx : b.Pieces.ix p = some x) {es : Zd} {F : Int → Int → List Int} (h : zc es F) (h0 : ∀ k, F p k = []) :
  ∃ es', zc es' (fun p' k' => if p' = p then A2 b ex p k' else F p' k') ∧ Loop (xH ex b p x) (es, 0) = some es' := by
 have hp3 := hv.parts x (CN hx).2.2
 obtain ⟨r, hr, he⟩ := J0 (f := xH ex b p x) (fun es i => (es, i)) x.Parts.l (fun pre es' => zc es' (fun p' k' => if p' = p then (if k' < pre.length then A2 b ex p k' else []) else F p' k'))
  (fun es' => zc es' (fun p' k' => if p' = p then A2 b ex p k' else F p' k')) (x0 := (es, 0)) (t0 := es) (by omega) rfl (h.congr fun p' k' => by
   by_cases hc : p' = p
   ·rw [if_pos hc, hc, h0]
    by_cases h1 : k' < (([] : List Aj).length : Int)
    ·rw [if_pos h1]
     have : x.Parts.ix k' = none := by unfold Sl.ix; rw [if_neg (by simp at h1; omega)]
     simp [A2, hx, this]
    ·rw [if_neg h1]
   ·rw [if_neg hc]) (by
   intro pre y post es1 hx1 hi hW
   have hy : x.Parts.ix pre.length = some y := Sl.ix_at hx1
   have hlt2 : (pre.length : Int) < x.Parts.len := by rw [Sl.len_l, hx1]; simp; omega
   obtain ⟨es2, h2, he2⟩ := vP hv hfi ex hx hy hi (by rw [if_pos rfl, if_neg (by omega)])
   refine ⟨es2, h2.congr fun p' k' => ?_, ?_⟩
   ·by_cases hp : p' = p
    ·subst hp
     rw [if_pos rfl, if_pos rfl]
     by_cases hk : k' = pre.length
     ·subst hk
      rw [if_pos ⟨rfl, rfl⟩, if_pos (by rw [List.length_append]; simp; omega)]
      simp [A2, hx, hy]
     ·rw [if_neg (by omega)]
      by_cases hk2 : k' < pre.length
      ·rw [if_pos hk2, if_pos (by rw [List.length_append]; simp; omega)]
      ·rw [if_neg hk2, if_neg (by rw [List.length_append]; simp; omega)]
    ·rw [if_neg (by omega), if_neg hp, if_neg hp]
   ·simp only [xH, decide_eq_true hlt2, if_true, he2, Option.bind_some, hW]) (by
   intro es1 hi
   refine ⟨es1, hi.congr fun p' k' => ?_, ?_⟩
   ·by_cases hp : p' = p
    ·subst hp
     rw [if_pos rfl, if_pos rfl]
     by_cases hk : k' < x.Parts.l.length
     ·rw [if_pos hk]
     ·rw [if_neg hk]
      have : x.Parts.ix k' = none := by
       unfold Sl.ix; split
       ·rw [List.getElem?_eq_none]; omega
       ·rfl
      simp [A2, hx, this]
    ·rw [if_neg hp, if_neg hp]
   ·have hlt2 : ¬ (x.Parts.l.length : Int) < x.Parts.len := by rw [Sl.len_l]; omega
    simp only [xH, decide_eq_false hlt2, Bool.false_eq_true, if_false])
 exact ⟨r, hr, he⟩
theorem uH : ∃ es, zc es (A2 b ex) ∧ zZ ex b = some ⟨b, Mp.mk es⟩ := by
 obtain ⟨r, hr, he⟩ := J0 (f := xj ex b) (fun es i => (es, i)) b.Pieces.l (fun pre es' => zc es' (fun p' k' => if p' < pre.length then A2 b ex p' k' else []))
  (fun es' => zc es' (A2 b ex)) (x0 := ((Ei ([] : Zd) (Bm.key (AL.mk (-1) (-1))) (Sl.nil : (Sl Int))), 0)) (t0 := Ei ([] : Zd) (Bm.key (AL.mk (-1) (-1))) (Sl.nil : (Sl Int))) (by have := hv.pieces; omega) rfl (by
   intro p k
   rw [b6, tN]
   dsimp only
   have e : (if [p, k] = Bm.key (AL.mk (-1) (-1)) then (Sl.nil : Sl Int) else Sl.nil) = Sl.nil := by split <;> rfl
   rw [e]
   refine ⟨Sl.warm_nil, ?_⟩
   by_cases h1 : p < (([] : List AE).length : Int)
   ·rw [if_pos h1]
    have : b.Pieces.ix p = none := by unfold Sl.ix; rw [if_neg (by simp at h1; omega)]
    simp [A2, this, Sl.l]
   ·rw [if_neg h1]; rfl) (by
   intro pre x post es1 hx1 hi hW
   have hx : b.Pieces.ix pre.length = some x := Sl.ix_at hx1
   have hlt2 : (pre.length : Int) < b.Pieces.len := by rw [Sl.len_l, hx1]; simp; omega
   obtain ⟨es2, h2, he2⟩ := ul hv hfi ex hx hi (by intro k; rw [if_neg (by omega)])
   refine ⟨es2, h2.congr fun p' k' => ?_, ?_⟩
   ·by_cases hp : p' = pre.length
    ·rw [if_pos hp, if_pos (by rw [List.length_append]; simp; omega), hp]
    ·rw [if_neg hp]
     by_cases hp2 : p' < pre.length
     ·rw [if_pos hp2, if_pos (by rw [List.length_append]; simp; omega)]
     ·rw [if_neg hp2, if_neg (by rw [List.length_append]; simp; omega)]
   ·simp only [xj, decide_eq_true hlt2, if_true, hx, he2, Option.bind_some, hW]) (by
   intro es1 hi
   refine ⟨es1, hi.congr fun p' k' => ?_, ?_⟩
   ·by_cases hp : p' < b.Pieces.l.length
    ·rw [if_pos hp]
    ·rw [if_neg hp]
     have : b.Pieces.ix p' = none := by
      unfold Sl.ix; split
      ·rw [List.getElem?_eq_none]; omega
      ·rfl
     simp [A2, this]
   ·have hlt2 : ¬ (b.Pieces.l.length : Int) < b.Pieces.len := by rw [Sl.len_l]; omega
    simp only [xj, decide_eq_false hlt2, Bool.false_eq_true, if_false])
 exact ⟨r, hr, by simp only [zZ, he, Option.bind_some]⟩
end
def Ai (b : BenchBook) (q : Bool) : Int := if zO b then (if q then (if JU b.Voice then 0 else 72) else 71) else 70
theorem DL {b : BenchBook} (hf : Tf b) (q : Bool) : ∃ bk, Bc b q = some (bk, Ai b q) ∧ (Ai b q = 0 → ∃ es, bk = ⟨b, Mp.mk es⟩ ∧ zc es (A2 b fun _ => false)) := by
 simp only [Bc, KX hf, Option.bind_some, Ai]
 by_cases h : zO b = true
 case neg => simp [h]
 case pos =>
  by_cases hq : q = true
  case neg => simp [h, hq]
  case pos =>
   have hv := F7 hf h
   simp only [h, hq, if_true, decide_true, Kv hf.voice, hv.vok, Option.bind_some]
   by_cases hfi : JU b.Voice = true
   case neg => simp [hfi]
   case pos =>
    obtain ⟨es, h1, he⟩ := uH hv hfi fun _ => false
    simp only [hfi, if_true, nz, he, Option.bind_some]
    exact ⟨_, rfl, fun _ => ⟨es, rfl, h1⟩⟩
theorem Ed {b : BenchBook} (hf : Tf b) {q : Bool} (h : Ai b q = 0) : C6 b ∧ q = true ∧ JU b.Voice = true := by
 unfold Ai at h
 by_cases h1 : zO b = true
 ·by_cases h2 : q = true
  ·by_cases h3 : JU b.Voice = true
   ·exact ⟨F7 hf h1, h2, h3⟩
   ·simp [h1, h2, h3] at h
  ·simp [h1, h2] at h
 ·simp [h1] at h
theorem mf {b : BenchBook} {es : Zd} {ex : Int → Bool} (h : zc es (A2 b ex)) (p k : Int) : ((Mp.get (Mp.mk es : Mp 2 (Sl Int)) (Bm.key (AL.mk p k))).getD Sl.nil).l = A2 b ex p k := by
 have e : (Mp.get (Mp.mk es : Mp 2 (Sl Int)) (Bm.key (AL.mk p k))).getD Sl.nil = NY Sl.nil es [p, k] := uQ _ _ _
 rw [e]; exact (h p k).2
end
end Go.Lf
