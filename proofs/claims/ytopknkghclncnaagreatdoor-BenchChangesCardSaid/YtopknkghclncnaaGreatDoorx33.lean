/- A part of the proof. -/
import Derived.Test.YtopknkghclncnaaGreatDoorx32
set_option linter.all false
namespace Go.Lf
open Go
noncomputable section
def Fe (b : VoiceBook) (boy : Int) : List T5 := match b.Boys.ix boy with
 | some x => tl b boy x
 | none => []
def I9 (b : VoiceBook) (boy : Int) : Int := match b.Boys.ix boy with
 | some x => x.Loss
 | none => 0
abbrev xh := List (List Int × Sl (Ar 5 Int))
def Wh (es : xh) (F : Int → Int → List T5) : Prop := ∀ i w, (OJ Sl.nil es [i, w]).warm ∧ (OJ Sl.nil es [i, w]).l = (F i w).map T5.ar
structure ZC (b : VoiceBook) : Prop where
 few : qu b
 boys : b.Boys.l.length ≤ 4 ∧ 1 ≤ b.Boys.l.length
 weeks : 1 ≤ b.Weeks ∧ b.Weeks ≤ 6
 trials : b.Trials.l.length ≤ 6
 boy : ∀ x ∈ b.Boys.l, qe x
theorem Ip {b : VoiceBook} (hf : qu b) (h : vOk b = true) : ZC b := by
 simp only [vOk, Ui, Ak, Bool.and_eq_true, decide_eq_true_eq] at h
 obtain ⟨⟨h1, h2, h3⟩, h4, h5⟩ := h
 have e1 := Sl.len_l b.Boys
 have e2 := Sl.len_l b.Trials
 exact ⟨hf, by omega, h2, by omega, fun x hx => tA (List.all_eq_true.mp h4 x hx)⟩
theorem E6 {α : Type} {x : Sl α} {i : Int} {a : α} (h : x.ix i = some a) : 0 ≤ i ∧ i < x.l.length ∧ a ∈ x.l := by
 unfold Sl.ix at h
 split at h
 ·obtain ⟨h1, h2⟩ := List.getElem?_eq_some_iff.mp h
  exact ⟨by assumption, by omega, by rw [← h2]; exact List.getElem_mem _⟩
 ·cases h
theorem MF {α : Type} {x : Sl α} {i : Int} (h0 : 0 ≤ i) (h : i < x.l.length) : ∃ a, x.ix i = some a ∧ a ∈ x.l := by
 have hl : i.toNat < x.l.length := by omega
 exact ⟨x.l[i.toNat], by simp [Sl.ix, h0, hl], List.getElem_mem _⟩
theorem Ti {b : VoiceBook} (hv : ZC b) (boy : Int) : (Fe b boy).length ≤ 2000000 := by
 unfold Fe
 split
 ·rename_i x hx
  exact wl b boy (hv.boy x (E6 hx).2.2)
 ·simp
theorem t7 {boy : Int} (hb : 0 ≤ boy) {t : T5} {n : Int} (hn : n ≤ 6) {es : xh} {F : Int → Int → List T5} (h : Wh es F) (hfew : ∀ i w, (F i w).length ≤ 900000000) :
  ∃ es', Wh es' (fun i w => if i = boy ∧ 0 ≤ w ∧ w < n then F i w ++ [t] else F i w) ∧ Loop (Dq boy t.ar n) (es, 0) = some es' := by
 have key : ∀ (es : xh) (w : Int), Dq boy t.ar n (es, w) = if w < n then Option.bind (Sl.app 40 (OJ Sl.nil es [boy, w]) [t.ar]) fun v => some (.inl (FC es [boy, w] v, W (w + 1))) else some (.inr es) := by
  intro es w
  have hk : decide (Bq.key (Ae.mk boy w) = Bq.key (Ae.mk (-1) (-1))) = false := by
   rw [decide_eq_false_iff_not]
   intro e
   have : ([boy, w] : List Int) = [-1, -1] := e
   simp at this; omega
  simp only [Dq, hk, Bool.false_eq_true, if_false, decide_eq_true_eq]
  rfl
 obtain ⟨r, hr, he⟩ := Iy (f := Dq boy t.ar n) (fun es i => (es, i)) (idx n.toNat) (fun pre es' => Wh es' (fun i w => if i = boy ∧ 0 ≤ w ∧ w < pre.length then F i w ++ [t] else F i w)) (fun es' => Wh es' (fun i w => if i = boy ∧ 0 ≤ w ∧ w < n then F i w ++ [t] else F i w)) (x0 := (es, 0)) (t0 := es) (by rw [AQ]; omega) rfl (by
   intro i w
   have := h i w
   dsimp only
   simp only [List.length_nil]
   rw [if_neg (by omega)]
   exact this) (by
   intro pre a post es1 hx hi hW
   obtain ⟨ha, hlt⟩ := IG hx
   obtain ⟨hw, hl⟩ := hi boy pre.length
   dsimp only at hl
   rw [if_neg (by omega)] at hl
   have hlen : (OJ Sl.nil es1 [boy, (pre.length : Int)]).l.length + ([t.ar] : List (Ar 5 Int)).length ≤ 1000000000 := by
    rw [hl]; simp; have := hfew boy pre.length; omega
   refine ⟨FC es1 [boy, (pre.length : Int)] (.hot ((F boy pre.length ++ [t]).map T5.ar)), ?_, ?_⟩
   ·intro i w
    rw [ei]
    by_cases hiw : i = boy ∧ w = pre.length
    ·obtain ⟨rfl, rfl⟩ := hiw
     dsimp only
     rw [if_pos rfl, if_pos ⟨rfl, by omega, by rw [List.length_append]; simp; omega⟩]
     exact ⟨Sl.warm_hot _, rfl⟩
    ·rw [if_neg (by simp; omega)]
     have := hi i w
     dsimp only at this ⊢
     by_cases h2 : i = boy ∧ 0 ≤ w ∧ w < pre.length
     ·rw [if_pos h2] at this; rw [if_pos (by simp; omega)]; exact this
     ·rw [if_neg h2] at this; rw [if_neg (by simp; omega)]; exact this
   ·rw [key, if_pos (by omega), Sl.app_warm hw (by simp) (A8 hlen (by omega)), Option.bind_some, hW, hl]
    simp) (by
   intro es1 hi
   refine ⟨es1, ?_, ?_⟩
   ·intro i w
    have := hi i w
    dsimp only at this ⊢
    rw [AQ] at this
    by_cases h2 : i = boy ∧ 0 ≤ w ∧ w < n
    ·rw [if_pos (by omega)] at this; rw [if_pos h2]; exact this
    ·rw [if_neg (by omega)] at this; rw [if_neg h2]; exact this
   ·rw [key, AQ, if_neg (by omega)])
 exact ⟨r, hr, he⟩
theorem cL {b : VoiceBook} (hw : 1 ≤ b.Weeks ∧ b.Weeks ≤ 6) {boy : Int} (hb : 0 ≤ boy) : ∀ (l : List T5) (acc : List T5) (es : xh) (F : Int → Int → List T5), Wh es F → (∀ i w, (F i w).length + l.length ≤ 900000000) → acc.length + l.length ≤ 900000000 →
  ∃ es', Wh es' (fun i w => if i = boy ∧ 0 ≤ w ∧ w < b.Weeks then F i w ++ l.filter (fun t => decide (w < t.br)) else F i w) ∧
   Tq (onL (F8 b boy)) (l.map T5.ar) (.inl (Sl.grow (acc.map T5.ar), es)) = some (true, .inl (Sl.grow ((acc ++ l).map T5.ar), es'))
 | [], acc, es, F, h, _, _ => by
  refine ⟨es, ?_, by simp [Tq]⟩
  intro i w
  have := h i w
  simpa using this
 | t :: l, acc, es, F, h, hf, hacc => by
  have hmin : min b.Weeks t.br ≤ 6 := by omega
  obtain ⟨es1, h1, he⟩ := t7 (t := t) hb hmin h (fun i w => by have := hf i w; omega)
  have happ : Sl.app 40 (Sl.grow (acc.map T5.ar)) [t.ar] = some (Sl.grow ((acc ++ [t]).map T5.ar)) := by
   rw [Sl.app_grow (by simp) (A8 (by simp at hacc ⊢; omega) (by omega))]; simp
  obtain ⟨es', h2, h3⟩ := cL hw hb l (acc ++ [t]) es1 _ h1 (by
   intro i w
   have := hf i w
   simp only [List.length_cons] at this
   split
   ·simp; omega
   ·omega) (by simp at hacc ⊢; omega)
  refine ⟨es', ?_, ?_⟩
  ·intro i w
   obtain ⟨g1, g2⟩ := h2 i w
   refine ⟨g1, g2.trans ?_⟩
   congr 1
   dsimp only
   by_cases hc : i = boy ∧ 0 ≤ w ∧ w < b.Weeks
   ·rw [if_pos hc, if_pos hc]
    simp only [List.filter_cons]
    by_cases hbr : w < t.br
    ·rw [if_pos ⟨hc.1, hc.2.1, by omega⟩, if_pos (by simpa using hbr)]; simp
    ·rw [if_neg (by omega), if_neg (by simpa using hbr)]
   ·rw [if_neg hc, if_neg hc, if_neg (by omega)]
  ·have h4 : t.ar.ix 4 = some t.br := rfl
   simp only [List.map_cons, Tq, onL, F8, happ, Option.bind_some, h4, tr, he]
   simpa using h3
theorem kp {b : VoiceBook} (hv : ZC b) : ∃ es, Wh es (fun i w => if 0 ≤ w ∧ w < b.Weeks then (Fe b i).filter (fun t => decide (w < t.br)) else []) ∧
  HT b (Sl.nil : Sl Int) = some ⟨b, Sl.grow ((idx b.Boys.l.length).map fun i => Sl.grow ((Fe b i).map T5.ar)), Mp.mk es⟩ := by
 have hlen := hv.boys.1
 obtain ⟨r, ⟨es, hr, rfl⟩, he⟩ := Iy (f := Eh b (Sl.nil : Sl Int)) (fun (t : AB × xh) i => (t.1, t.2, i)) b.Boys.l
  (fun pre t => t.1 = ⟨b, Sl.grow ((idx pre.length).map fun i => Sl.grow ((Fe b i).map T5.ar)), Mp.nil⟩ ∧ Wh t.2 (fun i w => if i < pre.length ∧ 0 ≤ w ∧ w < b.Weeks then (Fe b i).filter (fun t => decide (w < t.br)) else []))
  (fun r => ∃ es, Wh es (fun i w => if 0 ≤ w ∧ w < b.Weeks then (Fe b i).filter (fun t => decide (w < t.br)) else []) ∧ r = (⟨b, Sl.grow ((idx b.Boys.l.length).map fun i => Sl.grow ((Fe b i).map T5.ar)), Mp.nil⟩, es))
  (x0 := (⟨b, Sl.nil, Mp.nil⟩, [], 0)) (t0 := (⟨b, Sl.nil, Mp.nil⟩, [])) hv.few.boys rfl (by
   refine ⟨rfl, ?_⟩
   intro i w
   refine ⟨Sl.warm_nil, ?_⟩
   have e : (OJ (Sl.nil : Sl (Ar 5 Int)) ([] : xh) [i, w]).l = [] := rfl
   rw [e]
   dsimp only
   split
   ·rename_i h
    simp only [List.length_nil] at h
    have : b.Boys.ix i = none := by unfold Sl.ix; rw [if_neg (by omega)]
    simp [Fe, this]
   ·rfl) (by
   rintro pre x post ⟨bk, es⟩ hx ⟨rfl, hwh⟩ hW
   have hix : b.Boys.ix pre.length = some x := Sl.ix_at hx
   have hxo : qe x := hv.boy x (by rw [hx]; simp)
   have htl : Fe b pre.length = tl b pre.length x := by simp [Fe, hix]
   have hle : pre.length < b.Boys.l.length := by rw [hx]; simp
   obtain ⟨es', h1, h2⟩ := cL (b := b) hv.weeks (boy := pre.length) (by omega) (Fe b pre.length) [] es _ hwh (by
    intro i w
    have h1 := Ti hv i
    have h2 := Ti hv pre.length
    split
    ·have := List.length_filter_le (fun t : T5 => decide (w < t.br)) (Fe b i); omega
    ·simp; omega) (by have := Ti hv pre.length; simp; omega)
   simp only [List.map_nil, List.nil_append] at h2
   have hg : Sl.grow ([] : List (Ar 5 Int)) = Sl.nil := rfl
   rw [hg, htl] at h2
   have hvg := rf (yf := onL (F8 b pre.length)) (bk := ⟨b, Sl.grow ((idx pre.length).map fun i => Sl.grow ((Fe b i).map T5.ar)), Mp.nil⟩) hv.few.trials hix hxo h2
   have hsz : ((idx pre.length).map fun i => Sl.grow ((Fe b i).map T5.ar)).length + ([Sl.grow ((Fe b pre.length).map T5.ar)] : List (Sl (Ar 5 Int))).length ≤ 1000000000 := by
    simp [AQ]; omega
   have hidx : idx (pre ++ [x]).length = idx pre.length ++ [(pre.length : Int)] := by
    simp [idx, List.range_succ]
   refine ⟨(⟨b, Sl.grow ((idx (pre ++ [x]).length).map fun i => Sl.grow ((Fe b i).map T5.ar)), Mp.nil⟩, es'), ⟨rfl, ?_⟩, ?_⟩
   ·intro i w
    obtain ⟨g1, g2⟩ := h1 i w
    refine ⟨g1, g2.trans ?_⟩
    congr 1
    dsimp only
    by_cases hi : i = pre.length
    ·subst hi
     by_cases hc : 0 ≤ w ∧ w < b.Weeks
     ·rw [if_pos ⟨rfl, hc⟩, if_neg (by omega), if_pos (by simp; omega)]; simp
     ·rw [if_neg (by omega), if_neg (by omega), if_neg (by omega)]
    ·rw [if_neg (by omega)]
     by_cases hc : i < pre.length ∧ 0 ≤ w ∧ w < b.Weeks
     ·rw [if_pos hc, if_pos (by simp; omega)]
     ·rw [if_neg hc, if_neg (by simp; omega)]
   ·have hlt : (pre.length : Int) < b.Boys.len := by rw [Sl.len_l]; omega
    simp only [Eh, decide_eq_true hlt, if_true, hvg, Option.bind_some, Sl.grow_unf, hW]
    rw [← htl, Sl.app_grow (by simp) (A8 hsz (by omega)), Option.bind_some, hidx]
    simp) (by
   rintro ⟨bk, es⟩ ⟨rfl, hwh⟩
   refine ⟨_, ⟨es, ?_, rfl⟩, ?_⟩
   ·intro i w
    obtain ⟨g1, g2⟩ := hwh i w
    refine ⟨g1, g2.trans ?_⟩
    congr 1
    dsimp only
    by_cases hc : 0 ≤ w ∧ w < b.Weeks
    ·rw [if_pos hc]
     by_cases hi : i < b.Boys.l.length
     ·rw [if_pos ⟨hi, hc⟩]
     ·rw [if_neg (by omega)]
      have : b.Boys.ix i = none := by
       unfold Sl.ix
       split
       ·rw [List.getElem?_eq_none]; omega
       ·rfl
      simp [Fe, this]
    ·rw [if_neg hc, if_neg (by omega)]
   ·have hlt : ¬ (b.Boys.l.length : Int) < b.Boys.len := by rw [Sl.len_l]; omega
    simp only [Eh, decide_eq_false hlt, Bool.false_eq_true, if_false])
 refine ⟨es, hr, ?_⟩
 simp only [HT, he, Option.bind_some]
end
end Go.Lf
namespace Go.Lf
open Go
noncomputable section
def LL (b : VoiceBook) : Bool := (idx b.Boys.l.length).all fun i => !(Fe b i).isEmpty
def many (b : VoiceBook) (boy week note : Int) : Nat := (Fe b boy).countP fun t => bj (I9 b boy) t week note
def J3 (b : VoiceBook) (boy week note : Int) : Int := if many b boy week note = 0 then 0 else if many b boy week note = (Fe b boy).length then 2 else 1
theorem wH {α β : Type} (p : α → Bool) (r : β) : ∀ l : List α, (l.findSome? fun x => if p x then some r else none) = if l.any p then some r else none
 | [] => rfl
 | a :: l => by
  have ih := wH p r l
  by_cases h : p a = true
  ·simp [h]
  ·simp [h, ih]
theorem JY {α : Type} (xs : List α) : (Sl.grow xs).len = xs.length := by rw [Sl.len_l, Sl.l_grow]
theorem jK {b : VoiceBook} (h4 : b.Boys.l.length ≤ 4) {m : Mp 2 (Sl (Ar 5 Int))} : Dm ⟨b, Sl.grow ((idx b.Boys.l.length).map fun i => Sl.grow ((Fe b i).map T5.ar)), m⟩ = some (LL b) := by
 have e : Loop (Bd (Sl.grow ((idx b.Boys.l.length).map fun i => Sl.grow ((Fe b i).map T5.ar)))) 0 = some ((idx b.Boys.l.length).findSome? (fun i => if (Fe b i).isEmpty then some (.inl i : Int ⊕ Unit) else none) |>.getD (.inr ())) := by
  refine Loop.find (fun i => i) (idx b.Boys.l.length) _ (by rw [AQ]; omega) rfl ?_ ?_
  ·intro pre a post h _ hW
   obtain ⟨ha, hlt⟩ := IG h
   have hl : (Sl.grow ((idx b.Boys.l.length).map fun i => Sl.grow ((Fe b i).map T5.ar))).l = (pre.map fun i => Sl.grow ((Fe b i).map T5.ar)) ++ Sl.grow ((Fe b a).map T5.ar) :: (post.map fun i => Sl.grow ((Fe b i).map T5.ar)) := by
    rw [Sl.l_grow, h]; simp
   have hix := Sl.ix_at hl
   rw [List.length_map] at hix
   have hlen : (pre.length : Int) < (Sl.grow ((idx b.Boys.l.length).map fun i => Sl.grow ((Fe b i).map T5.ar))).len := by
    rw [JY]; simp [AQ]; omega
   have hl0 : (Sl.grow ((Fe b a).map T5.ar)).len = ((Fe b a).length : Int) := by rw [JY]; simp
   simp only [Bd, decide_eq_true hlen, if_true, hix, Option.bind_some, Gn, hl0, hW]
   cases hh : Fe b a with
   | nil => simp [ha]
   | cons t l =>
    have : ¬ (((t :: l).length : Nat) : Int) = 0 := by simp; omega
    simp; omega
  ·intro _
   have hlen : ¬ (((idx b.Boys.l.length).length : Nat) : Int) < (Sl.grow ((idx b.Boys.l.length).map fun i => Sl.grow ((Fe b i).map T5.ar))).len := by
    rw [JY]; simp
   simp only [Bd, decide_eq_false hlen, Bool.false_eq_true, if_false]
 simp only [Dm, Db, Ec, e, Option.bind_some]
 have main : ∀ l : List Int, (∀ i ∈ l, 0 ≤ i) → (match ((l.findSome? (fun i => if (Fe b i).isEmpty then some (.inl i : Int ⊕ Unit) else none)).getD (.inr ())) with | .inl w2 => some w2 | .inr _ => some (-1)).bind (fun v1 => (some (decide (0 ≤ v1))).bind fun v2 => some (!v2)) = some (l.all fun i => !(Fe b i).isEmpty) := by
  intro l
  induction l with
  | nil => intro _; rfl
  | cons i l ih =>
   intro h
   have hi := h i List.mem_cons_self
   simp only [List.findSome?_cons, List.all_cons]
   cases hh : (Fe b i).isEmpty with
   | true => simp [hi]
   | false => simpa using ih fun j hj => h j (List.mem_cons_of_mem _ hj)
 have := main (idx b.Boys.l.length) fun i hi => (G7.mp hi).1
 simp only [LL]
 rw [← this]
 cases (Option.getD (List.findSome? (fun i => if (Fe b i).isEmpty = true then some (Sum.inl i : Int ⊕ Unit) else none) (idx b.Boys.l.length)) (Sum.inr ())) <;> rfl
theorem aG {b : VoiceBook} (hf : qu b) : J7 b = some (if vOk b then (LL b, 0) else (false, 20)) := by
 simp only [J7, LR hf, Option.bind_some]
 cases h : vOk b with
 | false => rfl
 | true =>
  obtain ⟨es, _, he⟩ := kp (Ip hf h)
  simp only [if_true, decide_true, he, Option.bind_some, jK (Ip hf h).boys.1]
theorem bi {b : VoiceBook} (hf : qu b) (q : Bool) : ∃ bk, Dt b q = some (bk, if vOk b then (if q then (if LL b then 0 else 22) else 21) else 20) ∧
  (vOk b = true → q = true → ∃ es, bk = ⟨b, Sl.grow ((idx b.Boys.l.length).map fun i => Sl.grow ((Fe b i).map T5.ar)), Mp.mk es⟩ ∧ Wh es (fun i w => if 0 ≤ w ∧ w < b.Weeks then (Fe b i).filter (fun t => decide (w < t.br)) else [])) := by
 simp only [Dt, LR hf, Option.bind_some]
 cases h : vOk b with
 | false => exact ⟨_, rfl, by simp⟩
 | true =>
  simp only [if_true, decide_true]
  cases q with
  | false => exact ⟨_, rfl, by simp⟩
  | true =>
   obtain ⟨es, h1, he⟩ := kp (Ip hf h)
   simp only [if_true, he, Option.bind_some, jK (Ip hf h).boys.1]
   cases LL b with
   | true => exact ⟨_, rfl, fun _ _ => ⟨es, rfl, h1⟩⟩
   | false => exact ⟨_, rfl, fun _ _ => ⟨es, rfl, h1⟩⟩
theorem yP {b : VoiceBook} (hv : ZC b) {boy : Int} {t : T5} (h : t ∈ Fe b boy) : 0 ≤ t.lo := by
 unfold Fe at h
 split at h
 ·rename_i x hx
  have ho := hv.boy x (E6 hx).2.2
  simp only [tl, List.mem_flatMap] at h
  obtain ⟨lo, hlo, hi, _, ga, _, tu, _, h⟩ := h
  obtain ⟨h1, _⟩ := List.mem_filter.mp h
  obtain ⟨br, _, rfl⟩ := List.mem_map.mp h1
  have := (Nk.mp hlo).1
  have := ho.low.1.1
  simp only
  omega
 ·cases h
theorem wQ {b : VoiceBook} (hv : ZC b) {es : xh} (hes : Wh es (fun i w => if 0 ≤ w ∧ w < b.Weeks then (Fe b i).filter (fun t => decide (w < t.br)) else [])) {boy week note : Int} (hb : 0 ≤ boy ∧ boy < b.Boys.l.length) (hw : 0 ≤ week ∧ week < b.Weeks) :
  FG ⟨b, Sl.grow ((idx b.Boys.l.length).map fun i => Sl.grow ((Fe b i).map T5.ar)), Mp.mk es⟩ boy week note = some ⟨many b boy week note, (Fe b boy).length⟩ := by
 obtain ⟨x, hx, hxm⟩ := MF hb.1 hb.2
 have hloss : I9 b boy = x.Loss := by simp [I9, hx]
 have hwl := (hes boy week).2
 dsimp only at hwl
 rw [if_pos hw] at hwl
 have hfew := Ti hv boy
 have hgl : (Mp.get (Mp.mk es : Mp 2 (Sl (Ar 5 Int))) (Bq.key (Ae.mk boy week))).getD Sl.nil = OJ Sl.nil es [boy, week] := xQ _ _ _
 have htr : (Sl.grow ((idx b.Boys.l.length).map fun i => Sl.grow ((Fe b i).map T5.ar))).ix boy = some (Sl.grow ((Fe b boy).map T5.ar)) := by
  unfold Sl.ix
  rw [if_pos hb.1, Sl.l_grow, List.getElem?_map]
  have : (idx b.Boys.l.length)[boy.toNat]? = some boy := by
   simp only [idx, List.getElem?_map]
   rw [List.getElem?_range (by omega)]
   simp; omega
  rw [this]; rfl
 have hcnt : ∀ l : List T5, (l.filter fun t => decide (week < t.br)).countP (fun t => bj x.Loss t week note) = l.countP fun t => bj x.Loss t week note := by
  intro l
  rw [List.countP_filter]
  apply List.countP_congr
  intro t _
  simp only [bj, Bool.and_eq_true, decide_eq_true_eq]
  constructor
  ·exact fun h => h.1
  ·exact fun h => ⟨h, h.1⟩
 have e : Loop (CW ⟨b, Sl.grow ((idx b.Boys.l.length).map fun i => Sl.grow ((Fe b i).map T5.ar)), Mp.mk es⟩ boy week note) (⟨0, (Fe b boy).length⟩, 0) = some ⟨many b boy week note, (Fe b boy).length⟩ := by
  refine Cj (fun t i => (t, i)) ((Fe b boy).filter fun t => decide (week < t.br)) (fun pre => (⟨(pre.countP fun t => bj x.Loss t week note : Nat), (Fe b boy).length⟩ : Am)) ?_ rfl ?_ ?_
  ·have := List.length_filter_le (fun t : T5 => decide (week < t.br)) (Fe b boy); omega
  ·intro pre t post h hW
   have hl : (OJ Sl.nil es [boy, week]).l = pre.map T5.ar ++ t.ar :: post.map T5.ar := by rw [hwl, h]; simp
   have hix := Sl.ix_at hl
   rw [List.length_map] at hix
   have hlen : (pre.length : Int) < (OJ Sl.nil es [boy, week]).len := by rw [Sl.len_l, hl]; simp; omega
   have htm : t ∈ Fe b boy := by
    have : t ∈ (Fe b boy).filter fun t => decide (week < t.br) := by rw [h]; simp
    exact (List.mem_filter.mp this).1
   have hlo := yP hv htm
   have hle : pre.length ≤ 2000000 := by
    have h1 := List.length_filter_le (fun t : T5 => decide (week < t.br)) (Fe b boy)
    rw [h] at h1; simp at h1; omega
   have hcle := List.countP_le_length (p := fun t => bj x.Loss t week note) (l := pre)
   simp only [CW, hgl, decide_eq_true hlen, if_true, hix, Option.bind_some]
   rw [wz (b := ⟨b, _, _⟩) hx t (by omega), Option.bind_some, hW]
   by_cases hc : bj x.Loss t week note = true
   case pos =>
    have : W (((pre.countP fun t => bj x.Loss t week note : Nat) : Int) + 1) = ((pre.countP fun t => bj x.Loss t week note : Nat) : Int) + 1 := Ig (by omega)
    simp [this, hc]
   case neg => simp [hc]
  ·have hlen : ¬ ((((Fe b boy).filter fun t => decide (week < t.br)).length : Nat) : Int) < (OJ Sl.nil es [boy, week]).len := by
    rw [Sl.len_l, hwl]; simp
   simp only [CW, hgl, decide_eq_false hlen, Bool.false_eq_true, if_false, hcnt, many, hloss]
 have hl0 : (Sl.grow ((Fe b boy).map T5.ar)).len = ((Fe b boy).length : Int) := by rw [JY]; simp
 simp only [FG, htr, Option.bind_some, hl0, e]
theorem wG (v : Am) : Ej v = some ((if 0 < v.so then 1 else 0) + (if v.so = v.of_ then 1 else 0)) := by
 have h2 : A9 v (0, 0) = some (.inl ((if 0 < v.so then 1 else 0), 1)) := by
  have ht : zU 0 = some false := rfl
  have hw : W (0 + 1) = 1 := by decide
  simp only [A9, ht, Option.bind_some, Gz, hw]
  by_cases h : 0 < v.so <;> simp [h]
 have h3 : ∀ x : Int, x = 0 ∨ x = 1 → A9 v (x, 1) = some (.inl (x + (if v.so = v.of_ then 1 else 0), 2)) := by
  intro x hx
  have ht : zU 1 = some true := rfl
  have hw : W (1 + 1) = 2 := by decide
  have hwx : W (x + 1) = x + 1 := by rcases hx with rfl | rfl <;> decide
  simp only [A9, ht, Option.bind_some, Gy, hw, hwx]
  by_cases h : v.so = v.of_ <;> simp [h]
 have h4 : ∀ x : Int, A9 v (x, 2) = some (.inr x) := by intro x; simp [A9]
 have e : Loop (A9 v) (0, 0) = some ((if 0 < v.so then 1 else 0) + (if v.so = v.of_ then 1 else 0)) := by
  rw [Loop.step h2, Loop.step (h3 _ (by by_cases h : 0 < v.so <;> simp [h])), Loop.done (h4 _)]
 simp only [Ej, e, Option.bind_some]
theorem sW {b : VoiceBook} (h : LL b = true) {boy : Int} (hb : 0 ≤ boy ∧ boy < b.Boys.l.length) : 0 < (Fe b boy).length := by
 have := List.all_eq_true.mp h boy (G7.mpr hb)
 cases hh : Fe b boy with
 | nil => rw [hh] at this; simp at this
 | cons t l => simp
def isQ (b : VoiceBook) (boy week note : Int) : Bool := Dp b boy && (Cd b week && EE note)
def GH (b : VoiceBook) (q : Bool) : Int := if vOk b then (if q then (if LL b then 0 else 22) else 21) else 20
theorem XL {b : VoiceBook} (hv : ZC b) (boy : Int) : Dp b boy = true ↔ 0 ≤ boy ∧ boy < b.Boys.l.length := by
 have h1 := hv.boys
 simp only [Dp, Ak, Sl.len_l, Bool.and_eq_true, decide_eq_true_eq]
 rw [VV (by omega) (by omega)]; omega
theorem cb {b : VoiceBook} (hv : ZC b) (week : Int) : Cd b week = true ↔ 0 ≤ week ∧ week < b.Weeks := by
 have h1 := hv.weeks
 simp only [Cd, Ak, Bool.and_eq_true, decide_eq_true_eq]
 rw [VV (by omega) (by omega)]; omega
theorem aw {b : VoiceBook} (hf : qu b) (boy week note : Int) : IT b boy week note = some (if GH b (isQ b boy week note) = 0 then (J3 b boy week note, 0) else (0, GH b (isQ b boy week note))) := by
 have e : (if (Dp b boy) then if (Cd b week) then Option.bind (Dt b (EE note)) fun v4 => some (v4.1, v4.2) else Option.bind (Dt b false) fun v6 => some (v6.1, v6.2) else Option.bind (Dt b false) fun v8 => some (v8.1, v8.2) : Option (AB × Int)) = Dt b (isQ b boy week note) := by
  have hs : ∀ o : Option (AB × Int), (o.bind fun v => some (v.1, v.2)) = o := by intro o; cases o <;> rfl
  simp only [hs, isQ]
  cases Dp b boy <;> cases Cd b week <;> simp
 simp only [IT, e]
 obtain ⟨bk, he, h2⟩ := bi hf (isQ b boy week note)
 rw [he, Option.bind_some]
 simp only [GH]
 by_cases hok : vOk b = true
 case neg => simp [hok]
 case pos =>
  have hv := Ip hf hok
  by_cases hq : isQ b boy week note = true
  case neg => simp [hok, hq]
  case pos =>
   by_cases hfi : LL b = true
   case neg => simp [hok, hq, hfi]
   case pos =>
    simp only [hok, hq, hfi, if_true]
    obtain ⟨es, rfl, hes⟩ := h2 hok hq
    simp only [isQ, Bool.and_eq_true] at hq
    obtain ⟨hq1, hq2, _⟩ := hq
    rw [XL hv] at hq1
    rw [cb hv] at hq2
    have hpos := sW hfi hq1
    simp only [if_true, decide_true, wQ hv hes hq1 hq2, Option.bind_some, wG, J3]
    congr 2
    by_cases h0 : many b boy week note = 0
    ·rw [h0]
     have : ¬ ((0 : Nat) : Int) = ((Fe b boy).length : Int) := by omega
     simp [this]
     omega
    ·have h1 : (0 : Int) < (many b boy week note : Int) := by omega
     rw [if_pos h1, if_neg h0]
     by_cases h2 : many b boy week note = (Fe b boy).length
     ·rw [if_pos h2, if_pos (by omega)]; rfl
     ·rw [if_neg h2, if_neg (by omega)]; rfl
theorem VX {b : VoiceBook} (hv : ZC b) {boy : Int} (hb : 0 ≤ boy ∧ boy < b.Boys.l.length) : F6 b boy 0 = some (Sl.grow ((Fe b boy).map (T5.rv (I9 b boy)))) := by
 obtain ⟨x, hx, hxm⟩ := MF hb.1 hb.2
 rw [rl hv.few.trials (hv.boy x hxm) hx]
 simp [Fe, I9, hx]
theorem oJ {b : VoiceBook} (hv : ZC b) : Jr b 0 = some (LL b) := by
 have e : Loop (GN b 0) 0 = some (((idx b.Boys.l.length).findSome? fun i => if (Fe b i).isEmpty then some (.inl false : Bool ⊕ Unit) else none).getD (.inr ())) := by
  refine Loop.find (fun i => i) (idx b.Boys.l.length) _ (by rw [AQ]; have := hv.boys.1; omega) rfl ?_ ?_
  ·intro pre a post h _ hW
   obtain ⟨ha, hlt⟩ := IG h
   have hl : (pre.length : Int) < b.Boys.len := by rw [Sl.len_l]; exact hlt
   simp only [GN, decide_eq_true hl, if_true, VX hv ⟨Int.natCast_nonneg _, hlt⟩, Option.bind_some, JY, hW, List.length_map]
   rw [← ha]
   cases hh : Fe b a with
   | nil => simp
   | cons t l =>
    have : ¬ (((t :: l).length : Nat) : Int) = 0 := by simp; omega
    simp; omega
  ·intro _
   have hl : ¬ ((idx b.Boys.l.length).length : Int) < b.Boys.len := by rw [Sl.len_l, AQ]; omega
   simp only [GN, decide_eq_false hl, Bool.false_eq_true, if_false]
 simp only [Jr, e, Option.bind_some, LL]
 induction idx b.Boys.l.length with
 | nil => rfl
 | cons i l ih =>
  simp only [List.findSome?_cons, List.all_cons]
  cases hh : (Fe b i).isEmpty with
  | true => simp
  | false => simpa using ih
theorem Zj {b : VoiceBook} (hf : qu b) : KE b = some (if vOk b then (LL b, 0) else (false, 20)) := by
 simp only [KE, LA hf, Option.bind_some]
 cases h : vOk b with
 | false => rfl
 | true => simp [oJ (Ip hf h)]
theorem ac {b : VoiceBook} (hf : qu b) (q : Bool) : EY b q = some (GH b q) := by
 simp only [EY, LA hf, Option.bind_some, GH]
 cases h : vOk b with
 | false => rfl
 | true =>
  cases q with
  | false => rfl
  | true => simp [oJ (Ip hf h)]; cases LL b <;> rfl
theorem tQ {b : VoiceBook} (hv : ZC b) {boy : Int} (hb : 0 ≤ boy ∧ boy < b.Boys.l.length) (week note : Int) : KN b boy week note = some (J3 b boy week note) := by
 have hfew := Ti hv boy
 have e : Loop (FU week note (Sl.grow ((Fe b boy).map (T5.rv (I9 b boy))))) (0, 0) = some (many b boy week note : Int) := by
  refine Cj (fun t i => (t, i)) (Fe b boy) (fun pre => ((pre.countP fun t => bj (I9 b boy) t week note : Nat) : Int)) (by omega) rfl ?_ ?_
  ·intro pre t post h hW
   have hl : (Sl.grow ((Fe b boy).map (T5.rv (I9 b boy)))).l = pre.map (T5.rv (I9 b boy)) ++ t.rv (I9 b boy) :: post.map (T5.rv (I9 b boy)) := by rw [Sl.l_grow, h]; simp
   have hix := Sl.ix_at hl
   rw [List.length_map] at hix
   have hlen : (pre.length : Int) < (Sl.grow ((Fe b boy).map (T5.rv (I9 b boy)))).len := by rw [Sl.len_l, hl]; simp; omega
   have hle : pre.length ≤ 2000000 := by rw [h] at hfew; simp at hfew; omega
   have hcle := List.countP_le_length (p := fun t => bj (I9 b boy) t week note) (l := pre)
   simp only [FU, decide_eq_true hlen, if_true, hix, Option.bind_some, uM, hW]
   by_cases hc : bj (I9 b boy) t week note = true
   case pos =>
    have : W (((pre.countP fun t => bj (I9 b boy) t week note : Nat) : Int) + 1) = ((pre.countP fun t => bj (I9 b boy) t week note : Nat) : Int) + 1 := Ig (by omega)
    simp [this, hc]
   case neg => simp [hc]
  ·have hlen : ¬ ((Fe b boy).length : Int) < (Sl.grow ((Fe b boy).map (T5.rv (I9 b boy)))).len := by rw [JY]; simp
   simp only [FU, decide_eq_false hlen, Bool.false_eq_true, if_false, many]
 simp only [KN, VX hv hb, Option.bind_some, e, JY, J3, List.length_map]
 by_cases h0 : many b boy week note = 0
 ·simp [h0]
 ·rw [if_neg h0, if_neg (by simp; omega)]
  by_cases h2 : many b boy week note = (Fe b boy).length
  ·rw [if_pos h2, if_pos (by simp; omega)]
  ·rw [if_neg h2, if_neg (by simp; omega)]
theorem Z1 {b : VoiceBook} (hf : qu b) (boy week note : Int) : KF b boy week note = some (if GH b (isQ b boy week note) = 0 then (J3 b boy week note, 0) else (0, GH b (isQ b boy week note))) := by
 have e : (if (Ii b boy) then if (HL b week) then Option.bind (EY b (HS note)) fun v4 => some (v4) else Option.bind (EY b false) fun v6 => some (v6) else Option.bind (EY b false) fun v8 => some (v8) : Option (Int)) = some (GH b (isQ b boy week note)) := by
  have h1 : Ii b boy = Dp b boy := rfl
  have h2 : HL b week = Cd b week := rfl
  have h3 : HS note = EE note := rfl
  simp only [ac hf, Option.bind_some, isQ, h1, h2, h3]
  cases Dp b boy <;> cases Cd b week <;> simp
 simp only [KF, e, Option.bind_some]
 by_cases h0 : GH b (isQ b boy week note) = 0
 ·rw [if_pos h0, if_pos (by simpa using h0)]
  have hok : vOk b = true := by
   cases h : vOk b with
   | true => rfl
   | false => simp [GH, h] at h0
  have hv := Ip hf hok
  have hq : isQ b boy week note = true := by
   cases h : isQ b boy week note with
   | true => rfl
   | false => simp [GH, hok, h] at h0
  simp only [isQ, Bool.and_eq_true] at hq
  rw [XL hv] at hq
  simp only [tQ hv hq.1, Option.bind_some]
 ·rw [if_neg h0, if_neg (by simpa using h0)]
end
end Go.Lf
