/- A part of the proof. -/
import Derived.Test.YtbkliocalcihjaaDoorx24
set_option linter.all false
namespace Go.Lf
open Go
noncomputable section
def tlAt (b : VoiceBook) (boy : Int) : List T5 := match b.Boys.ix boy with
 | some x => tl b boy x
 | none => []
def UW (b : VoiceBook) (boy : Int) : Int := match b.Boys.ix boy with
 | some x => x.Loss
 | none => 0
abbrev tV := List (List Int × Sl (Ar 5 Int))
def Wh (es : tV) (F : Int → Int → List T5) : Prop := ∀ i w, (NW Sl.nil es [i, w]).warm ∧ (NW Sl.nil es [i, w]).l = (F i w).map T5.ar
structure dw (b : VoiceBook) : Prop where
 few : Wz b
 boys : b.Boys.l.length ≤ 4 ∧ 1 ≤ b.Boys.l.length
 weeks : 1 ≤ b.Weeks ∧ b.Weeks ≤ 6
 trials : b.Trials.l.length ≤ 6
 boy : ∀ x ∈ b.Boys.l, lq x
theorem D1 {b : VoiceBook} (hf : Wz b) (h : vOk b = true) : dw b := by
 simp only [vOk, aB, Ab, Bool.and_eq_true, decide_eq_true_eq] at h
 obtain ⟨⟨h1, h2, h3⟩, h4, h5⟩ := h
 have e1 := Sl.len_l b.Boys
 have e2 := Sl.len_l b.Trials
 exact ⟨hf, by omega, h2, by omega, fun x hx => oW (List.all_eq_true.mp h4 x hx)⟩
theorem ME {α : Type} {x : Sl α} {i : Int} {a : α} (h : x.ix i = some a) : 0 ≤ i ∧ i < x.l.length ∧ a ∈ x.l := by
 unfold Sl.ix at h
 split at h
 ·obtain ⟨h1, h2⟩ := List.getElem?_eq_some_iff.mp h
  exact ⟨by assumption, by omega, by rw [← h2]; exact List.getElem_mem _⟩
 ·cases h
theorem vS {α : Type} {x : Sl α} {i : Int} (h0 : 0 ≤ i) (h : i < x.l.length) : ∃ a, x.ix i = some a ∧ a ∈ x.l := by
 have hl : i.toNat < x.l.length := by omega
 exact ⟨x.l[i.toNat], by simp [Sl.ix, h0, hl], List.getElem_mem _⟩
theorem Td {b : VoiceBook} (hv : dw b) (boy : Int) : (tlAt b boy).length ≤ 2000000 := by
 unfold tlAt
 split
 ·rename_i x hx
  exact vu b boy (hv.boy x (ME hx).2.2)
 ·simp
theorem pf {boy : Int} (hb : 0 ≤ boy) {t : T5} {n : Int} (hn : n ≤ 6) {es : tV} {F : Int → Int → List T5} (h : Wh es F) (hfew : ∀ i w, (F i w).length ≤ 900000000) :
  ∃ es', Wh es' (fun i w => if i = boy ∧ 0 ≤ w ∧ w < n then F i w ++ [t] else F i w) ∧ Loop (CJ boy t.ar n) (es, 0) = some es' := by
 have key : ∀ (es : tV) (w : Int), CJ boy t.ar n (es, w) = if w < n then Option.bind (Sl.app 40 (NW Sl.nil es [boy, w]) [t.ar]) fun v => some (.inl (EX es [boy, w] v, W (w + 1))) else some (.inr es) := by
  intro es w
  have hk : decide (Bj.key (Ad.mk boy w) = Bj.key (Ad.mk (-1) (-1))) = false := by
   rw [decide_eq_false_iff_not]
   intro e
   have : ([boy, w] : List Int) = [-1, -1] := e
   simp at this; omega
  simp only [CJ, hk, Bool.false_eq_true, if_false, decide_eq_true_eq]
  rfl
 obtain ⟨r, hr, he⟩ := K9 (f := CJ boy t.ar n) (fun es i => (es, i)) (idx n.toNat) (fun pre es' => Wh es' (fun i w => if i = boy ∧ 0 ≤ w ∧ w < pre.length then F i w ++ [t] else F i w)) (fun es' => Wh es' (fun i w => if i = boy ∧ 0 ≤ w ∧ w < n then F i w ++ [t] else F i w)) (x0 := (es, 0)) (t0 := es) (by rw [FO]; omega) rfl (by
   intro i w
   have := h i w
   dsimp only
   simp only [List.length_nil]
   rw [if_neg (by omega)]
   exact this) (by
   intro pre a post es1 hx hi hW
   obtain ⟨ha, hlt⟩ := pS hx
   obtain ⟨hw, hl⟩ := hi boy pre.length
   dsimp only at hl
   rw [if_neg (by omega)] at hl
   have hlen : (NW Sl.nil es1 [boy, (pre.length : Int)]).l.length + ([t.ar] : List (Ar 5 Int)).length ≤ 1000000000 := by
    rw [hl]; simp; have := hfew boy pre.length; omega
   refine ⟨EX es1 [boy, (pre.length : Int)] (.hot ((F boy pre.length ++ [t]).map T5.ar)), ?_, ?_⟩
   ·intro i w
    rw [cY]
    by_cases hiw : i = boy ∧ w = pre.length
    ·obtain ⟨rfl, rfl⟩ := hiw
     dsimp only
     rw [if_pos rfl, if_pos ⟨rfl, by omega, by rw [List.length_append]; simp; omega⟩]
     exact ⟨Sl.warm_hot _, rfl⟩
    ·rw [if_neg (by simp; omega)]
     have := hi i w
     dsimp only at this ⊢
     by_cases h2 : i = boy ∧ 0 ≤ w ∧ w < pre.length
     ·rw [if_pos h2] at this; rw [if_pos (by simp; omega)]; exact this
     ·rw [if_neg h2] at this; rw [if_neg (by simp; omega)]; exact this
   ·rw [key, if_pos (by omega), Sl.app_warm hw (by simp) (HK hlen (by omega)), Option.bind_some, hW, hl]
    simp) (by
   intro es1 hi
   refine ⟨es1, ?_, ?_⟩
   ·intro i w
    have := hi i w
    dsimp only at this ⊢
    rw [FO] at this
    by_cases h2 : i = boy ∧ 0 ≤ w ∧ w < n
    ·rw [if_pos (by omega)] at this; rw [if_pos h2]; exact this
    ·rw [if_neg (by omega)] at this; rw [if_neg h2]; exact this
   ·rw [key, FO, if_neg (by omega)])
 exact ⟨r, hr, he⟩
theorem ZM {b : VoiceBook} (hw : 1 ≤ b.Weeks ∧ b.Weeks ≤ 6) {boy : Int} (hb : 0 ≤ boy) : ∀ (l : List T5) (acc : List T5) (es : tV) (F : Int → Int → List T5), Wh es F → (∀ i w, (F i w).length + l.length ≤ 900000000) → acc.length + l.length ≤ 900000000 →
  ∃ es', Wh es' (fun i w => if i = boy ∧ 0 ≤ w ∧ w < b.Weeks then F i w ++ l.filter (fun t => decide (w < t.br)) else F i w) ∧
   eT (onL (DI b boy)) (l.map T5.ar) (.inl (Sl.grow (acc.map T5.ar), es)) = some (true, .inl (Sl.grow ((acc ++ l).map T5.ar), es'))
 | [], acc, es, F, h, _, _ => by
  refine ⟨es, ?_, by simp [eT]⟩
  intro i w
  have := h i w
  simpa using this
 | t :: l, acc, es, F, h, hf, hacc => by
  have hmin : min b.Weeks t.br ≤ 6 := by omega
  obtain ⟨es1, h1, he⟩ := pf (t := t) hb hmin h (fun i w => by have := hf i w; omega)
  have happ : Sl.app 40 (Sl.grow (acc.map T5.ar)) [t.ar] = some (Sl.grow ((acc ++ [t]).map T5.ar)) := by
   rw [Sl.app_grow (by simp) (HK (by simp at hacc ⊢; omega) (by omega))]; simp
  obtain ⟨es', h2, h3⟩ := ZM hw hb l (acc ++ [t]) es1 _ h1 (by
   intro i w
   have := hf i w
   simp only [List.length_cons] at this
   split
   ·simp; omega
   ·omega) (by simp at hacc ⊢; omega)
  refine ⟨es', ?_, ?_⟩
  ·intro i w
   obtain ⟨g1, g2⟩ := h2 i w
   refine ⟨g1, g2.trans ?_⟩
   congr 1
   dsimp only
   by_cases hc : i = boy ∧ 0 ≤ w ∧ w < b.Weeks
   ·rw [if_pos hc, if_pos hc]
    simp only [List.filter_cons]
    by_cases hbr : w < t.br
    ·rw [if_pos ⟨hc.1, hc.2.1, by omega⟩, if_pos (by simpa using hbr)]; simp
    ·rw [if_neg (by omega), if_neg (by simpa using hbr)]
   ·rw [if_neg hc, if_neg hc, if_neg (by omega)]
  ·have h4 : t.ar.ix 4 = some t.br := rfl
   simp only [List.map_cons, eT, onL, DI, happ, Option.bind_some, h4, sY, he]
   simpa using h3
theorem dZ {b : VoiceBook} (hv : dw b) : ∃ es, Wh es (fun i w => if 0 ≤ w ∧ w < b.Weeks then (tlAt b i).filter (fun t => decide (w < t.br)) else []) ∧
  EC b (Sl.nil : Sl Int) = some ⟨b, Sl.grow ((idx b.Boys.l.length).map fun i => Sl.grow ((tlAt b i).map T5.ar)), Mp.mk es⟩ := by
 have hlen := hv.boys.1
 obtain ⟨r, ⟨es, hr, rfl⟩, he⟩ := K9 (f := CN b (Sl.nil : Sl Int)) (fun (t : AA × tV) i => (t.1, t.2, i)) b.Boys.l
  (fun pre t => t.1 = ⟨b, Sl.grow ((idx pre.length).map fun i => Sl.grow ((tlAt b i).map T5.ar)), Mp.nil⟩ ∧ Wh t.2 (fun i w => if i < pre.length ∧ 0 ≤ w ∧ w < b.Weeks then (tlAt b i).filter (fun t => decide (w < t.br)) else []))
  (fun r => ∃ es, Wh es (fun i w => if 0 ≤ w ∧ w < b.Weeks then (tlAt b i).filter (fun t => decide (w < t.br)) else []) ∧ r = (⟨b, Sl.grow ((idx b.Boys.l.length).map fun i => Sl.grow ((tlAt b i).map T5.ar)), Mp.nil⟩, es))
  (x0 := (⟨b, Sl.nil, Mp.nil⟩, [], 0)) (t0 := (⟨b, Sl.nil, Mp.nil⟩, [])) hv.few.boys rfl (by
   refine ⟨rfl, ?_⟩
   intro i w
   refine ⟨Sl.warm_nil, ?_⟩
   have e : (NW (Sl.nil : Sl (Ar 5 Int)) ([] : tV) [i, w]).l = [] := rfl
   rw [e]
   dsimp only
   split
   ·rename_i h
    simp only [List.length_nil] at h
    have : b.Boys.ix i = none := by unfold Sl.ix; rw [if_neg (by omega)]
    simp [tlAt, this]
   ·rfl) (by
   rintro pre x post ⟨bk, es⟩ hx ⟨rfl, hwh⟩ hW
   have hix : b.Boys.ix pre.length = some x := Sl.ix_at hx
   have hxo : lq x := hv.boy x (by rw [hx]; simp)
   have htl : tlAt b pre.length = tl b pre.length x := by simp [tlAt, hix]
   have hle : pre.length < b.Boys.l.length := by rw [hx]; simp
   obtain ⟨es', h1, h2⟩ := ZM (b := b) hv.weeks (boy := pre.length) (by omega) (tlAt b pre.length) [] es _ hwh (by
    intro i w
    have h1 := Td hv i
    have h2 := Td hv pre.length
    split
    ·have := List.length_filter_le (fun t : T5 => decide (w < t.br)) (tlAt b i); omega
    ·simp; omega) (by have := Td hv pre.length; simp; omega)
   simp only [List.map_nil, List.nil_append] at h2
   have hg : Sl.grow ([] : List (Ar 5 Int)) = Sl.nil := rfl
   rw [hg, htl] at h2
   have hvg := lM (yf := onL (DI b pre.length)) (bk := ⟨b, Sl.grow ((idx pre.length).map fun i => Sl.grow ((tlAt b i).map T5.ar)), Mp.nil⟩) hv.few.trials hix hxo h2
   have hsz : ((idx pre.length).map fun i => Sl.grow ((tlAt b i).map T5.ar)).length + ([Sl.grow ((tlAt b pre.length).map T5.ar)] : List (Sl (Ar 5 Int))).length ≤ 1000000000 := by
    simp [FO]; omega
   have hidx : idx (pre ++ [x]).length = idx pre.length ++ [(pre.length : Int)] := by
    simp [idx, List.range_succ]
   refine ⟨(⟨b, Sl.grow ((idx (pre ++ [x]).length).map fun i => Sl.grow ((tlAt b i).map T5.ar)), Mp.nil⟩, es'), ⟨rfl, ?_⟩, ?_⟩
   ·intro i w
    obtain ⟨g1, g2⟩ := h1 i w
    refine ⟨g1, g2.trans ?_⟩
    congr 1
    dsimp only
    by_cases hi : i = pre.length
    ·subst hi
     by_cases hc : 0 ≤ w ∧ w < b.Weeks
     ·rw [if_pos ⟨rfl, hc⟩, if_neg (by omega), if_pos (by simp; omega)]; simp
     ·rw [if_neg (by omega), if_neg (by omega), if_neg (by omega)]
    ·rw [if_neg (by omega)]
     by_cases hc : i < pre.length ∧ 0 ≤ w ∧ w < b.Weeks
     ·rw [if_pos hc, if_pos (by simp; omega)]
     ·rw [if_neg hc, if_neg (by simp; omega)]
   ·have hlt : (pre.length : Int) < b.Boys.len := by rw [Sl.len_l]; omega
    simp only [CN, decide_eq_true hlt, if_true, hvg, Option.bind_some, Sl.grow_unf, hW]
    rw [← htl, Sl.app_grow (by simp) (HK hsz (by omega)), Option.bind_some, hidx]
    simp) (by
   rintro ⟨bk, es⟩ ⟨rfl, hwh⟩
   refine ⟨_, ⟨es, ?_, rfl⟩, ?_⟩
   ·intro i w
    obtain ⟨g1, g2⟩ := hwh i w
    refine ⟨g1, g2.trans ?_⟩
    congr 1
    dsimp only
    by_cases hc : 0 ≤ w ∧ w < b.Weeks
    ·rw [if_pos hc]
     by_cases hi : i < b.Boys.l.length
     ·rw [if_pos ⟨hi, hc⟩]
     ·rw [if_neg (by omega)]
      have : b.Boys.ix i = none := by
       unfold Sl.ix
       split
       ·rw [List.getElem?_eq_none]; omega
       ·rfl
      simp [tlAt, this]
    ·rw [if_neg hc, if_neg (by omega)]
   ·have hlt : ¬ (b.Boys.l.length : Int) < b.Boys.len := by rw [Sl.len_l]; omega
    simp only [CN, decide_eq_false hlt, Bool.false_eq_true, if_false])
 refine ⟨es, hr, ?_⟩
 simp only [EC, he, Option.bind_some]
end
end Go.Lf
namespace Go.Lf
open Go
noncomputable section
def FZ (b : VoiceBook) : Bool := (idx b.Boys.l.length).all fun i => !(tlAt b i).isEmpty
def cn (b : VoiceBook) (boy week note : Int) : Nat := (tlAt b boy).countP fun t => gC (UW b boy) t week note
def Gz (b : VoiceBook) (boy week note : Int) : Int := if cn b boy week note = 0 then 0 else if cn b boy week note = (tlAt b boy).length then 2 else 1
theorem TQ {α : Type} (xs : List α) : (Sl.grow xs).len = xs.length := by rw [Sl.len_l, Sl.l_grow]
theorem cm {b : VoiceBook} (h4 : b.Boys.l.length ≤ 4) {m : Mp 2 (Sl (Ar 5 Int))} : Bh ⟨b, Sl.grow ((idx b.Boys.l.length).map fun i => Sl.grow ((tlAt b i).map T5.ar)), m⟩ = some (FZ b) := by
 have e : Loop (BF (Sl.grow ((idx b.Boys.l.length).map fun i => Sl.grow ((tlAt b i).map T5.ar)))) 0 = some ((idx b.Boys.l.length).findSome? (fun i => if (tlAt b i).isEmpty then some (.inl i : Int ⊕ Unit) else none) |>.getD (.inr ())) := by
  refine Loop.find (fun i => i) (idx b.Boys.l.length) _ (by rw [FO]; omega) rfl ?_ ?_
  ·intro pre a post h _ hW
   obtain ⟨ha, hlt⟩ := pS h
   have hl : (Sl.grow ((idx b.Boys.l.length).map fun i => Sl.grow ((tlAt b i).map T5.ar))).l = (pre.map fun i => Sl.grow ((tlAt b i).map T5.ar)) ++ Sl.grow ((tlAt b a).map T5.ar) :: (post.map fun i => Sl.grow ((tlAt b i).map T5.ar)) := by
    rw [Sl.l_grow, h]; simp
   have hix := Sl.ix_at hl
   rw [List.length_map] at hix
   have hlen : (pre.length : Int) < (Sl.grow ((idx b.Boys.l.length).map fun i => Sl.grow ((tlAt b i).map T5.ar))).len := by
    rw [TQ]; simp [FO]; omega
   have hl0 : (Sl.grow ((tlAt b a).map T5.ar)).len = ((tlAt b a).length : Int) := by rw [TQ]; simp
   simp only [BF, decide_eq_true hlen, if_true, hix, Option.bind_some, FT, hl0, hW]
   cases hh : tlAt b a with
   | nil => simp [ha]
   | cons t l =>
    have : ¬ (((t :: l).length : Nat) : Int) = 0 := by simp; omega
    simp; omega
  ·intro _
   have hlen : ¬ (((idx b.Boys.l.length).length : Nat) : Int) < (Sl.grow ((idx b.Boys.l.length).map fun i => Sl.grow ((tlAt b i).map T5.ar))).len := by
    rw [TQ]; simp
   simp only [BF, decide_eq_false hlen, Bool.false_eq_true, if_false]
 simp only [Bh, BQ, Bz, e, Option.bind_some]
 have main : ∀ l : List Int, (∀ i ∈ l, 0 ≤ i) → (match ((l.findSome? (fun i => if (tlAt b i).isEmpty then some (.inl i : Int ⊕ Unit) else none)).getD (.inr ())) with | .inl w2 => some w2 | .inr _ => some (-1)).bind (fun v1 => (some (decide (0 ≤ v1))).bind fun v2 => some (!v2)) = some (l.all fun i => !(tlAt b i).isEmpty) := by
  intro l
  induction l with
  | nil => intro _; rfl
  | cons i l ih =>
   intro h
   have hi := h i List.mem_cons_self
   simp only [List.findSome?_cons, List.all_cons]
   cases hh : (tlAt b i).isEmpty with
   | true => simp [hi]
   | false => simpa using ih fun j hj => h j (List.mem_cons_of_mem _ hj)
 have := main (idx b.Boys.l.length) fun i hi => (gr.mp hi).1
 simp only [FZ]
 rw [← this]
 cases (Option.getD (List.findSome? (fun i => if (tlAt b i).isEmpty = true then some (Sum.inl i : Int ⊕ Unit) else none) (idx b.Boys.l.length)) (Sum.inr ())) <;> rfl
theorem Ha {b : VoiceBook} (hf : Wz b) : Bt b = some (if vOk b then (FZ b, 0) else (false, 20)) := by
 simp only [Bt, Fa hf, Option.bind_some]
 cases h : vOk b with
 | false => rfl
 | true =>
  obtain ⟨es, _, he⟩ := dZ (D1 hf h)
  simp only [if_true, decide_true, he, Option.bind_some, cm (D1 hf h).boys.1]
theorem YT {b : VoiceBook} (hf : Wz b) (q : Bool) : ∃ bk, B9 b q = some (bk, if vOk b then (if q then (if FZ b then 0 else 22) else 21) else 20) ∧
  (vOk b = true → q = true → ∃ es, bk = ⟨b, Sl.grow ((idx b.Boys.l.length).map fun i => Sl.grow ((tlAt b i).map T5.ar)), Mp.mk es⟩ ∧ Wh es (fun i w => if 0 ≤ w ∧ w < b.Weeks then (tlAt b i).filter (fun t => decide (w < t.br)) else [])) := by
 simp only [B9, Fa hf, Option.bind_some]
 cases h : vOk b with
 | false => exact ⟨_, rfl, by simp⟩
 | true =>
  simp only [if_true, decide_true]
  cases q with
  | false => exact ⟨_, rfl, by simp⟩
  | true =>
   obtain ⟨es, h1, he⟩ := dZ (D1 hf h)
   simp only [if_true, he, Option.bind_some, cm (D1 hf h).boys.1]
   cases FZ b with
   | true => exact ⟨_, rfl, fun _ _ => ⟨es, rfl, h1⟩⟩
   | false => exact ⟨_, rfl, fun _ _ => ⟨es, rfl, h1⟩⟩
theorem tD {b : VoiceBook} (hv : dw b) {boy : Int} {t : T5} (h : t ∈ tlAt b boy) : 0 ≤ t.lo := by
 unfold tlAt at h
 split at h
 ·rename_i x hx
  have ho := hv.boy x (ME hx).2.2
  simp only [tl, List.mem_flatMap] at h
  obtain ⟨lo, hlo, hi, _, ga, _, tu, _, h⟩ := h
  obtain ⟨h1, _⟩ := List.mem_filter.mp h
  obtain ⟨br, _, rfl⟩ := List.mem_map.mp h1
  have := (IC.mp hlo).1
  have := ho.low.1.1
  simp only
  omega
 ·cases h
theorem rn {b : VoiceBook} (hv : dw b) {es : tV} (hes : Wh es (fun i w => if 0 ≤ w ∧ w < b.Weeks then (tlAt b i).filter (fun t => decide (w < t.br)) else [])) {boy week note : Int} (hb : 0 ≤ boy ∧ boy < b.Boys.l.length) (hw : 0 ≤ week ∧ week < b.Weeks) :
  CW ⟨b, Sl.grow ((idx b.Boys.l.length).map fun i => Sl.grow ((tlAt b i).map T5.ar)), Mp.mk es⟩ boy week note = some ⟨cn b boy week note, (tlAt b boy).length⟩ := by
 obtain ⟨x, hx, hxm⟩ := vS hb.1 hb.2
 have hloss : UW b boy = x.Loss := by simp [UW, hx]
 have hwl := (hes boy week).2
 dsimp only at hwl
 rw [if_pos hw] at hwl
 have hfew := Td hv boy
 have hgl : (Mp.get (Mp.mk es : Mp 2 (Sl (Ar 5 Int))) (Bj.key (Ad.mk boy week))).getD Sl.nil = NW Sl.nil es [boy, week] := sX _ _ _
 have htr : (Sl.grow ((idx b.Boys.l.length).map fun i => Sl.grow ((tlAt b i).map T5.ar))).ix boy = some (Sl.grow ((tlAt b boy).map T5.ar)) := by
  unfold Sl.ix
  rw [if_pos hb.1, Sl.l_grow, List.getElem?_map]
  have : (idx b.Boys.l.length)[boy.toNat]? = some boy := by
   simp only [idx, List.getElem?_map]
   rw [List.getElem?_range (by omega)]
   simp; omega
  rw [this]; rfl
 have hcnt : ∀ l : List T5, (l.filter fun t => decide (week < t.br)).countP (fun t => gC x.Loss t week note) = l.countP fun t => gC x.Loss t week note := by
  intro l
  rw [List.countP_filter]
  apply List.countP_congr
  intro t _
  simp only [gC, Bool.and_eq_true, decide_eq_true_eq]
  constructor
  ·exact fun h => h.1
  ·exact fun h => ⟨h, h.1⟩
 have e : Loop (BL ⟨b, Sl.grow ((idx b.Boys.l.length).map fun i => Sl.grow ((tlAt b i).map T5.ar)), Mp.mk es⟩ boy week note) (⟨0, (tlAt b boy).length⟩, 0) = some ⟨cn b boy week note, (tlAt b boy).length⟩ := by
  refine JC (fun t i => (t, i)) ((tlAt b boy).filter fun t => decide (week < t.br)) (fun pre => (⟨(pre.countP fun t => gC x.Loss t week note : Nat), (tlAt b boy).length⟩ : Aa)) ?_ rfl ?_ ?_
  ·have := List.length_filter_le (fun t : T5 => decide (week < t.br)) (tlAt b boy); omega
  ·intro pre t post h hW
   have hl : (NW Sl.nil es [boy, week]).l = pre.map T5.ar ++ t.ar :: post.map T5.ar := by rw [hwl, h]; simp
   have hix := Sl.ix_at hl
   rw [List.length_map] at hix
   have hlen : (pre.length : Int) < (NW Sl.nil es [boy, week]).len := by rw [Sl.len_l, hl]; simp; omega
   have htm : t ∈ tlAt b boy := by
    have : t ∈ (tlAt b boy).filter fun t => decide (week < t.br) := by rw [h]; simp
    exact (List.mem_filter.mp this).1
   have hlo := tD hv htm
   have hle : pre.length ≤ 2000000 := by
    have h1 := List.length_filter_le (fun t : T5 => decide (week < t.br)) (tlAt b boy)
    rw [h] at h1; simp at h1; omega
   have hcle := List.countP_le_length (p := fun t => gC x.Loss t week note) (l := pre)
   simp only [BL, hgl, decide_eq_true hlen, if_true, hix, Option.bind_some]
   rw [sU (b := ⟨b, _, _⟩) hx t (by omega), Option.bind_some, hW]
   by_cases hc : gC x.Loss t week note = true
   case pos =>
    have : W (((pre.countP fun t => gC x.Loss t week note : Nat) : Int) + 1) = ((pre.countP fun t => gC x.Loss t week note : Nat) : Int) + 1 := gq (by omega)
    simp [this, hc]
   case neg => simp [hc]
  ·have hlen : ¬ ((((tlAt b boy).filter fun t => decide (week < t.br)).length : Nat) : Int) < (NW Sl.nil es [boy, week]).len := by
    rw [Sl.len_l, hwl]; simp
   simp only [BL, hgl, decide_eq_false hlen, Bool.false_eq_true, if_false, hcnt, cn, hloss]
 have hl0 : (Sl.grow ((tlAt b boy).map T5.ar)).len = ((tlAt b boy).length : Int) := by rw [TQ]; simp
 simp only [CW, htr, Option.bind_some, hl0, e]
theorem qV (v : Aa) : B8 v = some ((if 0 < v.so then 1 else 0) + (if v.so = v.of_ then 1 else 0)) := by
 have h2 : Av v (0, 0) = some (.inl ((if 0 < v.so then 1 else 0), 1)) := by
  have ht : wT 0 = some false := rfl
  have hw : W (0 + 1) = 1 := by decide
  simp only [Av, ht, Option.bind_some, Fb, hw]
  by_cases h : 0 < v.so <;> simp [h]
 have h3 : ∀ x : Int, x = 0 ∨ x = 1 → Av v (x, 1) = some (.inl (x + (if v.so = v.of_ then 1 else 0), 2)) := by
  intro x hx
  have ht : wT 1 = some true := rfl
  have hw : W (1 + 1) = 2 := by decide
  have hwx : W (x + 1) = x + 1 := by rcases hx with rfl | rfl <;> decide
  simp only [Av, ht, Option.bind_some, Fg, hw, hwx]
  by_cases h : v.so = v.of_ <;> simp [h]
 have h4 : ∀ x : Int, Av v (x, 2) = some (.inr x) := by intro x; simp [Av]
 have e : Loop (Av v) (0, 0) = some ((if 0 < v.so then 1 else 0) + (if v.so = v.of_ then 1 else 0)) := by
  rw [Loop.step h2, Loop.step (h3 _ (by by_cases h : 0 < v.so <;> simp [h])), Loop.done (h4 _)]
 simp only [B8, e, Option.bind_some]
theorem nC {b : VoiceBook} (h : FZ b = true) {boy : Int} (hb : 0 ≤ boy ∧ boy < b.Boys.l.length) : 0 < (tlAt b boy).length := by
 have := List.all_eq_true.mp h boy (gr.mpr hb)
 cases hh : tlAt b boy with
 | nil => rw [hh] at this; simp at this
 | cons t l => simp
def isQ (b : VoiceBook) (boy week note : Int) : Bool := CZ b boy && (B0 b week && BP note)
def IO (b : VoiceBook) (q : Bool) : Int := if vOk b then (if q then (if FZ b then 0 else 22) else 21) else 20
theorem UK {b : VoiceBook} (hv : dw b) (boy : Int) : CZ b boy = true ↔ 0 ≤ boy ∧ boy < b.Boys.l.length := by
 have h1 := hv.boys
 simp only [CZ, Ab, Sl.len_l, Bool.and_eq_true, decide_eq_true_eq]
 rw [LY (by omega) (by omega)]; omega
theorem RO {b : VoiceBook} (hv : dw b) (week : Int) : B0 b week = true ↔ 0 ≤ week ∧ week < b.Weeks := by
 have h1 := hv.weeks
 simp only [B0, Ab, Bool.and_eq_true, decide_eq_true_eq]
 rw [LY (by omega) (by omega)]; omega
theorem Ni {b : VoiceBook} (hf : Wz b) (boy week note : Int) : EK b boy week note = some (if IO b (isQ b boy week note) = 0 then (Gz b boy week note, 0) else (0, IO b (isQ b boy week note))) := by
 have e : (if (CZ b boy) then if (B0 b week) then Option.bind (B9 b (BP note)) fun v4 => some (v4.1, v4.2) else Option.bind (B9 b false) fun v6 => some (v6.1, v6.2) else Option.bind (B9 b false) fun v8 => some (v8.1, v8.2) : Option (AA × Int)) = B9 b (isQ b boy week note) := by
  have hs : ∀ o : Option (AA × Int), (o.bind fun v => some (v.1, v.2)) = o := by intro o; cases o <;> rfl
  simp only [hs, isQ]
  cases CZ b boy <;> cases B0 b week <;> simp
 simp only [EK, e]
 obtain ⟨bk, he, h2⟩ := YT hf (isQ b boy week note)
 rw [he, Option.bind_some]
 simp only [IO]
 by_cases hok : vOk b = true
 case neg => simp [hok]
 case pos =>
  have hv := D1 hf hok
  by_cases hq : isQ b boy week note = true
  case neg => simp [hok, hq]
  case pos =>
   by_cases hfi : FZ b = true
   case neg => simp [hok, hq, hfi]
   case pos =>
    simp only [hok, hq, hfi, if_true]
    obtain ⟨es, rfl, hes⟩ := h2 hok hq
    simp only [isQ, Bool.and_eq_true] at hq
    obtain ⟨hq1, hq2, _⟩ := hq
    rw [UK hv] at hq1
    rw [RO hv] at hq2
    have hpos := nC hfi hq1
    simp only [if_true, decide_true, rn hv hes hq1 hq2, Option.bind_some, qV, Gz]
    congr 2
    by_cases h0 : cn b boy week note = 0
    ·rw [h0]
     have : ¬ ((0 : Nat) : Int) = ((tlAt b boy).length : Int) := by omega
     simp [this]
     omega
    ·have h1 : (0 : Int) < (cn b boy week note : Int) := by omega
     rw [if_pos h1, if_neg h0]
     by_cases h2 : cn b boy week note = (tlAt b boy).length
     ·rw [if_pos h2, if_pos (by omega)]; rfl
     ·rw [if_neg h2, if_neg (by omega)]; rfl
end
end Go.Lf
