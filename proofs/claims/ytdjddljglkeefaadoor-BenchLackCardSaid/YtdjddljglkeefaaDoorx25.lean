/- A part of the proof. -/
import Derived.Test.YtdjddljglkeefaaDoorx24
set_option linter.all false
namespace Go.Lf
open Go
noncomputable section
def FZ (b : VoiceBook) (boy : Int) : List T5 := match b.Boys.ix boy with
 | some x => tl b boy x
 | none => []
def Wu (b : VoiceBook) (boy : Int) : Int := match b.Boys.ix boy with
 | some x => x.Loss
 | none => 0
abbrev vc := List (List Int × Sl (Ar 5 Int))
def Wh (es : vc) (F : Int → Int → List T5) : Prop := ∀ i w, (NY Sl.nil es [i, w]).warm ∧ (NY Sl.nil es [i, w]).l = (F i w).map T5.ar
structure fP (b : VoiceBook) : Prop where
 few : tL b
 boys : b.Boys.l.length ≤ 4 ∧ 1 ≤ b.Boys.l.length
 weeks : 1 ≤ b.Weeks ∧ b.Weeks ≤ 6
 trials : b.Trials.l.length ≤ 6
 boy : ∀ x ∈ b.Boys.l, iG x
theorem MR {b : VoiceBook} (hf : tL b) (h : vOk b = true) : fP b := by
 simp only [vOk, VA, Ah, Bool.and_eq_true, decide_eq_true_eq] at h
 obtain ⟨⟨h1, h2, h3⟩, h4, h5⟩ := h
 have e1 := Sl.len_l b.Boys
 have e2 := Sl.len_l b.Trials
 exact ⟨hf, by omega, h2, by omega, fun x hx => rC (List.all_eq_true.mp h4 x hx)⟩
theorem CN {α : Type} {x : Sl α} {i : Int} {a : α} (h : x.ix i = some a) : 0 ≤ i ∧ i < x.l.length ∧ a ∈ x.l := by
 unfold Sl.ix at h
 split at h
 ·obtain ⟨h1, h2⟩ := List.getElem?_eq_some_iff.mp h
  exact ⟨by assumption, by omega, by rw [← h2]; exact List.getElem_mem _⟩
 ·cases h
theorem QI {α : Type} {x : Sl α} {i : Int} (h0 : 0 ≤ i) (h : i < x.l.length) : ∃ a, x.ix i = some a ∧ a ∈ x.l := by
 have hl : i.toNat < x.l.length := by omega
 exact ⟨x.l[i.toNat], by simp [Sl.ix, h0, hl], List.getElem_mem _⟩
theorem VS {b : VoiceBook} (hv : fP b) (boy : Int) : (FZ b boy).length ≤ 2000000 := by
 unfold FZ
 split
 ·rename_i x hx
  exact wF b boy (hv.boy x (CN hx).2.2)
 ·simp
theorem qC {boy : Int} (hb : 0 ≤ boy) {t : T5} {n : Int} (hn : n ≤ 6) {es : vc} {F : Int → Int → List T5} (h : Wh es F) (hfew : ∀ i w, (F i w).length ≤ 900000000) :
  ∃ es', Wh es' (fun i w => if i = boy ∧ 0 ≤ w ∧ w < n then F i w ++ [t] else F i w) ∧ Loop (Db boy t.ar n) (es, 0) = some es' := by
 have key : ∀ (es : vc) (w : Int), Db boy t.ar n (es, w) = if w < n then Option.bind (Sl.app 40 (NY Sl.nil es [boy, w]) [t.ar]) fun v => some (.inl (Ei es [boy, w] v, W (w + 1))) else some (.inr es) := by
  intro es w
  have hk : decide (Bm.key (Ad.mk boy w) = Bm.key (Ad.mk (-1) (-1))) = false := by
   rw [decide_eq_false_iff_not]
   intro e
   have : ([boy, w] : List Int) = [-1, -1] := e
   simp at this; omega
  simp only [Db, hk, Bool.false_eq_true, if_false, decide_eq_true_eq]
  rfl
 obtain ⟨r, hr, he⟩ := J0 (f := Db boy t.ar n) (fun es i => (es, i)) (idx n.toNat) (fun pre es' => Wh es' (fun i w => if i = boy ∧ 0 ≤ w ∧ w < pre.length then F i w ++ [t] else F i w)) (fun es' => Wh es' (fun i w => if i = boy ∧ 0 ≤ w ∧ w < n then F i w ++ [t] else F i w)) (x0 := (es, 0)) (t0 := es) (by rw [AU]; omega) rfl (by
   intro i w
   have := h i w
   dsimp only
   simp only [List.length_nil]
   rw [if_neg (by omega)]
   exact this) (by
   intro pre a post es1 hx hi hW
   obtain ⟨ha, hlt⟩ := Jm hx
   obtain ⟨hw, hl⟩ := hi boy pre.length
   dsimp only at hl
   rw [if_neg (by omega)] at hl
   have hlen : (NY Sl.nil es1 [boy, (pre.length : Int)]).l.length + ([t.ar] : List (Ar 5 Int)).length ≤ 1000000000 := by
    rw [hl]; simp; have := hfew boy pre.length; omega
   refine ⟨Ei es1 [boy, (pre.length : Int)] (.hot ((F boy pre.length ++ [t]).map T5.ar)), ?_, ?_⟩
   ·intro i w
    rw [b6]
    by_cases hiw : i = boy ∧ w = pre.length
    ·obtain ⟨rfl, rfl⟩ := hiw
     dsimp only
     rw [if_pos rfl, if_pos ⟨rfl, by omega, by rw [List.length_append]; simp; omega⟩]
     exact ⟨Sl.warm_hot _, rfl⟩
    ·rw [if_neg (by simp; omega)]
     have := hi i w
     dsimp only at this ⊢
     by_cases h2 : i = boy ∧ 0 ≤ w ∧ w < pre.length
     ·rw [if_pos h2] at this; rw [if_pos (by simp; omega)]; exact this
     ·rw [if_neg h2] at this; rw [if_neg (by simp; omega)]; exact this
   ·rw [key, if_pos (by omega), Sl.app_warm hw (by simp) (BU hlen (by omega)), Option.bind_some, hW, hl]
    simp) (by
   intro es1 hi
   refine ⟨es1, ?_, ?_⟩
   ·intro i w
    have := hi i w
    dsimp only at this ⊢
    rw [AU] at this
    by_cases h2 : i = boy ∧ 0 ≤ w ∧ w < n
    ·rw [if_pos (by omega)] at this; rw [if_pos h2]; exact this
    ·rw [if_neg (by omega)] at this; rw [if_neg h2]; exact this
   ·rw [key, AU, if_neg (by omega)])
 exact ⟨r, hr, he⟩
theorem aI {b : VoiceBook} (hw : 1 ≤ b.Weeks ∧ b.Weeks ≤ 6) {boy : Int} (hb : 0 ≤ boy) : ∀ (l : List T5) (acc : List T5) (es : vc) (F : Int → Int → List T5), Wh es F → (∀ i w, (F i w).length + l.length ≤ 900000000) → acc.length + l.length ≤ 900000000 →
  ∃ es', Wh es' (fun i w => if i = boy ∧ 0 ≤ w ∧ w < b.Weeks then F i w ++ l.filter (fun t => decide (w < t.br)) else F i w) ∧
   Sj (zr (FK b boy)) (l.map T5.ar) (.inl (Sl.grow (acc.map T5.ar), es)) = some (true, .inl (Sl.grow ((acc ++ l).map T5.ar), es'))
 | [], acc, es, F, h, _, _ => by
  refine ⟨es, ?_, by simp [Sj]⟩
  intro i w
  have := h i w
  simpa using this
 | t :: l, acc, es, F, h, hf, hacc => by
  have hmin : min b.Weeks t.br ≤ 6 := by omega
  obtain ⟨es1, h1, he⟩ := qC (t := t) hb hmin h (fun i w => by have := hf i w; omega)
  have happ : Sl.app 40 (Sl.grow (acc.map T5.ar)) [t.ar] = some (Sl.grow ((acc ++ [t]).map T5.ar)) := by
   rw [Sl.app_grow (by simp) (BU (by simp at hacc ⊢; omega) (by omega))]; simp
  obtain ⟨es', h2, h3⟩ := aI hw hb l (acc ++ [t]) es1 _ h1 (by
   intro i w
   have := hf i w
   simp only [List.length_cons] at this
   split
   ·simp; omega
   ·omega) (by simp at hacc ⊢; omega)
  refine ⟨es', ?_, ?_⟩
  ·intro i w
   obtain ⟨g1, g2⟩ := h2 i w
   refine ⟨g1, g2.trans ?_⟩
   congr 1
   dsimp only
   by_cases hc : i = boy ∧ 0 ≤ w ∧ w < b.Weeks
   ·rw [if_pos hc, if_pos hc]
    simp only [List.filter_cons]
    by_cases hbr : w < t.br
    ·rw [if_pos ⟨hc.1, hc.2.1, by omega⟩, if_pos (by simpa using hbr)]; simp
    ·rw [if_neg (by omega), if_neg (by simpa using hbr)]
   ·rw [if_neg hc, if_neg hc, if_neg (by omega)]
  ·have h4 : t.ar.ix 4 = some t.br := rfl
   simp only [List.map_cons, Sj, zr, FK, happ, Option.bind_some, h4, qS, he]
   simpa using h3
theorem dj {b : VoiceBook} (hv : fP b) : ∃ es, Wh es (fun i w => if 0 ≤ w ∧ w < b.Weeks then (FZ b i).filter (fun t => decide (w < t.br)) else []) ∧
  Gi b (Sl.nil : Sl Int) = some ⟨b, Sl.grow ((idx b.Boys.l.length).map fun i => Sl.grow ((FZ b i).map T5.ar)), Mp.mk es⟩ := by
 have hlen := hv.boys.1
 obtain ⟨r, ⟨es, hr, rfl⟩, he⟩ := J0 (f := EM b (Sl.nil : Sl Int)) (fun (t : AA × vc) i => (t.1, t.2, i)) b.Boys.l
  (fun pre t => t.1 = ⟨b, Sl.grow ((idx pre.length).map fun i => Sl.grow ((FZ b i).map T5.ar)), Mp.nil⟩ ∧ Wh t.2 (fun i w => if i < pre.length ∧ 0 ≤ w ∧ w < b.Weeks then (FZ b i).filter (fun t => decide (w < t.br)) else []))
  (fun r => ∃ es, Wh es (fun i w => if 0 ≤ w ∧ w < b.Weeks then (FZ b i).filter (fun t => decide (w < t.br)) else []) ∧ r = (⟨b, Sl.grow ((idx b.Boys.l.length).map fun i => Sl.grow ((FZ b i).map T5.ar)), Mp.nil⟩, es))
  (x0 := (⟨b, Sl.nil, Mp.nil⟩, [], 0)) (t0 := (⟨b, Sl.nil, Mp.nil⟩, [])) hv.few.boys rfl (by
   refine ⟨rfl, ?_⟩
   intro i w
   refine ⟨Sl.warm_nil, ?_⟩
   have e : (NY (Sl.nil : Sl (Ar 5 Int)) ([] : vc) [i, w]).l = [] := rfl
   rw [e]
   dsimp only
   split
   ·rename_i h
    simp only [List.length_nil] at h
    have : b.Boys.ix i = none := by unfold Sl.ix; rw [if_neg (by omega)]
    simp [FZ, this]
   ·rfl) (by
   rintro pre x post ⟨bk, es⟩ hx ⟨rfl, hwh⟩ hW
   have hix : b.Boys.ix pre.length = some x := Sl.ix_at hx
   have hxo : iG x := hv.boy x (by rw [hx]; simp)
   have htl : FZ b pre.length = tl b pre.length x := by simp [FZ, hix]
   have hle : pre.length < b.Boys.l.length := by rw [hx]; simp
   obtain ⟨es', h1, h2⟩ := aI (b := b) hv.weeks (boy := pre.length) (by omega) (FZ b pre.length) [] es _ hwh (by
    intro i w
    have h1 := VS hv i
    have h2 := VS hv pre.length
    split
    ·have := List.length_filter_le (fun t : T5 => decide (w < t.br)) (FZ b i); omega
    ·simp; omega) (by have := VS hv pre.length; simp; omega)
   simp only [List.map_nil, List.nil_append] at h2
   have hg : Sl.grow ([] : List (Ar 5 Int)) = Sl.nil := rfl
   rw [hg, htl] at h2
   have hvg := nr (yf := zr (FK b pre.length)) (bk := ⟨b, Sl.grow ((idx pre.length).map fun i => Sl.grow ((FZ b i).map T5.ar)), Mp.nil⟩) hv.few.trials hix hxo h2
   have hsz : ((idx pre.length).map fun i => Sl.grow ((FZ b i).map T5.ar)).length + ([Sl.grow ((FZ b pre.length).map T5.ar)] : List (Sl (Ar 5 Int))).length ≤ 1000000000 := by
    simp [AU]; omega
   have hidx : idx (pre ++ [x]).length = idx pre.length ++ [(pre.length : Int)] := by
    simp [idx, List.range_succ]
   refine ⟨(⟨b, Sl.grow ((idx (pre ++ [x]).length).map fun i => Sl.grow ((FZ b i).map T5.ar)), Mp.nil⟩, es'), ⟨rfl, ?_⟩, ?_⟩
   ·intro i w
    obtain ⟨g1, g2⟩ := h1 i w
    refine ⟨g1, g2.trans ?_⟩
    congr 1
    dsimp only
    by_cases hi : i = pre.length
    ·subst hi
     by_cases hc : 0 ≤ w ∧ w < b.Weeks
     ·rw [if_pos ⟨rfl, hc⟩, if_neg (by omega), if_pos (by simp; omega)]; simp
     ·rw [if_neg (by omega), if_neg (by omega), if_neg (by omega)]
    ·rw [if_neg (by omega)]
     by_cases hc : i < pre.length ∧ 0 ≤ w ∧ w < b.Weeks
     ·rw [if_pos hc, if_pos (by simp; omega)]
     ·rw [if_neg hc, if_neg (by simp; omega)]
   ·have hlt : (pre.length : Int) < b.Boys.len := by rw [Sl.len_l]; omega
    simp only [EM, decide_eq_true hlt, if_true, hvg, Option.bind_some, Sl.grow_unf, hW]
    rw [← htl, Sl.app_grow (by simp) (BU hsz (by omega)), Option.bind_some, hidx]
    simp) (by
   rintro ⟨bk, es⟩ ⟨rfl, hwh⟩
   refine ⟨_, ⟨es, ?_, rfl⟩, ?_⟩
   ·intro i w
    obtain ⟨g1, g2⟩ := hwh i w
    refine ⟨g1, g2.trans ?_⟩
    congr 1
    dsimp only
    by_cases hc : 0 ≤ w ∧ w < b.Weeks
    ·rw [if_pos hc]
     by_cases hi : i < b.Boys.l.length
     ·rw [if_pos ⟨hi, hc⟩]
     ·rw [if_neg (by omega)]
      have : b.Boys.ix i = none := by
       unfold Sl.ix
       split
       ·rw [List.getElem?_eq_none]; omega
       ·rfl
      simp [FZ, this]
    ·rw [if_neg hc, if_neg (by omega)]
   ·have hlt : ¬ (b.Boys.l.length : Int) < b.Boys.len := by rw [Sl.len_l]; omega
    simp only [EM, decide_eq_false hlt, Bool.false_eq_true, if_false])
 refine ⟨es, hr, ?_⟩
 simp only [Gi, he, Option.bind_some]
end
end Go.Lf
namespace Go.Lf
open Go
noncomputable section
def JU (b : VoiceBook) : Bool := (idx b.Boys.l.length).all fun i => !(FZ b i).isEmpty
def many (b : VoiceBook) (boy week note : Int) : Nat := (FZ b boy).countP fun t => eL (Wu b boy) t week note
def K7 (b : VoiceBook) (boy week note : Int) : Int := if many b boy week note = 0 then 0 else if many b boy week note = (FZ b boy).length then 2 else 1
theorem O7 {α : Type} (xs : List α) : (Sl.grow xs).len = xs.length := by rw [Sl.len_l, Sl.l_grow]
theorem iH {b : VoiceBook} (h4 : b.Boys.l.length ≤ 4) {m : Mp 2 (Sl (Ar 5 Int))} : DU ⟨b, Sl.grow ((idx b.Boys.l.length).map fun i => Sl.grow ((FZ b i).map T5.ar)), m⟩ = some (JU b) := by
 have e : Loop (Ba (Sl.grow ((idx b.Boys.l.length).map fun i => Sl.grow ((FZ b i).map T5.ar)))) 0 = some ((idx b.Boys.l.length).findSome? (fun i => if (FZ b i).isEmpty then some (.inl i : Int ⊕ Unit) else none) |>.getD (.inr ())) := by
  refine Loop.find (fun i => i) (idx b.Boys.l.length) _ (by rw [AU]; omega) rfl ?_ ?_
  ·intro pre a post h _ hW
   obtain ⟨ha, hlt⟩ := Jm h
   have hl : (Sl.grow ((idx b.Boys.l.length).map fun i => Sl.grow ((FZ b i).map T5.ar))).l = (pre.map fun i => Sl.grow ((FZ b i).map T5.ar)) ++ Sl.grow ((FZ b a).map T5.ar) :: (post.map fun i => Sl.grow ((FZ b i).map T5.ar)) := by
    rw [Sl.l_grow, h]; simp
   have hix := Sl.ix_at hl
   rw [List.length_map] at hix
   have hlen : (pre.length : Int) < (Sl.grow ((idx b.Boys.l.length).map fun i => Sl.grow ((FZ b i).map T5.ar))).len := by
    rw [O7]; simp [AU]; omega
   have hl0 : (Sl.grow ((FZ b a).map T5.ar)).len = ((FZ b a).length : Int) := by rw [O7]; simp
   simp only [Ba, decide_eq_true hlen, if_true, hix, Option.bind_some, F5, hl0, hW]
   cases hh : FZ b a with
   | nil => simp [ha]
   | cons t l =>
    have : ¬ (((t :: l).length : Nat) : Int) = 0 := by simp; omega
    simp; omega
  ·intro _
   have hlen : ¬ (((idx b.Boys.l.length).length : Nat) : Int) < (Sl.grow ((idx b.Boys.l.length).map fun i => Sl.grow ((FZ b i).map T5.ar))).len := by
    rw [O7]; simp
   simp only [Ba, decide_eq_false hlen, Bool.false_eq_true, if_false]
 simp only [DU, DK, EK, e, Option.bind_some]
 have main : ∀ l : List Int, (∀ i ∈ l, 0 ≤ i) → (match ((l.findSome? (fun i => if (FZ b i).isEmpty then some (.inl i : Int ⊕ Unit) else none)).getD (.inr ())) with | .inl w2 => some w2 | .inr _ => some (-1)).bind (fun v1 => (some (decide (0 ≤ v1))).bind fun v2 => some (!v2)) = some (l.all fun i => !(FZ b i).isEmpty) := by
  intro l
  induction l with
  | nil => intro _; rfl
  | cons i l ih =>
   intro h
   have hi := h i List.mem_cons_self
   simp only [List.findSome?_cons, List.all_cons]
   cases hh : (FZ b i).isEmpty with
   | true => simp [hi]
   | false => simpa using ih fun j hj => h j (List.mem_cons_of_mem _ hj)
 have := main (idx b.Boys.l.length) fun i hi => (D9.mp hi).1
 simp only [JU]
 rw [← this]
 cases (Option.getD (List.findSome? (fun i => if (FZ b i).isEmpty = true then some (Sum.inl i : Int ⊕ Unit) else none) (idx b.Boys.l.length)) (Sum.inr ())) <;> rfl
theorem Kv {b : VoiceBook} (hf : tL b) : GX b = some (if vOk b then (JU b, 0) else (false, 20)) := by
 simp only [GX, ID hf, Option.bind_some]
 cases h : vOk b with
 | false => rfl
 | true =>
  obtain ⟨es, _, he⟩ := dj (MR hf h)
  simp only [if_true, decide_true, he, Option.bind_some, iH (MR hf h).boys.1]
theorem Yp {b : VoiceBook} (hf : tL b) (q : Bool) : ∃ bk, DX b q = some (bk, if vOk b then (if q then (if JU b then 0 else 22) else 21) else 20) ∧
  (vOk b = true → q = true → ∃ es, bk = ⟨b, Sl.grow ((idx b.Boys.l.length).map fun i => Sl.grow ((FZ b i).map T5.ar)), Mp.mk es⟩ ∧ Wh es (fun i w => if 0 ≤ w ∧ w < b.Weeks then (FZ b i).filter (fun t => decide (w < t.br)) else [])) := by
 simp only [DX, ID hf, Option.bind_some]
 cases h : vOk b with
 | false => exact ⟨_, rfl, by simp⟩
 | true =>
  simp only [if_true, decide_true]
  cases q with
  | false => exact ⟨_, rfl, by simp⟩
  | true =>
   obtain ⟨es, h1, he⟩ := dj (MR hf h)
   simp only [if_true, he, Option.bind_some, iH (MR hf h).boys.1]
   cases JU b with
   | true => exact ⟨_, rfl, fun _ _ => ⟨es, rfl, h1⟩⟩
   | false => exact ⟨_, rfl, fun _ _ => ⟨es, rfl, h1⟩⟩
theorem vK {b : VoiceBook} (hv : fP b) {boy : Int} {t : T5} (h : t ∈ FZ b boy) : 0 ≤ t.lo := by
 unfold FZ at h
 split at h
 ·rename_i x hx
  have ho := hv.boy x (CN hx).2.2
  simp only [tl, List.mem_flatMap] at h
  obtain ⟨lo, hlo, hi, _, ga, _, tu, _, h⟩ := h
  obtain ⟨h1, _⟩ := List.mem_filter.mp h
  obtain ⟨br, _, rfl⟩ := List.mem_map.mp h1
  have := (Ii.mp hlo).1
  have := ho.low.1.1
  simp only
  omega
 ·cases h
theorem tU {b : VoiceBook} (hv : fP b) {es : vc} (hes : Wh es (fun i w => if 0 ≤ w ∧ w < b.Weeks then (FZ b i).filter (fun t => decide (w < t.br)) else [])) {boy week note : Int} (hb : 0 ≤ boy ∧ boy < b.Boys.l.length) (hw : 0 ≤ week ∧ week < b.Weeks) :
  En ⟨b, Sl.grow ((idx b.Boys.l.length).map fun i => Sl.grow ((FZ b i).map T5.ar)), Mp.mk es⟩ boy week note = some ⟨many b boy week note, (FZ b boy).length⟩ := by
 obtain ⟨x, hx, hxm⟩ := QI hb.1 hb.2
 have hloss : Wu b boy = x.Loss := by simp [Wu, hx]
 have hwl := (hes boy week).2
 dsimp only at hwl
 rw [if_pos hw] at hwl
 have hfew := VS hv boy
 have hgl : (Mp.get (Mp.mk es : Mp 2 (Sl (Ar 5 Int))) (Bm.key (Ad.mk boy week))).getD Sl.nil = NY Sl.nil es [boy, week] := uQ _ _ _
 have htr : (Sl.grow ((idx b.Boys.l.length).map fun i => Sl.grow ((FZ b i).map T5.ar))).ix boy = some (Sl.grow ((FZ b boy).map T5.ar)) := by
  unfold Sl.ix
  rw [if_pos hb.1, Sl.l_grow, List.getElem?_map]
  have : (idx b.Boys.l.length)[boy.toNat]? = some boy := by
   simp only [idx, List.getElem?_map]
   rw [List.getElem?_range (by omega)]
   simp; omega
  rw [this]; rfl
 have hcnt : ∀ l : List T5, (l.filter fun t => decide (week < t.br)).countP (fun t => eL x.Loss t week note) = l.countP fun t => eL x.Loss t week note := by
  intro l
  rw [List.countP_filter]
  apply List.countP_congr
  intro t _
  simp only [eL, Bool.and_eq_true, decide_eq_true_eq]
  constructor
  ·exact fun h => h.1
  ·exact fun h => ⟨h, h.1⟩
 have e : Loop (CJ ⟨b, Sl.grow ((idx b.Boys.l.length).map fun i => Sl.grow ((FZ b i).map T5.ar)), Mp.mk es⟩ boy week note) (⟨0, (FZ b boy).length⟩, 0) = some ⟨many b boy week note, (FZ b boy).length⟩ := by
  refine Dw (fun t i => (t, i)) ((FZ b boy).filter fun t => decide (week < t.br)) (fun pre => (⟨(pre.countP fun t => eL x.Loss t week note : Nat), (FZ b boy).length⟩ : Ak)) ?_ rfl ?_ ?_
  ·have := List.length_filter_le (fun t : T5 => decide (week < t.br)) (FZ b boy); omega
  ·intro pre t post h hW
   have hl : (NY Sl.nil es [boy, week]).l = pre.map T5.ar ++ t.ar :: post.map T5.ar := by rw [hwl, h]; simp
   have hix := Sl.ix_at hl
   rw [List.length_map] at hix
   have hlen : (pre.length : Int) < (NY Sl.nil es [boy, week]).len := by rw [Sl.len_l, hl]; simp; omega
   have htm : t ∈ FZ b boy := by
    have : t ∈ (FZ b boy).filter fun t => decide (week < t.br) := by rw [h]; simp
    exact (List.mem_filter.mp this).1
   have hlo := vK hv htm
   have hle : pre.length ≤ 2000000 := by
    have h1 := List.length_filter_le (fun t : T5 => decide (week < t.br)) (FZ b boy)
    rw [h] at h1; simp at h1; omega
   have hcle := List.countP_le_length (p := fun t => eL x.Loss t week note) (l := pre)
   simp only [CJ, hgl, decide_eq_true hlen, if_true, hix, Option.bind_some]
   rw [uB (b := ⟨b, _, _⟩) hx t (by omega), Option.bind_some, hW]
   by_cases hc : eL x.Loss t week note = true
   case pos =>
    have : W (((pre.countP fun t => eL x.Loss t week note : Nat) : Int) + 1) = ((pre.countP fun t => eL x.Loss t week note : Nat) : Int) + 1 := Jc (by omega)
    simp [this, hc]
   case neg => simp [hc]
  ·have hlen : ¬ ((((FZ b boy).filter fun t => decide (week < t.br)).length : Nat) : Int) < (NY Sl.nil es [boy, week]).len := by
    rw [Sl.len_l, hwl]; simp
   simp only [CJ, hgl, decide_eq_false hlen, Bool.false_eq_true, if_false, hcnt, many, hloss]
 have hl0 : (Sl.grow ((FZ b boy).map T5.ar)).len = ((FZ b boy).length : Int) := by rw [O7]; simp
 simp only [En, htr, Option.bind_some, hl0, e]
theorem sU (v : Ak) : EL v = some ((if 0 < v.so then 1 else 0) + (if v.so = v.of_ then 1 else 0)) := by
 have h2 : A8 v (0, 0) = some (.inl ((if 0 < v.so then 1 else 0), 1)) := by
  have ht : wX 0 = some false := rfl
  have hw : W (0 + 1) = 1 := by decide
  simp only [A8, ht, Option.bind_some, GQ, hw]
  by_cases h : 0 < v.so <;> simp [h]
 have h3 : ∀ x : Int, x = 0 ∨ x = 1 → A8 v (x, 1) = some (.inl (x + (if v.so = v.of_ then 1 else 0), 2)) := by
  intro x hx
  have ht : wX 1 = some true := rfl
  have hw : W (1 + 1) = 2 := by decide
  have hwx : W (x + 1) = x + 1 := by rcases hx with rfl | rfl <;> decide
  simp only [A8, ht, Option.bind_some, GM, hw, hwx]
  by_cases h : v.so = v.of_ <;> simp [h]
 have h4 : ∀ x : Int, A8 v (x, 2) = some (.inr x) := by intro x; simp [A8]
 have e : Loop (A8 v) (0, 0) = some ((if 0 < v.so then 1 else 0) + (if v.so = v.of_ then 1 else 0)) := by
  rw [Loop.step h2, Loop.step (h3 _ (by by_cases h : 0 < v.so <;> simp [h])), Loop.done (h4 _)]
 simp only [EL, e, Option.bind_some]
theorem gA {b : VoiceBook} (h : JU b = true) {boy : Int} (hb : 0 ≤ boy ∧ boy < b.Boys.l.length) : 0 < (FZ b boy).length := by
 have := List.all_eq_true.mp h boy (D9.mpr hb)
 cases hh : FZ b boy with
 | nil => rw [hh] at this; simp at this
 | cons t l => simp
def zu (b : VoiceBook) (boy week note : Int) : Bool := Eg b boy && (Dq b week && EX note)
def SN (b : VoiceBook) (q : Bool) : Int := if vOk b then (if q then (if JU b then 0 else 22) else 21) else 20
theorem gv {b : VoiceBook} (hv : fP b) (boy : Int) : Eg b boy = true ↔ 0 ≤ boy ∧ boy < b.Boys.l.length := by
 have h1 := hv.boys
 simp only [Eg, Ah, Sl.len_l, Bool.and_eq_true, decide_eq_true_eq]
 rw [J9 (by omega) (by omega)]; omega
theorem Zm {b : VoiceBook} (hv : fP b) (week : Int) : Dq b week = true ↔ 0 ≤ week ∧ week < b.Weeks := by
 have h1 := hv.weeks
 simp only [Dq, Ah, Bool.and_eq_true, decide_eq_true_eq]
 rw [J9 (by omega) (by omega)]; omega
theorem YR {b : VoiceBook} (hf : tL b) (boy week note : Int) : JO b boy week note = some (if SN b (zu b boy week note) = 0 then (K7 b boy week note, 0) else (0, SN b (zu b boy week note))) := by
 have e : (if (Eg b boy) then if (Dq b week) then Option.bind (DX b (EX note)) fun v4 => some (v4.1, v4.2) else Option.bind (DX b false) fun v6 => some (v6.1, v6.2) else Option.bind (DX b false) fun v8 => some (v8.1, v8.2) : Option (AA × Int)) = DX b (zu b boy week note) := by
  have hs : ∀ o : Option (AA × Int), (o.bind fun v => some (v.1, v.2)) = o := by intro o; cases o <;> rfl
  simp only [hs, zu]
  cases Eg b boy <;> cases Dq b week <;> simp
 simp only [JO, e]
 obtain ⟨bk, he, h2⟩ := Yp hf (zu b boy week note)
 rw [he, Option.bind_some]
 simp only [SN]
 by_cases hok : vOk b = true
 case neg => simp [hok]
 case pos =>
  have hv := MR hf hok
  by_cases hq : zu b boy week note = true
  case neg => simp [hok, hq]
  case pos =>
   by_cases hfi : JU b = true
   case neg => simp [hok, hq, hfi]
   case pos =>
    simp only [hok, hq, hfi, if_true]
    obtain ⟨es, rfl, hes⟩ := h2 hok hq
    simp only [zu, Bool.and_eq_true] at hq
    obtain ⟨hq1, hq2, _⟩ := hq
    rw [gv hv] at hq1
    rw [Zm hv] at hq2
    have hpos := gA hfi hq1
    simp only [if_true, decide_true, tU hv hes hq1 hq2, Option.bind_some, sU, K7]
    congr 2
    by_cases h0 : many b boy week note = 0
    ·rw [h0]
     have : ¬ ((0 : Nat) : Int) = ((FZ b boy).length : Int) := by omega
     simp [this]
     omega
    ·have h1 : (0 : Int) < (many b boy week note : Int) := by omega
     rw [if_pos h1, if_neg h0]
     by_cases h2 : many b boy week note = (FZ b boy).length
     ·rw [if_pos h2, if_pos (by omega)]; rfl
     ·rw [if_neg h2, if_neg (by omega)]; rfl
end
end Go.Lf
