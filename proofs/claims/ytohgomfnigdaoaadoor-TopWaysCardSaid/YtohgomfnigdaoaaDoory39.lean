/- A part of the proof. -/
import Derived.Test.YtohgomfnigdaoaaDoory38
set_option linter.all false
namespace Go.Lf
open Go Go.Lf.Pl
noncomputable section
theorem lH {b : VoiceBook} (hf : dU b) : IG b = some (vOk b && HI b) := by
 unfold IG
 rw [P6 hf, BV, IR hf]
 cases hv : vOk b with
 | false => rfl
 | true =>
  have h := hv
  simp only [vOk, Ze, Bool.and_eq_true] at h
  have h1 : CU b.Boys.len 1 4 = true := h.1.1
  have h2 : CU b.Weeks 1 6 = true := h.1.2.1
  cases HI b with
  | false => rfl
  | true => simp [h1, h2]
theorem kO (n m : Int) : ∃ s, IL n m = some s ∧ G5 s := by
 obtain ⟨r, h1, h2, h3⟩ := YR (n := n) (m := 38) (by omega) (by omega)
 obtain ⟨q, g1, g2, g3⟩ := YR (n := m) (m := 3) (by omega) (by omega)
 refine ⟨⟨r, r + q⟩, ?_, by simp only [G5]; omega⟩
 unfold IL
 rw [h1, BV, g1, BV, TK (by omega) (by omega)]
 rfl
def mkp (q : Int × BS) : AK := ⟨q.1, Sl.cold [⟨q.2, 1⟩]⟩
def EB (b : VoiceBook) (qs : List (Int × BS)) : BenchBook := ⟨b, Sl.grow (qs.map mkp), 3⟩
theorem oD (b : VoiceBook) (ws : Sl Int) (ps : Sl BS) (hl : ws.l.length = ps.l.length) (h3 : ps.l.length ≤ 3) : CQ b ws ps = some (EB b (ws.l.zip ps.l)) := by
 have e : Loop (Ew ws ps) ((BenchBook.mk b (Sl.nil : (Sl AK)) 3), 0) = some (EB b (ws.l.zip ps.l)) := by
  refine FV (fun t i => (t, i)) (ws.l.zip ps.l) (fun pre => EB b pre) (by rw [List.length_zip]; omega) rfl ?_ ?_
  ·intro pre a post hx hW
   have hlen : pre.length < ps.l.length := by
    have := congrArg List.length hx
    rw [List.length_zip] at this; simp at this; omega
   have hlt : (pre.length : Int) < ps.len := by rw [Sl.len_l]; omega
   have hz : (ws.l.zip ps.l)[pre.length]? = some a := by rw [hx]; simp
   rw [List.getElem?_zip_eq_some] at hz
   have h1 : ws.ix pre.length = some a.1 := by rw [Sl.ix_nat]; exact hz.1
   have h2 : ps.ix pre.length = some a.2 := by rw [Sl.ix_nat]; exact hz.2
   have hr : (pre.map mkp).length + ([mkp a] : List AK).length ≤ 1000000000 := by simp; omega
   have ha := Sl.app_grow (q := 32) (xs := pre.map mkp) (ys := [mkp a]) (List.cons_ne_nil _ _) (Bl hr (by omega))
   have ha' : Sl.app 32 (EB b pre).Pieces.unf [AK.mk a.1 (Sl.cold [A7.mk a.2 1])] = some (Sl.grow ((pre ++ [a]).map mkp)) := by
    show Sl.app 32 (Sl.grow (pre.map mkp)).unf [mkp a] = _
    rw [Sl.grow_unf, ha]; simp
   simp only [Ew, decide_eq_true hlt, if_true, h1, h2, BV, ha', hW]
   rfl
  ·have hlt : ¬ ((ws.l.zip ps.l).length : Int) < ps.len := by rw [Sl.len_l, List.length_zip]; omega
   simp only [Ew, decide_eq_false hlt, Bool.false_eq_true, if_false]
 simp only [CQ, e, BV]
section
variable {b : VoiceBook} (hf : dU b) (hok : vOk b = true) {qs : List (Int × BS)} (h1 : 1 ≤ qs.length) (h3 : qs.length ≤ 3) (hq : ∀ q ∈ qs, (0 ≤ q.1 ∧ q.1 < b.Weeks) ∧ G5 q.2)
theorem QO (b : VoiceBook) (qs : List (Int × BS)) : (EB b qs).Pieces.l = qs.map mkp := Sl.l_grow _
include hf h3 in
theorem V9 : pi (EB b qs) := by
 refine ⟨hf, by rw [QO, List.length_map]; omega, ?_⟩
 intro x hx
 rw [QO, List.mem_map] at hx
 obtain ⟨q, _, rfl⟩ := hx
 show (1 : Nat) < _
 omega
include hf hok h1 h3 hq in
theorem oP : bOk (EB b qs) = true := by
 have hv := FM hf hok
 have hw := hv.weeks
 simp only [bOk, iz, Bool.and_eq_true, List.all_eq_true]
 refine ⟨⟨hok, ?_, rfl⟩, ?_⟩
 ·simp only [AQ, Sl.len_l, QO, List.length_map, Bool.and_eq_true, decide_eq_true_eq]; omega
 ·intro x hx
  rw [QO, List.mem_map] at hx
  obtain ⟨q, hqm, rfl⟩ := hx
  obtain ⟨⟨g1, g2⟩, g3⟩ := hq q hqm
  have ew : (EB b qs).Voice.Weeks = b.Weeks := rfl
  have hp : Xc ⟨q.2, 1⟩ = true := by
   obtain ⟨k1, k2, k3⟩ := g3
   simp only [Xc, AQ, Bool.and_eq_true, decide_eq_true_eq]; omega
  simp only [YH, mkp, AQ, Bool.and_eq_true, decide_eq_true_eq, Sl.len_l, Sl.l_cold, List.length_singleton, List.all_cons, List.all_nil, hp]
  rw [TK (by omega) (by omega)]
  exact ⟨⟨⟨decide_eq_true g1, decide_eq_true (show q.1 ≤ _ by omega)⟩, by decide⟩, trivial, trivial⟩
theorem jn {p : Nat} (hp : p < qs.length) : (EB b qs).Pieces.ix p = some (mkp qs[p]) := by
 rw [Sl.ix_nat, QO, List.getElem?_map, List.getElem?_eq_getElem hp]; rfl
theorem gU (ex : Int → Bool) {p : Nat} (hp : p < qs.length) : BD (EB b qs) ex p 0 = jg (EB b qs) ex qs[p].1 qs[p].2 := by
 unfold BD
 rw [jn hp]
 rfl
end
def rO (b : VoiceBook) (boy week : Int) (s : BS) : Int × Int := match (idx b.Boys.l.length).find? (fun h => !decide (h = boy) && Yf (EB b []) week s h) with
 | some h => (h, 0)
 | none => (0, 4)
theorem t7 {b : VoiceBook} (hf : dU b) (hok : vOk b = true) (hfi : HI b = true) {boy week : Int} (hb : 0 ≤ boy ∧ boy < b.Boys.l.length) (hw : 0 ≤ week ∧ week < b.Weeks) {s : BS} (hs : G5 s) : GN b boy week s = some (rO b boy week s) := by
 have hv := FM hf hok
 have hb4 := hv.boys
 have i1 : Cc b boy = true := (YP hv boy).mpr hb
 have i2 : CC b week = true := (UV hv week).mpr hw
 have i3 : Ak s 40 40 = true := by
  obtain ⟨k1, k2, k3⟩ := hs
  simp only [Ak, Bool.and_eq_true, decide_eq_true_eq]
  rw [TK (by omega) (by omega)]; omega
 obtain ⟨bk, a1, a2⟩ := P1 hf true
 obtain ⟨es, rfl, hes⟩ := a2 hok rfl
 rw [if_pos hok, if_pos rfl, if_pos hfi] at a1
 have e2 : ∀ h : Int, 0 ≤ h ∧ h < b.Boys.l.length → Loop (Da week s ⟨b, Sl.grow ((idx b.Boys.l.length).map fun i => Sl.grow ((Fb b i).map T5.ar)), Mp.mk es⟩ h) s.Low = some (if Yf (EB b []) week s h then .inr () else .inl ()) := by
  intro h hh
  have hpos := iR hfi hh
  have hL := Loop.find (f := Da week s ⟨b, Sl.grow ((idx b.Boys.l.length).map fun i => Sl.grow ((Fb b i).map T5.ar)), Mp.mk es⟩ h) (fun i => s.Low + i) (rng s) (fun n => if decide (Hr b h week n = 2) then none else some (.inl () : Unit ⊕ Unit)) (x0 := s.Low) (r0 := .inr ()) (iI hs) (by simp) (by
   intro pre n post hx _ hW
   have hn := pw hx
   subst hn
   have hlt : s.Low + (pre.length : Int) ≤ s.High := (OO.mp (by rw [hx]; simp)).2
   have hsg := j7 hv hes hh hw (note := s.Low + (pre.length : Int))
   obtain ⟨k1, k2, k3⟩ := hs
   have hW2 : W (s.Low + (pre.length : Int) + 1) = s.Low + ((pre.length : Int) + 1) := by rw [TK (by omega) (by omega)]; omega
   have hmany : decide (Hr b h week (s.Low + (pre.length : Int)) = 2) = decide ((many b h week (s.Low + (pre.length : Int)) : Int) = ((Fb b h).length : Int)) := by
    rw [decide_eq_decide]
    unfold Hr
    by_cases h0 : many b h week (s.Low + (pre.length : Int)) = 0
    ·rw [if_pos h0, h0]; omega
    ·rw [if_neg h0]
     by_cases h9 : many b h week (s.Low + (pre.length : Int)) = (Fb b h).length
     ·rw [if_pos h9, h9]; simp
     ·rw [if_neg h9]; omega
   simp only [Da, decide_eq_true hlt, if_true, hsg, BV, DR, hmany, hW2]
   cases decide ((many b h week (s.Low + (pre.length : Int)) : Int) = ((Fb b h).length : Int)) <;> rfl) (by
   intro _
   obtain ⟨k1, k2, k3⟩ := hs
   have hlt : ¬ s.Low + ((rng s).length : Int) ≤ s.High := by rw [Lj]; omega
   simp only [Da, decide_eq_false hlt, Bool.false_eq_true, if_false])
  rw [hL]
  congr 1
  unfold Yf
  show _ = if ((rng s).all fun n => decide (Hr b h week n = 2)) = true then _ else _
  generalize rng s = l
  induction l with
  | nil => rfl
  | cons n l ih =>
   simp only [List.findSome?_cons, List.all_cons]
   by_cases hc : Hr b h week n = 2
   ·simp only [decide_eq_true hc, if_true, Bool.true_and]; exact ih
   ·simp only [decide_eq_false hc, Bool.false_eq_true, if_false, Bool.false_and, Option.getD_some]
 have e1 : Loop (DZ b boy week s ⟨b, Sl.grow ((idx b.Boys.l.length).map fun i => Sl.grow ((Fb b i).map T5.ar)), Mp.mk es⟩) 0 = some (((idx b.Boys.l.length).findSome? fun h => if (!decide (h = boy) && Yf (EB b []) week s h) = true then some (.inl (h, 0) : (Int × Int) ⊕ Unit) else none).getD (.inr ())) := by
  refine Loop.find (fun i => i) (idx b.Boys.l.length) _ (by rw [Ao]; omega) rfl ?_ ?_
  ·intro pre h post hx _ hW
   obtain ⟨rfl, hlt0⟩ := P8 hx
   have hlt : (pre.length : Int) < b.Boys.len := by rw [Sl.len_l]; exact hlt0
   have h2 := e2 pre.length ⟨by omega, hlt0⟩
   by_cases hc : (pre.length : Int) = boy
   ·simp only [DZ, decide_eq_true hlt, if_true, decide_eq_true hc, hW, Bool.not_true, Bool.false_and, Bool.false_eq_true, if_false]
   ·simp only [DZ, decide_eq_true hlt, if_true, decide_eq_false hc, Bool.false_eq_true, if_false, h2, BV, Bool.not_false, Bool.true_and, hW]
    cases Yf (EB b []) week s pre.length <;> rfl
  ·intro _
   have hlt : ¬ ((idx b.Boys.l.length).length : Int) < b.Boys.len := by rw [Sl.len_l, Ao]; omega
   simp only [DZ, decide_eq_false hlt, Bool.false_eq_true, if_false]
 unfold GN rO
 simp only [i1, i2, i3, if_true, a1, BV, decide_true, e1]
 generalize idx b.Boys.l.length = l
 induction l with
 | nil => rfl
 | cons h l ih =>
  simp only [List.findSome?_cons, List.find?_cons]
  by_cases hc : (!decide (h = boy) && Yf (EB b []) week s h) = true
  ·simp only [hc, if_true, Option.getD_some]
  ·have hc' : (!decide (h = boy) && Yf (EB b []) week s h) = false := by simpa using hc
   simp only [hc', Bool.false_eq_true, if_false]
   exact ih
end
end Go.Lf
namespace Go.Lf
open Go Go.Lf.Pl
noncomputable section
theorem O0 : ∀ l : List Int, Dh 1 l = l.map fun a => [a]
 | [] => rfl
 | a :: l => by
  simp only [Dh, List.map_cons, List.map_nil, List.cons_append, List.nil_append, O0 l]
theorem fw (b : BenchBook) (ex : Int → Bool) : (BC b ex).length ≤ b.Pieces.l.length := by
 unfold BC Dp
 cases h : (idx b.Pieces.l.length).findSome? fun many => (Dh many.toNat (idx b.Pieces.l.length)).find? (TQ b ex) with
 | none => simp [Ao]
 | some l =>
  obtain ⟨many, hm, h1⟩ := List.exists_of_findSome?_eq_some h
  have := (E6.mp (List.mem_of_find?_eq_some h1)).1.length_le
  rw [Ao] at this
  simpa using this
section
variable {b : VoiceBook} {w : Int} {s : BS}
abbrev K3 (b : VoiceBook) (w : Int) (s : BS) : BenchBook := EB b [(w, s)]
theorem di (ex : Int → Bool) (m : Nat) (hm : 1 ≤ m) : Iu (K3 b w s) ex m [0] = (BD (K3 b w s) ex 0 0).map fun a => [(⟨0, 0, a⟩ : AC)] := by
 have hW : EV (K3 b w s) ex m [0] = [⟨0, 0, 1, BD (K3 b w s) ex 0 0⟩] := by
  have hn : min m (GV (K3 b w s) 0) = 1 := by
   have : GV (K3 b w s) 0 = 1 := rfl
   omega
  simp only [EV, Fq, List.flatMap_cons, List.flatMap_nil, List.append_nil, Jy, hn]
  rfl
 unfold Iu
 rw [hW, J7]
 have hp : Ft [(⟨0, 0, 1, BD (K3 b w s) ex 0 0⟩ : Jd)] = (BD (K3 b w s) ex 0 0).map fun a => [(⟨0, 0, a⟩ : AC)] := by
  simp only [Ft, O0, List.map_cons, List.map_nil, List.flatMap_map]
  generalize BD (K3 b w s) ex 0 0 = l
  induction l with
  | nil => rfl
  | cons a l ih => simp only [List.flatMap_cons, List.map_cons, ih]; rfl
 rw [hp]
 simp only [List.nil_append, List.map_id']
 rw [List.filter_eq_self]
 intro x hx
 obtain ⟨a, _, rfl⟩ := List.mem_map.mp hx
 rfl
def V1 (b : VoiceBook) (w : Int) (s : BS) : List Int := (idx b.Boys.l.length).filter fun boy => Yf (EB b []) w s boy
theorem kA (ex : Int → Bool) : BD (K3 b w s) ex 0 0 = (V1 b w s).filter fun boy => !ex boy := by
 have : BD (K3 b w s) ex 0 0 = (idx b.Boys.l.length).filter fun boy => !ex boy && Yf (EB b []) w s boy := rfl
 rw [this, V1, List.filter_filter]
theorem Ti : BD (K3 b w s) BE 0 0 = V1 b w s := by
 rw [kA]
 exact List.filter_eq_self.mpr fun _ _ => rfl
theorem aG (ex : Int → Bool) : (BC (K3 b w s) ex).length = if ((V1 b w s).filter fun boy => !ex boy).isEmpty then 1 else 0 := by
 have h1 := ef (b := K3 b w s) (ex := ex) rfl
 rw [di ex 3 (by omega), kA] at h1
 have h2 := (fw (K3 b w s) ex)
 cases hc : ((V1 b w s).filter fun boy => !ex boy) with
 | nil =>
  rw [hc] at h1
  simp only [List.map_nil, List.isEmpty_nil, Bool.true_eq_false, iff_false] at h1
  simp only [List.isEmpty_nil, if_true]
  have : (BC (K3 b w s) ex).length ≤ 1 := h2
  omega
 | cons a l =>
  rw [hc] at h1
  simp only [List.map_cons, List.isEmpty_cons, iff_true] at h1
  simp only [List.isEmpty_cons, Bool.false_eq_true, if_false]
  exact h1
end
end
end Go.Lf
namespace Go.Lf
open Go Go.Lf.Pl
noncomputable section
section
variable {b : VoiceBook} {w : Int} {s : BS}
theorem Qm : (V1 b w s).Pairwise (· < ·) := (G6 _).filter _
theorem vZ (boy : Int) : rO b boy w s = match ((V1 b w s).filter fun z => !decide (z = boy)).head? with
 | some h => (h, 0)
 | none => (0, 4) := by
 unfold rO V1
 rw [List.filter_filter, List.head?_filter]
 try (cases List.find? (fun h => !decide (h = boy) && Yf (EB b []) w s h) (idx b.Boys.l.length) <;> rfl)
theorem wM : pF (K3 b w s) = if (V1 b w s).length = 1 then V1 b w s else [] := by
 have hn : pF (K3 b w s) = (idx b.Boys.l.length).filter fun boy => decide ((BC (K3 b w s) BE).length < (BC (K3 b w s) fun i => decide (i = boy)).length) := rfl
 have h0 : ((V1 b w s).filter fun boy => !BE boy) = V1 b w s := List.filter_eq_self.mpr fun _ _ => rfl
 rw [hn]
 simp only [aG, h0]
 cases hA : V1 b w s with
 | nil =>
  simp only [List.filter_nil, List.isEmpty_nil, if_true, List.length_nil]
  rw [if_neg (by omega)]
  exact List.filter_eq_nil_iff.mpr fun x _ => by simp
 | cons a l =>
  have hs := Qm (b := b) (w := w) (s := s)
  rw [hA, List.pairwise_cons] at hs
  have ha : a ∈ idx b.Boys.l.length := by
   have : a ∈ V1 b w s := by rw [hA]; simp
   exact (List.mem_filter.mp this).1
  cases l with
  | nil =>
   have hc : ∀ boy : Int, (decide ((if ([a] : List Int).isEmpty = true then 1 else 0) < if ([a].filter fun z => !decide (z = boy)).isEmpty = true then 1 else 0)) = decide (boy = a) := by
    intro boy
    by_cases hb : boy = a
    ·subst hb; simp
    ·have : ¬ a = boy := fun h => hb h.symm
     simp [this, hb]
   simp only [hc, List.length_singleton, if_true]
   have : ∀ l : List Int, l.Pairwise (· < ·) → a ∈ l → (l.filter fun z => decide (z = a)) = [a] := by
    intro l
    induction l with
    | nil => intro _ h; cases h
    | cons c l ih =>
     intro hp hm
     rw [List.pairwise_cons] at hp
     by_cases hca : c = a
     ·subst hca
      have hno : l.filter (fun z => decide (z = c)) = [] := List.filter_eq_nil_iff.mpr fun z hz => by
       have := hp.1 z hz
       simp; omega
      simp [List.filter_cons, hno]
     ·have hm' : a ∈ l := by
       rcases List.mem_cons.mp hm with h | h
       ·exact absurd h.symm hca
       ·exact h
      simp [List.filter_cons, hca, ih hp.2 hm']
   exact this _ (G6 _) ha
  | cons c l =>
   have hac := hs.1 c (by simp)
   rw [if_neg (by simp)]
   refine List.filter_eq_nil_iff.mpr fun boy _ => ?_
   have hne : ((a :: c :: l).filter fun z => !decide (z = boy)).isEmpty = false := by
    by_cases hb : a = boy
    ·have : ¬ c = boy := by omega
     simp [List.filter_cons, hb, this]
    ·simp [List.filter_cons, hb]
   simp [hne]
theorem t8 : K6 (K3 b w s) BE = match V1 b w s with
 | [] => []
 | a :: _ => [⟨0, 0, a⟩] := by
 have hl := aG (b := b) (w := w) (s := s) BE
 have h0 : ((V1 b w s).filter fun boy => !BE boy) = V1 b w s := List.filter_eq_self.mpr fun _ _ => rfl
 rw [h0] at hl
 unfold K6
 have hsub : List.Sublist (Dp (K3 b w s).Pieces.l.length (TQ (K3 b w s) BE)) [0] := by
  unfold Dp
  cases h : (idx (K3 b w s).Pieces.l.length).findSome? fun many => (Dh many.toNat (idx (K3 b w s).Pieces.l.length)).find? (TQ (K3 b w s) BE) with
  | none => exact List.Sublist.refl _
  | some l =>
   obtain ⟨many, _, h1⟩ := List.exists_of_findSome?_eq_some h
   exact (E6.mp (List.mem_of_find?_eq_some h1)).1
 have he : ∀ but, Gn (K3 b w s) but = [0].filter fun p => !but.contains p := fun _ => rfl
 cases hA : V1 b w s with
 | nil =>
  rw [hA] at hl
  have hc : Dp (K3 b w s).Pieces.l.length (TQ (K3 b w s) BE) = [0] := hsub.eq_of_length (by
   show (BC (K3 b w s) BE).length = 1
   simpa using hl)
  rw [hc, he]
  rfl
 | cons a l =>
  rw [hA] at hl
  have hc : Dp (K3 b w s).Pieces.l.length (TQ (K3 b w s) BE) = [] := List.length_eq_zero_iff.mp (by
   show (BC (K3 b w s) BE).length = 0
   simpa using hl)
  rw [hc, he]
  have : ([0] : List Int).filter (fun p => !([] : List Int).contains p) = [0] := rfl
  rw [this, di BE 3 (by omega), Ti, hA]
  rfl
theorem vQ : rp (K3 b w s) 0 = if (V1 b w s).isEmpty then (0, 0) else (0, 4) := by
 have h1 : idx (GV (K3 b w s) 0) = [0] := rfl
 unfold rp
 rw [h1]
 simp only [List.find?_cons, List.find?_nil]
 rw [di BE _ (by decide), Ti]
 cases V1 b w s <;> rfl
end
theorem pN (l : Sl Int) (e boy : Int) (hn : l.l.length < 1000) : Loop (EN boy (l, e)) ((Sl.hot [] : Sl Int), 0) = some (Sl.hot (l.l.filter fun z => !decide (z = boy))) := by
 refine FV (fun t i => (t, i)) l.l (fun pre => Sl.hot (pre.filter fun z => !decide (z = boy))) (by omega) rfl ?_ ?_
 ·intro pre a post hx hW
  have hl : (pre.length : Int) < l.len := by rw [Sl.len_l, hx]; simp; omega
  have hpl : pre.length < 1000 := by rw [hx] at hn; simp at hn; omega
  have hle := List.length_filter_le (fun z => !decide (z = boy)) pre
  have hlen : (pre.filter fun z => !decide (z = boy)).length + ([a] : List Int).length ≤ 1000000000 := by rw [List.length_singleton]; omega
  rw [Js]
  by_cases hc : a = boy
  ·simp only [EN, decide_eq_true hl, if_true, Sl.ix_at hx, BV, decide_eq_true hc, hW, Bool.not_true, Bool.false_eq_true, if_false, List.append_nil]
  ·simp only [EN, decide_eq_true hl, if_true, Sl.ix_at hx, BV, decide_eq_false hc, hW, Bool.not_false, Bool.false_eq_true, if_false, Sl.app_hot (q := 8) (Bl hlen (by omega))]
 ·have hl : ¬ (l.l.length : Int) < l.len := by rw [Sl.len_l]; omega
  simp only [EN, decide_eq_false hl, Bool.false_eq_true, if_false]
theorem uY (hh : Cf = some true) {b : VoiceBook} (hf : dU b) (n : Ar 4 Int) : MX b n = some true := by
 unfold MX
 rw [lH hf, BV]
 by_cases hg : (vOk b && HI b) = true
 case neg =>
  have : (vOk b && HI b) = false := by simpa using hg
  simp only [this, Bool.false_eq_true, if_false, hh, BV]
 case pos =>
  rw [if_pos hg]
  rw [Bool.and_eq_true] at hg
  obtain ⟨hok, hfi⟩ := hg
  have hv := FM hf hok
  have hbo := hv.boys
  have hwe := hv.weeks
  obtain ⟨l, hl⟩ := n
  match l, hl with
  | [n0, n1, n2, n3], hl =>
   have i0 : (⟨[n0, n1, n2, n3], hl⟩ : Ar 4 Int).ix 0 = some n0 := rfl
   have i1 : (⟨[n0, n1, n2, n3], hl⟩ : Ar 4 Int).ix 1 = some n1 := rfl
   have i2 : (⟨[n0, n1, n2, n3], hl⟩ : Ar 4 Int).ix 2 = some n2 := rfl
   have i3 : (⟨[n0, n1, n2, n3], hl⟩ : Ar 4 Int).ix 3 = some n3 := rfl
   obtain ⟨w, e1, w0, w1⟩ := YR (n := n0) (m := b.Weeks) (by omega) (by omega)
   obtain ⟨s, e2, hs⟩ := kO n1 n2
   obtain ⟨boy, e3, b0, b1⟩ := YR (n := n3) (m := b.Boys.len) (by rw [Sl.len_l]; omega) (by rw [Sl.len_l]; omega)
   rw [Sl.len_l] at b1
   have e4 : CQ b (Sl.cold [w] : Sl Int) (Sl.cold [s] : Sl BS) = some (K3 b w s) := oD b (Sl.cold [w]) (Sl.cold [s]) rfl (by show 1 ≤ 3; omega)
   have hq : ∀ q ∈ [(w, s)], (0 ≤ q.1 ∧ q.1 < b.Weeks) ∧ G5 q.2 := by
    intro q hq
    simp only [List.mem_singleton] at hq; subst hq
    exact ⟨⟨w0, w1⟩, hs⟩
   have hfx : pi (K3 b w s) := V9 hf (by simp)
   have hox : bOk (K3 b w s) = true := oP hf hok (by simp) (by simp) hq
   have he : BA (K3 b w s) true = 0 := by
    have : HI (K3 b w s).Voice = true := hfi
    simp [BA, hox, this]
   have hvx := WZ hfx hox
   obtain ⟨c, c1, c2⟩ := Uc (hf := hfx) 0 0
   have hcq : sb (K3 b w s) 0 0 = true := rfl
   rw [hcq, he] at c1 c2
   rw [if_pos rfl, Ti] at c2
   obtain ⟨nd, d1, d2⟩ := cD hfx
   rw [he] at d1 d2
   rw [if_pos rfl, wM] at d2
   obtain ⟨st, s1, s2⟩ := Yj hfx
   rw [he] at s1 s2
   rw [if_pos rfl, t8] at s2
   have hla := dQ hfx 0
   have hip : BM (K3 b w s) 0 = true := rfl
   rw [hip, he, if_pos rfl, vQ] at hla
   have hhe := t7 hf hok hfi ⟨b0, b1⟩ ⟨w0, w1⟩ hs
   rw [vZ] at hhe
   have hAle : (V1 b w s).length ≤ 4 := by
    have := List.length_filter_le (fun boy => Yf (EB b []) w s boy) (idx b.Boys.l.length)
    rw [Ao] at this
    simp only [V1]; omega
   have hco : DY c b.Boys.len = some true := by
    rw [Wq b.Boys.len c (by rw [c2]; omega), c2]
    refine congrArg some (jw _ _ _ Qm (fun z hz => ?_) (fun _ h => by cases h))
    have hz1 := G4.mp (List.mem_filter.mp hz).1
    simp only [CU, Sl.len_l, Bool.and_eq_true, decide_eq_true_eq]
    rw [TK (by omega) (by omega)]; omega
   have hot := pN c 0 boy (by rw [c2]; omega)
   rw [c2] at hot
   simp only [i0, i1, i2, i3, e1, e2, e3, e4, BV, c1, d1, s1, hla, hhe, hot]
   cases hA : V1 b w s with
   | nil =>
    rw [hA] at c2 d2 s2
    have k1 : c.len = 0 := by rw [Sl.len_l, c2]; rfl
    have k2 : nd.len = 0 := by rw [Sl.len_l, d2]; rfl
    have k3 : st.len = 0 := by rw [Sl.len_l, s2]; rfl
    have k4 : W 0 = 0 := rfl
    have k5 : (Sl.hot [] : Sl Int).len = 0 := rfl
    simp [k1, k2, k3, k4, k5, hco, hh]
   | cons a r =>
    rw [hA] at c2 d2 s2
    have k1 : c.len = (r.length : Int) + 1 := by rw [Sl.len_l, c2]; simp
    have k3 : st.len = 1 := by rw [Sl.len_l, s2]; rfl
    have k4 : st.ix 0 = some ⟨0, 0, a⟩ := by
     have := Sl.ix_at (x := st) (pre := []) (a := ⟨0, 0, a⟩) (post := []) s2
     exact this
    have k5 : c.ix 0 = some a := by
     have := Sl.ix_at (x := c) (pre := []) (a := a) (post := r) c2
     exact this
    have k6 : (0 : Int) < c.len := by rw [k1]; omega
    have k7 : ¬ c.len = 0 := by rw [k1]; omega
    have hneed : (if 1 < c.len then if nd.len = 0 then if c.len = 1 then Option.bind (CN nd c) fun v104 => some ((!v104)) else some (false) else some (true) else if c.len = 1 then Option.bind (CN nd c) fun v107 => some ((!v107)) else some (false) : Option (Bool)) = some false := by
     cases r with
     | nil =>
      have k8 : c.len = 1 := by rw [k1]; rfl
      have k9 := sn nd c (by rw [d2]; simp)
      rw [d2, c2] at k9
      simp at k9
      simp [k8, k9]
     | cons a2 r =>
      have k8 : (1 : Int) < c.len := by rw [k1]; simp; omega
      have k9 : ¬ c.len = 1 := by omega
      have k10 : nd.len = 0 := by rw [Sl.len_l, d2]; simp
      simp [k8, k9, k10]
    cases hB : ((a :: r).filter fun z => !decide (z = boy)) with
    | nil =>
     have k8 : (Sl.hot [] : Sl Int).len = 0 := rfl
     simp [k3, k4, k5, k6, k7, k8, hneed, hco, hh]
    | cons a3 r3 =>
     have k8 : (Sl.hot (a3 :: r3) : Sl Int).ix 0 = some a3 := rfl
     have k9 : ¬ (Sl.hot (a3 :: r3) : Sl Int).len = 0 := by rw [Sl.len_l, Sl.l_hot]; simp; omega
     have k10 : (0 : Int) < (Sl.hot (a3 :: r3) : Sl Int).len := by rw [Sl.len_l, Sl.l_hot]; simp
     simp [k3, k4, k5, k6, k7, k8, k9, k10, hneed, hco, hh]
end
end Go.Lf
