/- A part of the proof. -/
import Derived.Test.YtohgomfnigdaoaaDoorx39
set_option linter.all false
namespace Go.Lf
open Go Go.Lf.Pl
noncomputable section
theorem qJ {b : VoiceBook} (hf : jj b) : Hg b = some (yk b && Iw b) := by
 unfold Hg
 rw [P3 hf, FC, IE hf]
 cases hv : yk b with
 | false => rfl
 | true =>
  have h := hv
  simp only [yk, ah, Bool.and_eq_true] at h
  have h1 : CX b.Boys.len 1 4 = true := h.1.1
  have h2 : CX b.Weeks 1 6 = true := h.1.2.1
  cases Iw b with
  | false => rfl
  | true => simp [h1, h2]
theorem qP (n m : Int) : ∃ s, Hw n m = some s ∧ Iu s := by
 obtain ⟨r, h1, h2, h3⟩ := cE (n := n) (m := 38) (by omega) (by omega)
 obtain ⟨q, g1, g2, g3⟩ := cE (n := m) (m := 3) (by omega) (by omega)
 refine ⟨⟨r, r + q⟩, ?_, by simp only [Iu]; omega⟩
 unfold Hw
 rw [h1, FC, g1, FC, VA (by omega) (by omega)]
 rfl
def yd (q : Int × BW) : AI := ⟨q.1, Sl.cold [⟨q.2, 1⟩]⟩
def Jr (b : VoiceBook) (qs : List (Int × BW)) : BenchBook := ⟨b, Sl.grow (qs.map yd), 3⟩
theorem tC (b : VoiceBook) (ws : Sl Int) (ps : Sl BW) (hl : ws.l.length = ps.l.length) (h3 : ps.l.length ≤ 3) : CQ b ws ps = some (Jr b (ws.l.zip ps.l)) := by
 have e : Loop (Ed ws ps) ((BenchBook.mk b (Sl.nil : (Sl AI)) 3), 0) = some (Jr b (ws.l.zip ps.l)) := by
  refine GX (fun t i => (t, i)) (ws.l.zip ps.l) (fun pre => Jr b pre) (by rw [List.length_zip]; omega) rfl ?_ ?_
  ·intro pre a post hx hW
   have hlen : pre.length < ps.l.length := by
    have := congrArg List.length hx
    rw [List.length_zip] at this; simp at this; omega
   have hlt : (pre.length : Int) < ps.len := by rw [Sl.len_l]; omega
   have hz : (ws.l.zip ps.l)[pre.length]? = some a := by rw [hx]; simp
   rw [List.getElem?_zip_eq_some] at hz
   have h1 : ws.ix pre.length = some a.1 := by rw [Sl.ix_nat]; exact hz.1
   have h2 : ps.ix pre.length = some a.2 := by rw [Sl.ix_nat]; exact hz.2
   have hr : (pre.map yd).length + ([yd a] : List AI).length ≤ 1000000000 := by simp; omega
   have ha := Sl.app_grow (q := 32) (xs := pre.map yd) (ys := [yd a]) (List.cons_ne_nil _ _) (C9 hr (by omega))
   have ha' : Sl.app 32 (Jr b pre).Pieces.unf [AI.mk a.1 (Sl.cold [A4.mk a.2 1])] = some (Sl.grow ((pre ++ [a]).map yd)) := by
    show Sl.app 32 (Sl.grow (pre.map yd)).unf [yd a] = _
    rw [Sl.grow_unf, ha]; simp
   simp only [Ed, decide_eq_true hlt, if_true, h1, h2, FC, ha', hW]
   rfl
  ·have hlt : ¬ ((ws.l.zip ps.l).length : Int) < ps.len := by rw [Sl.len_l, List.length_zip]; omega
   simp only [Ed, decide_eq_false hlt, Bool.false_eq_true, if_false]
 simp only [CQ, e, FC]
section
variable {b : VoiceBook} (hf : jj b) (hok : yk b = true) {qs : List (Int × BW)} (h1 : 1 ≤ qs.length) (h3 : qs.length ≤ 3) (hq : ∀ q ∈ qs, (0 ≤ q.1 ∧ q.1 < b.Weeks) ∧ Iu q.2)
theorem V4 (b : VoiceBook) (qs : List (Int × BW)) : (Jr b qs).Pieces.l = qs.map yd := Sl.l_grow _
include hf h3 in
theorem qK : oc (Jr b qs) := by
 refine ⟨hf, by rw [V4, List.length_map]; omega, ?_⟩
 intro x hx
 rw [V4, List.mem_map] at hx
 obtain ⟨q, _, rfl⟩ := hx
 show (1 : Nat) < _
 omega
include hf hok h1 h3 hq in
theorem tq : xn (Jr b qs) = true := by
 have hv := H5 hf hok
 have hw := hv.weeks
 simp only [xn, jJ, Bool.and_eq_true, List.all_eq_true]
 refine ⟨⟨hok, ?_, rfl⟩, ?_⟩
 ·simp only [AO, Sl.len_l, V4, List.length_map, Bool.and_eq_true, decide_eq_true_eq]; omega
 ·intro x hx
  rw [V4, List.mem_map] at hx
  obtain ⟨q, hqm, rfl⟩ := hx
  obtain ⟨⟨g1, g2⟩, g3⟩ := hq q hqm
  have ew : (Jr b qs).Voice.Weeks = b.Weeks := rfl
  have hp : Vv ⟨q.2, 1⟩ = true := by
   obtain ⟨k1, k2, k3⟩ := g3
   simp only [Vv, AO, Bool.and_eq_true, decide_eq_true_eq]; omega
  simp only [WG, yd, AO, Bool.and_eq_true, decide_eq_true_eq, Sl.len_l, Sl.l_cold, List.length_singleton, List.all_cons, List.all_nil, hp]
  rw [VA (by omega) (by omega)]
  exact ⟨⟨⟨decide_eq_true g1, decide_eq_true (show q.1 ≤ _ by omega)⟩, by decide⟩, trivial, trivial⟩
theorem uD {p : Nat} (hp : p < qs.length) : (Jr b qs).Pieces.ix p = some (yd qs[p]) := by
 rw [Sl.ix_nat, V4, List.getElem?_map, List.getElem?_eq_getElem hp]; rfl
theorem vK (ex : Int → Bool) {p : Nat} (hp : p < qs.length) : BA (Jr b qs) ex p 0 = iZ (Jr b qs) ex qs[p].1 qs[p].2 := by
 unfold BA
 rw [uD hp]
 rfl
end
def rH (b : VoiceBook) (boy week : Int) (s : BW) : Int × Int := match (yX b.Boys.l.length).find? (fun h => !decide (h = boy) && Zf (Jr b []) week s h) with
 | some h => (h, 0)
 | none => (0, 4)
theorem tf {b : VoiceBook} (hf : jj b) (hok : yk b = true) (hfi : Iw b = true) {boy week : Int} (hb : 0 ≤ boy ∧ boy < b.Boys.l.length) (hw : 0 ≤ week ∧ week < b.Weeks) {s : BW} (hs : Iu s) : FZ b boy week s = some (rH b boy week s) := by
 have hv := H5 hf hok
 have hb4 := hv.boys
 have i1 : CV b boy = true := (Xh hv boy).mpr hb
 have i2 : B8 b week = true := (Tz hv week).mpr hw
 have i3 : Ah s 40 40 = true := by
  obtain ⟨k1, k2, k3⟩ := hs
  simp only [Ah, Bool.and_eq_true, decide_eq_true_eq]
  rw [VA (by omega) (by omega)]; omega
 obtain ⟨bk, a1, a2⟩ := Pi hf true
 obtain ⟨es, rfl, hes⟩ := a2 hok rfl
 rw [if_pos hok, if_pos rfl, if_pos hfi] at a1
 have e2 : ∀ h : Int, 0 ≤ h ∧ h < b.Boys.l.length → Loop (DU week s ⟨b, Sl.grow ((yX b.Boys.l.length).map fun i => Sl.grow ((FU b i).map T5.ar)), Mp.mk es⟩ h) s.Low = some (if Zf (Jr b []) week s h then .inr () else .inl ()) := by
  intro h hh
  have hpos := eY hfi hh
  have hL := Loop.find (f := DU week s ⟨b, Sl.grow ((yX b.Boys.l.length).map fun i => Sl.grow ((FU b i).map T5.ar)), Mp.mk es⟩ h) (fun i => s.Low + i) (rng s) (fun n => if decide (HZ b h week n = 2) then none else some (.inl () : Unit ⊕ Unit)) (x0 := s.Low) (r0 := .inr ()) (dl hs) (by simp) (by
   intro pre n post hx _ hW
   have hn := nR hx
   subst hn
   have hlt : s.Low + (pre.length : Int) ≤ s.High := (Qm.mp (by rw [hx]; simp)).2
   have hsg := jn hv hes hh hw (note := s.Low + (pre.length : Int))
   obtain ⟨k1, k2, k3⟩ := hs
   have hW2 : W (s.Low + (pre.length : Int) + 1) = s.Low + ((pre.length : Int) + 1) := by rw [VA (by omega) (by omega)]; omega
   have hmany : decide (HZ b h week (s.Low + (pre.length : Int)) = 2) = decide ((many b h week (s.Low + (pre.length : Int)) : Int) = ((FU b h).length : Int)) := by
    rw [decide_eq_decide]
    unfold HZ
    by_cases h0 : many b h week (s.Low + (pre.length : Int)) = 0
    ·rw [if_pos h0, h0]; omega
    ·rw [if_neg h0]
     by_cases h9 : many b h week (s.Low + (pre.length : Int)) = (FU b h).length
     ·rw [if_pos h9, h9]; simp
     ·rw [if_neg h9]; omega
   simp only [DU, decide_eq_true hlt, if_true, hsg, FC, DI, hmany, hW2]
   cases decide ((many b h week (s.Low + (pre.length : Int)) : Int) = ((FU b h).length : Int)) <;> rfl) (by
   intro _
   obtain ⟨k1, k2, k3⟩ := hs
   have hlt : ¬ s.Low + ((rng s).length : Int) ≤ s.High := by rw [K7]; omega
   simp only [DU, decide_eq_false hlt, Bool.false_eq_true, if_false])
  rw [hL]
  congr 1
  unfold Zf
  show _ = if ((rng s).all fun n => decide (HZ b h week n = 2)) = true then _ else _
  generalize rng s = l
  induction l with
  | nil => rfl
  | cons n l ih =>
   simp only [List.findSome?_cons, List.all_cons]
   by_cases hc : HZ b h week n = 2
   ·simp only [decide_eq_true hc, if_true, Bool.true_and]; exact ih
   ·simp only [decide_eq_false hc, Bool.false_eq_true, if_false, Bool.false_and, Option.getD_some]
 have e1 : Loop (DT b boy week s ⟨b, Sl.grow ((yX b.Boys.l.length).map fun i => Sl.grow ((FU b i).map T5.ar)), Mp.mk es⟩) 0 = some (((yX b.Boys.l.length).findSome? fun h => if (!decide (h = boy) && Zf (Jr b []) week s h) = true then some (.inl (h, 0) : (Int × Int) ⊕ Unit) else none).getD (.inr ())) := by
  refine Loop.find (fun i => i) (yX b.Boys.l.length) _ (by rw [An]; omega) rfl ?_ ?_
  ·intro pre h post hx _ hW
   obtain ⟨rfl, hlt0⟩ := P0 hx
   have hlt : (pre.length : Int) < b.Boys.len := by rw [Sl.len_l]; exact hlt0
   have h2 := e2 pre.length ⟨by omega, hlt0⟩
   by_cases hc : (pre.length : Int) = boy
   ·simp only [DT, decide_eq_true hlt, if_true, decide_eq_true hc, hW, Bool.not_true, Bool.false_and, Bool.false_eq_true, if_false]
   ·simp only [DT, decide_eq_true hlt, if_true, decide_eq_false hc, Bool.false_eq_true, if_false, h2, FC, Bool.not_false, Bool.true_and, hW]
    cases Zf (Jr b []) week s pre.length <;> rfl
  ·intro _
   have hlt : ¬ ((yX b.Boys.l.length).length : Int) < b.Boys.len := by rw [Sl.len_l, An]; omega
   simp only [DT, decide_eq_false hlt, Bool.false_eq_true, if_false]
 unfold FZ rH
 simp only [i1, i2, i3, if_true, a1, FC, decide_true, e1]
 generalize yX b.Boys.l.length = l
 induction l with
 | nil => rfl
 | cons h l ih =>
  simp only [List.findSome?_cons, List.find?_cons]
  by_cases hc : (!decide (h = boy) && Zf (Jr b []) week s h) = true
  ·simp only [hc, if_true, Option.getD_some]
  ·have hc' : (!decide (h = boy) && Zf (Jr b []) week s h) = false := by simpa using hc
   simp only [hc', Bool.false_eq_true, if_false]
   exact ih
end
end Go.Lf
