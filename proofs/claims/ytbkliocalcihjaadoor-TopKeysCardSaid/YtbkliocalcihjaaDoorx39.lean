/- A part of the proof. -/
import Derived.Test.YtbkliocalcihjaaDoorx38
set_option linter.all false
namespace Go.Lf
open Go
noncomputable section
section
variable {v : VoiceBook} (hf : Wz v) (hok : vOk v = true) {s : Int} (h1 : -2 ≤ s) (h2 : s ≤ 2)
include hf hok h1 h2
theorem U1 : F3 (AG v s) = some 0 := by
 have e1 : Loop (Ee (AG v s)) (true, 0) = some true := Loop.done (by simp [Ee, AG, Sl.len_l, Sl.l])
 have e2 : Loop (Dl (AG v s)) (true, 0) = some true := by
  have hw : W (10 * s) = 10 * s := LY (by omega) (by omega)
  have hk : Hm (AG v s) ⟨0, W (10 * s), 0⟩ = true := by
   simp only [Hm, ED, Aj, hw, Bool.and_eq_true, decide_eq_true_eq]
   refine ⟨⟨by omega, ?_⟩, ⟨by omega, by omega⟩, by omega, by omega⟩
   show (0 : Int) ≤ W (1 - 1)
   rw [LY (by omega) (by omega)]; omega
  rw [Loop.step (x' := (true, 1)), Loop.done]
  ·simp [Dl, AG, Sl.len_l, Sl.l]
  ·have hx : (AG v s).Forks.ix 0 = some ⟨0, W (10 * s), 0⟩ := rfl
   have hl : (0 : Int) < (AG v s).Forks.len := by rw [Sl.len_l]; show (0 : Int) < ((1 : Nat) : Int); omega
   simp only [Dl, decide_eq_true hl, if_true, hx, Ax, hk, Bool.and_self]
   rw [LY (by omega) (by omega)]; rfl
 have hn : (AG v s).Tunes.len ≤ 6 := by rw [Sl.len_l]; show ((0 : Nat) : Int) ≤ 6; omega
 have hk : (AG v s).Forks.len ≤ 3 := by rw [Sl.len_l]; show ((1 : Nat) : Int) ≤ 3; omega
 have hp : Aj (AG v s).Pipes 1 5 = true := rfl
 have hc : Bo (AG v s).Voice = some 0 := by show Bo v = _; rw [Fa hf, hok]; rfl
 simp only [F3, hp, if_true, decide_eq_true hn, decide_eq_true hk, hc, Ax, decide_true, e1, e2]
theorem kt (hfi : FZ v = true) {y : AH} (hy : Bg (AG v s) (Sl.nil : Sl Int) = some y) (hi : y.is_ = true) : DZ (AG v s) = some true := by
 have hr : Bt (AG v s).Voice = some (true, 0) := by show Bt v = _; rw [Ha hf, hok, hfi]; rfl
 simp only [DZ, hr, Ax, if_true, hy, hi]
theorem ZN (hfi : FZ v = true) : ∃ y, DG (AG v s) true = some (y, 0) ∧ Qs y.OrganBook.Voice v ∧ A3 y = some ⟨s, s⟩ := by
 have hb : v.Boys.l ≠ [] := by
  have := (D1 hf hok).boys
  intro h; rw [h] at this; simp at this
 obtain ⟨y, hy, hi, hs, hsh⟩ := rm hb h1 h2
 refine ⟨y, ?_, hs, hsh⟩
 simp only [DG, U1 hf hok h1 h2, Ax, decide_true, if_true, kt hf hok h1 h2 hfi hy hi, hy]
theorem eI (hfi : FZ v = false) : ∃ y, DG (AG v s) true = some (y, 82) := by
 have hr : Bt (AG v s).Voice = some (false, 0) := by show Bt v = _; rw [Ha hf, hok, hfi]; rfl
 have ht : DZ (AG v s) = some false := by
  simp only [DZ, hr, Ax, Bool.false_eq_true, if_false]
 refine ⟨AH.mk (OrganBook.mk 0 Sl.nil Sl.nil (VoiceBook.mk Sl.nil 0 Sl.nil)) Mp.nil ⟨List.replicate 6 ⟨List.replicate 6 0, rfl⟩, rfl⟩ false, ?_⟩
 simp only [DG, U1 hf hok h1 h2, Ax, decide_true, if_true, ht, Bool.false_eq_true, if_false]
end
def zf (v : VoiceBook) (boy week n : Int) : Bool := BP n && decide (Gz v boy week n = 2)
def H6 (v : VoiceBook) (week up : Int) (p : AC) : Bool := (rng ⟨p.Notes.Low + up, p.Notes.High + up⟩).all (zf v p.Boy week)
structure QP (v : VoiceBook) (p : AC) : Prop where
 boy : 0 ≤ p.Boy ∧ p.Boy < v.Boys.l.length
 low : 0 ≤ p.Notes.Low
 le : p.Notes.Low ≤ p.Notes.High
 high : p.Notes.High ≤ 40
section
variable {v : VoiceBook} (hf : Wz v) (hok : vOk v = true) (hfi : FZ v = true) {y : AH} (hs : Qs y.OrganBook.Voice v) {week : Int} (hw : 0 ≤ week ∧ week < v.Weeks)
include hf hok hfi hs hw
theorem ue {p : AC} (hp : QP v p) (n : Int) : ∃ r, EK y.OrganBook.Voice p.Boy week n = some r ∧ (if (decide (r.2 = 0)) = true then (!(decide (r.1 = 2))) else true) = !zf v p.Boy week n := by
 have hf' := hs.few hf
 have hok' : vOk y.OrganBook.Voice = true := by rw [hs.vok]; exact hok
 have hfi' : FZ y.OrganBook.Voice = true := by rw [hs.fine]; exact hfi
 have hv' := D1 hf' hok'
 have hb : CZ y.OrganBook.Voice p.Boy = true := (UK hv' _).mpr (by rw [hs.boys]; exact hp.boy)
 have hwk : B0 y.OrganBook.Voice week = true := (RO hv' _).mpr (by rw [hs.weeks]; exact hw)
 have hq : isQ y.OrganBook.Voice p.Boy week n = BP n := by simp only [isQ, hb, hwk, Bool.true_and]
 refine ⟨_, Ni hf' p.Boy week n, ?_⟩
 rw [hq, hs.sings]
 cases hn : BP n with
 | true =>
  have : IO y.OrganBook.Voice true = 0 := by simp [IO, hok', hfi']
  rw [this, if_pos rfl]
  simp [zf, hn]
 | false =>
  have : IO y.OrganBook.Voice false = 21 := by simp [IO, hok']
  rw [this, if_neg (show ¬ (21 : Int) = 0 by decide)]
  simp [zf, hn]
theorem uS {p : AC} (hp : QP v p) {key s : Int} (hk : -6 ≤ key ∧ key ≤ 6) (hs2 : -2 ≤ s ∧ s ≤ 2) : DK y p week key ⟨s, s⟩ = some (H6 v week (key + s) p) := by
 have g1 := hp.low
 have g2 := hp.le
 have g3 := hp.high
 have w1 : W (W (p.Notes.Low + key) + s) = p.Notes.Low + (key + s) := by rw [LY (x := p.Notes.Low + key) (by omega) (by omega), LY (by omega) (by omega)]; omega
 have w2 : W (W (p.Notes.High + key) + s) = p.Notes.High + (key + s) := by rw [LY (x := p.Notes.High + key) (by omega) (by omega), LY (by omega) (by omega)]; omega
 have hl : (rng ⟨p.Notes.Low + (key + s), p.Notes.High + (key + s)⟩).length = (p.Notes.High - p.Notes.Low + 1).toNat := by
  rw [FR]
  show (p.Notes.High + (key + s) - (p.Notes.Low + (key + s)) + 1).toNat = _
  congr 1; omega
 have e : Loop (BW y p week key ⟨s, s⟩) (p.Notes.Low + (key + s)) = some (((rng ⟨p.Notes.Low + (key + s), p.Notes.High + (key + s)⟩).findSome? fun n => if zf v p.Boy week n then none else some (.inl false : Bool ⊕ Unit)).getD (.inr ())) := by
  refine Loop.find (fun i => p.Notes.Low + (key + s) + i) _ _ (by rw [hl]; omega) (by simp) ?_ ?_
  ·intro pre a post hx _ hW
   have ha := jp hx
   have hm : a ∈ rng ⟨p.Notes.Low + (key + s), p.Notes.High + (key + s)⟩ := by rw [hx]; simp
   obtain ⟨m1, m2⟩ := IC.mp hm
   simp only at ha m1 m2
   obtain ⟨r, hr, hr2⟩ := ue hf hok hfi hs hw hp a
   simp only [BW, w2]
   rw [← ha, if_pos (by simpa using m2), hr, Ax, hr2]
   cases zf v p.Boy week a with
   | false => simp
   | true =>
    simp only [Bool.not_true, Bool.false_eq_true, if_false, if_true]
    rw [LY (by omega) (by omega), ha, Int.add_assoc]
  ·intro _
   have : ¬ (p.Notes.Low + (key + s) + ((rng ⟨p.Notes.Low + (key + s), p.Notes.High + (key + s)⟩).length : Int) ≤ p.Notes.High + (key + s)) := by rw [hl]; omega
   simp only [BW, w2, decide_eq_false this, Bool.false_eq_true, if_false]
 simp only [DK, w1, e, Ax]
 exact TW (zf v p.Boy week) (.inl false : Bool ⊕ Unit) (fun o => match o.getD (.inr ()) with | .inl w4 => some w4 | .inr _ => some true) rfl rfl _
end
end
end Go.Lf
namespace Go.Lf
open Go
noncomputable section
def Vo : List Int := rng ⟨-6, 6⟩
def iZ (v : VoiceBook) (week s : Int) (parts : List AC) : List Int := Vo.filter fun key => parts.all (H6 v week (key + s))
theorem rJ {v : VoiceBook} {week s key : Int} {parts : List AC} (h1 : -6 ≤ key) (h2 : key ≤ 6) : key ∈ iZ v week s parts ↔ parts.all (H6 v week (key + s)) = true := by
 unfold iZ
 rw [List.mem_filter]
 exact ⟨fun h => h.2, fun h => ⟨IC.mpr ⟨h1, h2⟩, h⟩⟩
section
variable {v : VoiceBook} (hf : Wz v) (hok : vOk v = true) {s : Int} (h1 : -2 ≤ s) (h2 : s ≤ 2) {week : Int} (hw : 0 ≤ week ∧ week < v.Weeks) {ps : Sl AC} (hp : ∀ p ∈ ps.l, QP v p) (hl : 1 ≤ ps.l.length ∧ ps.l.length ≤ 4)
include hf hok hp
theorem oO {p : AC} (hm : p ∈ ps.l) : JD (AG v s) p = true := by
 have g := hp p hm
 have hv := (D1 hf hok).boys
 have e : (AG v s).Voice.Boys.len = v.Boys.l.length := Sl.len_l _
 have := g.boy
 have := g.low
 have := g.le
 have := g.high
 simp only [JD, Aj, e, Bool.and_eq_true, decide_eq_true_eq]
 rw [LY (by omega) (by omega)]
 omega
include hl
theorem kE : (if (Aj ps.len 1 4) then Option.bind (AX ps (AG v s)) fun v3 => some ((!v3)) else some (false) : Option (Bool)) = some true := by
 have hw1 : Aj ps.len 1 4 = true := by simp only [Aj, Sl.len_l, Bool.and_eq_true, decide_eq_true_eq]; omega
 have e : Loop (AY ps (AG v s)) 0 = some ((ps.l.findSome? fun _ => (none : Option (Int ⊕ Unit))).getD (.inr ())) := by
  refine Loop.find (fun i => i) ps.l _ (by omega) rfl ?_ ?_
  ·intro pre a post hx _ hW
   have hi : ps.ix pre.length = some a := Sl.ix_at hx
   have hlt : (pre.length : Int) < ps.len := by rw [Sl.len_l, hx]; simp; omega
   have hk : E3 a (AG v s) = false := by
    simp only [E3, oO hf hok hp (p := a) (by rw [hx]; simp), Bool.not_true]
   simp only [AY, decide_eq_true hlt, if_true, hi, Ax, hk, Bool.false_eq_true, if_false, hW]
  ·intro _
   have hlt : ¬ (ps.l.length : Int) < ps.len := by rw [Sl.len_l]; omega
   simp only [AY, decide_eq_false hlt, Bool.false_eq_true, if_false]
 have hn : ∀ l : List AC, (l.findSome? fun _ => (none : Option (Int ⊕ Unit))) = none := fun l => by induction l <;> simp_all
 rw [hn] at e
 simp only [hw1, if_true, AX, Am, e, Option.getD_none, Ax]
 rfl
include h1 h2 hw
theorem cc (hfi : FZ v = true) : ∃ K : Sl Int, Bw (AG v s) week ps = some (K, 0) ∧ K.l = iZ v week s ps.l := by
 obtain ⟨y, hy, hs, hsh⟩ := ZN hf hok h1 h2 hfi
 have hv := D1 hf hok
 have hwk : Aj week 0 (W ((AG v s).Voice.Weeks - 1)) = true := by
  have e : (AG v s).Voice.Weeks = v.Weeks := rfl
  have := hv.weeks
  simp only [Aj, e, Bool.and_eq_true, decide_eq_true_eq]
  rw [LY (by omega) (by omega)]; omega
 have inner : ∀ key : Int, -6 ≤ key ∧ key ≤ 6 → Loop (Ci week ps y ⟨s, s⟩ key) 0 = some (if ps.l.all (H6 v week (key + s)) then .inr () else .inl ()) := by
  intro key hk
  have e : Loop (Ci week ps y ⟨s, s⟩ key) 0 = some ((ps.l.findSome? fun p => if H6 v week (key + s) p then none else some (.inl () : Unit ⊕ Unit)).getD (.inr ())) := by
   refine Loop.find (fun i => i) ps.l _ (by omega) rfl ?_ ?_
   ·intro pre a post hx _ hW
    have hi : ps.ix pre.length = some a := Sl.ix_at hx
    have hlt : (pre.length : Int) < ps.len := by rw [Sl.len_l, hx]; simp; omega
    have ha := uS hf hok hfi hs hw (hp a (by rw [hx]; simp)) hk ⟨h1, h2⟩
    simp only [Ci, decide_eq_true hlt, if_true, hi, Ax, ha, hW]
    cases H6 v week (key + s) a <;> rfl
   ·intro _
    have hlt : ¬ (ps.l.length : Int) < ps.len := by rw [Sl.len_l]; omega
    simp only [Ci, decide_eq_false hlt, Bool.false_eq_true, if_false]
  rw [e]
  congr 1
  have := TW (H6 v week (key + s)) (.inl () : Unit ⊕ Unit) (fun o => some (match o.getD (.inr ()) with | .inr _ => true | .inl _ => false)) rfl rfl ps.l
  revert this
  generalize (ps.l.findSome? fun p => if H6 v week (key + s) p then none else some (.inl () : Unit ⊕ Unit)).getD (.inr ()) = X
  intro h
  have h' := Option.some.inj h
  rw [← h']
  rcases X with _ | _ <;> rfl
 have outer : Loop (Db week ps y ⟨s, s⟩) ((Sl.nil : Sl Int), -6) = some (Sl.grow (iZ v week s ps.l)) := by
  refine JC (fun t i => (t, -6 + i)) Vo (fun pre => Sl.grow (pre.filter fun key => ps.l.all (H6 v week (key + s)))) (by unfold Vo; rw [FR]; decide) rfl ?_ ?_
  ·intro pre a post hx hW
   have ha := jp hx
   have hm : a ∈ Vo := by rw [hx]; simp
   obtain ⟨m1, m2⟩ := IC.mp hm
   simp only at ha m1 m2
   have hlen : pre.length ≤ 13 := by
    have := congrArg List.length hx
    unfold Vo at this
    rw [FR] at this; simp at this; omega
   simp only [Db]
   rw [← ha, if_pos (by simpa using m2), inner a ⟨m1, m2⟩, Ax]
   have hWa : W (a + 1) = -6 + ((pre.length : Int) + 1) := by rw [LY (by omega) (by omega), ha]; omega
   rw [List.filter_append]
   cases hq : ps.l.all (H6 v week (a + s)) with
   | true =>
    have hr : (pre.filter fun key => ps.l.all (H6 v week (key + s))).length + ([a] : List Int).length ≤ 1000000000 := by
     have := List.length_filter_le (fun key => ps.l.all (H6 v week (key + s))) pre
     simp; omega
    simp only [if_true, Sl.app_grow (q := 8) (xs := pre.filter fun key => ps.l.all (H6 v week (key + s))) (ys := [a]) (List.cons_ne_nil _ _) (HK hr (by omega)), Ax, hWa, List.filter_cons, hq, List.filter_nil]
   | false =>
    simp only [Bool.false_eq_true, if_false, hWa, List.filter_cons, hq, List.filter_nil, List.append_nil]
  ·have hlen : Vo.length = 13 := by unfold Vo; rw [FR]; rfl
   have : ¬ (-6 + (Vo.length : Int) ≤ 6) := by rw [hlen]; omega
   simp only [Db, decide_eq_false this, Bool.false_eq_true, if_false]
   rfl
 refine ⟨(Sl.grow (iZ v week s ps.l)).filled, ?_, by rw [Sl.l_filled, Sl.l_grow]⟩
 simp only [Bw, kE hf hok hp hl, Ax, hwk, if_true, hy, decide_true, hsh, outer, Sl.sub3_all]
theorem rR (hfi : FZ v = false) : Bw (AG v s) week ps = some (Sl.nil, 82) := by
 obtain ⟨y, hy⟩ := eI hf hok h1 h2 hfi
 have hv := D1 hf hok
 have hwk : Aj week 0 (W ((AG v s).Voice.Weeks - 1)) = true := by
  have e : (AG v s).Voice.Weeks = v.Weeks := rfl
  have := hv.weeks
  simp only [Aj, e, Bool.and_eq_true, decide_eq_true_eq]
  rw [LY (by omega) (by omega)]; omega
 simp only [Bw, kE hf hok hp hl, Ax, hwk, if_true, hy]
 rfl
end
end
end Go.Lf
