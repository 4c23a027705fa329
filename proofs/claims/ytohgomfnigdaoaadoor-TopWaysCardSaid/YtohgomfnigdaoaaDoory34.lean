/- A part of the proof. -/
import Derived.Test.YtohgomfnigdaoaaDoory33
set_option linter.all false
namespace Go.Lf
open Go Go.Lf.Pl
noncomputable section
def BE : Int → Bool := fun _ => false
def sB (b : BenchBook) : List (List AC) := Iu b BE 3 (idx b.Pieces.l.length)
def BC (b : BenchBook) (ex : Int → Bool) : List Int := Dp b.Pieces.l.length (TQ b ex)
def pF (b : BenchBook) : List Int := (idx b.Voice.Boys.l.length).filter fun boy => decide ((BC b BE).length < (BC b fun i => decide (i = boy)).length)
theorem hT {b : BenchBook} (hv : GT b) : qp b (idx b.Pieces.l.length) := by rw [← SL hv]; exact cq hv []
theorem kT : ∀ (L : List (List AC)) (k : Nat), k + L.length ≤ 100000000000 → UY (onL GH) (L.map Sl.grow) (.inl (k : Int)) = some (true, .inl ((k + L.length : Nat) : Int))
 | [], k, _ => rfl
 | x :: L, k, h => by
  have hW : W ((k : Int) + 1) = ((k + 1 : Nat) : Int) := by rw [Q7 (by simp at h; omega)]; simp
  have := kT L (k + 1) (by simp at h ⊢; omega)
  simp only [List.map_cons, UY, onL, GH, hW, this]
  simp; omega
section
variable {b : BenchBook} (hf : pi b)
include hf
theorem cY : GE b = some (if BA b true = 0 then (((sB b).length : Int), 0) else (0, BA b true)) := by
 obtain ⟨bk, he, h2⟩ := FC hf true
 simp only [GE, he, Option.bind_some]
 by_cases h0 : BA b true = 0
 ·obtain ⟨hv, _, hfi⟩ := HM hf h0
  obtain ⟨es, rfl, hes⟩ := h2 h0
  have h1 := da hv (Mp.mk es) (Sl.nil : Sl Int) (by simp [Sl.l])
  rw [Sl.l_nil, SL hv] at h1
  have hw := V3 hv (Mp.mk es) (a1 := Sl.grow (idx b.Pieces.l.length)) (by rw [Sl.l_grow]; exact hT hv) (m := 3) (by omega)
  rw [Sl.l_grow] at hw
  have hlen := rP hv BE 3 (ps := idx b.Pieces.l.length) (hT hv).1
  have hr := kT (sB b) 0 (by simp only [sB]; omega)
  have := pV hv hes (yf := onL GH) (m := 3) (hT hv) hr
  simp only [Nat.zero_add] at this
  rw [if_pos h0, h0]
  simp only [decide_true, if_true, h1, Option.bind_some, hw, show (3 : Int).toNat = 3 from rfl]
  have e0 : ((0 : Nat) : Int) = 0 := rfl
  rw [e0] at this
  rw [this]; rfl
 ·simp [h0]
theorem dF : ∃ l : Sl AC, LK b = some (l, if BA b true = 0 then (if (sB b).isEmpty then 4 else 0) else BA b true) ∧ l.l = if BA b true = 0 then (sB b).head?.getD [] else [] := by
 obtain ⟨bk, he, h2⟩ := FC hf true
 simp only [LK, he, Option.bind_some]
 by_cases h0 : BA b true = 0
 ·obtain ⟨hv, _, hfi⟩ := HM hf h0
  obtain ⟨es, rfl, hes⟩ := h2 h0
  have h1 := da hv (Mp.mk es) (Sl.nil : Sl Int) (by simp [Sl.l])
  rw [Sl.l_nil, SL hv] at h1
  have hw := V3 hv (Mp.mk es) (a1 := Sl.grow (idx b.Pieces.l.length)) (by rw [Sl.l_grow]; exact hT hv) (m := 3) (by omega)
  rw [Sl.l_grow] at hw
  have hfst := ca hv hes (m := 3) (hT hv)
  simp only [if_pos h0, h0, decide_true, if_true, h1, Option.bind_some, hw, show (3 : Int).toNat = 3 from rfl, hfst]
  cases hA : Iu b (fun _ => false) 3 (idx b.Pieces.l.length) with
  | nil =>
   have hB : sB b = [] := hA
   simp only [JW, hB]
   exact ⟨Sl.nil, rfl, rfl⟩
  | cons x L =>
   have hB : sB b = x :: L := hA
   simp only [JW, hB]
   exact ⟨(Sl.grow x).filled, rfl, by rw [Sl.l_filled, Sl.l_grow]; rfl⟩
 ·simp only [if_neg h0, decide_eq_false h0, Bool.false_eq_true, if_false]
  exact ⟨Sl.nil, rfl, rfl⟩
theorem Yj : ∃ l : Sl AC, Jg b = some (l, BA b true) ∧ l.l = if BA b true = 0 then K6 b BE else [] := by
 obtain ⟨bk, he, h2⟩ := FC hf true
 simp only [Jg, he, Option.bind_some]
 by_cases h0 : BA b true = 0
 ·obtain ⟨hv, _, hfi⟩ := HM hf h0
  obtain ⟨es, rfl, hes⟩ := h2 h0
  obtain ⟨o, h1, _, h3⟩ := Wu hv hes
  simp only [if_pos h0, h0, decide_true, if_true, h1, Option.bind_some]
  exact ⟨_, rfl, h3⟩
 ·simp only [if_neg h0, decide_eq_false h0, Bool.false_eq_true, if_false]
  exact ⟨Sl.nil, rfl, rfl⟩
omit hf in
theorem vh (a v : Int) : H9 a (Sl.cold [v]) = some (min a v) := ob a v
theorem cD : ∃ l : Sl Int, F6 b = some (l, BA b true) ∧ l.l = if BA b true = 0 then pF b else [] := by
 obtain ⟨bk, he, h2⟩ := FC hf true
 simp only [F6, he, Option.bind_some]
 by_cases h0 : BA b true = 0
 ·obtain ⟨hv, _, hfi⟩ := HM hf h0
  obtain ⟨es, rfl, hes⟩ := h2 h0
  obtain ⟨o, h1, h3, _⟩ := Wu hv hes
  have hb4 := hv.voice.boys
  have e : Loop (EF b o) (Sl.nil, 0) = some (Sl.grow (pF b)) := by
   refine FV (fun t i => (t, i)) (idx b.Voice.Boys.l.length) (fun pre => Sl.grow (pre.filter fun boy => decide ((BC b BE).length < (BC b fun i => decide (i = boy)).length))) (by rw [Ao]; omega) rfl ?_ ?_
   ·intro pre boy post hpre hW
    obtain ⟨hbp, hlt0⟩ := P8 hpre
    have hlt : (pre.length : Int) < b.Voice.Boys.len := by rw [Sl.len_l]; exact hlt0
    obtain ⟨es2, hes2, ho2⟩ := tf hv hfi fun i => decide (i = (pre.length : Int))
    obtain ⟨o2, g1, g3, _⟩ := Wu hv hes2
    have hle := List.length_filter_le (fun boy => decide ((BC b BE).length < (BC b fun i => decide (i = boy)).length)) pre
    have hlen : (pre.filter fun boy => decide ((BC b BE).length < (BC b fun i => decide (i = boy)).length)).length + ([(pre.length : Int)] : List Int).length ≤ 1000000000 := by rw [List.length_singleton]; omega
    have hl1 : o.1.len = ((BC b BE).length : Int) := by rw [Sl.len_l, h3]; rfl
    have hl2 : o2.1.len = ((BC b fun i => decide (i = (pre.length : Int))).length : Int) := by rw [Sl.len_l, g3]; rfl
    rw [Js, hbp]
    simp only [EF, decide_eq_true hlt, if_true, jj, ho2, Option.bind_some, g1, vh, hl1, hl2, hW]
    by_cases hc : (BC b BE).length < (BC b fun i => decide (i = (pre.length : Int))).length
    ·have hc2 : min ((BC b BE).length : Int) ((BC b fun i => decide (i = (pre.length : Int))).length : Int) < ((BC b fun i => decide (i = (pre.length : Int))).length : Int) := by omega
     simp only [decide_eq_true hc2, decide_eq_true hc, if_true, Sl.app_grow (q := 8) (List.cons_ne_nil _ _) (Bl hlen (by omega)), Option.bind_some]
    ·have hc2 : ¬ min ((BC b BE).length : Int) ((BC b fun i => decide (i = (pre.length : Int))).length : Int) < ((BC b fun i => decide (i = (pre.length : Int))).length : Int) := by omega
     simp only [decide_eq_false hc2, decide_eq_false hc, Bool.false_eq_true, if_false, List.append_nil]
   ·have hlt : ¬ ((idx b.Voice.Boys.l.length).length : Int) < b.Voice.Boys.len := by rw [Sl.len_l, Ao]; omega
    simp only [EF, decide_eq_false hlt, Bool.false_eq_true, if_false, pF]
  simp only [if_pos h0, h0, decide_true, if_true, h1, Option.bind_some, e, Sl.sub3_all]
  exact ⟨_, rfl, by rw [Sl.l_filled, Sl.l_grow]⟩
 ·simp only [if_neg h0, decide_eq_false h0, Bool.false_eq_true, if_false]
  exact ⟨Sl.nil, rfl, rfl⟩
omit hf in
theorem sR {b : BenchBook} (hv : GT b) (ex : Int → Bool) {m : Nat} {ps : List Int} (hp : qp b ps) {x : List AC} (hx : x ∈ Iu b ex m ps) : x.length ≤ 1000 := by
 have hall : ∀ (W : List Jd) (x : List AC), x ∈ Ft W → (∀ w ∈ W, w.many ≤ 3) → x.length ≤ 3 * W.length := by
  intro W
  induction W with
  | nil => intro x hx _; simp [Ft] at hx; subst hx; simp
  | cons w W ih =>
   intro x hx hw
   simp only [Ft, List.mem_flatMap, List.mem_map] at hx
   obtain ⟨c, hc, r, hr, rfl⟩ := hx
   have h1 := Ig hc
   have h2 := ih r hr fun w' h => hw w' (List.mem_cons_of_mem _ h)
   have h3 := hw w List.mem_cons_self
   simp only [BO, List.length_append, List.length_map, List.length_cons]; omega
 simp only [Iu, J7, List.nil_append, List.map_id', List.mem_filter] at hx
 have h1 := hall _ x hx.1 (by
  intro w hw
  simp only [EV, List.mem_map] at hw
  obtain ⟨w', hw', rfl⟩ := hw
  have := (Wl hv m hp hw').1.many
  simp only [J8]; omega)
 have h2 := PI hv m hp.1
 simp only [EV, List.length_map] at h1
 omega
end
end
end Go.Lf
