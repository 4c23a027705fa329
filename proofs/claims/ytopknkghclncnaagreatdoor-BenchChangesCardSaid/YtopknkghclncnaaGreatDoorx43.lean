/- A part of the proof. -/
import Derived.Test.YtopknkghclncnaaGreatDoorx42
set_option linter.all false
namespace Go.Lf
open Go Go.Lf.Pl
noncomputable section
def Ap : Int → Bool := fun _ => false
def hG (b : BenchBook) : List (List AA) := JH b Ap 3 (idx b.Pieces.l.length)
def BQ (b : BenchBook) (ex : Int → Bool) : List Int := F5 b.Pieces.l.length (QW b ex)
def ka (b : BenchBook) : List Int := (idx b.Voice.Boys.l.length).filter fun boy => decide ((BQ b Ap).length < (BQ b fun i => decide (i = boy)).length)
theorem cx {b : BenchBook} (hv : Ek b) : sK b (idx b.Pieces.l.length) := by rw [← ME hv]; exact Wg hv []
theorem pm : ∀ (L : List (List AA)) (k : Nat), k + L.length ≤ 100000000000 → Tq (onL Hl) (L.map Sl.grow) (.inl (k : Int)) = some (true, .inl ((k + L.length : Nat) : Int))
 | [], k, _ => rfl
 | x :: L, k, h => by
  have hW : W ((k : Int) + 1) = ((k + 1 : Nat) : Int) := by rw [Ig (by simp at h; omega)]; simp
  have := pm L (k + 1) (by simp at h ⊢; omega)
  simp only [List.map_cons, Tq, onL, Hl, hW, this]
  simp; omega
section
variable {b : BenchBook} (hf : Wi b)
include hf
theorem Ro : Js b = some (if AU b true = 0 then (((hG b).length : Int), 0) else (0, AU b true)) := by
 obtain ⟨bk, he, h2⟩ := Dh hf true
 simp only [Js, he, Option.bind_some]
 by_cases h0 : AU b true = 0
 ·obtain ⟨hv, _, hfi⟩ := A4 hf h0
  obtain ⟨es, rfl, hes⟩ := h2 h0
  have h1 := gf hv (Mp.mk es) (Sl.nil : Sl Int) (by simp [Sl.l])
  rw [Sl.l_nil, ME hv] at h1
  have hw := SK hv (Mp.mk es) (a1 := Sl.grow (idx b.Pieces.l.length)) (by rw [Sl.l_grow]; exact cx hv) (m := 3) (by omega)
  rw [Sl.l_grow] at hw
  have hlen := vY hv Ap 3 (ps := idx b.Pieces.l.length) (cx hv).1
  have hr := pm (hG b) 0 (by simp only [hG]; omega)
  have := lO hv hes (yf := onL Hl) (m := 3) (cx hv) hr
  simp only [Nat.zero_add] at this
  rw [if_pos h0, h0]
  simp only [decide_true, if_true, h1, Option.bind_some, hw, show (3 : Int).toNat = 3 from rfl]
  have e0 : ((0 : Nat) : Int) = 0 := rfl
  rw [e0] at this
  rw [this]; rfl
 ·simp [h0]
theorem TD : ∃ l : Sl AA, Jq b = some (l, if AU b true = 0 then (if (hG b).isEmpty then 4 else 0) else AU b true) ∧ l.l = if AU b true = 0 then (hG b).head?.getD [] else [] := by
 obtain ⟨bk, he, h2⟩ := Dh hf true
 simp only [Jq, he, Option.bind_some]
 by_cases h0 : AU b true = 0
 ·obtain ⟨hv, _, hfi⟩ := A4 hf h0
  obtain ⟨es, rfl, hes⟩ := h2 h0
  have h1 := gf hv (Mp.mk es) (Sl.nil : Sl Int) (by simp [Sl.l])
  rw [Sl.l_nil, ME hv] at h1
  have hw := SK hv (Mp.mk es) (a1 := Sl.grow (idx b.Pieces.l.length)) (by rw [Sl.l_grow]; exact cx hv) (m := 3) (by omega)
  rw [Sl.l_grow] at hw
  have hfst := eG hv hes (m := 3) (cx hv)
  simp only [if_pos h0, h0, decide_true, if_true, h1, Option.bind_some, hw, show (3 : Int).toNat = 3 from rfl, hfst]
  cases hA : JH b (fun _ => false) 3 (idx b.Pieces.l.length) with
  | nil =>
   have hB : hG b = [] := hA
   simp only [JU, hB]
   exact ⟨Sl.nil, rfl, rfl⟩
  | cons x L =>
   have hB : hG b = x :: L := hA
   simp only [JU, hB]
   exact ⟨(Sl.grow x).filled, rfl, by rw [Sl.l_filled, Sl.l_grow]; rfl⟩
 ·simp only [if_neg h0, decide_eq_false h0, Bool.false_eq_true, if_false]
  exact ⟨Sl.nil, rfl, rfl⟩
theorem OZ : ∃ l : Sl Int, HI b = some (l, AU b true) ∧ l.l = if AU b true = 0 then BQ b Ap else [] := by
 obtain ⟨bk, he, h2⟩ := Dh hf true
 simp only [HI, he, Option.bind_some]
 by_cases h0 : AU b true = 0
 ·obtain ⟨hv, _, hfi⟩ := A4 hf h0
  obtain ⟨es, rfl, hes⟩ := h2 h0
  obtain ⟨o, h1, h3, _⟩ := SU hv hes
  simp only [if_pos h0, h0, decide_true, if_true, h1, Option.bind_some, Sl.sub3_all]
  exact ⟨_, rfl, by rw [Sl.l_filled, h3]; rfl⟩
 ·simp only [if_neg h0, decide_eq_false h0, Bool.false_eq_true, if_false]
  exact ⟨Sl.nil, rfl, rfl⟩
theorem QP : ∃ l : Sl AA, IW b = some (l, AU b true) ∧ l.l = if AU b true = 0 then VZ b Ap else [] := by
 obtain ⟨bk, he, h2⟩ := Dh hf true
 simp only [IW, he, Option.bind_some]
 by_cases h0 : AU b true = 0
 ·obtain ⟨hv, _, hfi⟩ := A4 hf h0
  obtain ⟨es, rfl, hes⟩ := h2 h0
  obtain ⟨o, h1, _, h3⟩ := SU hv hes
  simp only [if_pos h0, h0, decide_true, if_true, h1, Option.bind_some]
  exact ⟨_, rfl, h3⟩
 ·simp only [if_neg h0, decide_eq_false h0, Bool.false_eq_true, if_false]
  exact ⟨Sl.nil, rfl, rfl⟩
omit hf in
theorem zW (a v : Int) : M3 a (Sl.cold [v]) = some (min a v) := tr a v
omit hf in
theorem XC {b : BenchBook} (hv : Ek b) (ex : Int → Bool) : (F5 b.Pieces.l.length (QW b ex)).length ≤ 3 := by
 have hpc := hv.pieces
 unfold F5
 cases h : (idx b.Pieces.l.length).findSome? fun many => (Ei many.toNat (idx b.Pieces.l.length)).find? (QW b ex) with
 | none => simp only [Option.getD_none, AQ]; omega
 | some l =>
  obtain ⟨many, hm, h1⟩ := List.exists_of_findSome?_eq_some h
  have := Us (List.mem_of_find?_eq_some h1)
  have := (G7.mp hm)
  simp only [Option.getD_some]; omega
theorem SH : ∃ l : Sl Int, Jm b = some (l, AU b true) ∧ l.l = if AU b true = 0 then ka b else [] := by
 obtain ⟨bk, he, h2⟩ := Dh hf true
 simp only [Jm, he, Option.bind_some]
 by_cases h0 : AU b true = 0
 ·obtain ⟨hv, _, hfi⟩ := A4 hf h0
  obtain ⟨es, rfl, hes⟩ := h2 h0
  obtain ⟨o, h1, h3, _⟩ := SU hv hes
  have hb4 := hv.voice.boys
  have e : Loop (Gf b o) (Sl.nil, 0) = some (Sl.grow (ka b)) := by
   refine Cj (fun t i => (t, i)) (idx b.Voice.Boys.l.length) (fun pre => Sl.grow (pre.filter fun boy => decide ((BQ b Ap).length < (BQ b fun i => decide (i = boy)).length))) (by rw [AQ]; omega) rfl ?_ ?_
   ·intro pre boy post hpre hW
    obtain ⟨hbp, hlt0⟩ := IG hpre
    have hlt : (pre.length : Int) < b.Voice.Boys.len := by rw [Sl.len_l]; exact hlt0
    obtain ⟨es2, hes2, ho2⟩ := wd hv hfi fun i => decide (i = (pre.length : Int))
    obtain ⟨o2, g1, g3, _⟩ := SU hv hes2
    have hle := List.length_filter_le (fun boy => decide ((BQ b Ap).length < (BQ b fun i => decide (i = boy)).length)) pre
    have hlen : (pre.filter fun boy => decide ((BQ b Ap).length < (BQ b fun i => decide (i = boy)).length)).length + ([(pre.length : Int)] : List Int).length ≤ 1000000000 := by rw [List.length_singleton]; omega
    have hl1 : o.1.len = ((BQ b Ap).length : Int) := by rw [Sl.len_l, h3]; rfl
    have hl2 : o2.1.len = ((BQ b fun i => decide (i = (pre.length : Int))).length : Int) := by rw [Sl.len_l, g3]; rfl
    rw [E4, hbp]
    simp only [Gf, decide_eq_true hlt, if_true, nL, ho2, Option.bind_some, g1, zW, hl1, hl2, hW]
    by_cases hc : (BQ b Ap).length < (BQ b fun i => decide (i = (pre.length : Int))).length
    ·have hc2 : min ((BQ b Ap).length : Int) ((BQ b fun i => decide (i = (pre.length : Int))).length : Int) < ((BQ b fun i => decide (i = (pre.length : Int))).length : Int) := by omega
     simp only [decide_eq_true hc2, decide_eq_true hc, if_true, Sl.app_grow (q := 8) (List.cons_ne_nil _ _) (A8 hlen (by omega)), Option.bind_some]
    ·have hc2 : ¬ min ((BQ b Ap).length : Int) ((BQ b fun i => decide (i = (pre.length : Int))).length : Int) < ((BQ b fun i => decide (i = (pre.length : Int))).length : Int) := by omega
     simp only [decide_eq_false hc2, decide_eq_false hc, Bool.false_eq_true, if_false, List.append_nil]
   ·have hlt : ¬ ((idx b.Voice.Boys.l.length).length : Int) < b.Voice.Boys.len := by rw [Sl.len_l, AQ]; omega
    simp only [Gf, decide_eq_false hlt, Bool.false_eq_true, if_false, ka]
  simp only [if_pos h0, h0, decide_true, if_true, h1, Option.bind_some, e, Sl.sub3_all]
  exact ⟨_, rfl, by rw [Sl.l_filled, Sl.l_grow]⟩
 ·simp only [if_neg h0, decide_eq_false h0, Bool.false_eq_true, if_false]
  exact ⟨Sl.nil, rfl, rfl⟩
omit hf in
theorem XR {b : BenchBook} {ex : Int → Bool} {ps : List Int} {out : Sl (Sl AA)} (hp : (out.l.map Sl.l).Perm (JH b ex 3 ps)) (hl : out.l.length ≤ 68719476736) (hx : ∀ x ∈ out.l, x.l.length ≤ 100) (hne : JH b ex 3 ps ≠ []) :
  ∃ s, HC out = some s ∧ s.l = (JH b ex 3 ps).head?.getD [] := by
 cases hA : JH b ex 3 ps with
 | nil => exact absurd hA hne
 | cons x L =>
  rw [hA] at hp
  cases ho : out.l with
  | nil => rw [ho] at hp; have := hp.length_eq; simp at this
  | cons a r =>
   obtain ⟨s, h1, h2⟩ := sZ ho (by omega) (fun x hx' => by have := hx x hx'; omega)
   refine ⟨s, h1, ?_⟩
   rw [h2]
   have hs := l4 (b := b) ex 3 ps
   rw [hA] at hs
   exact kf hp hs (List.mem_map_of_mem (by rw [ho]; simp))
theorem oZ (hv : Ek b) : ∃ out, Eg b (Sl.nil : Sl Int) = some (Sl.hot (idx b.Pieces.l.length)) ∧ Gt b (Jb b Ap) (Sl.hot (idx b.Pieces.l.length)) = some out ∧ (out.l.map Sl.l).Perm (hG b) ∧ out.l.length ≤ 68719476736 ∧ ∀ x ∈ out.l, x.l.length ≤ 100 := by
 obtain ⟨out, h1, h2, _, h3, h4, h5⟩ := gA hv (ex := Ap) (but := (Sl.nil : Sl Int)) (by simp [Sl.l])
 rw [Sl.l_nil, ME hv] at h1 h2 h3
 exact ⟨out, h1, h2, h3, h4, h5⟩
theorem JA (hv : Ek b) (hfi : LL b.Voice = true) : C2 b 0 = some (Jb b Ap) := Y6 hv hfi Ap fun boy h0 h1 => oG boy
theorem fq : MK b = some (if AU b true = 0 then (((hG b).length : Int), 0) else (0, AU b true)) := by
 simp only [MK, Df hf, Option.bind_some]
 by_cases h0 : AU b true = 0
 ·obtain ⟨hv, _, hfi⟩ := A4 hf h0
  obtain ⟨out, h1, h2, h3, _, _⟩ := oZ hf hv
  have hl := h3.length_eq
  rw [List.length_map] at hl
  simp only [if_pos h0, h0, decide_true, if_true, JA hf hv hfi, Option.bind_some, h1, h2, Sl.len_l, hl]
 ·simp [h0]
theorem fk : ∃ l : Sl AA, MC b = some (l, if AU b true = 0 then (if (hG b).isEmpty then 4 else 0) else AU b true) ∧ l.l = if AU b true = 0 then (hG b).head?.getD [] else [] := by
 simp only [MC, Df hf, Option.bind_some]
 by_cases h0 : AU b true = 0
 ·obtain ⟨hv, _, hfi⟩ := A4 hf h0
  obtain ⟨out, h1, h2, h3, h4, h5⟩ := oZ hf hv
  have hl := h3.length_eq
  rw [List.length_map] at hl
  simp only [if_pos h0, h0, decide_true, if_true, JA hf hv hfi, Option.bind_some, h1, h2, Sl.len_l, hl]
  by_cases hB : hG b = []
  ·simp only [hB]
   exact ⟨Sl.nil, rfl, rfl⟩
  ·obtain ⟨s, g1, g2⟩ := XR h3 h4 h5 hB
   have hne : ¬ ((hG b).length : Int) = 0 := by
    intro h; apply hB; exact List.length_eq_zero_iff.mp (by omega)
   have hne2 : (hG b).isEmpty = false := by simpa using hB
   simp only [decide_eq_false hne, Bool.false_eq_true, if_false, g1, Option.bind_some, hne2]
   exact ⟨s, rfl, g2⟩
 ·simp only [if_neg h0, decide_eq_false h0, Bool.false_eq_true, if_false]
  exact ⟨Sl.nil, rfl, rfl⟩
omit hf in
theorem Ry {b : BenchBook} (hv : Ek b) (ex : Int → Bool) : RD b.Pieces.l.length (QW b ex) = F5 b.Pieces.l.length (QW b ex) := nv _ hv.pieces.1 hv.pieces.2 (pi hv)
theorem W7 : ∃ l : Sl Int, I1 b = some (l, AU b true) ∧ l.l = if AU b true = 0 then BQ b Ap else [] := by
 simp only [I1, Df hf, Option.bind_some]
 by_cases h0 : AU b true = 0
 ·obtain ⟨hv, _, hfi⟩ := A4 hf h0
  obtain ⟨o, h1, h2⟩ := Pj hv (ex := Ap)
  simp only [if_pos h0, h0, decide_true, if_true, JA hf hv hfi, Option.bind_some, h1]
  exact ⟨o, rfl, by rw [h2, Ry hv]; rfl⟩
 ·simp only [if_neg h0, decide_eq_false h0, Bool.false_eq_true, if_false]
  exact ⟨Sl.nil, rfl, rfl⟩
omit hf in
theorem rp {b : BenchBook} (hv : Ek b) (ex : Int → Bool) : QW b ex (F5 b.Pieces.l.length (QW b ex)) = true := by
 unfold F5
 cases h : (idx b.Pieces.l.length).findSome? fun many => (Ei many.toNat (idx b.Pieces.l.length)).find? (QW b ex) with
 | none => exact pi hv
 | some l =>
  obtain ⟨many, _, h1⟩ := List.exists_of_findSome?_eq_some h
  exact List.find?_some h1
theorem aH : ∃ l : Sl AA, KB b = some (l, AU b true) ∧ l.l = if AU b true = 0 then VZ b Ap else [] := by
 simp only [KB, Df hf, Option.bind_some]
 by_cases h0 : AU b true = 0
 ·obtain ⟨hv, _, hfi⟩ := A4 hf h0
  obtain ⟨o, h1, h2⟩ := Pj hv (ex := Ap)
  rw [Ry hv] at h2
  have h3 := XC hv Ap
  obtain ⟨out, g1, g2, _, g3, g4, g5⟩ := gA hv (ex := Ap) (but := o) (by rw [h2]; omega)
  rw [h2] at g1 g2 g3
  have hc := rp hv Ap
  have hne : JH b Ap 3 (Gw b (F5 b.Pieces.l.length (QW b Ap))) ≠ [] := by
   intro h; simp [QW, h] at hc
  obtain ⟨s, k1, k2⟩ := XR g3 g4 g5 hne
  simp only [if_pos h0, h0, decide_true, if_true, JA hf hv hfi, Option.bind_some, h1, g1, g2, k1]
  refine ⟨s, rfl, ?_⟩
  rw [k2, VZ]
  cases JH b Ap 3 (Gw b (F5 b.Pieces.l.length (QW b Ap))) with
  | nil => rfl
  | cons x L => simp only [JU]; rw [Sl.l_filled, Sl.l_grow]; rfl
 ·simp only [if_neg h0, decide_eq_false h0, Bool.false_eq_true, if_false]
  exact ⟨Sl.nil, rfl, rfl⟩
omit hf in
theorem yH {boy : Int} (h : 0 ≤ boy ∧ boy < 4) : ∃ v, opI .shl 1 boy = some v ∧ ∀ i : Int, 0 ≤ i → i < 4 → F3 v i = some (decide (i = boy)) := by
 obtain ⟨n, rfl⟩ := Int.eq_ofNat_of_zero_le h.1
 refine ⟨((2 ^ n : Nat) : Int), Wt (by omega), ?_⟩
 intro i h0 h1
 obtain ⟨j, rfl⟩ := Int.eq_ofNat_of_zero_le h0
 have hn : n < 4 := by omega
 have h16 : 2 ^ n < 16 := by
  have : 2 ^ n ≤ 2 ^ 3 := Nat.pow_le_pow_right (by omega) (by omega)
  omega
 rw [kV (s := ((2 ^ n : Nat) : Int)) (i := (j : Int)) ⟨Int.natCast_nonneg _, Int.ofNat_lt.mpr h16⟩ (by omega)]
 have key : ∀ (n : _root_.Fin 4) (j : _root_.Fin 4), jP ((2 ^ n.val : Nat) : Int) ((j.val : Nat) : Int) = decide (((j.val : Nat) : Int) = ((n.val : Nat) : Int)) := by decide
 rw [key ⟨n, hn⟩ ⟨j, by omega⟩]
theorem ea : ∃ l : Sl Int, MS b = some (l, AU b true) ∧ l.l = if AU b true = 0 then ka b else [] := by
 simp only [MS, Df hf, Option.bind_some]
 by_cases h0 : AU b true = 0
 ·obtain ⟨hv, _, hfi⟩ := A4 hf h0
  obtain ⟨o, h1, h2⟩ := Pj hv (ex := Ap)
  rw [Ry hv] at h2
  have hb4 := hv.voice.boys
  have e : Loop (GR b o) (Sl.hot [], 0) = some (Sl.hot (ka b)) := by
   refine Cj (fun t i => (t, i)) (idx b.Voice.Boys.l.length) (fun pre => Sl.hot (pre.filter fun boy => decide ((BQ b Ap).length < (BQ b fun i => decide (i = boy)).length))) (by rw [AQ]; omega) rfl ?_ ?_
   ·intro pre boy post hpre hW
    obtain ⟨hbp, hlt0⟩ := IG hpre
    have hlt : (pre.length : Int) < b.Voice.Boys.len := by rw [Sl.len_l]; exact hlt0
    obtain ⟨v, hv1, hv2⟩ := yH (boy := (pre.length : Int)) (by omega)
    have hab := Y6 hv hfi (fun i => decide (i = (pre.length : Int))) (but := v) (fun i h0 h1 => hv2 i h0 (by omega))
    obtain ⟨o2, g1, g2⟩ := Pj hv (ex := fun i => decide (i = (pre.length : Int)))
    rw [Ry hv] at g2
    have hle := List.length_filter_le (fun boy => decide ((BQ b Ap).length < (BQ b fun i => decide (i = boy)).length)) pre
    have hlen : (pre.filter fun boy => decide ((BQ b Ap).length < (BQ b fun i => decide (i = boy)).length)).length + ([(pre.length : Int)] : List Int).length ≤ 1000000000 := by rw [List.length_singleton]; omega
    have hl1 : o.len = ((BQ b Ap).length : Int) := by rw [Sl.len_l, h2]; rfl
    have hl2 : o2.len = ((BQ b fun i => decide (i = (pre.length : Int))).length : Int) := by rw [Sl.len_l, g2]; rfl
    rw [E4, hbp]
    simp only [GR, decide_eq_true hlt, if_true, hv1, hab, Option.bind_some, g1, hl1, hl2, hW]
    by_cases hc : (BQ b Ap).length < (BQ b fun i => decide (i = (pre.length : Int))).length
    ·have hc2 : ((BQ b Ap).length : Int) < ((BQ b fun i => decide (i = (pre.length : Int))).length : Int) := by omega
     simp only [decide_eq_true hc2, decide_eq_true hc, if_true, Sl.app_hot (q := 8) (A8 hlen (by omega)), Option.bind_some]
    ·have hc2 : ¬ ((BQ b Ap).length : Int) < ((BQ b fun i => decide (i = (pre.length : Int))).length : Int) := by omega
     simp only [decide_eq_false hc2, decide_eq_false hc, Bool.false_eq_true, if_false, List.append_nil]
   ·have hlt : ¬ ((idx b.Voice.Boys.l.length).length : Int) < b.Voice.Boys.len := by rw [Sl.len_l, AQ]; omega
    simp only [GR, decide_eq_false hlt, Bool.false_eq_true, if_false, ka]
  simp only [if_pos h0, h0, decide_true, if_true, JA hf hv hfi, Option.bind_some, h1, e]
  exact ⟨_, rfl, rfl⟩
 ·simp only [if_neg h0, decide_eq_false h0, Bool.false_eq_true, if_false]
  exact ⟨Sl.nil, rfl, rfl⟩
omit hf in
theorem fW (x y : Sl AA) (hn : x.l.length < 4611686018427387904) (hxy : x.l = y.l) : FM x y = some true := by
 have h0 : decide (x.len = y.len) = true := by simp [Sl.len_l, hxy]
 have e : Loop (EH x y) (decide (x.len = y.len), 0) = some true := by
  have := Loop.all (f := EH x y) (fun t i => (t, i)) x.l (fun _ => true) id (x0 := (decide (x.len = y.len), 0)) (b0 := true) hn (by rw [h0]) (by
   intro pre a post hpre _ _ hW
   have hlt : (pre.length : Int) < x.len := by rw [Sl.len_l, hpre]; simp; omega
   have hy : y.ix pre.length = some a := Sl.ix_at (by rw [← hxy]; exact hpre)
   simp only [EH, Bool.true_and, decide_eq_true hlt, if_true, Sl.ix_at hpre, hy, Option.bind_some, decide_true, hW]) (by
   have hlt : ¬ (x.l.length : Int) < x.len := by rw [Sl.len_l]; omega
   simp [EH, hlt]) (by intro i; simp [EH])
  rw [this]; simp
 simp only [FM, e, Option.bind_some]
omit hf in
theorem ez {b : BenchBook} (hv : Ek b) (ex : Int → Bool) {m : Nat} {ps : List Int} (hp : sK b ps) {x : List AA} (hx : x ∈ JH b ex m ps) : x.length ≤ 1000 := by
 have hall : ∀ (W : List WZ) (x : List AA), x ∈ Kp W → (∀ w ∈ W, w.many ≤ 3) → x.length ≤ 3 * W.length := by
  intro W
  induction W with
  | nil => intro x hx _; simp [Kp] at hx; subst hx; simp
  | cons w W ih =>
   intro x hx hw
   simp only [Kp, List.mem_flatMap, List.mem_map] at hx
   obtain ⟨c, hc, r, hr, rfl⟩ := hx
   have h1 := Us hc
   have h2 := ih r hr fun w' h => hw w' (List.mem_cons_of_mem _ h)
   have h3 := hw w List.mem_cons_self
   simp only [A5, List.length_append, List.length_map, List.length_cons]; omega
 simp only [JH, T0, List.nil_append, List.map_id', List.mem_filter] at hx
 have h1 := hall _ x hx.1 (by
  intro w hw
  simp only [Hz, List.mem_map] at hw
  obtain ⟨w', hw', rfl⟩ := hw
  have := (Wu hv m hp hw').1.many
  simp only [Ve]; omega)
 have h2 := P4 hv m hp.1
 simp only [Hz, List.length_map] at h1
 omega
theorem qw (hse : EM = some true) : FA b = some true := by
 obtain ⟨l1, f1, f2⟩ := TD hf
 obtain ⟨l2, g1, g2⟩ := fk hf
 obtain ⟨s1, s2, s3⟩ := QP hf
 obtain ⟨t1, t2, t3⟩ := aH hf
 have hl1 : l1.l.length < 4611686018427387904 := by
  rw [f2]
  by_cases h0 : AU b true = 0
  ·rw [if_pos h0]
   obtain ⟨hv, _, _⟩ := A4 hf h0
   cases hA : hG b with
   | nil => simp
   | cons x L =>
    have := ez hv Ap (cx hv) (show x ∈ JH b Ap 3 (idx b.Pieces.l.length) by rw [show JH b Ap 3 (idx b.Pieces.l.length) = hG b from rfl, hA]; simp)
    simp; omega
  ·rw [if_neg h0]; simp
 have hl2 : s1.l.length < 4611686018427387904 := by
  rw [s3]
  by_cases h0 : AU b true = 0
  ·rw [if_pos h0]
   obtain ⟨hv, _, _⟩ := A4 hf h0
   rw [VZ]
   cases hA : JH b Ap 3 (Gw b (F5 b.Pieces.l.length (QW b Ap))) with
   | nil => simp [JU, Sl.l]
   | cons x L =>
    have := ez hv Ap (Wg hv (F5 b.Pieces.l.length (QW b Ap))) (show x ∈ JH b Ap 3 _ by rw [hA]; simp)
    simp only [JU]; rw [Sl.l_filled, Sl.l_grow]; omega
  ·rw [if_neg h0]; simp
 simp only [FA, Ro hf, fq hf, Option.bind_some, decide_true, if_true, Bool.not_true, Bool.false_eq_true, if_false, f1, g1, fW l1 l2 hl1 (by rw [f2, g2]), s2, t2, fW s1 t1 hl2 (by rw [s3, t3]), hse]
theorem iq (hse : EM = some true) : ED b = some true := by
 obtain ⟨l1, f1, f2⟩ := OZ hf
 obtain ⟨l2, g1, g2⟩ := W7 hf
 obtain ⟨s1, s2, s3⟩ := SH hf
 obtain ⟨t1, t2, t3⟩ := ea hf
 have hl1 : l1.l.length < 4611686018427387904 := by
  rw [f2]
  by_cases h0 : AU b true = 0
  ·rw [if_pos h0]
   obtain ⟨hv, _, _⟩ := A4 hf h0
   have := XC hv Ap
   simp only [BQ]; omega
  ·rw [if_neg h0]; simp
 have hl2 : s1.l.length < 4611686018427387904 := by
  rw [s3]
  by_cases h0 : AU b true = 0
  ·rw [if_pos h0]
   obtain ⟨hv, _, _⟩ := A4 hf h0
   have h1 := List.length_filter_le (fun boy => decide ((BQ b Ap).length < (BQ b fun i => decide (i = boy)).length)) (idx b.Voice.Boys.l.length)
   have h2 := hv.voice.boys.1
   rw [AQ] at h1
   simp only [ka]; omega
  ·rw [if_neg h0]; simp
 simp only [ED, f1, g1, Option.bind_some, Ni l1 l2 hl1, f2, g2, decide_true, if_true, Bool.not_true, Bool.false_eq_true, if_false, s2, t2, Ni s1 t1 hl2, s3, t3, hse]
end
end
end Go.Lf
