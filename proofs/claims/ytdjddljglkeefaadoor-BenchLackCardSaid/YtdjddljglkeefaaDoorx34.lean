/- A part of the proof. -/
import Derived.Test.YtdjddljglkeefaaDoorx33
set_option linter.all false
namespace Go.Lf
open Go Go.Lf.Pl
noncomputable section
def AW : Int → Bool := fun _ => false
def W0 (b : BenchBook) : List (List AB) := FD b AW 3 (idx b.Pieces.l.length)
def A5 (b : BenchBook) (ex : Int → Bool) : List Int := Dm b.Pieces.l.length (PY b ex)
def sN (b : BenchBook) : List Int := (idx b.Voice.Boys.l.length).filter fun boy => decide ((A5 b AW).length < (A5 b fun i => decide (i = boy)).length)
theorem Ws {b : BenchBook} (hv : C6 b) : nv b (idx b.Pieces.l.length) := by rw [← Jn hv]; exact RX hv []
theorem mc : ∀ (L : List (List AB)) (k : Nat), k + L.length ≤ 100000000000 → Sj (zr HL) (L.map Sl.grow) (.inl (k : Int)) = some (true, .inl ((k + L.length : Nat) : Int))
 | [], k, _ => rfl
 | x :: L, k, h => by
  have hW : W ((k : Int) + 1) = ((k + 1 : Nat) : Int) := by rw [Jc (by simp at h; omega)]; simp
  have := mc L (k + 1) (by simp at h ⊢; omega)
  simp only [List.map_cons, Sj, zr, HL, hW, this]
  simp; omega
section
variable {b : BenchBook} (hf : Tf b)
include hf
theorem MN : Hu b = some (if Ai b true = 0 then (((W0 b).length : Int), 0) else (0, Ai b true)) := by
 obtain ⟨bk, he, h2⟩ := DL hf true
 simp only [Hu, he, Option.bind_some]
 by_cases h0 : Ai b true = 0
 ·obtain ⟨hv, _, hfi⟩ := Ed hf h0
  obtain ⟨es, rfl, hes⟩ := h2 h0
  have h1 := a8 hv (Mp.mk es) (Sl.nil : Sl Int) (by simp [Sl.l])
  rw [Sl.l_nil, Jn hv] at h1
  have hw := SR hv (Mp.mk es) (a1 := Sl.grow (idx b.Pieces.l.length)) (by rw [Sl.l_grow]; exact Ws hv) (m := 3) (by omega)
  rw [Sl.l_grow] at hw
  have hlen := tW hv AW 3 (ps := idx b.Pieces.l.length) (Ws hv).1
  have hr := mc (W0 b) 0 (by simp only [W0]; omega)
  have := fU hv hes (yf := zr HL) (m := 3) (Ws hv) hr
  simp only [Nat.zero_add] at this
  rw [if_pos h0, h0]
  simp only [decide_true, if_true, h1, Option.bind_some, hw, show (3 : Int).toNat = 3 from rfl]
  have e0 : ((0 : Nat) : Int) = 0 := rfl
  rw [e0] at this
  rw [this]; rfl
 ·simp [h0]
theorem Md : ∃ l : Sl AB, Hg b = some (l, if Ai b true = 0 then (if (W0 b).isEmpty then 4 else 0) else Ai b true) ∧ l.l = if Ai b true = 0 then (W0 b).head?.getD [] else [] := by
 obtain ⟨bk, he, h2⟩ := DL hf true
 simp only [Hg, he, Option.bind_some]
 by_cases h0 : Ai b true = 0
 ·obtain ⟨hv, _, hfi⟩ := Ed hf h0
  obtain ⟨es, rfl, hes⟩ := h2 h0
  have h1 := a8 hv (Mp.mk es) (Sl.nil : Sl Int) (by simp [Sl.l])
  rw [Sl.l_nil, Jn hv] at h1
  have hw := SR hv (Mp.mk es) (a1 := Sl.grow (idx b.Pieces.l.length)) (by rw [Sl.l_grow]; exact Ws hv) (m := 3) (by omega)
  rw [Sl.l_grow] at hw
  have hfst := cb hv hes (m := 3) (Ws hv)
  simp only [if_pos h0, h0, decide_true, if_true, h1, Option.bind_some, hw, show (3 : Int).toNat = 3 from rfl, hfst]
  cases hA : FD b (fun _ => false) 3 (idx b.Pieces.l.length) with
  | nil =>
   have hB : W0 b = [] := hA
   simp only [It, hB]
   exact ⟨Sl.nil, rfl, rfl⟩
  | cons x L =>
   have hB : W0 b = x :: L := hA
   simp only [It, hB]
   exact ⟨(Sl.grow x).filled, rfl, by rw [Sl.l_filled, Sl.l_grow]; rfl⟩
 ·simp only [if_neg h0, decide_eq_false h0, Bool.false_eq_true, if_false]
  exact ⟨Sl.nil, rfl, rfl⟩
theorem FO : ∃ l : Sl Int, D4 b = some (l, Ai b true) ∧ l.l = if Ai b true = 0 then A5 b AW else [] := by
 obtain ⟨bk, he, h2⟩ := DL hf true
 simp only [D4, he, Option.bind_some]
 by_cases h0 : Ai b true = 0
 ·obtain ⟨hv, _, hfi⟩ := Ed hf h0
  obtain ⟨es, rfl, hes⟩ := h2 h0
  obtain ⟨o, h1, h3, _⟩ := Qp hv hes
  simp only [if_pos h0, h0, decide_true, if_true, h1, Option.bind_some, Sl.sub3_all]
  exact ⟨_, rfl, by rw [Sl.l_filled, h3]; rfl⟩
 ·simp only [if_neg h0, decide_eq_false h0, Bool.false_eq_true, if_false]
  exact ⟨Sl.nil, rfl, rfl⟩
theorem KP : ∃ l : Sl AB, Ge b = some (l, Ai b true) ∧ l.l = if Ai b true = 0 then LR b AW else [] := by
 obtain ⟨bk, he, h2⟩ := DL hf true
 simp only [Ge, he, Option.bind_some]
 by_cases h0 : Ai b true = 0
 ·obtain ⟨hv, _, hfi⟩ := Ed hf h0
  obtain ⟨es, rfl, hes⟩ := h2 h0
  obtain ⟨o, h1, _, h3⟩ := Qp hv hes
  simp only [if_pos h0, h0, decide_true, if_true, h1, Option.bind_some]
  exact ⟨_, rfl, h3⟩
 ·simp only [if_neg h0, decide_eq_false h0, Bool.false_eq_true, if_false]
  exact ⟨Sl.nil, rfl, rfl⟩
omit hf in
theorem wN (a v : Int) : MB a (Sl.cold [v]) = some (min a v) := qS a v
theorem cm : ∃ l : Sl Int, LI b = some (l, Ai b true) ∧ l.l = if Ai b true = 0 then sN b else [] := by
 obtain ⟨bk, he, h2⟩ := DL hf true
 simp only [LI, he, Option.bind_some]
 by_cases h0 : Ai b true = 0
 ·obtain ⟨hv, _, hfi⟩ := Ed hf h0
  obtain ⟨es, rfl, hes⟩ := h2 h0
  obtain ⟨o, h1, h3, _⟩ := Qp hv hes
  have hb4 := hv.voice.boys
  have e : Loop (FW b o) (Sl.nil, 0) = some (Sl.grow (sN b)) := by
   refine Dw (fun t i => (t, i)) (idx b.Voice.Boys.l.length) (fun pre => Sl.grow (pre.filter fun boy => decide ((A5 b AW).length < (A5 b fun i => decide (i = boy)).length))) (by rw [AU]; omega) rfl ?_ ?_
   ·intro pre boy post hpre hW
    obtain ⟨hbp, hlt0⟩ := Jm hpre
    have hlt : (pre.length : Int) < b.Voice.Boys.len := by rw [Sl.len_l]; exact hlt0
    obtain ⟨es2, hes2, ho2⟩ := uH hv hfi fun i => decide (i = (pre.length : Int))
    obtain ⟨o2, g1, g3, _⟩ := Qp hv hes2
    have hle := List.length_filter_le (fun boy => decide ((A5 b AW).length < (A5 b fun i => decide (i = boy)).length)) pre
    have hlen : (pre.filter fun boy => decide ((A5 b AW).length < (A5 b fun i => decide (i = boy)).length)).length + ([(pre.length : Int)] : List Int).length ≤ 1000000000 := by rw [List.length_singleton]; omega
    have hl1 : o.1.len = ((A5 b AW).length : Int) := by rw [Sl.len_l, h3]; rfl
    have hl2 : o2.1.len = ((A5 b fun i => decide (i = (pre.length : Int))).length : Int) := by rw [Sl.len_l, g3]; rfl
    rw [HY, hbp]
    simp only [FW, decide_eq_true hlt, if_true, jt, ho2, Option.bind_some, g1, wN, hl1, hl2, hW]
    by_cases hc : (A5 b AW).length < (A5 b fun i => decide (i = (pre.length : Int))).length
    ·have hc2 : min ((A5 b AW).length : Int) ((A5 b fun i => decide (i = (pre.length : Int))).length : Int) < ((A5 b fun i => decide (i = (pre.length : Int))).length : Int) := by omega
     simp only [decide_eq_true hc2, decide_eq_true hc, if_true, Sl.app_grow (q := 8) (List.cons_ne_nil _ _) (BU hlen (by omega)), Option.bind_some]
    ·have hc2 : ¬ min ((A5 b AW).length : Int) ((A5 b fun i => decide (i = (pre.length : Int))).length : Int) < ((A5 b fun i => decide (i = (pre.length : Int))).length : Int) := by omega
     simp only [decide_eq_false hc2, decide_eq_false hc, Bool.false_eq_true, if_false, List.append_nil]
   ·have hlt : ¬ ((idx b.Voice.Boys.l.length).length : Int) < b.Voice.Boys.len := by rw [Sl.len_l, AU]; omega
    simp only [FW, decide_eq_false hlt, Bool.false_eq_true, if_false, sN]
  simp only [if_pos h0, h0, decide_true, if_true, h1, Option.bind_some, e, Sl.sub3_all]
  exact ⟨_, rfl, by rw [Sl.l_filled, Sl.l_grow]⟩
 ·simp only [if_neg h0, decide_eq_false h0, Bool.false_eq_true, if_false]
  exact ⟨Sl.nil, rfl, rfl⟩
omit hf in
theorem kE (x y : Sl AB) (hn : x.l.length < 4611686018427387904) (hxy : x.l = y.l) : Eu x y = some true := by
 have h0 : decide (x.len = y.len) = true := by simp [Sl.len_l, hxy]
 have e : Loop (Dv x y) (decide (x.len = y.len), 0) = some true := by
  have := Loop.all (f := Dv x y) (fun t i => (t, i)) x.l (fun _ => true) id (x0 := (decide (x.len = y.len), 0)) (b0 := true) hn (by rw [h0]) (by
   intro pre a post hpre _ _ hW
   have hlt : (pre.length : Int) < x.len := by rw [Sl.len_l, hpre]; simp; omega
   have hy : y.ix pre.length = some a := Sl.ix_at (by rw [← hxy]; exact hpre)
   simp only [Dv, Bool.true_and, decide_eq_true hlt, if_true, Sl.ix_at hpre, hy, Option.bind_some, decide_true, hW]) (by
   have hlt : ¬ (x.l.length : Int) < x.len := by rw [Sl.len_l]; omega
   simp [Dv, hlt]) (by intro i; simp [Dv])
  rw [this]; simp
 simp only [Eu, e, Option.bind_some]
omit hf in
theorem VN {b : BenchBook} (hv : C6 b) (ex : Int → Bool) {m : Nat} {ps : List Int} (hp : nv b ps) {x : List AB} (hx : x ∈ FD b ex m ps) : x.length ≤ 1000 := by
 have hall : ∀ (W : List NB) (x : List AB), x ∈ GE W → (∀ w ∈ W, w.many ≤ 3) → x.length ≤ 3 * W.length := by
  intro W
  induction W with
  | nil => intro x hx _; simp [GE] at hx; subst hx; simp
  | cons w W ih =>
   intro x hx hw
   simp only [GE, List.mem_flatMap, List.mem_map] at hx
   obtain ⟨c, hc, r, hr, rfl⟩ := hx
   have h1 := IT hc
   have h2 := ih r hr fun w' h => hw w' (List.mem_cons_of_mem _ h)
   have h3 := hw w List.mem_cons_self
   simp only [As, List.length_append, List.length_map, List.length_cons]; omega
 simp only [FD, Jq, List.nil_append, List.map_id', List.mem_filter] at hx
 have h1 := hall _ x hx.1 (by
  intro w hw
  simp only [EO, List.mem_map] at hw
  obtain ⟨w', hw', rfl⟩ := hw
  have := (WP hv m hp hw').1.many
  simp only [K8]; omega)
 have h2 := O0 hv m hp.1
 simp only [EO, List.length_map] at h1
 omega
end
end
end Go.Lf
