/- A part of the proof. -/
import Derived.Test.YtdjddljglkeefaaDoorx43
set_option linter.all false
namespace Go.Lf
open Go Go.Lf.Pl
noncomputable section
theorem pS (x y : Sl AB) (hn : x.l.length < 4611686018427387904) : IO x y = some (Bo x.l y.l) := by
 have main : ∀ px qx py qy, x.l = px ++ qx → y.l = py ++ qy → px.length = py.length → ∃ r, Loop (BV x y) (px.length : Int) = some r ∧ (match r with | .inl w => w | .inr _ => decide (x.len < y.len)) = Bo qx qy := by
  intro px qx
  induction qx generalizing px with
  | nil =>
   intro py qy hx hy hp
   have hlt : ¬ (px.length : Int) < min x.len y.len := by rw [Sl.len_l, hx]; simp; omega
   refine ⟨.inr (), Loop.done (by simp only [BV, decide_eq_false hlt, Bool.false_eq_true, if_false]), ?_⟩
   simp only [Sl.len_l, hx, hy, List.append_nil, List.length_append]
   cases qy with
   | nil => simp [Bo]; omega
   | cons c qy => simp [Bo]; omega
  | cons a qx ih =>
   intro py qy hx hy hp
   cases qy with
   | nil =>
    have hly : ¬ (px.length : Int) < min x.len y.len := by rw [Sl.len_l, Sl.len_l, hx, hy]; simp; omega
    refine ⟨.inr (), Loop.done (by simp only [BV, decide_eq_false hly, Bool.false_eq_true, if_false]), ?_⟩
    simp only [Sl.len_l, hx, hy, List.append_nil, List.length_append, Bo]
    simp; omega
   | cons c qy =>
    have hly : (px.length : Int) < min x.len y.len := by rw [Sl.len_l, Sl.len_l, hx, hy]; simp; omega
    have hW : W ((px.length : Int) + 1) = (px.length : Int) + 1 := Jc (by rw [hx] at hn; simp at hn; omega)
    have hyi : y.ix px.length = some c := by rw [hp]; exact Sl.ix_at hy
    have h3 := mJ a c
    have heq := Va (Sl.cold [a.Piece, a.Part, a.Boy]) (Sl.cold [c.Piece, c.Part, c.Boy]) (by simp [Sl.l])
    have hea := Zr (Sl.cold [a.Piece, a.Part, a.Boy]) (Sl.cold [c.Piece, c.Part, c.Boy]) (by simp [Sl.l])
    simp only [Sl.l_cold] at heq hea
    by_cases hc : a = c
    ·have heq' : CL (Sl.cold [a.Piece, a.Part, a.Boy]) (Sl.cold [c.Piece, c.Part, c.Boy]) = some true := by
      rw [heq]; congr 1; exact decide_eq_true (by rw [hc])
     have hf : BV x y px.length = some (.inl ((px.length : Int) + 1)) := by
      simp only [BV, decide_eq_true hly, if_true, Sl.ix_at hx, hyi, Option.bind_some, heq', hW]
     obtain ⟨r, h1, h2⟩ := ih (px ++ [a]) (py ++ [c]) qy (by rw [hx]; simp) (by rw [hy]; simp) (by simp [hp])
     refine ⟨r, ?_, ?_⟩
     ·rw [Loop.step hf]; simpa using h1
     ·rw [h2]; simp [Bo, hc]
    ·have hne : ¬ [a.Piece, a.Part, a.Boy] = [c.Piece, c.Part, c.Boy] := by
      intro h; simp at h; exact hc (MO h.1 h.2.1 h.2.2)
     rw [if_neg (by simpa using hne), if_neg hc] at h3
     have heq' : CL (Sl.cold [a.Piece, a.Part, a.Boy]) (Sl.cold [c.Piece, c.Part, c.Boy]) = some false := by
      rw [heq]; congr 1; exact decide_eq_false hne
     have hf : BV x y px.length = some (.inr (.inl (lt3 a c))) := by
      simp only [BV, decide_eq_true hly, if_true, Sl.ix_at hx, hyi, Option.bind_some, heq', Bool.false_eq_true, if_false, hea, h3]
     exact ⟨_, Loop.done hf, by simp [Bo, hc]⟩
 obtain ⟨r, h1, h2⟩ := main [] x.l [] y.l rfl rfl rfl
 have h1' : Loop (BV x y) 0 = some r := h1
 simp only [IO, h1', Option.bind_some]
 rw [← h2]
 cases r <;> rfl
theorem pj (l : Sl Int) (hn : l.l.length < 4611686018427387904) (n : Int) : ∃ r, Je l n = some r ∧ (l.l ≠ [] → r ∈ l.l) := by
 unfold Je
 by_cases h0 : l.l = []
 ·exact ⟨0, by rw [if_pos (by simp [Sl.len_l, h0])], fun h => absurd h0 h⟩
 ·have hpos : 0 < l.l.length := List.length_pos_iff.mpr h0
  obtain ⟨r, h1, h2, h3⟩ := dG (n := n) (m := l.len) (by rw [Sl.len_l]; omega) (by rw [Sl.len_l]; omega)
  rw [Sl.len_l] at h3
  obtain ⟨v, hv, hvm⟩ := QI (x := l) h2 h3
  exact ⟨v, by rw [if_neg (by rw [Sl.len_l]; simp; exact h0), h1, AP, hv, AP], fun _ => hvm⟩
theorem nD : ∀ s t : _root_.Fin 16, zV .andNot ((s.val : Nat) : Int) ((t.val : Nat) : Int) = some (((s.val &&& (15 ^^^ t.val) : Nat)) : Int) := by decide +kernel
section
variable {b : BenchBook} (hv : C6 b) {a : Sl (Sl (Sl Int))} {ps bits : Sl Int} (ha : xW b a) (hb : bits.l.length < 4611686018427387904)
theorem sR {p k j : Int} (hj : ps.ix j = some p) (own : Sl Int) (ho : own.l.length ≤ 4) (ol : List AB) (hol : ol.length ≤ 1000) :
  Loop (E2 ps j k own) (Sl.grow ol, 0) = some (Sl.grow (ol ++ own.l.map fun boy => BG p k boy)) := by
 refine Dw (fun t i => (t, i)) own.l (fun pre => Sl.grow (ol ++ pre.map fun boy => BG p k boy)) (by omega) (by simp) ?_ ?_
 ·intro pre boy post hpre hW
  have hl : (pre.length : Int) < own.len := by rw [Sl.len_l, hpre]; simp; omega
  have hpl : pre.length ≤ 4 := by rw [hpre] at ho; simp at ho; omega
  have hlen : (ol ++ pre.map fun boy => BG p k boy).length + ([BG p k boy] : List AB).length ≤ 1000000000 := by
   simp; omega
  simp only [E2, decide_eq_true hl, if_true, hj, AP, Sl.ix_at hpre, Sl.app_grow (q := 24) (List.cons_ne_nil _ _) (BU hlen (by omega)), hW, List.map_append, List.map_cons, List.map_nil, List.append_assoc]
 ·have hl : ¬ (own.l.length : Int) < own.len := by rw [Sl.len_l]; omega
  simp only [E2, decide_eq_false hl, Bool.false_eq_true, if_false]
def rq (v : Int) : Prop := ∃ l : List Int, v = gN l ∧ ∀ x ∈ l, 0 ≤ x ∧ x < (4 : Nat)
include hv hb
theorem si {p k j : Int} {x : AE} {y : Aj} (hx : b.Pieces.ix p = some x) (hy : x.Parts.ix k = some y) (hj : ps.ix j = some p) {l : Sl Int} (hl : l.l = A2 b AW p k) {had set : Int} (h1 : rq had) (h2 : rq set) :
  ∃ r : Int × Int, (rq r.1 ∧ rq r.2) ∧ Loop (D6 b ps bits j k l) (had, set, 0) = some r := by
 have hpt := hv.part x (CN hx).2.2 y (CN hy).2.2
 have b4 := hv.voice.boys
 refine J0 (fun (t : Int × Int) i => (t.1, t.2, i)) (idx y.Many.toNat) (fun _ t => rq t.1 ∧ rq t.2) (fun (r : Int × Int) => rq r.1 ∧ rq r.2) (t0 := (had, set)) (by rw [AU]; omega) rfl ⟨h1, h2⟩ ?_ ?_
 ·intro pre i post t hpre hI hW
  obtain ⟨rfl, hlt⟩ := Jm hpre
  have hlt' : (pre.length : Int) < y.Many := by omega
  have hr : ∀ z ∈ l.l, 0 ≤ z ∧ z < (4 : Nat) := by rw [hl]; exact fun z hz => lX b4.1 hz
  have hg := pR l (by rw [hl]; exact aw hv.few p k) hr
  obtain ⟨⟨hl1, e1, r1⟩, ⟨sl, e2, r2⟩⟩ := hI
  obtain ⟨th, ts⟩ := t
  dsimp only at e1 e2
  subst e1 e2
  have hs16 := nI (n := 4) hr
  have ht16 := nI (n := 4) r1
  have ha := nD ⟨gN l.l, hs16⟩ ⟨gN hl1, ht16⟩
  dsimp only at ha
  have hle : gN l.l &&& (15 ^^^ gN hl1) ≤ gN l.l := Nat.and_le_left
  have hbt := j8 (s := ((gN l.l &&& (15 ^^^ gN hl1) : Nat) : Int)) (n := b.Voice.Boys.l.length) ⟨by omega, by omega⟩ b4.1
  rw [← Sl.len_l] at hbt
  by_cases hf : 0 < (Sl.hot (F8 ((gN l.l &&& (15 ^^^ gN hl1) : Nat) : Int) b.Voice.Boys.l.length)).len
  ·obtain ⟨n1, g1, _⟩ := pj bits hb (W ((W (j + k)) + (pre.length : Int)))
   have hne : F8 ((gN l.l &&& (15 ^^^ gN hl1) : Nat) : Int) b.Voice.Boys.l.length ≠ [] := by
    intro h; rw [h] at hf; simp [Sl.len_l, Sl.l_hot] at hf
   have hbl : (F8 ((gN l.l &&& (15 ^^^ gN hl1) : Nat) : Int) b.Voice.Boys.l.length).length ≤ 4 := by
    have := List.length_filter_le (rn ((gN l.l &&& (15 ^^^ gN hl1) : Nat) : Int)) (idx b.Voice.Boys.l.length)
    rw [AU] at this
    simp only [F8]; omega
   obtain ⟨n2, g2, g3⟩ := pj (Sl.hot (F8 ((gN l.l &&& (15 ^^^ gN hl1) : Nat) : Int) b.Voice.Boys.l.length)) (by rw [Sl.l_hot]; omega) n1
   have hn2 := D9.mp (List.mem_filter.mp (g3 (by rw [Sl.l_hot]; exact hne))).1
   have hn4 : 0 ≤ n2 ∧ n2 < 4 := by omega
   obtain ⟨v, k1, k2⟩ := qg r1 hn4
   obtain ⟨v', k3, k4⟩ := qg r2 hn4
   rw [k1] at k3
   cases k3
   refine ⟨((gN (hl1 ++ [n2]) : Nat), (gN (sl ++ [n2]) : Nat)), ⟨⟨_, rfl, ?_⟩, ⟨_, rfl, ?_⟩⟩, ?_⟩
   ·intro z hz
    rcases List.mem_append.mp hz with hz | hz
    ·exact r1 z hz
    ·simp only [List.mem_singleton] at hz; subst hz; omega
   ·intro z hz
    rcases List.mem_append.mp hz with hz | hz
    ·exact r2 z hz
    ·simp only [List.mem_singleton] at hz; subst hz; omega
   ·simp only [D6, hj, hx, hy, AP, decide_eq_true hlt', if_true, hg, ha, hbt, decide_eq_true hf, g1, g2, k1, k2, k4, hW]
  ·refine ⟨((gN hl1 : Nat), (gN sl : Nat)), ⟨⟨_, rfl, r1⟩, ⟨_, rfl, r2⟩⟩, ?_⟩
   simp only [D6, hj, hx, hy, AP, decide_eq_true hlt', if_true, hg, ha, hbt, decide_eq_false hf, Bool.false_eq_true, if_false, hW]
 ·intro t hI
  have hlt' : ¬ ((idx y.Many.toNat).length : Int) < y.Many := by rw [AU]; omega
  refine ⟨t, hI, ?_⟩
  simp only [D6, hj, hx, hy, AP, decide_eq_false hlt', Bool.false_eq_true, if_false]
include ha
theorem tC {p j : Int} {x : AE} (hx : b.Pieces.ix p = some x) (hj : ps.ix j = some p) (ol : List AB) (hol : ol.length ≤ 100) :
  ∃ r : Sl AB × Int, (∃ ol', r = (Sl.grow ol', j) ∧ ol'.length ≤ ol.length + 12) ∧ Loop (Es b a ps bits) (Sl.grow ol, j, 0, 0) = some r := by
 have hxp := hv.parts x (CN hx).2.2
 have b4 := hv.voice.boys
 have z0 : rq 0 := ⟨[], rfl, by simp⟩
 refine J0 (fun (t : Sl AB × Int) i => (t.1, j, t.2, i)) (idx x.Parts.l.length) (fun pre t => (∃ ol', t.1 = Sl.grow ol' ∧ ol'.length ≤ ol.length + 4 * pre.length) ∧ rq t.2) (fun r => ∃ ol', r = (Sl.grow ol', j) ∧ ol'.length ≤ ol.length + 12) (t0 := (Sl.grow ol, 0)) (by rw [AU]; omega) rfl ⟨⟨ol, rfl, by simp⟩, z0⟩ ?_ ?_
 ·intro pre k post t hpre hI hW
  obtain ⟨rfl, hlt⟩ := Jm hpre
  obtain ⟨⟨ol', e1, e2⟩, e3⟩ := hI
  obtain ⟨t1, t2⟩ := t
  dsimp only at e1 e3
  subst e1
  have hl : (pre.length : Int) < x.Parts.len := by rw [Sl.len_l]; exact hlt
  obtain ⟨y, hy, _⟩ := QI (x := x.Parts) (i := (pre.length : Int)) (by omega) hlt
  obtain ⟨r, l, f1, f2, f3⟩ := ha p _ x y hx hy
  obtain ⟨q, ⟨q1, ⟨sl, q2, q3⟩⟩, q4⟩ := si hv hb hx hy hj f3 e3 z0
  obtain ⟨qa, qb⟩ := q
  dsimp only at q1 q2
  subst q2
  have hbt := j8 (s := (gN sl : Int)) (n := b.Voice.Boys.l.length) ⟨by omega, by have := nI (n := 4) q3; omega⟩ b4.1
  rw [← Sl.len_l] at hbt
  have hbl : (F8 (gN sl : Int) b.Voice.Boys.l.length).length ≤ 4 := by
   have := List.length_filter_le (rn (gN sl : Int)) (idx b.Voice.Boys.l.length)
   rw [AU] at this
   simp only [F8]; omega
  have h4 := sR hj (k := (pre.length : Int)) (Sl.hot (F8 (gN sl : Int) b.Voice.Boys.l.length)) (by rw [Sl.l_hot]; exact hbl) ol' (by omega)
  refine ⟨(Sl.grow (ol' ++ (Sl.hot (F8 (gN sl : Int) b.Voice.Boys.l.length)).l.map fun boy => BG p pre.length boy), qa), ⟨⟨_, rfl, ?_⟩, q1⟩, ?_⟩
  ·rw [Sl.l_hot]; simp only [List.length_append, List.length_map, List.length_singleton]; omega
  ·simp only [Es, hj, hx, AP, decide_eq_true hl, if_true, f1, f2, q4, hbt, h4, hW]
 ·intro t hI
  obtain ⟨⟨ol', e1, e2⟩, _⟩ := hI
  have hl : ¬ ((idx x.Parts.l.length).length : Int) < x.Parts.len := by rw [Sl.len_l, AU]; omega
  rw [AU] at e2
  refine ⟨(t.1, j), ⟨ol', by rw [e1], by omega⟩, ?_⟩
  simp only [Es, hj, hx, AP, decide_eq_false hl, Bool.false_eq_true, if_false]
theorem kp (hps : nv b ps.l) : ∃ z, z.l.length ≤ 36 ∧ Ho b a ps bits = some z := by
 have h3 := hps.1
 obtain ⟨z, h1, h2⟩ := J0 (f := Eo b a ps bits) (fun (t : Sl AB) i => (t, i)) ps.l (fun pre t => ∃ ol, t = Sl.grow ol ∧ ol.length ≤ 12 * pre.length) (fun z => z.l.length ≤ 36) (x0 := ((Sl.nil : Sl AB), 0)) (t0 := Sl.nil) (by omega) rfl ⟨[], rfl, by simp⟩ (by
  intro pre p post t hpre hI hW
  obtain ⟨ol, rfl, e2⟩ := hI
  have hlt : (pre.length : Int) < ps.len := by rw [Sl.len_l, hpre]; simp; omega
  obtain ⟨p0, p1⟩ := hps.2 p (by rw [hpre]; simp)
  obtain ⟨x, hx, _⟩ := QI p0 p1
  have hpl : pre.length ≤ 3 := by rw [hpre] at h3; simp at h3; omega
  obtain ⟨r, ⟨ol', rfl, q2⟩, q3⟩ := tC hv ha hb hx (Sl.ix_at hpre) ol (by omega)
  refine ⟨Sl.grow ol', ⟨ol', rfl, by simp; omega⟩, ?_⟩
  simp only [Eo, decide_eq_true hlt, if_true, q3, AP, hW]) (by
  intro t hI
  obtain ⟨ol, rfl, e2⟩ := hI
  have hlt : ¬ (ps.l.length : Int) < ps.len := by rw [Sl.len_l]; omega
  refine ⟨Sl.grow ol, by rw [Sl.l_grow]; omega, ?_⟩
  simp only [Eo, decide_eq_false hlt, Bool.false_eq_true, if_false])
 exact ⟨z, h1, by simp only [Ho, h2, AP]⟩
end
end
end Go.Lf
