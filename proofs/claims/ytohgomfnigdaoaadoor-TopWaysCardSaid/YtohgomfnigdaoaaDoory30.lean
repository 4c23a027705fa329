/- A part of the proof. -/
import Derived.Test.YtohgomfnigdaoaaDoory29
set_option linter.all false
namespace Go.Lf
open Go Go.Lf.Pl
noncomputable section
def Jy (b : BenchBook) (m : Nat) (p : Int) : List AD := (idx (min m (GV b p))).map fun k => ⟨⟨p, k⟩, JA b p k, 0⟩
def Fq (b : BenchBook) (m : Nat) (ps : List Int) : List AD := ps.flatMap (Jy b m)
def EV (b : BenchBook) (ex : Int → Bool) (m : Nat) (ps : List Int) : List Jd := (Fq b m ps).map (J8 b ex)
def Iu (b : BenchBook) (ex : Int → Bool) (m : Nat) (ps : List Int) : List (List AC) := fill (CX b) b.Most.toNat (EV b ex m ps) []
def qp (b : BenchBook) (ps : List Int) : Prop := ps.length ≤ 3 ∧ ∀ p ∈ ps, 0 ≤ p ∧ p < b.Pieces.l.length
theorem mQ {α : Type} {x : Sl α} (hne : x.l ≠ []) {h : Int} (h0 : 0 ≤ h) (h1 : h ≤ x.l.length) : x.sub none (some h) = some (.cold (x.l.take h.toNat)) := by
 cases x with
 | nil => exact absurd rfl hne
 | cold xs => simp only [Sl.l] at h1; simp [Sl.sub, Sl.l, h0, h1]
 | hot xs => simp only [Sl.l] at h1; simp [Sl.sub, Sl.l, h0, h1]
 | full xs => simp only [Sl.l] at h1; simp [Sl.sub, Sl.l, h0, h1]
theorem rh (n : Nat) : idx (n + 1) = idx n ++ [(n : Int)] := by simp [idx, List.range_succ]
section
variable {b : BenchBook} (hv : GT b)
include hv
theorem nD (m : Nat) (p : Int) : (Jy b m p).length ≤ 3 := by
 simp only [Jy, List.length_map, Ao, GV]
 split
 ·rename_i x hx
  have := hv.parts x (Ji hx).2.2; omega
 ·omega
theorem PI (m : Nat) {ps : List Int} (hp : ps.length ≤ 3) : (Fq b m ps).length ≤ 9 := by
 have := Cd (Jy b m) 3 ps fun p _ => nD hv m p
 simp only [Fq]; omega
theorem pm (p k : Int) : 0 ≤ JA b p k ∧ JA b p k ≤ 3 := by
 unfold JA
 split
 ·rename_i x hx
  split
  ·rename_i y hy
   have := hv.part x (Ji hx).2.2 y (Ji hy).2.2; omega
  ·omega
 ·omega
theorem Wl (m : Nat) {ps : List Int} (hp : qp b ps) {w : AD} (hw : w ∈ Fq b m ps) : WOk b w ∧ w.from_ = 0 := by
 simp only [Fq, List.mem_flatMap, Jy, List.mem_map] at hw
 obtain ⟨p, hpm, k, _, rfl⟩ := hw
 exact ⟨⟨hp.2 p hpm, pm hv p k⟩, rfl⟩
omit hv in
theorem pr : ∀ l : List AD, (∀ w ∈ l, WOk b w) → qu l ≤ 4 * l.length
 | [], _ => by simp [qu]
 | w :: r, h => by
  have h1 := (h w List.mem_cons_self).many
  have h2 := pr r fun w' hw => h w' (List.mem_cons_of_mem _ hw)
  simp only [qu, List.length_cons]; omega
theorem V3 (able : Mp 2 (Sl Int)) {a1 : Sl Int} (hp : qp b a1.l) {m : Int} (hm : 0 ≤ m) : Be ⟨b, able⟩ a1 m = some (Sl.grow (Fq b m.toNat a1.l)) := by
 have e2 : ∀ {p : Int} {x : AK} (acc : List AD), b.Pieces.ix p = some x → acc.length ≤ 100 → Loop (CB p (.cold (x.Parts.l.take (min m x.Parts.len).toNat))) (Sl.grow acc, 0) = some (Sl.grow (acc ++ Jy b m.toNat p)) := by
  intro p x acc hx hacc
  have h3 := hv.parts x (Ji hx).2.2
  have hnp : GV b p = x.Parts.l.length := by simp [GV, hx]
  have hmin : (min m x.Parts.len).toNat = min m.toNat x.Parts.l.length := by rw [Sl.len_l]; omega
  rw [hmin]
  refine FV (fun t i => (t, i)) (x.Parts.l.take (min m.toNat x.Parts.l.length)) (fun pre => Sl.grow (acc ++ (idx pre.length).map fun k => (⟨⟨p, k⟩, JA b p k, 0⟩ : AD))) ?_ (by simp [idx]) ?_ ?_
  ·rw [List.length_take]; omega
  ·intro pre y post hpre hW
   have hlp : pre.length < 3 := by
    have := congrArg List.length hpre
    rw [List.length_take] at this; simp at this; omega
   have hix : (Sl.cold (x.Parts.l.take (min m.toNat x.Parts.l.length))).ix pre.length = some y := Sl.ix_at (by rw [Sl.l_cold]; exact hpre)
   have hlt : (pre.length : Int) < (Sl.cold (x.Parts.l.take (min m.toNat x.Parts.l.length))).len := by rw [Sl.len_l, Sl.l_cold, hpre]; simp; omega
   have hy : x.Parts.ix pre.length = some y := by
    have h4 : (x.Parts.l.take (min m.toNat x.Parts.l.length))[pre.length]? = some y := by rw [hpre]; simp
    rw [List.getElem?_take] at h4
    rw [Sl.ix_nat]
    split at h4
    ·exact h4
    ·cases h4
   have hmy : JA b p pre.length = y.Many := by simp [JA, hx, hy]
   have hlen : (acc ++ (idx pre.length).map fun k => (⟨⟨p, k⟩, JA b p k, 0⟩ : AD)).length + ([⟨⟨p, (pre.length : Int)⟩, y.Many, 0⟩] : List AD).length ≤ 1000000000 := by simp [Ao]; omega
   simp only [CB, decide_eq_true hlt, if_true, hix, Option.bind_some, Sl.app_grow (q := 32) (List.cons_ne_nil _ _) (Bl hlen (by omega)), hW]
   rw [List.length_append, List.length_singleton, rh, List.map_append]
   simp [hmy]
  ·have hlt : ¬ ((x.Parts.l.take (min m.toNat x.Parts.l.length)).length : Int) < (Sl.cold (x.Parts.l.take (min m.toNat x.Parts.l.length))).len := by rw [Sl.len_l, Sl.l_cold]; omega
   have hl2 : (x.Parts.l.take (min m.toNat x.Parts.l.length)).length = min m.toNat (GV b p) := by rw [List.length_take, hnp]; omega
   simp only [CB, decide_eq_false hlt, Bool.false_eq_true, if_false, Jy]
   rw [hl2]
 have e1 : Loop (BW ⟨b, able⟩ a1 m) (Sl.nil, 0) = some (Sl.grow (Fq b m.toNat a1.l)) := by
  refine FV (fun t i => (t, i)) a1.l (fun pre => Sl.grow (Fq b m.toNat pre)) (by have := hp.1; omega) rfl ?_ ?_
  ·intro pre p post hpre hW
   have hpm := hp.2 p (by rw [hpre]; simp)
   obtain ⟨x, hx, hxm⟩ := dH hpm.1 hpm.2
   have hlt : (pre.length : Int) < a1.len := by rw [Sl.len_l, hpre]; simp; omega
   have h3 := hv.parts x hxm
   have hsub : x.Parts.sub none (some (min m x.Parts.len)) = some (.cold (x.Parts.l.take (min m x.Parts.len).toNat)) := mQ (by intro h; rw [h] at h3; simp at h3) (by rw [Sl.len_l]; omega) (by rw [Sl.len_l]; omega)
   have hlp : pre.length ≤ 3 := by have := hp.1; rw [hpre] at this; simp at this; omega
   have := e2 (Fq b m.toNat pre) hx (by have := PI hv m.toNat hlp; omega)
   simp only [BW, decide_eq_true hlt, if_true, Sl.ix_at hpre, Option.bind_some, hx, hsub, this, hW]
   congr 4
   simp [Fq]
  ·have hlt : ¬ (a1.l.length : Int) < a1.len := by rw [Sl.len_l]; omega
   simp only [BW, decide_eq_false hlt, Bool.false_eq_true, if_false]
 simp only [Be, e1, Option.bind_some]
section
variable {ex : Int → Bool} {es : Zy} (hes : WhI es (BD b ex))
include hes
theorem pV {σ : Type} {yf : Sl AC → σ → Option (Bool × σ)} {m : Nat} {ps : List Int} (hp : qp b ps) {st st' : σ} {bb : Bool} (hr : UY yf ((Iu b ex m ps).map Sl.grow) st = some (bb, st')) :
  BX yf ⟨b, Mp.mk es⟩ (Sl.grow (Fq b m ps)) st = some ((), st') := by
 have hok : ∀ w ∈ Fq b m ps, WOk b w := fun w hw => (Wl hv m hp hw).1
 have h0 : ∀ w ∈ Fq b m ps, w.from_ = 0 := fun w hw => (Wl hv m hp hw).2
 have hl := PI hv m hp.1
 have hm := pr _ hok
 have := jp hv hes (yf := yf) 64 (Fq b m ps) (Sl.grow (Fq b m ps)) [] Bw st bb st' (Sl.l_grow _) (pT b) (by intro w y; simp [Fe]) hok (fun w hw => h0 w (List.mem_of_mem_tail hw)) (fun w hw => by rw [h0 w hw]; exact ⟨by omega, by simp⟩) (by omega) (by omega) (by simp; omega) (by omega) (by
  rw [fy b ex _ _ h0]; exact hr)
 have hg : Sl.grow ([] : List AC) = Sl.nil := rfl
 rw [hg] at this
 simp only [BX, this, Option.bind_some]
def JW : List (List AC) → Sl AC × Bool
 | [] => (Sl.nil, false)
 | x :: _ => ((Sl.grow x).filled, true)
theorem ca {m : Nat} {ps : List Int} (hp : qp b ps) : Bd ⟨b, Mp.mk es⟩ (Sl.grow (Fq b m ps)) = some (JW (Iu b ex m ps)) := by
 cases hL : Iu b ex m ps with
 | nil =>
  have := pV hv hes (yf := onL Ce) (m := m) hp (st := .inl ()) (st' := .inl ()) (bb := true) (by rw [hL]; rfl)
  simp only [Bd, this, Option.bind_some]; rfl
 | cons x L =>
  have := pV hv hes (yf := onL Ce) (m := m) hp (st := .inl ()) (st' := .inr (Sl.grow x).filled) (bb := false) (by
   rw [hL]
   simp only [List.map_cons, UY, onL, Ce, Sl.sub3_all, Option.bind_some])
  simp only [Bd, this, Option.bind_some]; rfl
end
end
theorem Wv : ∀ l : List Int, (m8 l).length = 2 ^ l.length
 | [] => rfl
 | a :: l => by simp [m8, Wv l, Nat.pow_succ]; omega
theorem rq (m : Nat) (l : List Int) : (Dh m l).length ≤ 2 ^ l.length := by
 rw [← PE, ← Wv]; exact List.length_filter_le _ _
theorem pK : ∀ W : List Jd, (∀ w ∈ W, w.able.length ≤ 4) → (Ft W).length ≤ 16 ^ W.length
 | [], _ => by simp [Ft]
 | w :: W, h => by
  have ih := pK W fun w' hw => h w' (List.mem_cons_of_mem _ hw)
  have h1 := rq w.many w.able
  have h2 : 2 ^ w.able.length ≤ 2 ^ 4 := Nat.pow_le_pow_right (by omega) (h w List.mem_cons_self)
  simp only [Ft]
  refine Nat.le_trans (Cd _ (16 ^ W.length) _ fun c _ => by rw [List.length_map]; exact ih) ?_
  rw [List.length_cons, Nat.pow_succ, Nat.mul_comm]
  exact Nat.mul_le_mul_left _ (by omega)
theorem pM {b : BenchBook} (hv : GT b) (ex : Int → Bool) (p k : Int) : (BD b ex p k).length ≤ 4 := by
 unfold BD
 cases b.Pieces.ix p with
 | none => simp
 | some x =>
  simp only
  cases x.Parts.ix k with
  | none => simp
  | some y =>
   have h1 := List.length_filter_le (fun boy => !ex boy && Yf b x.Week y.Notes boy) (idx b.Voice.Boys.l.length)
   have h2 := hv.voice.boys.1
   rw [Ao] at h1
   simp only [jg]; omega
theorem rP {b : BenchBook} (hv : GT b) (ex : Int → Bool) (m : Nat) {ps : List Int} (hp : ps.length ≤ 3) : (Iu b ex m ps).length ≤ 68719476736 := by
 simp only [Iu, J7, List.length_map]
 refine Nat.le_trans (List.length_filter_le _ _) (Nat.le_trans (pK _ ?_) ?_)
 ·intro w hw
  simp only [EV, List.mem_map] at hw
  obtain ⟨w', _, rfl⟩ := hw
  exact pM hv ex _ _
 ·have := PI hv m hp
  calc 16 ^ (EV b ex m ps).length ≤ 16 ^ 9 := Nat.pow_le_pow_right (by omega) (by simp only [EV, List.length_map]; exact this)
   _ ≤ 68719476736 := by decide
theorem ip (a : Sl Int) (hn : a.l.length < 4611686018427387904) (n : Int) : B2 a n = some (a.l.contains n) := by
 have e : Loop (BF a n) 0 = some (match a.l.findIdx? (fun y => n == y) with | some i => .inl (i : Int) | none => .inr ()) := by
  have main : ∀ post pre, a.l = pre ++ post → Loop (BF a n) (pre.length : Int) = some (match post.findIdx? (fun y => n == y) with | some i => .inl ((pre.length + i : Nat) : Int) | none => .inr ()) := by
   intro post
   induction post with
   | nil =>
    intro pre h
    have hl : ¬ (pre.length : Int) < a.len := by rw [Sl.len_l, h]; simp
    exact Loop.done (by simp only [BF, decide_eq_false hl, Bool.false_eq_true, if_false]; rfl)
   | cons y post ih =>
    intro pre h
    have hl : (pre.length : Int) < a.len := by rw [Sl.len_l, h]; simp; omega
    have hW : W ((pre.length : Int) + 1) = (pre.length : Int) + 1 := Q7 (by rw [h] at hn; simp at hn; omega)
    by_cases hc : n = y
    ·have hf : BF a n pre.length = some (.inr (.inl (pre.length : Int))) := by
      simp only [BF, decide_eq_true hl, if_true, Sl.ix_at h, Option.bind_some, hc, decide_true]
     rw [Loop.done hf]
     simp [List.findIdx?_cons, hc]
    ·have hf : BF a n pre.length = some (.inl ((pre.length : Int) + 1)) := by
      simp [BF, decide_eq_true hl, Sl.ix_at h, hc, hW, hl]
     rw [Loop.step hf]
     have := ih (pre ++ [y]) (by rw [h]; simp)
     simp only [List.length_append, List.length_cons, List.length_nil, Nat.zero_add] at this
     rw [show ((pre.length : Int) + 1) = ((pre.length + 1 : Nat) : Int) by simp, this]
     have hb : (n == y) = false := by simpa using hc
     simp only [List.findIdx?_cons, hb, Bool.false_eq_true, if_false]
     cases post.findIdx? (fun y => n == y) with
     | none => rfl
     | some i => simp; omega
  have := main a.l [] rfl
  simpa using this
 have hany : a.l.contains n = (a.l.findIdx? (fun y => n == y)).isSome := by
  rw [List.findIdx?_isSome, List.contains_eq_any_beq]
 simp only [B2, Fp, e, Option.bind_some, hany]
 cases a.l.findIdx? (fun y => n == y) with
 | none => rfl
 | some i => simp
def Gn (b : BenchBook) (but : List Int) : List Int := (idx b.Pieces.l.length).filter fun p => !but.contains p
theorem cq {b : BenchBook} (hv : GT b) (but : List Int) : qp b (Gn b but) := by
 refine ⟨?_, ?_⟩
 ·have := List.length_filter_le (fun p => !but.contains p) (idx b.Pieces.l.length)
  have := hv.pieces
  simp only [Gn]; rw [Ao] at *; omega
 ·intro p hp
  exact G4.mp (List.mem_filter.mp hp).1
theorem da {b : BenchBook} (hv : GT b) (able : Mp 2 (Sl Int)) (a : Sl Int) (hn : a.l.length < 4611686018427387904) : B6 ⟨b, able⟩ a = some (Sl.grow (Gn b a.l)) := by
 have h3 := hv.pieces
 have e : Loop (Bq ⟨b, able⟩ a) (Sl.nil, 0) = some (Sl.grow (Gn b a.l)) := by
  refine FV (fun t i => (t, i)) (idx b.Pieces.l.length) (fun pre => Sl.grow (pre.filter fun p => !a.l.contains p)) (by rw [Ao]; omega) rfl ?_ ?_
  ·intro pre p post hpre hW
   obtain ⟨hpl, hlt0⟩ := P8 hpre
   have hlt : (pre.length : Int) < b.Pieces.len := by rw [Sl.len_l]; exact hlt0
   have hle := List.length_filter_le (fun p => !a.l.contains p) pre
   have hlen : (pre.filter fun p => !a.l.contains p).length + ([(pre.length : Int)] : List Int).length ≤ 1000000000 := by rw [List.length_singleton]; omega
   rw [Js, hpl]
   simp only [Bq, decide_eq_true hlt, if_true, ip a hn, Option.bind_some, hW]
   by_cases hc : a.l.contains (pre.length : Int) = true
   ·simp only [hc, if_true, Bool.not_true, Bool.false_eq_true, if_false, List.append_nil]
   ·have hc' : a.l.contains (pre.length : Int) = false := by simpa using hc
    simp only [hc', Bool.false_eq_true, if_false, Sl.app_grow (q := 8) (List.cons_ne_nil _ _) (Bl hlen (by omega)), Option.bind_some, Bool.not_false, if_true]
  ·have hlt : ¬ ((idx b.Pieces.l.length).length : Int) < b.Pieces.len := by rw [Sl.len_l, Ao]; omega
   simp only [Bq, decide_eq_false hlt, Bool.false_eq_true, if_false, Gn]
 simp only [B6, e, Option.bind_some]
end
end Go.Lf
