/- A part of the proof. -/
import Derived.Test.YtohgomfnigdaoaaDoorx29
set_option linter.all false
namespace Go.Lf
open Go Go.Lf.Pl
noncomputable section
def KC (b : BenchBook) (m : Nat) (p : Int) : List AD := (yX (min m (Gs b p))).map fun k => ⟨⟨p, k⟩, LL b p k, 0⟩
def GR (b : BenchBook) (m : Nat) (ps : List Int) : List AD := ps.flatMap (KC b m)
def HO (b : BenchBook) (ex : Int → Bool) (m : Nat) (ps : List Int) : List P4 := (GR b m ps).map (LU b ex)
def Io (b : BenchBook) (ex : Int → Bool) (m : Nat) (ps : List Int) : List (List AC) := fill (CN b) b.Most.toNat (HO b ex m ps) []
def pr (b : BenchBook) (ps : List Int) : Prop := ps.length ≤ 3 ∧ ∀ p ∈ ps, 0 ≤ p ∧ p < b.Pieces.l.length
theorem rf {α : Type} {x : Sl α} (hne : x.l ≠ []) {h : Int} (h0 : 0 ≤ h) (h1 : h ≤ x.l.length) : x.sub none (some h) = some (.cold (x.l.take h.toNat)) := by
 cases x with
 | nil => exact absurd rfl hne
 | cold xs => simp only [Sl.l] at h1; simp [Sl.sub, Sl.l, h0, h1]
 | hot xs => simp only [Sl.l] at h1; simp [Sl.sub, Sl.l, h0, h1]
 | full xs => simp only [Sl.l] at h1; simp [Sl.sub, Sl.l, h0, h1]
theorem qy (n : Nat) : yX (n + 1) = yX n ++ [(n : Int)] := by simp [yX, List.range_succ]
section
variable {b : BenchBook} (hv : F5 b)
include hv
theorem lx (m : Nat) (p : Int) : (KC b m p).length ≤ 3 := by
 simp only [KC, List.length_map, An, Gs]
 split
 ·rename_i x hx
  have := hv.parts x (Je hx).2.2; omega
 ·omega
theorem Oo (m : Nat) {ps : List Int} (hp : ps.length ≤ 3) : (GR b m ps).length ≤ 9 := by
 have := CU (KC b m) 3 ps fun p _ => lx hv m p
 simp only [GR]; omega
theorem pi (p k : Int) : 0 ≤ LL b p k ∧ LL b p k ≤ 3 := by
 unfold LL
 split
 ·rename_i x hx
  split
  ·rename_i y hy
   have := hv.part x (Je hx).2.2 y (Je hy).2.2; omega
  ·omega
 ·omega
theorem XE (m : Nat) {ps : List Int} (hp : pr b ps) {w : AD} (hw : w ∈ GR b m ps) : yJ b w ∧ w.from_ = 0 := by
 simp only [GR, List.mem_flatMap, KC, List.mem_map] at hw
 obtain ⟨p, hpm, k, _, rfl⟩ := hw
 exact ⟨⟨hp.2 p hpm, pi hv p k⟩, rfl⟩
omit hv in
theorem nI : ∀ l : List AD, (∀ w ∈ l, yJ b w) → pw l ≤ 4 * l.length
 | [], _ => by simp [pw]
 | w :: r, h => by
  have h1 := (h w List.mem_cons_self).many
  have h2 := nI r fun w' hw => h w' (List.mem_cons_of_mem _ hw)
  simp only [pw, List.length_cons]; omega
theorem Vl (able : Mp 2 (Sl Int)) {a1 : Sl Int} (hp : pr b a1.l) {m : Int} (hm : 0 ≤ m) : BV ⟨b, able⟩ a1 m = some (Sl.grow (GR b m.toNat a1.l)) := by
 have e2 : ∀ {p : Int} {x : AI} (acc : List AD), b.Pieces.ix p = some x → acc.length ≤ 100 → Loop (B2 p (.cold (x.Parts.l.take (min m x.Parts.len).toNat))) (Sl.grow acc, 0) = some (Sl.grow (acc ++ KC b m.toNat p)) := by
  intro p x acc hx hacc
  have h3 := hv.parts x (Je hx).2.2
  have hnp : Gs b p = x.Parts.l.length := by simp [Gs, hx]
  have hmin : (min m x.Parts.len).toNat = min m.toNat x.Parts.l.length := by rw [Sl.len_l]; omega
  rw [hmin]
  refine GX (fun t i => (t, i)) (x.Parts.l.take (min m.toNat x.Parts.l.length)) (fun pre => Sl.grow (acc ++ (yX pre.length).map fun k => (⟨⟨p, k⟩, LL b p k, 0⟩ : AD))) ?_ (by simp [yX]) ?_ ?_
  ·rw [List.length_take]; omega
  ·intro pre y post hpre hW
   have hlp : pre.length < 3 := by
    have := congrArg List.length hpre
    rw [List.length_take] at this; simp at this; omega
   have hix : (Sl.cold (x.Parts.l.take (min m.toNat x.Parts.l.length))).ix pre.length = some y := Sl.ix_at (by rw [Sl.l_cold]; exact hpre)
   have hlt : (pre.length : Int) < (Sl.cold (x.Parts.l.take (min m.toNat x.Parts.l.length))).len := by rw [Sl.len_l, Sl.l_cold, hpre]; simp; omega
   have hy : x.Parts.ix pre.length = some y := by
    have h4 : (x.Parts.l.take (min m.toNat x.Parts.l.length))[pre.length]? = some y := by rw [hpre]; simp
    rw [List.getElem?_take] at h4
    rw [Sl.ix_nat]
    split at h4
    ·exact h4
    ·cases h4
   have hmy : LL b p pre.length = y.Many := by simp [LL, hx, hy]
   have hlen : (acc ++ (yX pre.length).map fun k => (⟨⟨p, k⟩, LL b p k, 0⟩ : AD)).length + ([⟨⟨p, (pre.length : Int)⟩, y.Many, 0⟩] : List AD).length ≤ 1000000000 := by simp [An]; omega
   simp only [B2, decide_eq_true hlt, if_true, hix, Option.bind_some, Sl.app_grow (q := 32) (List.cons_ne_nil _ _) (C9 hlen (by omega)), hW]
   rw [List.length_append, List.length_singleton, qy, List.map_append]
   simp [hmy]
  ·have hlt : ¬ ((x.Parts.l.take (min m.toNat x.Parts.l.length)).length : Int) < (Sl.cold (x.Parts.l.take (min m.toNat x.Parts.l.length))).len := by rw [Sl.len_l, Sl.l_cold]; omega
   have hl2 : (x.Parts.l.take (min m.toNat x.Parts.l.length)).length = min m.toNat (Gs b p) := by rw [List.length_take, hnp]; omega
   simp only [B2, decide_eq_false hlt, Bool.false_eq_true, if_false, KC]
   rw [hl2]
 have e1 : Loop (BR ⟨b, able⟩ a1 m) (Sl.nil, 0) = some (Sl.grow (GR b m.toNat a1.l)) := by
  refine GX (fun t i => (t, i)) a1.l (fun pre => Sl.grow (GR b m.toNat pre)) (by have := hp.1; omega) rfl ?_ ?_
  ·intro pre p post hpre hW
   have hpm := hp.2 p (by rw [hpre]; simp)
   obtain ⟨x, hx, hxm⟩ := oC hpm.1 hpm.2
   have hlt : (pre.length : Int) < a1.len := by rw [Sl.len_l, hpre]; simp; omega
   have h3 := hv.parts x hxm
   have hsub : x.Parts.sub none (some (min m x.Parts.len)) = some (.cold (x.Parts.l.take (min m x.Parts.len).toNat)) := rf (by intro h; rw [h] at h3; simp at h3) (by rw [Sl.len_l]; omega) (by rw [Sl.len_l]; omega)
   have hlp : pre.length ≤ 3 := by have := hp.1; rw [hpre] at this; simp at this; omega
   have := e2 (GR b m.toNat pre) hx (by have := Oo hv m.toNat hlp; omega)
   simp only [BR, decide_eq_true hlt, if_true, Sl.ix_at hpre, Option.bind_some, hx, hsub, this, hW]
   congr 4
   simp [GR]
  ·have hlt : ¬ (a1.l.length : Int) < a1.len := by rw [Sl.len_l]; omega
   simp only [BR, decide_eq_false hlt, Bool.false_eq_true, if_false]
 simp only [BV, e1, Option.bind_some]
section
variable {ex : Int → Bool} {es : Zo} (hes : yG es (BA b ex))
include hes
theorem nH {σ : Type} {yf : Sl AC → σ → Option (Bool × σ)} {m : Nat} {ps : List Int} (hp : pr b ps) {st st' : σ} {bb : Bool} (hr : UI yf ((Io b ex m ps).map Sl.grow) st = some (bb, st')) :
  BO yf ⟨b, Mp.mk es⟩ (Sl.grow (GR b m ps)) st = some ((), st') := by
 have hok : ∀ w ∈ GR b m ps, yJ b w := fun w hw => (XE hv m hp hw).1
 have h0 : ∀ w ∈ GR b m ps, w.from_ = 0 := fun w hw => (XE hv m hp hw).2
 have hl := Oo hv m hp.1
 have hm := nI _ hok
 have := iM hv hes (yf := yf) 64 (GR b m ps) (Sl.grow (GR b m ps)) [] Bm st bb st' (Sl.l_grow _) (na b) (by intro w y; simp [Ft]) hok (fun w hw => h0 w (List.mem_of_mem_tail hw)) (fun w hw => by rw [h0 w hw]; exact ⟨by omega, by simp⟩) (by omega) (by omega) (by simp; omega) (by omega) (by
  rw [fy b ex _ _ h0]; exact hr)
 have hg : Sl.grow ([] : List AC) = Sl.nil := rfl
 rw [hg] at this
 simp only [BO, this, Option.bind_some]
def JX : List (List AC) → Sl AC × Bool
 | [] => (Sl.nil, false)
 | x :: _ => ((Sl.grow x).filled, true)
theorem cI {m : Nat} {ps : List Int} (hp : pr b ps) : BS ⟨b, Mp.mk es⟩ (Sl.grow (GR b m ps)) = some (JX (Io b ex m ps)) := by
 cases hL : Io b ex m ps with
 | nil =>
  have := nH hv hes (yf := onL CW) (m := m) hp (st := .inl ()) (st' := .inl ()) (bb := true) (by rw [hL]; rfl)
  simp only [BS, this, Option.bind_some]; rfl
 | cons x L =>
  have := nH hv hes (yf := onL CW) (m := m) hp (st := .inl ()) (st' := .inr (Sl.grow x).filled) (bb := false) (by
   rw [hL]
   simp only [List.map_cons, UI, onL, CW, Sl.sub3_all, Option.bind_some])
  simp only [BS, this, Option.bind_some]; rfl
end
end
theorem XX : ∀ l : List Int, (mc l).length = 2 ^ l.length
 | [] => rfl
 | a :: l => by simp [mc, XX l, Nat.pow_succ]; omega
theorem rN (m : Nat) (l : List Int) : (DW m l).length ≤ 2 ^ l.length := by
 rw [← O6, ← XX]; exact List.length_filter_le _ _
theorem nt : ∀ W : List P4, (∀ w ∈ W, w.able.length ≤ 4) → (G3 W).length ≤ 16 ^ W.length
 | [], _ => by simp [G3]
 | w :: W, h => by
  have ih := nt W fun w' hw => h w' (List.mem_cons_of_mem _ hw)
  have h1 := rN w.many w.able
  have h2 : 2 ^ w.able.length ≤ 2 ^ 4 := Nat.pow_le_pow_right (by omega) (h w List.mem_cons_self)
  simp only [G3]
  refine Nat.le_trans (CU _ (16 ^ W.length) _ fun c _ => by rw [List.length_map]; exact ih) ?_
  rw [List.length_cons, Nat.pow_succ, Nat.mul_comm]
  exact Nat.mul_le_mul_left _ (by omega)
theorem pK {b : BenchBook} (hv : F5 b) (ex : Int → Bool) (p k : Int) : (BA b ex p k).length ≤ 4 := by
 unfold BA
 cases b.Pieces.ix p with
 | none => simp
 | some x =>
  simp only
  cases x.Parts.ix k with
  | none => simp
  | some y =>
   have h1 := List.length_filter_le (fun boy => !ex boy && Zf b x.Week y.Notes boy) (yX b.Voice.Boys.l.length)
   have h2 := hv.voice.boys.1
   rw [An] at h1
   simp only [iZ]; omega
theorem rU {b : BenchBook} (hv : F5 b) (ex : Int → Bool) (m : Nat) {ps : List Int} (hp : ps.length ≤ 3) : (Io b ex m ps).length ≤ 68719476736 := by
 simp only [Io, KZ, List.length_map]
 refine Nat.le_trans (List.length_filter_le _ _) (Nat.le_trans (nt _ ?_) ?_)
 ·intro w hw
  simp only [HO, List.mem_map] at hw
  obtain ⟨w', _, rfl⟩ := hw
  exact pK hv ex _ _
 ·have := Oo hv m hp
  calc 16 ^ (HO b ex m ps).length ≤ 16 ^ 9 := Nat.pow_le_pow_right (by omega) (by simp only [HO, List.length_map]; exact this)
   _ ≤ 68719476736 := by decide
theorem jA (a : Sl Int) (hn : a.l.length < 4611686018427387904) (n : Int) : Bq a n = some (a.l.contains n) := by
 have e : Loop (A9 a n) 0 = some (match a.l.findIdx? (fun y => n == y) with | some i => .inl (i : Int) | none => .inr ()) := by
  have main : ∀ post pre, a.l = pre ++ post → Loop (A9 a n) (pre.length : Int) = some (match post.findIdx? (fun y => n == y) with | some i => .inl ((pre.length + i : Nat) : Int) | none => .inr ()) := by
   intro post
   induction post with
   | nil =>
    intro pre h
    have hl : ¬ (pre.length : Int) < a.len := by rw [Sl.len_l, h]; simp
    exact Loop.done (by simp only [A9, decide_eq_false hl, Bool.false_eq_true, if_false]; rfl)
   | cons y post ih =>
    intro pre h
    have hl : (pre.length : Int) < a.len := by rw [Sl.len_l, h]; simp; omega
    have hW : W ((pre.length : Int) + 1) = (pre.length : Int) + 1 := QB (by rw [h] at hn; simp at hn; omega)
    by_cases hc : n = y
    ·have hf : A9 a n pre.length = some (.inr (.inl (pre.length : Int))) := by
      simp only [A9, decide_eq_true hl, if_true, Sl.ix_at h, Option.bind_some, hc, decide_true]
     rw [Loop.done hf]
     simp [List.findIdx?_cons, hc]
    ·have hf : A9 a n pre.length = some (.inl ((pre.length : Int) + 1)) := by
      simp [A9, decide_eq_true hl, Sl.ix_at h, hc, hW, hl]
     rw [Loop.step hf]
     have := ih (pre ++ [y]) (by rw [h]; simp)
     simp only [List.length_append, List.length_cons, List.length_nil, Nat.zero_add] at this
     rw [show ((pre.length : Int) + 1) = ((pre.length + 1 : Nat) : Int) by simp, this]
     have hb : (n == y) = false := by simpa using hc
     simp only [List.findIdx?_cons, hb, Bool.false_eq_true, if_false]
     cases post.findIdx? (fun y => n == y) with
     | none => rfl
     | some i => simp; omega
  have := main a.l [] rfl
  simpa using this
 have hany : a.l.contains n = (a.l.findIdx? (fun y => n == y)).isSome := by
  rw [List.findIdx?_isSome, List.contains_eq_any_beq]
 simp only [Bq, FS, e, Option.bind_some, hany]
 cases a.l.findIdx? (fun y => n == y) with
 | none => rfl
 | some i => simp
def GM (b : BenchBook) (but : List Int) : List Int := (yX b.Pieces.l.length).filter fun p => !but.contains p
theorem bG {b : BenchBook} (hv : F5 b) (but : List Int) : pr b (GM b but) := by
 refine ⟨?_, ?_⟩
 ·have := List.length_filter_le (fun p => !but.contains p) (yX b.Pieces.l.length)
  have := hv.pieces
  simp only [GM]; rw [An] at *; omega
 ·intro p hp
  exact Hl.mp (List.mem_filter.mp hp).1
theorem an {b : BenchBook} (hv : F5 b) (able : Mp 2 (Sl Int)) (a : Sl Int) (hn : a.l.length < 4611686018427387904) : Bv ⟨b, able⟩ a = some (Sl.grow (GM b a.l)) := by
 have h3 := hv.pieces
 have e : Loop (Bi ⟨b, able⟩ a) (Sl.nil, 0) = some (Sl.grow (GM b a.l)) := by
  refine GX (fun t i => (t, i)) (yX b.Pieces.l.length) (fun pre => Sl.grow (pre.filter fun p => !a.l.contains p)) (by rw [An]; omega) rfl ?_ ?_
  ·intro pre p post hpre hW
   obtain ⟨hpl, hlt0⟩ := P0 hpre
   have hlt : (pre.length : Int) < b.Pieces.len := by rw [Sl.len_l]; exact hlt0
   have hle := List.length_filter_le (fun p => !a.l.contains p) pre
   have hlen : (pre.filter fun p => !a.l.contains p).length + ([(pre.length : Int)] : List Int).length ≤ 1000000000 := by rw [List.length_singleton]; omega
   rw [JJ, hpl]
   simp only [Bi, decide_eq_true hlt, if_true, jA a hn, Option.bind_some, hW]
   by_cases hc : a.l.contains (pre.length : Int) = true
   ·simp only [hc, if_true, Bool.not_true, Bool.false_eq_true, if_false, List.append_nil]
   ·have hc' : a.l.contains (pre.length : Int) = false := by simpa using hc
    simp only [hc', Bool.false_eq_true, if_false, Sl.app_grow (q := 8) (List.cons_ne_nil _ _) (C9 hlen (by omega)), Option.bind_some, Bool.not_false, if_true]
  ·have hlt : ¬ ((yX b.Pieces.l.length).length : Int) < b.Pieces.len := by rw [Sl.len_l, An]; omega
   simp only [Bi, decide_eq_false hlt, Bool.false_eq_true, if_false, GM]
 simp only [Bv, e, Option.bind_some]
end
end Go.Lf
