/- A part of the proof. -/
import Derived.Test.YtdjddljglkeefaaDoorx29
set_option linter.all false
namespace Go.Lf
open Go Go.Lf.Pl
noncomputable section
def Iq (b : BenchBook) (m : Nat) (p : Int) : List AH := (idx (min m (B7 b p))).map fun k => ⟨⟨p, k⟩, Is b p k, 0⟩
def FN (b : BenchBook) (m : Nat) (ps : List Int) : List AH := ps.flatMap (Iq b m)
def EO (b : BenchBook) (ex : Int → Bool) (m : Nat) (ps : List Int) : List NB := (FN b m ps).map (K8 b ex)
def FD (b : BenchBook) (ex : Int → Bool) (m : Nat) (ps : List Int) : List (List AB) := fill (A0 b) b.Most.toNat (EO b ex m ps) []
def nv (b : BenchBook) (ps : List Int) : Prop := ps.length ≤ 3 ∧ ∀ p ∈ ps, 0 ≤ p ∧ p < b.Pieces.l.length
theorem kr {α : Type} {x : Sl α} (hne : x.l ≠ []) {h : Int} (h0 : 0 ≤ h) (h1 : h ≤ x.l.length) : x.sub none (some h) = some (.cold (x.l.take h.toNat)) := by
 cases x with
 | nil => exact absurd rfl hne
 | cold xs => simp only [Sl.l] at h1; simp [Sl.sub, Sl.l, h0, h1]
 | hot xs => simp only [Sl.l] at h1; simp [Sl.sub, Sl.l, h0, h1]
 | full xs => simp only [Sl.l] at h1; simp [Sl.sub, Sl.l, h0, h1]
theorem sF (n : Nat) : idx (n + 1) = idx n ++ [(n : Int)] := by simp [idx, List.range_succ]
section
variable {b : BenchBook} (hv : C6 b)
include hv
theorem nQ (m : Nat) (p : Int) : (Iq b m p).length ≤ 3 := by
 simp only [Iq, List.length_map, AU, B7]
 split
 ·rename_i x hx
  have := hv.parts x (CN hx).2.2; omega
 ·omega
theorem O0 (m : Nat) {ps : List Int} (hp : ps.length ≤ 3) : (FN b m ps).length ≤ 9 := by
 have := CM (Iq b m) 3 ps fun p _ => nQ hv m p
 simp only [FN]; omega
theorem pC (p k : Int) : 0 ≤ Is b p k ∧ Is b p k ≤ 3 := by
 unfold Is
 split
 ·rename_i x hx
  split
  ·rename_i y hy
   have := hv.part x (CN hx).2.2 y (CN hy).2.2; omega
  ·omega
 ·omega
theorem WP (m : Nat) {ps : List Int} (hp : nv b ps) {w : AH} (hw : w ∈ FN b m ps) : WOk b w ∧ w.from_ = 0 := by
 simp only [FN, List.mem_flatMap, Iq, List.mem_map] at hw
 obtain ⟨p, hpm, k, _, rfl⟩ := hw
 exact ⟨⟨hp.2 p hpm, pC hv p k⟩, rfl⟩
omit hv in
theorem qd : ∀ l : List AH, (∀ w ∈ l, WOk b w) → ru l ≤ 4 * l.length
 | [], _ => by simp [ru]
 | w :: r, h => by
  have h1 := (h w List.mem_cons_self).many
  have h2 := qd r fun w' hw => h w' (List.mem_cons_of_mem _ hw)
  simp only [ru, List.length_cons]; omega
theorem SR (able : Mp 2 (Sl Int)) {a1 : Sl Int} (hp : nv b a1.l) {m : Int} (hm : 0 ≤ m) : Bi ⟨b, able⟩ a1 m = some (Sl.grow (FN b m.toNat a1.l)) := by
 have e2 : ∀ {p : Int} {x : AE} (acc : List AH), b.Pieces.ix p = some x → acc.length ≤ 100 → Loop (CP p (.cold (x.Parts.l.take (min m x.Parts.len).toNat))) (Sl.grow acc, 0) = some (Sl.grow (acc ++ Iq b m.toNat p)) := by
  intro p x acc hx hacc
  have h3 := hv.parts x (CN hx).2.2
  have hnp : B7 b p = x.Parts.l.length := by simp [B7, hx]
  have hmin : (min m x.Parts.len).toNat = min m.toNat x.Parts.l.length := by rw [Sl.len_l]; omega
  rw [hmin]
  refine Dw (fun t i => (t, i)) (x.Parts.l.take (min m.toNat x.Parts.l.length)) (fun pre => Sl.grow (acc ++ (idx pre.length).map fun k => (⟨⟨p, k⟩, Is b p k, 0⟩ : AH))) ?_ (by simp [idx]) ?_ ?_
  ·rw [List.length_take]; omega
  ·intro pre y post hpre hW
   have hlp : pre.length < 3 := by
    have := congrArg List.length hpre
    rw [List.length_take] at this; simp at this; omega
   have hix : (Sl.cold (x.Parts.l.take (min m.toNat x.Parts.l.length))).ix pre.length = some y := Sl.ix_at (by rw [Sl.l_cold]; exact hpre)
   have hlt : (pre.length : Int) < (Sl.cold (x.Parts.l.take (min m.toNat x.Parts.l.length))).len := by rw [Sl.len_l, Sl.l_cold, hpre]; simp; omega
   have hy : x.Parts.ix pre.length = some y := by
    have h4 : (x.Parts.l.take (min m.toNat x.Parts.l.length))[pre.length]? = some y := by rw [hpre]; simp
    rw [List.getElem?_take] at h4
    rw [Sl.ix_nat]
    split at h4
    ·exact h4
    ·cases h4
   have hmy : Is b p pre.length = y.Many := by simp [Is, hx, hy]
   have hlen : (acc ++ (idx pre.length).map fun k => (⟨⟨p, k⟩, Is b p k, 0⟩ : AH)).length + ([⟨⟨p, (pre.length : Int)⟩, y.Many, 0⟩] : List AH).length ≤ 1000000000 := by simp [AU]; omega
   simp only [CP, decide_eq_true hlt, if_true, hix, Option.bind_some, Sl.app_grow (q := 32) (List.cons_ne_nil _ _) (BU hlen (by omega)), hW]
   rw [List.length_append, List.length_singleton, sF, List.map_append]
   simp [hmy]
  ·have hlt : ¬ ((x.Parts.l.take (min m.toNat x.Parts.l.length)).length : Int) < (Sl.cold (x.Parts.l.take (min m.toNat x.Parts.l.length))).len := by rw [Sl.len_l, Sl.l_cold]; omega
   have hl2 : (x.Parts.l.take (min m.toNat x.Parts.l.length)).length = min m.toNat (B7 b p) := by rw [List.length_take, hnp]; omega
   simp only [CP, decide_eq_false hlt, Bool.false_eq_true, if_false, Iq]
   rw [hl2]
 have e1 : Loop (CH ⟨b, able⟩ a1 m) (Sl.nil, 0) = some (Sl.grow (FN b m.toNat a1.l)) := by
  refine Dw (fun t i => (t, i)) a1.l (fun pre => Sl.grow (FN b m.toNat pre)) (by have := hp.1; omega) rfl ?_ ?_
  ·intro pre p post hpre hW
   have hpm := hp.2 p (by rw [hpre]; simp)
   obtain ⟨x, hx, hxm⟩ := QI hpm.1 hpm.2
   have hlt : (pre.length : Int) < a1.len := by rw [Sl.len_l, hpre]; simp; omega
   have h3 := hv.parts x hxm
   have hsub : x.Parts.sub none (some (min m x.Parts.len)) = some (.cold (x.Parts.l.take (min m x.Parts.len).toNat)) := kr (by intro h; rw [h] at h3; simp at h3) (by rw [Sl.len_l]; omega) (by rw [Sl.len_l]; omega)
   have hlp : pre.length ≤ 3 := by have := hp.1; rw [hpre] at this; simp at this; omega
   have := e2 (FN b m.toNat pre) hx (by have := O0 hv m.toNat hlp; omega)
   simp only [CH, decide_eq_true hlt, if_true, Sl.ix_at hpre, Option.bind_some, hx, hsub, this, hW]
   congr 4
   simp [FN]
  ·have hlt : ¬ (a1.l.length : Int) < a1.len := by rw [Sl.len_l]; omega
   simp only [CH, decide_eq_false hlt, Bool.false_eq_true, if_false]
 simp only [Bi, e1, Option.bind_some]
section
variable {ex : Int → Bool} {es : Zd} (hes : zc es (A2 b ex))
include hes
theorem fU {σ : Type} {yf : Sl AB → σ → Option (Bool × σ)} {m : Nat} {ps : List Int} (hp : nv b ps) {st st' : σ} {bb : Bool} (hr : Sj yf ((FD b ex m ps).map Sl.grow) st = some (bb, st')) :
  Bl yf ⟨b, Mp.mk es⟩ (Sl.grow (FN b m ps)) st = some ((), st') := by
 have hok : ∀ w ∈ FN b m ps, WOk b w := fun w hw => (WP hv m hp hw).1
 have h0 : ∀ w ∈ FN b m ps, w.from_ = 0 := fun w hw => (WP hv m hp hw).2
 have hl := O0 hv m hp.1
 have hm := qd _ hok
 have := ir hv hes (yf := yf) 64 (FN b m ps) (Sl.grow (FN b m ps)) [] B5 st bb st' (Sl.l_grow _) (qV b) (by intro w y; simp [DJ]) hok (fun w hw => h0 w (List.mem_of_mem_tail hw)) (fun w hw => by rw [h0 w hw]; exact ⟨by omega, by simp⟩) (by omega) (by omega) (by simp; omega) (by omega) (by
  rw [ee b ex _ _ h0]; exact hr)
 have hg : Sl.grow ([] : List AB) = Sl.nil := rfl
 rw [hg] at this
 simp only [Bl, this, Option.bind_some]
def It : List (List AB) → Sl AB × Bool
 | [] => (Sl.nil, false)
 | x :: _ => ((Sl.grow x).filled, true)
theorem cb {m : Nat} {ps : List Int} (hp : nv b ps) : CB ⟨b, Mp.mk es⟩ (Sl.grow (FN b m ps)) = some (It (FD b ex m ps)) := by
 cases hL : FD b ex m ps with
 | nil =>
  have := fU hv hes (yf := zr Da) (m := m) hp (st := .inl ()) (st' := .inl ()) (bb := true) (by rw [hL]; rfl)
  simp only [CB, this, Option.bind_some]; rfl
 | cons x L =>
  have := fU hv hes (yf := zr Da) (m := m) hp (st := .inl ()) (st' := .inr (Sl.grow x).filled) (bb := false) (by
   rw [hL]
   simp only [List.map_cons, Sj, zr, Da, Sl.sub3_all, Option.bind_some])
  simp only [CB, this, Option.bind_some]; rfl
end
end
theorem W1 : ∀ l : List Int, (nG l).length = 2 ^ l.length
 | [] => rfl
 | a :: l => by simp [nG, W1 l, Nat.pow_succ]; omega
theorem sC (m : Nat) (l : List Int) : (Di m l).length ≤ 2 ^ l.length := by
 rw [← O3, ← W1]; exact List.length_filter_le _ _
theorem ou : ∀ W : List NB, (∀ w ∈ W, w.able.length ≤ 4) → (GE W).length ≤ 16 ^ W.length
 | [], _ => by simp [GE]
 | w :: W, h => by
  have ih := ou W fun w' hw => h w' (List.mem_cons_of_mem _ hw)
  have h1 := sC w.many w.able
  have h2 : 2 ^ w.able.length ≤ 2 ^ 4 := Nat.pow_le_pow_right (by omega) (h w List.mem_cons_self)
  simp only [GE]
  refine Nat.le_trans (CM _ (16 ^ W.length) _ fun c _ => by rw [List.length_map]; exact ih) ?_
  rw [List.length_cons, Nat.pow_succ, Nat.mul_comm]
  exact Nat.mul_le_mul_left _ (by omega)
theorem qt {b : BenchBook} (hv : C6 b) (ex : Int → Bool) (p k : Int) : (A2 b ex p k).length ≤ 4 := by
 unfold A2
 cases b.Pieces.ix p with
 | none => simp
 | some x =>
  simp only
  cases x.Parts.ix k with
  | none => simp
  | some y =>
   have h1 := List.length_filter_le (fun boy => !ex boy && rm b x.Week y.Notes boy) (idx b.Voice.Boys.l.length)
   have h2 := hv.voice.boys.1
   rw [AU] at h1
   simp only [d6]; omega
theorem tW {b : BenchBook} (hv : C6 b) (ex : Int → Bool) (m : Nat) {ps : List Int} (hp : ps.length ≤ 3) : (FD b ex m ps).length ≤ 68719476736 := by
 simp only [FD, Jq, List.length_map]
 refine Nat.le_trans (List.length_filter_le _ _) (Nat.le_trans (ou _ ?_) ?_)
 ·intro w hw
  simp only [EO, List.mem_map] at hw
  obtain ⟨w', _, rfl⟩ := hw
  exact qt hv ex _ _
 ·have := O0 hv m hp
  calc 16 ^ (EO b ex m ps).length ≤ 16 ^ 9 := Nat.pow_le_pow_right (by omega) (by simp only [EO, List.length_map]; exact this)
   _ ≤ 68719476736 := by decide
theorem ig (a : Sl Int) (hn : a.l.length < 4611686018427387904) (n : Int) : CZ a n = some (a.l.contains n) := by
 have e : Loop (BN a n) 0 = some (match a.l.findIdx? (fun y => n == y) with | some i => .inl (i : Int) | none => .inr ()) := by
  have main : ∀ post pre, a.l = pre ++ post → Loop (BN a n) (pre.length : Int) = some (match post.findIdx? (fun y => n == y) with | some i => .inl ((pre.length + i : Nat) : Int) | none => .inr ()) := by
   intro post
   induction post with
   | nil =>
    intro pre h
    have hl : ¬ (pre.length : Int) < a.len := by rw [Sl.len_l, h]; simp
    exact Loop.done (by simp only [BN, decide_eq_false hl, Bool.false_eq_true, if_false]; rfl)
   | cons y post ih =>
    intro pre h
    have hl : (pre.length : Int) < a.len := by rw [Sl.len_l, h]; simp; omega
    have hW : W ((pre.length : Int) + 1) = (pre.length : Int) + 1 := Jc (by rw [h] at hn; simp at hn; omega)
    by_cases hc : n = y
    ·have hf : BN a n pre.length = some (.inr (.inl (pre.length : Int))) := by
      simp only [BN, decide_eq_true hl, if_true, Sl.ix_at h, Option.bind_some, hc, decide_true]
     rw [Loop.done hf]
     simp [List.findIdx?_cons, hc]
    ·have hf : BN a n pre.length = some (.inl ((pre.length : Int) + 1)) := by
      simp [BN, decide_eq_true hl, Sl.ix_at h, hc, hW, hl]
     rw [Loop.step hf]
     have := ih (pre ++ [y]) (by rw [h]; simp)
     simp only [List.length_append, List.length_cons, List.length_nil, Nat.zero_add] at this
     rw [show ((pre.length : Int) + 1) = ((pre.length + 1 : Nat) : Int) by simp, this]
     have hb : (n == y) = false := by simpa using hc
     simp only [List.findIdx?_cons, hb, Bool.false_eq_true, if_false]
     cases post.findIdx? (fun y => n == y) with
     | none => rfl
     | some i => simp; omega
  have := main a.l [] rfl
  simpa using this
 have hany : a.l.contains n = (a.l.findIdx? (fun y => n == y)).isSome := by
  rw [List.findIdx?_isSome, List.contains_eq_any_beq]
 simp only [CZ, IR, e, Option.bind_some, hany]
 cases a.l.findIdx? (fun y => n == y) with
 | none => rfl
 | some i => simp
def DT (b : BenchBook) (but : List Int) : List Int := (idx b.Pieces.l.length).filter fun p => !but.contains p
theorem RX {b : BenchBook} (hv : C6 b) (but : List Int) : nv b (DT b but) := by
 refine ⟨?_, ?_⟩
 ·have := List.length_filter_le (fun p => !but.contains p) (idx b.Pieces.l.length)
  have := hv.pieces
  simp only [DT]; rw [AU] at *; omega
 ·intro p hp
  exact D9.mp (List.mem_filter.mp hp).1
theorem a8 {b : BenchBook} (hv : C6 b) (able : Mp 2 (Sl Int)) (a : Sl Int) (hn : a.l.length < 4611686018427387904) : Cc ⟨b, able⟩ a = some (Sl.grow (DT b a.l)) := by
 have h3 := hv.pieces
 have e : Loop (Ci ⟨b, able⟩ a) (Sl.nil, 0) = some (Sl.grow (DT b a.l)) := by
  refine Dw (fun t i => (t, i)) (idx b.Pieces.l.length) (fun pre => Sl.grow (pre.filter fun p => !a.l.contains p)) (by rw [AU]; omega) rfl ?_ ?_
  ·intro pre p post hpre hW
   obtain ⟨hpl, hlt0⟩ := Jm hpre
   have hlt : (pre.length : Int) < b.Pieces.len := by rw [Sl.len_l]; exact hlt0
   have hle := List.length_filter_le (fun p => !a.l.contains p) pre
   have hlen : (pre.filter fun p => !a.l.contains p).length + ([(pre.length : Int)] : List Int).length ≤ 1000000000 := by rw [List.length_singleton]; omega
   rw [HY, hpl]
   simp only [Ci, decide_eq_true hlt, if_true, ig a hn, Option.bind_some, hW]
   by_cases hc : a.l.contains (pre.length : Int) = true
   ·simp only [hc, if_true, Bool.not_true, Bool.false_eq_true, if_false, List.append_nil]
   ·have hc' : a.l.contains (pre.length : Int) = false := by simpa using hc
    simp only [hc', Bool.false_eq_true, if_false, Sl.app_grow (q := 8) (List.cons_ne_nil _ _) (BU hlen (by omega)), Option.bind_some, Bool.not_false, if_true]
  ·have hlt : ¬ ((idx b.Pieces.l.length).length : Int) < b.Pieces.len := by rw [Sl.len_l, AU]; omega
   simp only [Ci, decide_eq_false hlt, Bool.false_eq_true, if_false, DT]
 simp only [Cc, e, Option.bind_some]
theorem j7 (x y : Sl AB) (hn : x.l.length < 4611686018427387904) : Ic x y = some (decide (x.l = y.l)) := by
 have keyeq : ∀ a c : AB, decide (Bm.key a = Bm.key c) = decide (a = c) := by
  intro a c
  rw [decide_eq_decide]
  constructor
  ·intro h
   have : ([a.Piece, a.Part, a.Boy] : List Int) = [c.Piece, c.Part, c.Boy] := h
   simp at this
   cases a; cases c; simp_all
  ·rintro rfl; rfl
 unfold Ic
 by_cases hl : x.len = y.len
 ·rw [if_pos (by simpa using hl)]
  rw [Sl.len_l, Sl.len_l] at hl
  have hl2 : x.l.length = y.l.length := by omega
  have main : ∀ post pre, x.l = pre ++ post → x.l.take pre.length = y.l.take pre.length → Loop (BP x y) (pre.length : Int) = some (if x.l = y.l then .inr () else .inl false) := by
   intro post
   induction post with
   | nil =>
    intro pre h ht
    have hlt : ¬ (pre.length : Int) < x.len := by rw [Sl.len_l, h]; simp
    have : x.l = y.l := by
     rw [List.take_of_length_le (by rw [h]; simp), List.take_of_length_le (by rw [← hl2, h]; simp)] at ht
     exact ht
    rw [if_pos this]
    exact Loop.done (by simp only [BP, decide_eq_false hlt, Bool.false_eq_true, if_false])
   | cons a post ih =>
    intro pre h ht
    have hlt : (pre.length : Int) < x.len := by rw [Sl.len_l, h]; simp; omega
    have hlx : pre.length < x.l.length := by rw [h]; simp
    have hW : W ((pre.length : Int) + 1) = (pre.length : Int) + 1 := Jc (by omega)
    have hy : y.ix (pre.length : Int) = some (y.l[pre.length]'(by omega)) := by rw [Sl.ix_nat]; simp
    have hxa : x.l[pre.length]'hlx = a := by
     have : x.l[pre.length]? = some a := by rw [h]; simp
     rw [List.getElem?_eq_getElem hlx] at this
     exact Option.some.inj this
    by_cases hc : a = y.l[pre.length]'(by omega)
    ·have hf : BP x y pre.length = some (.inl ((pre.length : Int) + 1)) := by
      simp only [BP, decide_eq_true hlt, if_true, Sl.ix_at h, Option.bind_some, hy, keyeq, decide_eq_true hc, hW]
     rw [Loop.step hf]
     have := ih (pre ++ [a]) (by rw [h]; simp) (by
      rw [List.length_append, List.length_singleton, List.take_succ_eq_append_getElem hlx, List.take_succ_eq_append_getElem (by omega), ht, hxa, ← hc])
     simpa using this
    ·have hf : BP x y pre.length = some (.inr (.inl false)) := by
      simp only [BP, decide_eq_true hlt, if_true, Sl.ix_at h, Option.bind_some, hy, keyeq, decide_eq_false hc, Bool.false_eq_true, if_false]
     rw [Loop.done hf, if_neg]
     intro he
     apply hc
     rw [← hxa]
     congr 1
  have this : Loop (BP x y) 0 = some (if x.l = y.l then .inr () else .inl false) := main x.l [] rfl (by simp)
  by_cases he : x.l = y.l
  ·rw [if_pos he] at this
   have h0 : Loop (BP x y) 0 = some (.inr ()) := this
   rw [h0, Option.bind_some]; simp [he]
  ·rw [if_neg he] at this
   have h0 : Loop (BP x y) 0 = some (.inl false) := this
   rw [h0, Option.bind_some]; simp [he]
 ·rw [if_neg (by simpa using hl)]
  have : ¬ x.l = y.l := by intro h; apply hl; rw [Sl.len_l, Sl.len_l, h]
  simp [this]
end
end Go.Lf
