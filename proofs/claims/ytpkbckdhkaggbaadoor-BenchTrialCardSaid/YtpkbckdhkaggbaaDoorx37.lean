/- A part of the proof. -/
import Derived.Test.YtpkbckdhkaggbaaDoorx36
set_option linter.all false
namespace Go.Lf
open Go Go.Lf.Pl
noncomputable section
def TO (b : BenchBook) (m : Nat) (p : Int) : List AH := (ue (min m (Kz b p))).map fun k => ⟨⟨p, k⟩, RB b p k, 0⟩
def HO (b : BenchBook) (m : Nat) (ps : List Int) : List AH := ps.flatMap (TO b m)
def Vd (b : BenchBook) (ex : Int → Bool) (m : Nat) (ps : List Int) : List ox := (HO b m ps).map (NZ b ex)
def Ky (b : BenchBook) (ex : Int → Bool) (m : Nat) (ps : List Int) : List (List AC) := fill (B1 b) b.Most.toNat (Vd b ex m ps) []
def mX (b : BenchBook) (ps : List Int) : Prop := ps.length ≤ 3 ∧ ∀ p ∈ ps, 0 ≤ p ∧ p < b.Pieces.l.length
theorem mr {α : Type} {x : Sl α} (hne : x.l ≠ []) {h : Int} (h0 : 0 ≤ h) (h1 : h ≤ x.l.length) : x.sub none (some h) = some (.cold (x.l.take h.toNat)) := by
 cases x with
 | nil => exact absurd rfl hne
 | cold xs => simp only [Sl.l] at h1; simp [Sl.sub, Sl.l, h0, h1]
 | hot xs => simp only [Sl.l] at h1; simp [Sl.sub, Sl.l, h0, h1]
 | full xs => simp only [Sl.l] at h1; simp [Sl.sub, Sl.l, h0, h1]
theorem mh (n : Nat) : ue (n + 1) = ue n ++ [(n : Int)] := by simp [ue, List.range_succ]
section
variable {b : BenchBook} (hv : Ez b)
include hv
theorem ir (m : Nat) (p : Int) : (TO b m p).length ≤ 3 := by
 simp only [TO, List.length_map, Aw, Kz]
 split
 ·rename_i x hx
  have := hv.parts x (IG hx).2.2; omega
 ·omega
theorem M7 (m : Nat) {ps : List Int} (hp : ps.length ≤ 3) : (HO b m ps).length ≤ 9 := by
 have := B8 (TO b m) 3 ps fun p _ => ir hv m p
 simp only [HO]; omega
theorem ln (p k : Int) : 0 ≤ RB b p k ∧ RB b p k ≤ 3 := by
 unfold RB
 split
 ·rename_i x hx
  split
  ·rename_i y hy
   have := hv.part x (IG hx).2.2 y (IG hy).2.2; omega
  ·omega
 ·omega
theorem VI (m : Nat) {ps : List Int} (hp : mX b ps) {w : AH} (hw : w ∈ HO b m ps) : vL b w ∧ w.from_ = 0 := by
 simp only [HO, List.mem_flatMap, TO, List.mem_map] at hw
 obtain ⟨p, hpm, k, _, rfl⟩ := hw
 exact ⟨⟨hp.2 p hpm, ln hv p k⟩, rfl⟩
omit hv in
theorem lg : ∀ l : List AH, (∀ w ∈ l, vL b w) → mT l ≤ 4 * l.length
 | [], _ => by simp [mT]
 | w :: r, h => by
  have h1 := (h w List.mem_cons_self).many
  have h2 := lg r fun w' hw => h w' (List.mem_cons_of_mem _ hw)
  simp only [mT, List.length_cons]; omega
theorem QB (able : Mp 2 (Sl Int)) {a1 : Sl Int} (hp : mX b a1.l) {m : Int} (hm : 0 ≤ m) : BV ⟨b, able⟩ a1 m = some (Sl.grow (HO b m.toNat a1.l)) := by
 have e2 : ∀ {p : Int} {x : AK} (acc : List AH), b.Pieces.ix p = some x → acc.length ≤ 100 → Loop (B6 p (.cold (x.Parts.l.take (min m x.Parts.len).toNat))) (Sl.grow acc, 0) = some (Sl.grow (acc ++ TO b m.toNat p)) := by
  intro p x acc hx hacc
  have h3 := hv.parts x (IG hx).2.2
  have hnp : Kz b p = x.Parts.l.length := by simp [Kz, hx]
  have hmin : (min m x.Parts.len).toNat = min m.toNat x.Parts.l.length := by rw [Sl.len_l]; omega
  rw [hmin]
  refine FG (fun t i => (t, i)) (x.Parts.l.take (min m.toNat x.Parts.l.length)) (fun pre => Sl.grow (acc ++ (ue pre.length).map fun k => (⟨⟨p, k⟩, RB b p k, 0⟩ : AH))) ?_ (by simp [ue]) ?_ ?_
  ·rw [List.length_take]; omega
  ·intro pre y post hpre hW
   have hlp : pre.length < 3 := by
    have := congrArg List.length hpre
    rw [List.length_take] at this; simp at this; omega
   have hix : (Sl.cold (x.Parts.l.take (min m.toNat x.Parts.l.length))).ix pre.length = some y := Sl.ix_at (by rw [Sl.l_cold]; exact hpre)
   have hlt : (pre.length : Int) < (Sl.cold (x.Parts.l.take (min m.toNat x.Parts.l.length))).len := by rw [Sl.len_l, Sl.l_cold, hpre]; simp; omega
   have hy : x.Parts.ix pre.length = some y := by
    have h4 : (x.Parts.l.take (min m.toNat x.Parts.l.length))[pre.length]? = some y := by rw [hpre]; simp
    rw [List.getElem?_take] at h4
    rw [Sl.ix_nat]
    split at h4
    ·exact h4
    ·cases h4
   have hmy : RB b p pre.length = y.Many := by simp [RB, hx, hy]
   have hlen : (acc ++ (ue pre.length).map fun k => (⟨⟨p, k⟩, RB b p k, 0⟩ : AH)).length + ([⟨⟨p, (pre.length : Int)⟩, y.Many, 0⟩] : List AH).length ≤ 1000000000 := by simp [Aw]; omega
   simp only [B6, decide_eq_true hlt, if_true, hix, Option.bind_some, Sl.app_grow (q := 32) (List.cons_ne_nil _ _) (B2 hlen (by omega)), hW]
   rw [List.length_append, List.length_singleton, mh, List.map_append]
   simp [hmy]
  ·have hlt : ¬ ((x.Parts.l.take (min m.toNat x.Parts.l.length)).length : Int) < (Sl.cold (x.Parts.l.take (min m.toNat x.Parts.l.length))).len := by rw [Sl.len_l, Sl.l_cold]; omega
   have hl2 : (x.Parts.l.take (min m.toNat x.Parts.l.length)).length = min m.toNat (Kz b p) := by rw [List.length_take, hnp]; omega
   simp only [B6, decide_eq_false hlt, Bool.false_eq_true, if_false, TO]
   rw [hl2]
 have e1 : Loop (CB ⟨b, able⟩ a1 m) (Sl.nil, 0) = some (Sl.grow (HO b m.toNat a1.l)) := by
  refine FG (fun t i => (t, i)) a1.l (fun pre => Sl.grow (HO b m.toNat pre)) (by have := hp.1; omega) rfl ?_ ?_
  ·intro pre p post hpre hW
   have hpm := hp.2 p (by rw [hpre]; simp)
   obtain ⟨x, hx, hxm⟩ := kp hpm.1 hpm.2
   have hlt : (pre.length : Int) < a1.len := by rw [Sl.len_l, hpre]; simp; omega
   have h3 := hv.parts x hxm
   have hsub : x.Parts.sub none (some (min m x.Parts.len)) = some (.cold (x.Parts.l.take (min m x.Parts.len).toNat)) := mr (by intro h; rw [h] at h3; simp at h3) (by rw [Sl.len_l]; omega) (by rw [Sl.len_l]; omega)
   have hlp : pre.length ≤ 3 := by have := hp.1; rw [hpre] at this; simp at this; omega
   have := e2 (HO b m.toNat pre) hx (by have := M7 hv m.toNat hlp; omega)
   simp only [CB, decide_eq_true hlt, if_true, Sl.ix_at hpre, Option.bind_some, hx, hsub, this, hW]
   congr 4
   simp [HO]
  ·have hlt : ¬ (a1.l.length : Int) < a1.len := by rw [Sl.len_l]; omega
   simp only [CB, decide_eq_false hlt, Bool.false_eq_true, if_false]
 simp only [BV, e1, Option.bind_some]
section
variable {ex : Int → Bool} {es : XP} (hes : ut es (BK b ex))
include hes
theorem bp {σ : Type} {yf : Sl AC → σ → Option (Bool × σ)} {m : Nat} {ps : List Int} (hp : mX b ps) {st st' : σ} {bb : Bool} (hr : QM yf ((Ky b ex m ps).map Sl.grow) st = some (bb, st')) :
  BW yf ⟨b, Mp.mk es⟩ (Sl.grow (HO b m ps)) st = some ((), st') := by
 have hok : ∀ w ∈ HO b m ps, vL b w := fun w hw => (VI hv m hp hw).1
 have h0 : ∀ w ∈ HO b m ps, w.from_ = 0 := fun w hw => (VI hv m hp hw).2
 have hl := M7 hv m hp.1
 have hm := lg _ hok
 have := eY hv hes (yf := yf) 64 (HO b m ps) (Sl.grow (HO b m ps)) [] Bo st bb st' (Sl.l_grow _) (lN b) (by intro w y; simp [Ht]) hok (fun w hw => h0 w (List.mem_of_mem_tail hw)) (fun w hw => by rw [h0 w hw]; exact ⟨by omega, by simp⟩) (by omega) (by omega) (by simp; omega) (by omega) (by
  rw [cY b ex _ _ h0]; exact hr)
 have hg : Sl.grow ([] : List AC) = Sl.nil := rfl
 rw [hg] at this
 simp only [BW, this, Option.bind_some]
def I4 : List (List AC) → Sl AC × Bool
 | [] => (Sl.nil, false)
 | x :: _ => ((Sl.grow x).filled, true)
theorem ZJ {m : Nat} {ps : List Int} (hp : mX b ps) : Bv ⟨b, Mp.mk es⟩ (Sl.grow (HO b m ps)) = some (I4 (Ky b ex m ps)) := by
 cases hL : Ky b ex m ps with
 | nil =>
  have := bp hv hes (yf := t9 C7) (m := m) hp (st := .inl ()) (st' := .inl ()) (bb := true) (by rw [hL]; rfl)
  simp only [Bv, this, Option.bind_some]; rfl
 | cons x L =>
  have := bp hv hes (yf := t9 C7) (m := m) hp (st := .inl ()) (st' := .inr (Sl.grow x).filled) (bb := false) (by
   rw [hL]
   simp only [List.map_cons, QM, t9, C7, Sl.sub3_all, Option.bind_some])
  simp only [Bv, this, Option.bind_some]; rfl
end
end
theorem Um : ∀ l : List Int, (mW l).length = 2 ^ l.length
 | [] => rfl
 | a :: l => by simp [mW, Um l, Nat.pow_succ]; omega
theorem nB (m : Nat) (l : List Int) : (FO m l).length ≤ 2 ^ l.length := by
 rw [← Qo, ← Um]; exact List.length_filter_le _ _
theorem kE : ∀ W : List ox, (∀ w ∈ W, w.able.length ≤ 4) → (fw W).length ≤ 16 ^ W.length
 | [], _ => by simp [fw]
 | w :: W, h => by
  have ih := kE W fun w' hw => h w' (List.mem_cons_of_mem _ hw)
  have h1 := nB w.many w.able
  have h2 : 2 ^ w.able.length ≤ 2 ^ 4 := Nat.pow_le_pow_right (by omega) (h w List.mem_cons_self)
  simp only [fw]
  refine Nat.le_trans (B8 _ (16 ^ W.length) _ fun c _ => by rw [List.length_map]; exact ih) ?_
  rw [List.length_cons, Nat.pow_succ, Nat.mul_comm]
  exact Nat.mul_le_mul_left _ (by omega)
theorem mL {b : BenchBook} (hv : Ez b) (ex : Int → Bool) (p k : Int) : (BK b ex p k).length ≤ 4 := by
 unfold BK
 cases b.Pieces.ix p with
 | none => simp
 | some x =>
  simp only
  cases x.Parts.ix k with
  | none => simp
  | some y =>
   have h1 := List.length_filter_le (fun boy => !ex boy && Z1 b x.Week y.Notes boy) (ue b.Voice.Boys.l.length)
   have h2 := hv.voice.boys.1
   rw [Aw] at h1
   simp only [SR]; omega
theorem nz {b : BenchBook} (hv : Ez b) (ex : Int → Bool) (m : Nat) {ps : List Int} (hp : ps.length ≤ 3) : (Ky b ex m ps).length ≤ 68719476736 := by
 simp only [Ky, Y9, List.length_map]
 refine Nat.le_trans (List.length_filter_le _ _) (Nat.le_trans (kE _ ?_) ?_)
 ·intro w hw
  simp only [Vd, List.mem_map] at hw
  obtain ⟨w', _, rfl⟩ := hw
  exact mL hv ex _ _
 ·have := M7 hv m hp
  calc 16 ^ (Vd b ex m ps).length ≤ 16 ^ 9 := Nat.pow_le_pow_right (by omega) (by simp only [Vd, List.length_map]; exact this)
   _ ≤ 68719476736 := by decide
theorem eP (a : Sl Int) (hn : a.l.length < 4611686018427387904) (n : Int) : CL a n = some (a.l.contains n) := by
 have e : Loop (BF a n) 0 = some (match a.l.findIdx? (fun y => n == y) with | some i => .inl (i : Int) | none => .inr ()) := by
  have main : ∀ post pre, a.l = pre ++ post → Loop (BF a n) (pre.length : Int) = some (match post.findIdx? (fun y => n == y) with | some i => .inl ((pre.length + i : Nat) : Int) | none => .inr ()) := by
   intro post
   induction post with
   | nil =>
    intro pre h
    have hl : ¬ (pre.length : Int) < a.len := by rw [Sl.len_l, h]; simp
    exact Loop.done (by simp only [BF, decide_eq_false hl, Bool.false_eq_true, if_false]; rfl)
   | cons y post ih =>
    intro pre h
    have hl : (pre.length : Int) < a.len := by rw [Sl.len_l, h]; simp; omega
    have hW : W ((pre.length : Int) + 1) = (pre.length : Int) + 1 := LA (by rw [h] at hn; simp at hn; omega)
    by_cases hc : n = y
    ·have hf : BF a n pre.length = some (.inr (.inl (pre.length : Int))) := by
      simp only [BF, decide_eq_true hl, if_true, Sl.ix_at h, Option.bind_some, hc, decide_true]
     rw [Loop.done hf]
     simp [List.findIdx?_cons, hc]
    ·have hf : BF a n pre.length = some (.inl ((pre.length : Int) + 1)) := by
      simp [BF, decide_eq_true hl, Sl.ix_at h, hc, hW, hl]
     rw [Loop.step hf]
     have := ih (pre ++ [y]) (by rw [h]; simp)
     simp only [List.length_append, List.length_cons, List.length_nil, Nat.zero_add] at this
     rw [show ((pre.length : Int) + 1) = ((pre.length + 1 : Nat) : Int) by simp, this]
     have hb : (n == y) = false := by simpa using hc
     simp only [List.findIdx?_cons, hb, Bool.false_eq_true, if_false]
     cases post.findIdx? (fun y => n == y) with
     | none => rfl
     | some i => simp; omega
  have := main a.l [] rfl
  simpa using this
 have hany : a.l.contains n = (a.l.findIdx? (fun y => n == y)).isSome := by
  rw [List.findIdx?_isSome, List.contains_eq_any_beq]
 simp only [CL, HB, e, Option.bind_some, hany]
 cases a.l.findIdx? (fun y => n == y) with
 | none => rfl
 | some i => simp
def HQ (b : BenchBook) (but : List Int) : List Int := (ue b.Pieces.l.length).filter fun p => !but.contains p
theorem Zb {b : BenchBook} (hv : Ez b) (but : List Int) : mX b (HQ b but) := by
 refine ⟨?_, ?_⟩
 ·have := List.length_filter_le (fun p => !but.contains p) (ue b.Pieces.l.length)
  have := hv.pieces
  simp only [HQ]; rw [Aw] at *; omega
 ·intro p hp
  exact I7.mp (List.mem_filter.mp hp).1
theorem YI {b : BenchBook} (hv : Ez b) (able : Mp 2 (Sl Int)) (a : Sl Int) (hn : a.l.length < 4611686018427387904) : CM ⟨b, able⟩ a = some (Sl.grow (HQ b a.l)) := by
 have h3 := hv.pieces
 have e : Loop (CS ⟨b, able⟩ a) (Sl.nil, 0) = some (Sl.grow (HQ b a.l)) := by
  refine FG (fun t i => (t, i)) (ue b.Pieces.l.length) (fun pre => Sl.grow (pre.filter fun p => !a.l.contains p)) (by rw [Aw]; omega) rfl ?_ ?_
  ·intro pre p post hpre hW
   obtain ⟨hpl, hlt0⟩ := RO hpre
   have hlt : (pre.length : Int) < b.Pieces.len := by rw [Sl.len_l]; exact hlt0
   have hle := List.length_filter_le (fun p => !a.l.contains p) pre
   have hlen : (pre.filter fun p => !a.l.contains p).length + ([(pre.length : Int)] : List Int).length ≤ 1000000000 := by rw [List.length_singleton]; omega
   rw [Ko, hpl]
   simp only [CS, decide_eq_true hlt, if_true, eP a hn, Option.bind_some, hW]
   by_cases hc : a.l.contains (pre.length : Int) = true
   ·simp only [hc, if_true, Bool.not_true, Bool.false_eq_true, if_false, List.append_nil]
   ·have hc' : a.l.contains (pre.length : Int) = false := by simpa using hc
    simp only [hc', Bool.false_eq_true, if_false, Sl.app_grow (q := 8) (List.cons_ne_nil _ _) (B2 hlen (by omega)), Option.bind_some, Bool.not_false, if_true]
  ·have hlt : ¬ ((ue b.Pieces.l.length).length : Int) < b.Pieces.len := by rw [Sl.len_l, Aw]; omega
   simp only [CS, decide_eq_false hlt, Bool.false_eq_true, if_false, HQ]
 simp only [CM, e, Option.bind_some]
theorem eV (x y : Sl AC) (hn : x.l.length < 4611686018427387904) : HI x y = some (decide (x.l = y.l)) := by
 have keyeq : ∀ a c : AC, decide (BZ.key a = BZ.key c) = decide (a = c) := by
  intro a c
  rw [decide_eq_decide]
  constructor
  ·intro h
   have : ([a.Piece, a.Part, a.Boy] : List Int) = [c.Piece, c.Part, c.Boy] := h
   simp at this
   cases a; cases c; simp_all
  ·rintro rfl; rfl
 unfold HI
 by_cases hl : x.len = y.len
 ·rw [if_pos (by simpa using hl)]
  rw [Sl.len_l, Sl.len_l] at hl
  have hl2 : x.l.length = y.l.length := by omega
  have main : ∀ post pre, x.l = pre ++ post → x.l.take pre.length = y.l.take pre.length → Loop (BG x y) (pre.length : Int) = some (if x.l = y.l then .inr () else .inl false) := by
   intro post
   induction post with
   | nil =>
    intro pre h ht
    have hlt : ¬ (pre.length : Int) < x.len := by rw [Sl.len_l, h]; simp
    have : x.l = y.l := by
     rw [List.take_of_length_le (by rw [h]; simp), List.take_of_length_le (by rw [← hl2, h]; simp)] at ht
     exact ht
    rw [if_pos this]
    exact Loop.done (by simp only [BG, decide_eq_false hlt, Bool.false_eq_true, if_false])
   | cons a post ih =>
    intro pre h ht
    have hlt : (pre.length : Int) < x.len := by rw [Sl.len_l, h]; simp; omega
    have hlx : pre.length < x.l.length := by rw [h]; simp
    have hW : W ((pre.length : Int) + 1) = (pre.length : Int) + 1 := LA (by omega)
    have hy : y.ix (pre.length : Int) = some (y.l[pre.length]'(by omega)) := by rw [Sl.ix_nat]; simp
    have hxa : x.l[pre.length]'hlx = a := by
     have : x.l[pre.length]? = some a := by rw [h]; simp
     rw [List.getElem?_eq_getElem hlx] at this
     exact Option.some.inj this
    by_cases hc : a = y.l[pre.length]'(by omega)
    ·have hf : BG x y pre.length = some (.inl ((pre.length : Int) + 1)) := by
      simp only [BG, decide_eq_true hlt, if_true, Sl.ix_at h, Option.bind_some, hy, keyeq, decide_eq_true hc, hW]
     rw [Loop.step hf]
     have := ih (pre ++ [a]) (by rw [h]; simp) (by
      rw [List.length_append, List.length_singleton, List.take_succ_eq_append_getElem hlx, List.take_succ_eq_append_getElem (by omega), ht, hxa, ← hc])
     simpa using this
    ·have hf : BG x y pre.length = some (.inr (.inl false)) := by
      simp only [BG, decide_eq_true hlt, if_true, Sl.ix_at h, Option.bind_some, hy, keyeq, decide_eq_false hc, Bool.false_eq_true, if_false]
     rw [Loop.done hf, if_neg]
     intro he
     apply hc
     rw [← hxa]
     congr 1
  have this : Loop (BG x y) 0 = some (if x.l = y.l then .inr () else .inl false) := main x.l [] rfl (by simp)
  by_cases he : x.l = y.l
  ·rw [if_pos he] at this
   have h0 : Loop (BG x y) 0 = some (.inr ()) := this
   rw [h0, Option.bind_some]; simp [he]
  ·rw [if_neg he] at this
   have h0 : Loop (BG x y) 0 = some (.inl false) := this
   rw [h0, Option.bind_some]; simp [he]
 ·rw [if_neg (by simpa using hl)]
  have : ¬ x.l = y.l := by intro h; apply hl; rw [Sl.len_l, Sl.len_l, h]
  simp [this]
end
end Go.Lf
