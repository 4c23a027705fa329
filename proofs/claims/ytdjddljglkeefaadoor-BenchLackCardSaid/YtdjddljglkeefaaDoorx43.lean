/- A part of the proof. -/
import Derived.Test.YtdjddljglkeefaaDoorx42
set_option linter.all false
namespace Go.Lf
open Go Go.Lf.Pl
noncomputable section
def Jh (b : BenchBook) (p : Int) (k m : Nat) : List NB := (List.range' k m).map fun (i : Nat) => ⟨p, i, (Is b p i).toNat, A2 b AW p i⟩
theorem i4 (b : BenchBook) (m : Nat) (p : Int) (ps : List Int) : EO b AW m (p :: ps) = Jh b p 0 (min m (B7 b p)) ++ EO b AW m ps := by
 simp only [EO, FN, List.flatMap_cons, List.map_append, Iq, Jh, idx, List.map_map, List.range_eq_range']
 rfl
section
variable {b : BenchBook} (hv : C6 b) {a : Sl (Sl (Sl Int))} {ps : Sl Int} {z : Sl AB} (hz : z.l.length < 4611686018427387904) (ha : xW b a)
include hv hz ha
theorem uL {p j : Int} {x : AE} (hx : b.Pieces.ix p = some x) (hj : ps.ix j = some p) : ∀ (m k : Nat) (pre r : List AB) (at_ had : Int) (s : Ar 6 (Ar 4 Int)) (hl : List Int),
  k + m = x.Parts.l.length → At b z pre r at_ s → Had pre p had hl →
  ∃ res, Loop (CX b a ps z j x) (at_, s, had, (k : Int)) = some res ∧ (match ly (A0 b) b.Most.toNat (Jh b p k m) pre r with
   | none => res = .inl false
   | some (pre', r') => ∃ at' s', res = .inr (at', s') ∧ At b z pre' r' at' s' ∧ ∀ q ∈ pre', q ∈ pre ∨ q.Piece = p)
 | 0, k, pre, r, at_, had, s, hl, hm, hA, hH => by
  refine ⟨.inr (at_, s), Loop.done ?_, at_, s, rfl, hA, fun q hq => .inl hq⟩
  have : ¬ (k : Int) < x.Parts.len := by rw [Sl.len_l]; omega
  simp only [CX, decide_eq_false this, Bool.false_eq_true, if_false]
 | m + 1, k, pre, r, at_, had, s, hl, hm, hA, hH => by
  have hxm := (CN hx).2.2
  have hk : (k : Int) < x.Parts.len := by rw [Sl.len_l]; omega
  obtain ⟨y, hy, hym⟩ := QI (x := x.Parts) (i := (k : Int)) (by omega) (by omega)
  have hpt := hv.part x hxm y hym
  have hmany : Is b p k = y.Many := by simp [Is, hx, hy]
  have hxp := hv.parts x hxm
  have hW : W ((k : Int) + 1) = ((k + 1 : Nat) : Int) := by rw [Jc (by omega)]; simp
  obtain ⟨res, h1, h2⟩ := uZ hv hz ha hx hy hj y.Many.toNat 0 (-1) pre r at_ had s hl (by simp; omega) (by omega) hA hH
  have e0 : ((0 : Nat) : Int) = 0 := rfl
  rw [e0] at h1
  have hc : ly (A0 b) b.Most.toNat (Jh b p k (m + 1)) pre r = (ZJ (A0 b) b.Most.toNat p k (A2 b AW p k) y.Many.toNat (-1) pre r).bind fun x => ly (A0 b) b.Most.toNat (Jh b p (k + 1) m) x.1 x.2 := by
   simp only [Jh, List.range'_succ, List.map_cons, ly, hmany]
  rw [hc]
  cases hk1 : ZJ (A0 b) b.Most.toNat p k (A2 b AW p k) y.Many.toNat (-1) pre r with
  | none =>
   rw [hk1] at h2
   dsimp only at h2
   subst h2
   refine ⟨.inl false, Loop.done ?_, rfl⟩
   simp only [CX, decide_eq_true hk, if_true, h1, AP]
  | some w =>
   obtain ⟨pre', r'⟩ := w
   rw [hk1] at h2
   obtain ⟨at', s', had', hl', rfl, g2, g3, g4⟩ := h2
   have hstep : CX b a ps z j x (at_, s, had, (k : Int)) = some (.inl (at', s', had', ((k + 1 : Nat) : Int))) := by
    simp only [CX, decide_eq_true hk, if_true, h1, AP, hW]
   rw [Loop.step hstep]
   obtain ⟨res, k1, k2⟩ := uL hx hj m (k + 1) pre' r' at' had' s' hl' (by omega) g2 g3
   refine ⟨res, k1, ?_⟩
   simp only [Option.bind_some]
   split at k2
   ·exact k2
   ·obtain ⟨at2, s2, l1, l2, l3⟩ := k2
    refine ⟨at2, s2, l1, l2, fun q hq => ?_⟩
    rcases l3 q hq with h | h
    ·exact g4 q h
    ·exact .inr h
theorem uC (hps : ∀ p ∈ ps.l, 0 ≤ p ∧ p < b.Pieces.l.length) (hlen : ps.l.length < 4611686018427387904) : ∀ (rest done : List Int) (pre r : List AB) (at_ : Int) (s : Ar 6 (Ar 4 Int)),
  ps.l = done ++ rest → rest.Pairwise (· < ·) → At b z pre r at_ s → (∀ q ∈ pre, ∀ p ∈ rest, q.Piece ≠ p) →
  ∃ res, Loop (CW b a ps z) (at_, s, (done.length : Int)) = some res ∧ (match ly (A0 b) b.Most.toNat (EO b AW 3 rest) pre r with
   | none => res = .inl false
   | some (pre', r') => ∃ at' s', res = .inr (at', s') ∧ At b z pre' r' at' s')
 | [], done, pre, r, at_, s, hd, _, hA, _ => by
  refine ⟨.inr (at_, s), Loop.done ?_, at_, s, rfl, hA⟩
  have : ¬ (done.length : Int) < ps.len := by rw [Sl.len_l, hd]; simp
  simp only [CW, decide_eq_false this, Bool.false_eq_true, if_false]
 | p :: rest, done, pre, r, at_, s, hd, hs, hA, hne => by
  have hlt : (done.length : Int) < ps.len := by rw [Sl.len_l, hd]; simp; omega
  have hj : ps.ix (done.length : Int) = some p := Sl.ix_at hd
  obtain ⟨p0, p1⟩ := hps p (by rw [hd]; simp)
  obtain ⟨x, hx, hxm⟩ := QI p0 p1
  have hxp := hv.parts x hxm
  have hnp : B7 b p = x.Parts.l.length := by simp [B7, hx]
  have hW : W ((done.length : Int) + 1) = ((done ++ [p]).length : Int) := by
   rw [Jc (by rw [hd] at hlen; simp at hlen; omega)]; simp
  have hs' := List.pairwise_cons.mp hs
  have hH : Had pre p 0 [] := ⟨rfl, by simp, fun boy => by
   constructor
   ·intro h; cases h
   ·rintro ⟨y, h1, h2, _⟩; exact absurd h2 (hne y h1 p (by simp))⟩
  obtain ⟨res, h1, h2⟩ := uL hv hz ha hx hj x.Parts.l.length 0 pre r at_ 0 s [] (by omega) hA hH
  have e0 : ((0 : Nat) : Int) = 0 := rfl
  rw [e0] at h1
  rw [i4, show min 3 (B7 b p) = x.Parts.l.length by omega, V5]
  cases hk1 : ly (A0 b) b.Most.toNat (Jh b p 0 x.Parts.l.length) pre r with
  | none =>
   rw [hk1] at h2
   dsimp only at h2
   subst h2
   refine ⟨.inl false, Loop.done ?_, rfl⟩
   simp only [CW, decide_eq_true hlt, if_true, hj, hx, h1, AP]
  | some w =>
   obtain ⟨pre', r'⟩ := w
   rw [hk1] at h2
   obtain ⟨at', s', rfl, g2, g3⟩ := h2
   have hstep : CW b a ps z (at_, s, (done.length : Int)) = some (.inl (at', s', ((done ++ [p]).length : Int))) := by
    simp only [CW, decide_eq_true hlt, if_true, hj, hx, h1, AP, hW]
   rw [Loop.step hstep]
   simp only [Option.bind_some]
   refine uC hps hlen rest (done ++ [p]) pre' r' at' s' (by rw [hd]; simp) hs'.2 g2 ?_
   intro q hq p' hp'
   rcases g3 q hq with h | h
   ·exact hne q h p' (by simp [hp'])
   ·rw [h]; have := hs'.1 p' hp'; omega
theorem Ol (hps : nv b ps.l) (hs : ps.l.Pairwise (· < ·)) : Du b a ps z = some (decide (z.l ∈ FD b AW 3 ps.l)) := by
 have hA : At b z [] z.l 0 (⟨List.replicate 6 (⟨List.replicate 4 0, rfl⟩ : (Ar 4 Int)), rfl⟩ : (Ar 6 (Ar 4 Int))) := by
  refine ⟨rfl, rfl, ?_⟩
  intro w boy w0 w1 b0 b1
  refine ⟨(⟨List.replicate 4 0, rfl⟩ : (Ar 4 Int)), ?_, ?_⟩
  ·simp only [Ar.ix, if_pos w0]
   rw [List.getElem?_replicate, if_pos (by omega)]
  ·simp only [Ar.ix, if_pos b0, DJ, List.countP_nil]
   rw [List.getElem?_replicate, if_pos (by omega)]; rfl
 obtain ⟨res, h1, h2⟩ := uC hv hz ha hps.2 (by have := hps.1; omega) ps.l [] [] z.l 0 _ rfl hs hA (by simp)
 have e0 : (([] : List Int).length : Int) = 0 := rfl
 rw [e0] at h1
 have hc := se (A0 b) b.Most.toNat (W := EO b AW 3 ps.l) (by
  intro w hw
  obtain ⟨p, _, k, _, _, rfl⟩ := JB.mp hw
  exact ⟨L0 b AW p k, fun x hx => (Qn hx).1⟩) z.l
 rw [xN] at hc
 unfold Du
 rw [h1, AP]
 cases hk1 : ly (A0 b) b.Most.toNat (EO b AW 3 ps.l) [] z.l with
 | none =>
  rw [hk1] at h2 hc
  dsimp only at h2 hc
  subst h2
  dsimp only
  congr 1
  symm
  rw [decide_eq_false_iff_not]
  intro h
  exact absurd (hc.mpr h) (by simp)
 | some w =>
  obtain ⟨pre', r'⟩ := w
  rw [hk1] at h2 hc
  obtain ⟨at', s', rfl, g2⟩ := h2
  dsimp only at hc ⊢
  congr 1
  rw [decide_eq_decide]
  rw [show (z.l ∈ FD b AW 3 ps.l) ↔ z.l ∈ fill (A0 b) b.Most.toNat (EO b AW 3 ps.l) [] from Iff.rfl, ← hc, g2.here, Sl.len_l, g2.split]
  simp only [List.length_append, List.isEmpty_iff]
  constructor
  ·intro h; exact List.length_eq_zero_iff.mp (by omega)
  ·intro h; rw [h]; simp
end
end
end Go.Lf
namespace Go.Lf
open Go Go.Lf.Pl
noncomputable section
theorem kt {α : Type} {n : Nat} (f : Int → α) {p : Int} (h0 : 0 ≤ p) (h1 : p < n) : (Sl.grow ((idx n).map f)).ix p = some (f p) := by
 unfold Sl.ix
 rw [if_pos h0, Sl.l_grow, List.getElem?_map]
 have : (idx n)[p.toNat]? = some p := by
  simp only [idx, List.getElem?_map]
  rw [List.getElem?_range (by omega)]
  simp; omega
 rw [this]; rfl
def ni (b : BenchBook) (p k : Int) : Sl Int := match HB b p k with
 | some v => v.1
 | none => Sl.nil
theorem kh {b : BenchBook} (hv : C6 b) (hfi : JU b.Voice = true) {p k : Int} {x : AE} (hx : b.Pieces.ix p = some x) (h : 0 ≤ k ∧ k < x.Parts.l.length) : HB b p k = some (ni b p k, 0) ∧ (ni b p k).l = A2 b AW p k := by
 have hf := hv.few
 have hq : og b p k = true := by
  simp only [og, hx, Bool.and_eq_true]
  have := CN hx
  exact ⟨(FM hf p).mpr ⟨this.1, this.2.1⟩, (mb hf hx).mpr h⟩
 have hok : zO b = true := by
  by_cases ho : zO b = true
  ·exact ho
  ·have h1 := KX hf
   exfalso
   have hvv := hv
   have hpz := hv.pieces
   have hmo := hv.most
   apply ho
   simp only [zO, VG, Bool.and_eq_true, hv.vok, AQ, decide_eq_true_eq, Sl.len_l, List.all_eq_true, true_and]
   refine ⟨⟨by omega, by omega⟩, fun y hy => ?_⟩
   have hwk := hv.week y hy
   have hpp := hv.parts y hy
   have hvw := hv.voice.weeks
   simp only [KJ, AQ, Bool.and_eq_true, decide_eq_true_eq, Sl.len_l, List.all_eq_true]
   refine ⟨⟨⟨hwk.1, by rw [J9 (by omega) (by omega)]; omega⟩, by omega⟩, fun w hw => ?_⟩
   have := hv.part y hy w hw
   simp only [NI, AQ, Bool.and_eq_true, decide_eq_true_eq]
   omega
 obtain ⟨l, c1, c2⟩ := Nq (hf := hf) p k
 have he : Ai b (og b p k) = 0 := by rw [hq]; simp [Ai, hok, hfi]
 rw [he] at c1 c2
 rw [if_pos rfl] at c2
 have : ni b p k = l := by simp [ni, c1]
 rw [this]
 exact ⟨c1, c2⟩
theorem sD {b : BenchBook} (hv : C6 b) {p k : Int} {l : Sl Int} (h : l.l = A2 b AW p k) : CV l b.Voice.Boys.len = some true := by
 have b4 := hv.voice.boys
 rw [W6 b.Voice.Boys.len l (by rw [h]; exact aw hv.few p k), h]
 refine congrArg some (W2 _ _ _ (L0 b AW p k) (fun z hz => ?_) (fun _ h => by cases h))
 have hz1 := Qn hz
 simp only [AY, Sl.len_l, Bool.and_eq_true, decide_eq_true_eq]
 rw [J9 (by omega) (by omega)]; omega
section
variable {b : BenchBook} (hv : C6 b)
include hv
theorem kD (hfi : JU b.Voice = true) : ∃ a, He b = some (a, true) ∧ xW b a := by
 have hpz := hv.pieces
 have e2 : ∀ (p : Int) (x : AE), b.Pieces.ix p = some x → Loop (Fa b p) ((Sl.nil : (Sl (Sl Int))), 0) = some (.inr (Sl.grow ((idx x.Parts.l.length).map (ni b p)))) := by
  intro p x hx
  have hxp := hv.parts x (CN hx).2.2
  refine Dw (fun t i => (t, i)) (idx x.Parts.l.length) (fun pre => Sl.grow (pre.map (ni b p))) (by rw [AU]; omega) rfl ?_ ?_
  ·intro pre k post hpre hW
   obtain ⟨rfl, hlt⟩ := Jm hpre
   have hl : (pre.length : Int) < x.Parts.len := by rw [Sl.len_l]; exact hlt
   obtain ⟨c1, c2⟩ := kh hv hfi hx ⟨by omega, hlt⟩
   have hlen : (pre.map (ni b p)).length + ([ni b p pre.length] : List (Sl Int)).length ≤ 1000000000 := by
    rw [List.length_map, List.length_singleton]; omega
   simp only [Fa, hx, AP, decide_eq_true hl, if_true, c1, decide_true, sD hv c2, Bool.not_true, Bool.false_eq_true, if_false, Sl.app_grow (q := 24) (List.cons_ne_nil _ _) (BU hlen (by omega)), hW, List.map_append, List.map_cons, List.map_nil]
  ·have hl : ¬ ((idx x.Parts.l.length).length : Int) < x.Parts.len := by rw [Sl.len_l, AU]; omega
   simp only [Fa, hx, AP, decide_eq_false hl, Bool.false_eq_true, if_false]
 have e1 : Loop (FV b) ((Sl.nil : (Sl (Sl (Sl Int)))), 0) = some (.inr (Sl.grow ((idx b.Pieces.l.length).map fun p => Sl.grow ((idx (B7 b p)).map (ni b p))))) := by
  refine Dw (fun t i => (t, i)) (idx b.Pieces.l.length) (fun pre => Sl.grow (pre.map fun p => Sl.grow ((idx (B7 b p)).map (ni b p)))) (by rw [AU]; omega) rfl ?_ ?_
  ·intro pre p post hpre hW
   obtain ⟨rfl, hlt⟩ := Jm hpre
   have hl : (pre.length : Int) < b.Pieces.len := by rw [Sl.len_l]; exact hlt
   obtain ⟨x, hx, _⟩ := QI (x := b.Pieces) (i := (pre.length : Int)) (by omega) hlt
   have hnp : B7 b pre.length = x.Parts.l.length := by simp [B7, hx]
   have hlen : (pre.map fun p => Sl.grow ((idx (B7 b p)).map (ni b p))).length + ([Sl.grow ((idx x.Parts.l.length).map (ni b pre.length))] : List (Sl (Sl Int))).length ≤ 1000000000 := by
    rw [List.length_map, List.length_singleton]; omega
   simp only [FV, decide_eq_true hl, if_true, e2 _ x hx, AP, Sl.app_grow (q := 24) (List.cons_ne_nil _ _) (BU hlen (by omega)), hW, List.map_append, List.map_cons, List.map_nil, hnp]
  ·have hl : ¬ ((idx b.Pieces.l.length).length : Int) < b.Pieces.len := by rw [Sl.len_l, AU]; omega
   simp only [FV, decide_eq_false hl, Bool.false_eq_true, if_false]
 refine ⟨Sl.grow ((idx b.Pieces.l.length).map fun p => Sl.grow ((idx (B7 b p)).map (ni b p))), by simp only [He, e1, AP], ?_⟩
 intro p k x y hx hy
 have hxi := CN hx
 have hyi := CN hy
 have hnp : B7 b p = x.Parts.l.length := by simp [B7, hx]
 refine ⟨_, _, kt _ hxi.1 hxi.2.1, ?_, (kh hv hfi hx ⟨hyi.1, hyi.2.1⟩).2⟩
 rw [hnp]
 exact kt _ hyi.1 hyi.2.1
theorem rD (l : Sl Int) (hn : l.l.length < 4611686018427387904) : JC b l = some (Sl.hot (DT b l.l)) := by
 have hpz := hv.pieces
 have e : Loop (FR b l) (Sl.hot [], 0) = some (Sl.hot (DT b l.l)) := by
  refine Dw (fun t i => (t, i)) (idx b.Pieces.l.length) (fun pre => Sl.hot (pre.filter fun p => !l.l.contains p)) (by rw [AU]; omega) rfl ?_ ?_
  ·intro pre p post hpre hW
   obtain ⟨rfl, hlt⟩ := Jm hpre
   have hl : (pre.length : Int) < b.Pieces.len := by rw [Sl.len_l]; exact hlt
   obtain ⟨v, w1, w2⟩ := cR l hn (pre.length : Int)
   have hle := List.length_filter_le (fun p => !l.l.contains p) pre
   have hlen : (pre.filter fun p => !l.l.contains p).length + ([(pre.length : Int)] : List Int).length ≤ 1000000000 := by rw [List.length_singleton]; omega
   rw [HY, ← w2]
   simp only [FR, decide_eq_true hl, if_true, w1, AP, hW]
   by_cases hc : v < 0
   ·simp only [decide_eq_true hc, if_true, Sl.app_hot (q := 8) (BU hlen (by omega)), AP]
   ·simp only [decide_eq_false hc, Bool.false_eq_true, if_false, List.append_nil]
  ·have hl : ¬ ((idx b.Pieces.l.length).length : Int) < b.Pieces.len := by rw [Sl.len_l, AU]; omega
   simp only [FR, decide_eq_false hl, Bool.false_eq_true, if_false, DT]
 simp only [JC, e, AP]
theorem pQ (s : Int) : rh b (F8 s b.Pieces.l.length) = true := by
 refine W2 _ _ _ ((Dp _).filter _) (fun z hz => ?_) (fun _ h => by cases h)
 exact (FM hv.few z).mpr (D9.mp (List.mem_filter.mp hz).1)
theorem dl (n : Int) : ∃ v r, zV .shl 1 b.Pieces.len = some v ∧ E3 n v = some r ∧ FS r b.Pieces.len = some (Sl.hot (F8 r b.Pieces.l.length)) := by
 have hpz := hv.pieces
 have h8 : 2 ^ b.Pieces.l.length ≤ 2 ^ 3 := Nat.pow_le_pow_right (by omega) hpz.2
 have h0 : 0 < 2 ^ b.Pieces.l.length := Nat.two_pow_pos _
 obtain ⟨r, h1, h2, h3⟩ := dG (n := n) (m := ((2 ^ b.Pieces.l.length : Nat) : Int)) (by omega) (by omega)
 refine ⟨_, r, by rw [Sl.len_l]; exact pq (by omega), h1, ?_⟩
 rw [Sl.len_l]
 exact j8 ⟨h2, by omega⟩ (by omega)
end
theorem Yo {b : BenchBook} (hf : Tf b) (z : Sl AB) (hz : z.l.length < 4611686018427387904) (n : Int) : GI b z n = some true := by
 unfold GI
 rw [SK hf, AP]
 by_cases ho : zO b = true
 case neg =>
  have : zO b = false := by simpa using ho
  simp only [this, Bool.false_eq_true, if_false, BB, AP]
 case pos =>
  have hv := F7 hf ho
  obtain ⟨v, r, h1, h2, h3⟩ := dl hv n
  have hpz := hv.pieces
  have hbl : (F8 r b.Pieces.l.length).length ≤ 3 := by
   have := List.length_filter_le (rn r) (idx b.Pieces.l.length)
   rw [AU] at this
   simp only [F8]; omega
  have h4 := OR hf (Sl.hot (F8 r b.Pieces.l.length)) (by rw [Sl.l_hot]; omega) z
  rw [Sl.l_hot, pQ hv r] at h4
  have h5 := Kv hf.voice
  rw [hv.vok, if_pos rfl] at h5
  rw [if_pos ho, h1, AP, h2, AP, h3, AP, h4, AP, h5, AP]
  rcases mH ho with ⟨he, hfi⟩ | ⟨he, hfi⟩
  ·obtain ⟨a, a1, a2⟩ := kD hv hfi
   have hps := lB hv (pQ hv r)
   have h6 := Ol hv hz a2 (ps := Sl.hot (F8 r b.Pieces.l.length)) hps.1 hps.2
   rw [Sl.l_hot] at h6
   have h7 : uf b (F8 r b.Pieces.l.length) z.l = decide (z.l ∈ FD b AW 3 (F8 r b.Pieces.l.length)) := by
    rw [Bool.eq_iff_iff, decide_eq_true_eq]
    simp only [uf, List.any_eq_true, decide_eq_true_eq]
    constructor
    ·rintro ⟨y, h, rfl⟩; exact h
    ·exact fun h => ⟨_, h, rfl⟩
   simp [he, hfi, a1, h6, h7, BB]
  ·have hq : og b 0 0 = true := by
    obtain ⟨x, hx, hxm⟩ := QI (x := b.Pieces) (i := 0) (by omega) (by omega)
    have := hv.parts x hxm
    simp only [og, hx, Bool.and_eq_true]
    exact ⟨(FM hf 0).mpr ⟨by omega, by omega⟩, (mb hf hx).mpr ⟨by omega, by omega⟩⟩
   obtain ⟨l, c1, c2⟩ := Nq (hf := hf) 0 0
   rw [hq, he] at c1
   simp [he, hfi, c1, BB]
end
end Go.Lf
