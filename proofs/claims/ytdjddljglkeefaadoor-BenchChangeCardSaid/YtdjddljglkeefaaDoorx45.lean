/- A part of the proof. -/
import Derived.Test.YtdjddljglkeefaaDoorx40
import Derived.Test.YtdjddljglkeefaaDoorx44
set_option linter.all false
namespace Go.Lf
open Go Go.Lf.Pl
noncomputable section
theorem TP (b : BenchBook) (ex : Int → Bool) : List.Sublist (A5 b ex) (idx b.Pieces.l.length) := by
 unfold A5 Dm
 cases h : (idx b.Pieces.l.length).findSome? fun many => (Di many.toNat (idx b.Pieces.l.length)).find? (PY b ex) with
 | none => exact List.Sublist.refl _
 | some l =>
  obtain ⟨many, _, h1⟩ := List.exists_of_findSome?_eq_some h
  exact (D2.mp (List.mem_of_find?_eq_some h1)).1
section
variable {b : BenchBook} (hv : C6 b)
include hv
theorem Xr (l : Sl Int) (h : List.Sublist l.l (idx b.Pieces.l.length)) : CV l b.Pieces.len = some true := by
 have hpz := hv.pieces
 have hle := h.length_le
 rw [AU] at hle
 rw [W6 b.Pieces.len l (by omega)]
 refine congrArg some (W2 _ _ _ ((Dp _).sublist h) (fun z hz => ?_) (fun _ h => by cases h))
 have hz1 := D9.mp (h.subset hz)
 simp only [AY, Sl.len_l, Bool.and_eq_true, decide_eq_true_eq]
 rw [J9 (by omega) (by omega)]; omega
theorem jN {l : List Int} (h : List.Sublist l (idx b.Pieces.l.length)) : rh b l = true := by
 refine W2 _ _ _ ((Dp _).sublist h) (fun z hz => ?_) (fun _ h => by cases h)
 exact (FM hv.few z).mpr (D9.mp (h.subset hz))
theorem aH (ex : Int → Bool) : (A5 b ex).length < 4611686018427387904 := by
 have := (TP b ex).length_le
 rw [AU] at this
 have := hv.few.pieces
 omega
theorem nk : A5 b AW = [] ↔ (W0 b).isEmpty = false := by
 have he : DT b [] = idx b.Pieces.l.length := Jn hv
 constructor
 ·intro h
  have h1 := WM b hv AW
  rw [show Dm b.Pieces.l.length (PY b AW) = [] from h, PY, he] at h1
  simpa [W0] using h1
 ·intro h
  have h1 : PY b AW [] = true := by rw [PY, he]; simpa [W0] using h
  have h2 := X7 (n := b.Pieces.l.length) (List.nil_sublist _) h1
  simp only [MP, Bool.or_eq_false_iff, decide_eq_false_iff_not, List.length_nil] at h2
  exact List.length_eq_zero_iff.mp (by have := h2.1; simp only [A5]; omega)
end
theorem Ug {α : Type} {l : List α} (h : l.isEmpty = true) (a : α) : a ∉ l := by
 rw [List.isEmpty_iff.mp h]; simp
theorem XH {b : BenchBook} (hf : Tf b) (bits : Sl Int) (hb : bits.l.length < 4611686018427387904) (n : Int) : FT b bits n = some true := by
 unfold FT
 obtain ⟨w, w1, w2⟩ := FO hf
 rw [w1, AP, SK hf, AP]
 by_cases ho : zO b = true
 case neg =>
  have ho' : zO b = false := by simpa using ho
  rw [SH ho' true, if_neg (by decide)] at w2
  simp [ho', SH ho' true, Sl.len_l, w2, BB]
 case pos =>
  have hv := F7 hf ho
  rw [if_pos ho]
  rcases mH ho with ⟨he, hfi⟩ | ⟨he, hfi⟩
  case inr =>
   have h5 := Kv hf.voice
   rw [hv.vok, if_pos rfl, hfi] at h5
   rw [he, if_neg (by decide)] at w2
   simp [he, h5, Sl.len_l, w2, BB]
  case inl =>
   rw [he, if_pos rfl] at w2
   obtain ⟨a, a1, a2⟩ := kD hv hfi
   obtain ⟨v, r, h1, h2, h3⟩ := dl hv n
   have hsub : List.Sublist (F8 r b.Pieces.l.length) (idx b.Pieces.l.length) := List.filter_sublist
   have hle := hsub.length_le
   rw [AU] at hle
   have hpz := hv.pieces
   have hbl : (Sl.hot (F8 r b.Pieces.l.length)).l.length < 4611686018427387904 := by rw [Sl.l_hot]; omega
   have ho1 := Xr hv w (by rw [w2]; exact TP b AW)
   have hsh := nJ (Sl.hot (F8 r b.Pieces.l.length)) w hbl
   have hso := rD hv (Sl.hot (F8 r b.Pieces.l.length)) hbl
   rw [Sl.l_hot] at hsh hso
   have hes : List.Sublist (DT b (F8 r b.Pieces.l.length)) (idx b.Pieces.l.length) := List.filter_sublist
   have hps := lB hv (jN hv hes)
   obtain ⟨z, z1, z2⟩ := kp hv a2 hb (ps := Sl.hot (DT b (F8 r b.Pieces.l.length))) hps.1
   have h4 := OR hf (Sl.hot (DT b (F8 r b.Pieces.l.length))) (by rw [Sl.l_hot]; have := hps.1.1; omega) z
   rw [Sl.l_hot, jN hv hes, he, if_pos rfl] at h4
   have h6 := Ol hv (by omega) a2 (z := z) (ps := Sl.hot (DT b (F8 r b.Pieces.l.length))) hps.1 hps.2
   rw [Sl.l_hot] at h6
   cases hs : MP (F8 r b.Pieces.l.length) w.l
   case false =>
    rw [hs] at hsh
    simp [he, a1, ho1, h1, h2, h3, hsh, BB]
   case true =>
    rw [hs] at hsh
    have hno : (FD b AW 3 (DT b (F8 r b.Pieces.l.length))).isEmpty = true := by
     cases hc : PY b AW (F8 r b.Pieces.l.length) with
     | true =>
      have := X7 hsub hc
      rw [w2] at hs
      rw [show Dm b.Pieces.l.length (PY b AW) = A5 b AW from rfl, hs] at this
      cases this
     | false => simpa [PY] using hc
    have hm : uf b (DT b (F8 r b.Pieces.l.length)) z.l = false := by
     simp only [uf, List.isEmpty_iff.mp hno, List.any_nil]
    rw [hm] at h4
    rw [decide_eq_false (Ug hno z.l)] at h6
    simp [he, a1, ho1, h1, h2, h3, hsh, hso, z2, h4, h6, BB]
theorem dB {b : BenchBook} (hf : Tf b) (bits : Sl Int) (hb : bits.l.length < 4611686018427387904) : G2 b bits = some true := by
 unfold G2
 obtain ⟨l, f1, f2⟩ := Md hf
 obtain ⟨w, w1, w2⟩ := FO hf
 obtain ⟨s, s1, s2⟩ := KP hf
 have hw := MN hf
 rw [f1, AP, SK hf, AP]
 by_cases ho : zO b = true
 case neg =>
  have ho' : zO b = false := by simpa using ho
  rw [SH ho' true, if_neg (by decide)] at f2
  simp [ho', SH ho' true, Sl.len_l, f2, BB]
 case pos =>
  have hv := F7 hf ho
  rw [if_pos ho, hw, AP, w1, AP, s1, AP]
  rcases mH ho with ⟨he, hfi⟩ | ⟨he, hfi⟩
  case inr =>
   rw [he, if_neg (by decide)] at f2 s2
   have hW0 : W (0 + 0) = 0 := rfl
   simp [he, Sl.len_l, f2, s2, BB, J9]
  case inl =>
   rw [he, if_pos rfl] at f2 w2 s2
   obtain ⟨a, a1, a2⟩ := kD hv hfi
   have ho1 := Xr hv w (by rw [w2]; exact TP b AW)
   have hso := rD hv w (by rw [w2]; exact aH hv AW)
   rw [w2] at hso
   have hes : List.Sublist (DT b (A5 b AW)) (idx b.Pieces.l.length) := List.filter_sublist
   have hps := lB hv (jN hv hes)
   obtain ⟨z, z1, z2⟩ := kp hv a2 hb (ps := Sl.hot (DT b (A5 b AW))) hps.1
   have hsf := oc hv
   have h6 := Ol hv (z := s) (by rw [s2]; exact hsf) a2 (ps := Sl.hot (DT b (A5 b AW))) hps.1 hps.2
   have h7 := Ol hv (z := z) (by omega) a2 (ps := Sl.hot (DT b (A5 b AW))) hps.1 hps.2
   rw [Sl.l_hot] at h6 h7
   rw [s2, decide_eq_true (JA hv AW)] at h6
   have hbe := pS z s (by omega)
   have hcn := nk hv
   cases hB : (W0 b).isEmpty
   case true =>
    have hwl : ¬ w.len = 0 := by
     intro h
     rw [Sl.len_l, w2] at h
     have := hcn.mp (List.length_eq_zero_iff.mp (by omega))
     rw [hB] at this; cases this
    have hn : (W0 b).length = 0 := by rw [List.isEmpty_iff.mp hB]; rfl
    have hl0 : l.len = 0 := by rw [Sl.len_l, f2, List.isEmpty_iff.mp hB]; rfl
    by_cases hz : z.l ∈ FD b AW 3 (DT b (A5 b AW))
    ·rw [decide_eq_true hz] at h7
     rw [s2, UC hz] at hbe
     simp [he, hn, hl0, hwl, a1, ho1, hso, h6, h7, z2, hbe, BB]
    ·rw [decide_eq_false hz] at h7
     simp [he, hn, hl0, hwl, a1, ho1, hso, h6, h7, z2, BB]
   case false =>
    have hc0 := hcn.mpr hB
    have hwl : w.len = 0 := by rw [Sl.len_l, w2, hc0]; rfl
    cases hA : W0 b with
    | nil => rw [hA] at hB; cases hB
    | cons x L =>
     have hA' : FD b AW 3 (idx b.Pieces.l.length) = x :: L := hA
     have hlx : l.l = x := by rw [f2, hA]; rfl
     have hsx : s.l = x := by
      rw [s2]
      unfold LR
      rw [show Dm b.Pieces.l.length (PY b AW) = [] from hc0, Jn hv, hA']
      simp only [It]; rw [Sl.l_filled, Sl.l_grow]
     have hfw : l.l.length < 4611686018427387904 := by rw [hlx, ← hsx, s2]; exact hsf
     have h8 := Ol hv (z := l) hfw a2 (ps := Sl.hot (DT b (A5 b AW))) hps.1 hps.2
     rw [Sl.l_hot, decide_eq_true (by rw [hc0, Jn hv, hA', hlx]; simp)] at h8
     have h9 := kE l s hfw (by rw [hlx, hsx])
     have hpos : (0 : Int) < (W0 b).length := by rw [hA]; simp
     by_cases hz : z.l ∈ FD b AW 3 (DT b (A5 b AW))
     ·rw [decide_eq_true hz] at h7
      rw [s2, UC hz] at hbe
      rw [← hA]
      simp only [he, hB, hwl, a1, ho1, hso, h6, h7, h8, h9, z2, hbe, BB, decide_eq_true hpos, AP, decide_true, if_true, Bool.not_true, Bool.false_eq_true, if_false]
     ·rw [decide_eq_false hz] at h7
      rw [← hA]
      simp only [he, hB, hwl, a1, ho1, hso, h6, h7, h8, h9, z2, BB, decide_eq_true hpos, AP, decide_true, if_true, Bool.not_true, Bool.false_eq_true, if_false]
end
end Go.Lf
namespace Go.Lf
open Go Go.Lf.Pl
noncomputable section
theorem Wm {s : Ew} (h : LK s) (n : Int) : ∃ r, Fq s n = some r ∧ r ∈ rng s := by
 obtain ⟨h1, h2, h3⟩ := h
 obtain ⟨r, g1, g2, g3⟩ := dG (n := n) (m := s.High - s.Low + 1) (by omega) (by omega)
 refine ⟨s.Low + r, ?_, Ii.mpr (by omega)⟩
 unfold Fq
 rw [J9 (x := s.High - s.Low) (by omega) (by omega), J9 (x := s.High - s.Low + 1) (by omega) (by omega), g1, AP, J9 (by omega) (by omega)]
theorem oC {b : VoiceBook} (ht : b.Trials.l = []) {i : Int} {x : AO} (hx : b.Boys.ix i = some x) (ho : iG x) {lo : Int} (hlo : lo ∈ rng x.Low) {week : Int} (hw : 0 ≤ week ∧ week < 6) (n : Int) :
  ∃ t ∈ FZ b i, t.lo = lo ∧ ∃ v, G1 x week n = some v ∧ (week < t.br → v = tr x.Loss t week) := by
 obtain ⟨br, b1, b2⟩ := Wm ho.brk.1 n
 obtain ⟨tu, t1, t2⟩ := Wm ho.turn.1 (W (n + 1))
 obtain ⟨hi, c1, c2⟩ := Wm ho.high.1 (W (n + 2))
 obtain ⟨ga, d1, d2⟩ := Wm ho.gain.1 (W (n + 3))
 refine ⟨⟨lo, hi, ga, tu, br⟩, kd ht hx hlo c2 d2 t2 b2, rfl, ?_⟩
 unfold G1
 by_cases hb : br ≤ week
 ·refine ⟨-1, by rw [b1, AP, if_pos (decide_eq_true hb)], fun h => ?_⟩
  exact absurd h (by show ¬ week < br; omega)
 ·refine ⟨_, by rw [b1, AP, if_neg (by simpa using hb), t1, AP, c1, AP, d1, AP], fun _ => ?_⟩
  have e := ut ho (t := ⟨lo, hi, ga, tu, br⟩) c2 d2 t2 hw
  unfold tr at e ⊢
  have m4 := Ii.mp t2
  obtain ⟨⟨q1, q2, q3⟩, q4⟩ := ho.turn
  have hm : max 0 (W (week - tu)) = W (week - min week tu) := by
   rw [J9 (x := week - tu) (by omega) (by omega), J9 (x := week - min week tu) (by omega) (by omega)]; omega
  rw [hm, Int.mul_comm ga, Int.mul_comm x.Loss]
section
variable {b : BenchBook} (hv : C6 b) (hok : zO b = true)
abbrev bare (b : BenchBook) : BenchBook := ⟨⟨b.Voice.Boys, b.Voice.Weeks, Sl.nil⟩, b.Pieces, b.Most⟩
include hv
theorem km : Tf (bare b) := ⟨⟨hv.few.voice.boys, by simp [Sl.l]⟩, hv.few.pieces, hv.few.parts⟩
include hok
theorem qu : zO (bare b) = true := by
 have h := hok
 simp only [zO, VG, vOk, VA, Bool.and_eq_true] at h ⊢
 obtain ⟨⟨⟨⟨h1, h2, _⟩, h3, _⟩, h4, h5⟩, h6⟩ := h
 exact ⟨⟨⟨⟨h1, h2, rfl⟩, h3, rfl⟩, h4, h5⟩, h6⟩
theorem dr : JU (bare b).Voice = true := by
 unfold JU
 rw [List.all_eq_true]
 intro i hi
 obtain ⟨i0, i1⟩ := D9.mp hi
 obtain ⟨x, hx, hxm⟩ := QI (x := b.Voice.Boys) i0 i1
 have ho := hv.voice.boy x hxm
 have he : ∀ {s : Ew}, LK s → s.Low ∈ rng s := fun h => Ii.mpr ⟨Int.le_refl _, h.2.1⟩
 have := kd (b := (bare b).Voice) rfl hx (t := ⟨x.Low.Low, x.High.Low, x.Gain.Low, x.Turn.Low, x.Break.Low⟩) (he ho.low.1) (he ho.high.1) (he ho.gain.1) (he ho.turn.1) (he ho.brk.1)
 have := NC this
 rw [this]; rfl
end
theorem qM {b : BenchBook} (hv : C6 b) (hok : zO b = true) (bits : Sl Int) (hb : bits.l.length < 4611686018427387904) (z : Sl AB) (hz : z.l.length < 4611686018427387904) (h : ∀ q ∈ z.l, 0 ≤ q.Piece ∧ q.Boy ∈ A2 (bare b) AW q.Piece q.Part) :
  Loop (Ce b bits z) 0 = some (.inr ()) := by
 have hvx := F7 (km hv) (qu hv hok)
 refine Dw (fun (_ : Unit) i => i) z.l (fun _ => ()) hz rfl ?_ ?_
 ·intro pre q post hpre hW
  have hl : (pre.length : Int) < z.len := by rw [Sl.len_l, hpre]; simp; omega
  obtain ⟨_, h1⟩ := h q (by rw [hpre]; simp)
  obtain ⟨i0, i1⟩ := Qn h1
  have h1' := h1
  obtain ⟨x, hx⟩ : ∃ x, b.Pieces.ix q.Piece = some x := by
   unfold A2 at h1
   cases hx : b.Pieces.ix q.Piece with
   | none => rw [show (bare b).Pieces.ix q.Piece = none from hx] at h1; cases h1
   | some x => exact ⟨x, rfl⟩
  obtain ⟨y, hy⟩ : ∃ y, x.Parts.ix q.Part = some y := by
   unfold A2 at h1
   rw [show (bare b).Pieces.ix q.Piece = some x from hx] at h1
   dsimp only at h1
   cases hy : x.Parts.ix q.Part with
   | none => rw [hy] at h1; cases h1
   | some y => exact ⟨y, rfl⟩
  have hxi := CN hx
  have hyi := CN hy
  obtain ⟨vb, hvb, hvbm⟩ := QI (x := b.Voice.Boys) i0 i1
  have hbo := hv.voice.boy vb hvbm
  have hwk := hv.week x hxi.2.2
  have hvw := hv.voice.weeks
  obtain ⟨n, n1, _⟩ := pj bits hb q.Boy
  obtain ⟨lo, l1, l2⟩ := Wm hbo.low.1 n
  obtain ⟨t, t1, t2, v, v1, v2⟩ := oC (b := (bare b).Voice) rfl hvb hbo l2 (week := x.Week) ⟨hwk.1, by omega⟩ n
  have hs := nE hvx (dr hv hok) (p := q.Piece) (k := q.Part) hx hy h1' t t1
  have hloss : Wu (bare b).Voice q.Boy = vb.Loss := by
   unfold Wu
   rw [show (bare b).Voice.Boys.ix q.Boy = some vb from hvb]
  rw [hloss] at hs
  have hv3 := v2 hs.1
  have c1 : AY q.Piece 0 (W (b.Pieces.len - 1)) = true := by
   have := hv.pieces
   simp only [AY, Sl.len_l, Bool.and_eq_true, decide_eq_true_eq]
   rw [J9 (by omega) (by omega)]; omega
  have c2 : AY q.Part 0 (W (x.Parts.len - 1)) = true := by
   have := hv.parts x hxi.2.2
   simp only [AY, Sl.len_l, Bool.and_eq_true, decide_eq_true_eq]
   rw [J9 (by omega) (by omega)]; omega
  have c3 : AY q.Boy 0 (W (b.Voice.Boys.len - 1)) = true := by
   have := hv.voice.boys
   have i1' : q.Boy < b.Voice.Boys.l.length := i1
   simp only [AY, Sl.len_l, Bool.and_eq_true, decide_eq_true_eq]
   rw [J9 (by omega) (by omega)]; omega
  have c4 : ¬ y.Notes.Low < lo := by rw [← t2]; omega
  have c5 : ¬ v < y.Notes.High := by rw [hv3]; omega
  simp only [Ce, decide_eq_true hl, if_true, Sl.ix_at hpre, AP, c1, c2, c3, hx, hy, hvb, n1, l1, v1, decide_eq_false c4, decide_eq_false c5, Bool.not_true, Bool.false_eq_true, if_false, hW]
 ·have hl : ¬ (z.l.length : Int) < z.len := by rw [Sl.len_l]; omega
  simp only [Ce, decide_eq_false hl, Bool.false_eq_true, if_false]
theorem dJ {b : BenchBook} (hf : Tf b) (bits : Sl Int) (hb : bits.l.length < 4611686018427387904) : HQ b bits = some true := by
 unfold HQ
 rw [SK hf, AP]
 by_cases ho : zO b = true
 case neg =>
  have : zO b = false := by simpa using ho
  simp only [this, Bool.false_eq_true, if_false, BB, AP]
 case pos =>
  have hv := F7 hf ho
  have hfx := km hv
  have hox := qu hv ho
  have hvx := F7 hfx hox
  have he : Ai (bare b) true = 0 := by simp [Ai, hox, dr hv ho]
  obtain ⟨l, f1, f2⟩ := Md hfx
  obtain ⟨s, s1, s2⟩ := KP hfx
  rw [he, if_pos rfl] at f2 s2
  rw [he, if_pos rfl] at f1
  rw [he] at s1
  have hs1 : s.l.length ≤ 1000 := by rw [s2]; exact VN hvx AW (RX hvx _) (JA hvx AW)
  have hl1 : l.l.length ≤ 1000 := by
   rw [f2]
   cases hA : W0 (bare b) with
   | nil => simp
   | cons x L => exact VN hvx AW (Ws hvx) (show x ∈ W0 (bare b) by rw [hA]; simp)
  have ha1 : (Sl.hot [] : Sl AB).app 24 s.l = some (.hot s.l) := by
   rw [Sl.app_hot (BU (by simp; omega) (by omega))]; rfl
  have ha2 : (Sl.hot s.l : Sl AB).app 24 l.l = some (.hot (s.l ++ l.l)) := Sl.app_hot (BU (by omega) (by omega))
  have hall : ∀ (ps : List Int), nv (bare b) ps → ps.Pairwise (· < ·) → ∀ x ∈ FD (bare b) AW 3 ps, ∀ q ∈ x, 0 ≤ q.Piece ∧ q.Boy ∈ A2 (bare b) AW q.Piece q.Part := by
   intro ps hps hsd x hx q hq
   obtain ⟨g1, g2⟩ := qB hsd hx hq
   exact ⟨(hps.2 _ g1).1, g2⟩
  have hL := qM hv ho bits hb (Sl.hot (s.l ++ l.l)) (by rw [Sl.l_hot, List.length_append]; omega) (by
   rw [Sl.l_hot]
   intro q hq
   rcases List.mem_append.mp hq with hq | hq
   ·rw [s2] at hq
    exact hall _ (RX hvx _) ((Dp _).filter _) _ (JA hvx AW) q hq
   ·rw [f2] at hq
    cases hA : W0 (bare b) with
    | nil => rw [hA] at hq; cases hq
    | cons x L =>
     rw [hA] at hq
     exact hall _ (Ws hvx) (Dp _) x (show x ∈ W0 (bare b) by rw [hA]; simp) q hq)
  rw [if_pos ho, s1, AP, f1, AP]
  cases hB : (W0 (bare b)).isEmpty
  ·simp only [hB, decide_true, if_true, Bool.not_true, Bool.false_and, Bool.false_eq_true, if_false, ha1, ha2, AP, hL, BB]
  ·have hl0 : l.len = 0 := by rw [Sl.len_l, f2, List.isEmpty_iff.mp hB]; rfl
   simp only [hB, hl0, decide_true, if_true, Bool.not_true, Bool.false_eq_true, if_false, ha1, ha2, AP, hL, BB, Bool.and_false]
end
end Go.Lf
namespace Go.Lf
open Go Go.Lf.Pl
noncomputable section
section
variable {b : BenchBook} (hv : C6 b) (hok : zO b = true) {p : Int} {x : AE} (hx : b.Pieces.ix p = some x) {pts : Sl Aj} {m : Nat} (hm : 1 ≤ m) (hpt : pts.l = x.Parts.l.take m)
include hv hx hpt
theorem lO : Tf ⟨b.Voice, .hot [⟨x.Week, pts⟩], b.Most⟩ := by
 have hxm := (CN hx).2.2
 have := hv.parts x hxm
 refine ⟨hv.few.voice, by simp [Sl.l], ?_⟩
 intro y hy
 simp only [Sl.l_hot, List.mem_singleton] at hy
 subst hy
 show pts.l.length < _
 rw [hpt, List.length_take]; omega
include hok hm
theorem pO : zO ⟨b.Voice, .hot [⟨x.Week, pts⟩], b.Most⟩ = true := by
 have hxm := (CN hx).2.2
 have hxp := hv.parts x hxm
 have hwk := hv.week x hxm
 have hvw := hv.voice.weeks
 have h := hok
 simp only [zO, VG, Bool.and_eq_true] at h
 have h1 : AQ (Sl.hot [⟨x.Week, pts⟩] : Sl AE).len 1 3 = true := rfl
 have h2 : KJ ⟨b.Voice, .hot [⟨x.Week, pts⟩], b.Most⟩ ⟨x.Week, pts⟩ = true := by
  simp only [KJ, AQ, Bool.and_eq_true, decide_eq_true_eq, Sl.len_l, hpt, List.length_take, List.all_eq_true]
  refine ⟨⟨⟨hwk.1, by rw [J9 (by omega) (by omega)]; omega⟩, by omega⟩, fun y hy => ?_⟩
  have := hv.part x hxm y (List.mem_of_mem_take hy)
  simp only [NI, AQ, Bool.and_eq_true, decide_eq_true_eq]
  omega
 simp only [zO, VG, Bool.and_eq_true, Sl.l_hot, List.all_cons, List.all_nil]
 exact ⟨⟨h.1.1, h1, h.1.2.2⟩, h2, trivial⟩
end
theorem sh {b : BenchBook} {ex : Int → Bool} {p : Int} {m m' : Nat} (h : min m (B7 b p) = min m' (B7 b p)) : FD b ex m [p] = FD b ex m' [p] := by
 simp only [FD, EO, FN, List.flatMap_cons, List.flatMap_nil, Iq, h]
theorem b9 {b : BenchBook} (hf : Tf b) (n : Int) : HH b n = some true := by
 unfold HH
 rw [SK hf, AP]
 by_cases ho : zO b = true
 case neg =>
  have : zO b = false := by simpa using ho
  simp only [this, Bool.false_eq_true, if_false, BB, AP]
 case pos =>
  have hv := F7 hf ho
  have hpz := hv.pieces
  obtain ⟨p, e1, p0, p1⟩ := dG (n := n) (m := b.Pieces.len) (by rw [Sl.len_l]; omega) (by rw [Sl.len_l]; omega)
  rw [Sl.len_l] at p1
  obtain ⟨x, hx, hxm⟩ := QI p0 p1
  have hxp := hv.parts x hxm
  have hnp : B7 b p = x.Parts.l.length := by simp [B7, hx]
  have hip : Ap b p = true := (FM hf p).mpr ⟨p0, p1⟩
  have hla := MM hf p
  rw [hip] at hla
  obtain ⟨w, w1, w2⟩ := FO hf
  rw [if_pos ho, e1, AP, hla, AP, w1, AP]
  rcases mH ho with ⟨he, hfi⟩ | ⟨he, hfi⟩
  case inr => simp [he, BB]
  case inl =>
   rw [he, if_pos rfl] at w2
   have ht3 : x.Parts.l = x.Parts.l.take 3 := (List.take_of_length_le (by omega)).symm
   have hf1 := lO hv hx (pts := x.Parts) (m := 3) ht3
   have ho1 := pO hv ho hx (pts := x.Parts) (m := 3) (by omega) ht3
   have he1 : Ai ⟨b.Voice, .hot [x], b.Most⟩ true = 0 := by
    have : zO ⟨b.Voice, .hot [x], b.Most⟩ = true := ho1
    simp [Ai, this, hfi]
   obtain ⟨u, u1, u2⟩ := FO (b := ⟨b.Voice, .hot [x], b.Most⟩) hf1
   rw [he1] at u1 u2
   rw [if_pos rfl] at u2
   have hca := eD (b := ⟨b.Voice, .hot [x], b.Most⟩) (ex := AW) rfl
   have hal := lU (b := b) (ex := AW) hx (pcs := .hot [x]) (pts := x.Parts) (m := 3) (by omega) (by omega) rfl ht3
   rw [hal] at hca
   have hul : u.len = 0 ↔ (FD b AW 3 [p]).isEmpty = false := by
    rw [Sl.len_l, u2, ← hca]; omega
   have hwf : w.l.length < 4611686018427387904 := by rw [w2]; exact aH hv AW
   rw [he, if_pos rfl]
   cases hL : (idx (B7 b p)).find? (fun k => (FD b AW (k + 1).toNat [p]).isEmpty) with
   | none =>
    have hn : ej b p = (0, 4) := by simp [ej, hL]
    rw [List.find?_eq_none] at hL
    have h1 := hL ((B7 b p : Int) - 1) (D9.mpr ⟨by omega, by omega⟩)
    have h2 : (FD b AW 3 [p]).isEmpty = false := by
     rw [sh (m := 3) (m' := ((B7 b p : Int) - 1 + 1).toNat) (by omega)]
     simpa using h1
    have hu0 := hul.mpr h2
    simp [hn, hx, u1, hu0, BB]
   | some k =>
    have hn : ej b p = (k, 0) := by simp [ej, hL]
    have hk := D9.mp (List.mem_of_find?_eq_some hL)
    have hke : (FD b AW (k + 1).toNat [p]).isEmpty = true := by
     have := (List.find?_eq_some_iff_append.mp hL).1
     exact this
    have hk3 : (k + 1).toNat ≤ 3 := by omega
    have h2 : (FD b AW 3 [p]).isEmpty = true := np hk3 hke
    have hu0 : ¬ u.len = 0 := by
     intro h; rw [hul.mp h] at h2; cases h2
    have hpc := jj hv hk3 ⟨p0, p1⟩ hke
    obtain ⟨v, v1, v2⟩ := cR w hwf p
    have hv0 : ¬ v < 0 := by
     rw [w2, List.contains_eq_mem, decide_eq_true hpc] at v2
     simpa using v2
    have hli : AY k 0 (W (x.Parts.len - 1)) = true := by
     simp only [AY, Sl.len_l, Bool.and_eq_true, decide_eq_true_eq]
     rw [J9 (by omega) (by omega)]; omega
    by_cases hk0 : k = 0
    ·subst hk0
     simp [hn, hx, u1, hu0, hli, v1, hv0, BB]
    ·have hne : x.Parts.l ≠ [] := by intro h; rw [h] at hxp; simp at hxp
     have hsub := kr hne (h := k) (by omega) (by omega)
     have hpt2 : (Sl.cold (x.Parts.l.take k.toNat)).l = x.Parts.l.take k.toNat := rfl
     have hf2 := lO hv hx (pts := .cold (x.Parts.l.take k.toNat)) (m := k.toNat) hpt2
     have ho2 := pO hv ho hx (pts := .cold (x.Parts.l.take k.toNat)) (m := k.toNat) (by omega) hpt2
     have he2 : Ai ⟨b.Voice, .hot [⟨x.Week, .cold (x.Parts.l.take k.toNat)⟩], b.Most⟩ true = 0 := by simp [Ai, ho2, hfi]
     have hw2 := MN hf2
     rw [he2, if_pos rfl] at hw2
     have hal2 := lU (b := b) (ex := AW) hx (pcs := .hot [⟨x.Week, .cold (x.Parts.l.take k.toNat)⟩]) (pts := .cold (x.Parts.l.take k.toNat)) (m := k.toNat) (by omega) (by omega) rfl hpt2
     have hkk : (FD b AW k.toNat [p]).isEmpty = false := by
      obtain ⟨_, as, bs, e6, e7⟩ := List.find?_eq_some_iff_append.mp hL
      have hin : k - 1 ∈ as := by
       have h1 : k - 1 ∈ idx (B7 b p) := D9.mpr ⟨by omega, by omega⟩
       have hs := Dp (B7 b p)
       rw [e6] at h1 hs
       rw [List.pairwise_append] at hs
       rcases List.mem_append.mp h1 with hq | hq
       ·exact hq
       ·rcases List.mem_cons.mp hq with hq | hq
        ·omega
        ·have := (List.pairwise_cons.mp hs.2.1).1 _ hq; omega
      have := e7 _ hin
      rw [show (k - 1 + 1).toNat = k.toNat by omega] at this
      simpa using this
     rw [hkk] at hal2
     have hpos : (0 : Int) < (W0 ⟨b.Voice, .hot [⟨x.Week, .cold (x.Parts.l.take k.toNat)⟩], b.Most⟩).length := by
      have : W0 ⟨b.Voice, .hot [⟨x.Week, .cold (x.Parts.l.take k.toNat)⟩], b.Most⟩ = FD ⟨b.Voice, .hot [⟨x.Week, .cold (x.Parts.l.take k.toNat)⟩], b.Most⟩ AW 3 [0] := rfl
      rw [this]
      cases hA : FD ⟨b.Voice, .hot [⟨x.Week, .cold (x.Parts.l.take k.toNat)⟩], b.Most⟩ AW 3 [0] with
      | nil => rw [hA] at hal2; cases hal2
      | cons _ _ => simp
     rw [hn]
     simp only [hx, u1, hu0, hli, v1, hsub, hw2, BB, AP, decide_true, if_true, decide_eq_false hu0, decide_eq_false hv0, decide_eq_false hk0, decide_eq_true hpos, Bool.false_eq_true, if_false, show decide ((0 : Int) = 4) = false from rfl, bne_self_eq_false, decide_false]
end
end Go.Lf
