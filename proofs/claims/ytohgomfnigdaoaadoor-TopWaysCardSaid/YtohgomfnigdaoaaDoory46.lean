/- A part of the proof. -/
import Derived.Test.YtohgomfnigdaoaaDoory42
import Derived.Test.YtohgomfnigdaoaaDoory43
import Derived.Test.YtohgomfnigdaoaaDoory44
import Derived.Test.YtohgomfnigdaoaaDoory45
set_option linter.all false
namespace Go.Lf
open Go Go.Lf.Pl
noncomputable section
theorem vk (ns : List Nat) (h1 : 1 ≤ ns.length) (h3 : ns.length ≤ 3) (h : ∀ a ∈ ns, 1 ≤ a ∧ a ≤ 3) : ∃ pb, AP (Sl.cold (ns.map fun (x : Nat) => (x : Int))) = some pb ∧ Ai pb = some (((jQ ns : Nat) : Int), 0) := by
 have c : ∀ a : Nat, 1 ≤ a ∧ a ≤ 3 → a = 1 ∨ a = 2 ∨ a = 3 := fun a h => by omega
 match ns, h1, h3, h with
 | [a], _, _, h =>
  have ha := c a (h a (by simp))
  rcases ha with rfl | rfl | rfl
  ·exact ⟨_, ch1, pw1⟩
  ·exact ⟨_, ch2, pw2⟩
  ·exact ⟨_, ch3, pw3⟩
 | [a, b], _, _, h =>
  have ha := c a (h a (by simp))
  have hb := c b (h b (by simp))
  rcases ha with rfl | rfl | rfl <;> rcases hb with rfl | rfl | rfl
  ·exact ⟨_, zb, AAF⟩
  ·exact ⟨_, ze, AAH⟩
  ·exact ⟨_, AAM, zu⟩
  ·exact ⟨_, zl, AAN⟩
  ·exact ⟨_, zZ, zr⟩
  ·exact ⟨_, AAA, zn⟩
  ·exact ⟨_, zw, AAC⟩
  ·exact ⟨_, zq, AAL⟩
  ·exact ⟨_, AAJ, zg⟩
 | [a, b, d], _, _, h =>
  have ha := c a (h a (by simp))
  have hb := c b (h b (by simp))
  have hd := c d (h d (by simp))
  rcases ha with rfl | rfl | rfl <;> rcases hb with rfl | rfl | rfl <;> rcases hd with rfl | rfl | rfl
  ·exact ⟨_, yN, xF⟩
  ·exact ⟨_, xK, yq⟩
  ·exact ⟨_, yk, yC⟩
  ·exact ⟨_, ym, xr⟩
  ·exact ⟨_, xg, xZ⟩
  ·exact ⟨_, xf, xM⟩
  ·exact ⟨_, xq, xP⟩
  ·exact ⟨_, yY, xI⟩
  ·exact ⟨_, yS, yJ⟩
  ·exact ⟨_, yM, xb⟩
  ·exact ⟨_, yU, yP⟩
  ·exact ⟨_, yt, xm⟩
  ·exact ⟨_, yZ, yR⟩
  ·exact ⟨_, yE, yD⟩
  ·exact ⟨_, xG, xl⟩
  ·exact ⟨_, yI, yH⟩
  ·exact ⟨_, xu, ya⟩
  ·exact ⟨_, yG, yW⟩
  ·exact ⟨_, xR, xY⟩
  ·exact ⟨_, xk, yr⟩
  ·exact ⟨_, xc, xX⟩
  ·exact ⟨_, xU, xj⟩
  ·exact ⟨_, xp, xt⟩
  ·exact ⟨_, yc, yT⟩
  ·exact ⟨_, xQ, yb⟩
  ·exact ⟨_, xx, yL⟩
  ·exact ⟨_, xa, yQ⟩
 | [], h1, _, _ => exact absurd h1 (by simp)
 | _ :: _ :: _ :: _ :: _, _, h3, _ => exact absurd h3 (by simp)
end
end Go.Lf
namespace Go.Lf
open Go Go.Lf.Pl
noncomputable section
theorem rD {b : VoiceBook} (ht : b.Trials.l = []) {i : Int} {x : AL} (hx : b.Boys.ix i = some x) {t : T5} (h1 : t.lo ∈ rng x.Low) (h2 : t.hi ∈ rng x.High) (h3 : t.ga ∈ rng x.Gain) (h4 : t.tu ∈ rng x.Turn) (h5 : t.br ∈ rng x.Break) : t ∈ Fb b i := by
 unfold Fb
 simp only [hx, tl, List.mem_flatMap, List.mem_filter, List.mem_map]
 exact ⟨t.lo, h1, t.hi, h2, t.ga, h3, t.tu, h4, ⟨t.br, h5, rfl⟩, by simp [SC, ht]⟩
theorem oO {b : VoiceBook} (hv : bO b) (ht : b.Trials.l = []) : HI b = true := by
 unfold HI
 rw [List.all_eq_true]
 intro i hi
 obtain ⟨i0, i1⟩ := G4.mp hi
 obtain ⟨x, hx, hxm⟩ := dH (x := b.Boys) i0 i1
 have ho := hv.boy x hxm
 have he : ∀ {s : BS}, G5 s → s.Low ∈ rng s := fun h => OO.mpr ⟨Int.le_refl _, h.2.1⟩
 have := rD ht hx (t := ⟨x.Low.Low, x.High.Low, x.Gain.Low, x.Turn.Low, x.Break.Low⟩) (he ho.low.1) (he ho.high.1) (he ho.gain.1) (he ho.turn.1) (he ho.brk.1)
 have := MP this
 rw [this]; rfl
def XN (b : VoiceBook) (k : Nat) : VoiceBook := ⟨Sl.cold (b.Boys.l.take k), b.Weeks, Sl.nil⟩
theorem ol {b : VoiceBook} (hf : dU b) (hok : vOk b = true) {k : Nat} (hk : k = min 3 b.Boys.l.length) : dU (XN b k) ∧ vOk (XN b k) = true := by
 have hv := FM hf hok
 have hbo := hv.boys
 have hl : (XN b k).Boys.l.length = k := by show (b.Boys.l.take k).length = k; rw [List.length_take]; omega
 refine ⟨⟨by omega, by show (0 : Nat) < _; omega⟩, ?_⟩
 have h := hok
 simp only [vOk, Ze, Bool.and_eq_true, List.all_eq_true] at h ⊢
 refine ⟨⟨?_, h.1.2.1, rfl⟩, fun x hx => h.2.1 x (List.mem_of_mem_take (show x ∈ b.Boys.l.take k from hx)), fun x hx => by cases hx⟩
 simp only [Aa, Sl.len_l, hl, Bool.and_eq_true, decide_eq_true_eq]; omega
theorem rj (W : List Jd) : (W.any fun w => decide (w.able = [])) = true ↔ 0 ∈ W.map fun w => w.able.length := by
 simp only [List.any_eq_true, decide_eq_true_eq, List.mem_map, List.length_eq_zero_iff]
theorem jN (hh : Cf = some true) {b : VoiceBook} (hf : dU b) (n : Sl Int) (hn : n.l.length < 4611686018427387904) : L6 b n = some true := by
 unfold L6
 rw [lH hf, BV]
 by_cases hg : (vOk b && HI b) = true
 case neg =>
  have : (vOk b && HI b) = false := by simpa using hg
  simp only [this, Bool.false_eq_true, if_false, hh, BV]
 case pos =>
  rw [if_pos hg]
  rw [Bool.and_eq_true] at hg
  obtain ⟨hok, _⟩ := hg
  have hv := FM hf hok
  have hbo := hv.boys
  have hwe := hv.weeks
  have hmin : min 3 b.Boys.len = ((min 3 b.Boys.l.length : Nat) : Int) := by rw [Sl.len_l]; omega
  have hne : b.Boys.l ≠ [] := by intro h; rw [h] at hbo; simp at hbo
  have hsub := mQ hne (h := ((min 3 b.Boys.l.length : Nat) : Int)) (by omega) (by omega)
  rw [Int.toNat_natCast] at hsub
  obtain ⟨gf, gok⟩ := ol hf hok (k := min 3 b.Boys.l.length) rfl
  have gv := FM gf gok
  have gfi := oO gv rfl
  have gl : (XN b (min 3 b.Boys.l.length)).Boys.l.length = min 3 b.Boys.l.length := by
   show (b.Boys.l.take (min 3 b.Boys.l.length)).length = _; rw [List.length_take]; omega
  obtain ⟨⟨ws, ps⟩, ⟨c1, c2, c3, c4⟩, hL⟩ := gV hwe n hn 3 (Sl.hot []) [] (by simp) ⟨rfl, by show (0 : Nat) ≤ 3; omega, (by intro w hw; cases hw), (by intro s hs; cases hs)⟩
  have e0 : ((3 * ([] : List BS).length : Nat) : Int) = 0 := rfl
  rw [e0] at hL
  dsimp only at c1 c2 c3 c4
  rw [hmin, hsub, BV, hL, BV]
  dsimp only
  by_cases hp0 : ps.len = 0
  case pos => simp only [hp0, decide_true, if_true, hh, BV]
  case neg =>
   have hpl : 1 ≤ ps.l.length := by rw [Sl.len_l] at hp0; omega
   have hso : CQ (VoiceBook.mk (Sl.cold (b.Boys.l.take (min 3 b.Boys.l.length))) b.Weeks (Sl.nil : (Sl AI))) ws ps = some (EB (XN b (min 3 b.Boys.l.length)) (ws.l.zip ps.l)) := oD (XN b (min 3 b.Boys.l.length)) ws ps c1 c2
   generalize hy : XN b (min 3 b.Boys.l.length) = y at *
   have hyb : (Sl.cold (b.Boys.l.take (min 3 b.Boys.l.length)) : Sl AL).len = y.Boys.len := by rw [← hy]; rfl
   have hyw : y.Weeks = b.Weeks := by rw [← hy]; rfl
   have hql : (ws.l.zip ps.l).length = ps.l.length := by rw [List.length_zip]; omega
   have hq : ∀ q ∈ ws.l.zip ps.l, (0 ≤ q.1 ∧ q.1 < y.Weeks) ∧ G5 q.2 := by
    intro q hq
    obtain ⟨m1, m2⟩ := List.of_mem_zip (show (q.1, q.2) ∈ ws.l.zip ps.l from hq)
    rw [hyw]
    exact ⟨c3 _ m1, c4 _ m2⟩
   generalize ws.l.zip ps.l = qs at *
   have q1 : 1 ≤ qs.length := by omega
   have q3 : qs.length ≤ 3 := by omega
   have hm := pS gf gok gfi q1 q3 hq (Sl.cold (b.Boys.l.take (min 3 b.Boys.l.length))) hyb ps (by omega)
   have he := kD gf gok gfi q1 q3 hq
   have hfx := V9 (b := y) (qs := qs) gf q3
   have hwy := cY hfx
   obtain ⟨l, f1, f2⟩ := dF hfx
   rw [he, if_pos rfl] at hwy f2
   rw [he, if_pos rfl] at f1
   have hB := pj (b := y) (qs := qs) q3
   rw [hB] at hwy f1 f2
   have hone : ∀ w ∈ Ci y qs, w.many = 1 := by
    intro w hw
    simp only [Ci, List.mem_map] at hw
    obtain ⟨p, _, rfl⟩ := hw; rfl
   have hlen := WH (Ci y qs) hone
   have hWl : (Ci y qs).length = qs.length := by simp [Ci]
   rw [hlen] at hwy
   simp only [decide_eq_false hp0, Bool.false_eq_true, if_false, hso, BV, hm, hwy, f1]
   cases hany : (Ci y qs).any fun w => decide (w.able = []) with
   | true =>
    have hz := mt.mpr ((rj _).mp hany)
    have hpe : Ft (Ci y qs) = [] := List.length_eq_zero_iff.mp (by rw [hlen, hz])
    have hl0 : l.len = 0 := by rw [Sl.len_l, f2, hpe]; rfl
    simp only [if_true, hz, hpe, List.isEmpty_nil, hl0, decide_true, hh, BV, Int.natCast_zero]
   | false =>
    have hnz : ∀ w ∈ Ci y qs, w.able ≠ [] := by
     intro w hw h
     have := List.any_eq_false.mp hany w hw
     simp [h] at this
    obtain ⟨L, hL2⟩ := eW (Ci y qs) hone hnz
    have hll : l.l = Ho (Ci y qs) := by rw [f2, hL2]; rfl
    have hfl := UB (Ci y qs)
    obtain ⟨pb, p1, p2⟩ := vk ((Ci y qs).map fun w => w.able.length) (by rw [List.length_map]; omega) (by rw [List.length_map]; omega) (by
     intro a ha
     obtain ⟨w, hw, rfl⟩ := List.mem_map.mp ha
     refine ⟨List.length_pos_iff.mpr (hnz w hw), ?_⟩
     have h1 : w.able ∈ qs.map (oC y) := by rw [← jt]; exact List.mem_map_of_mem hw
     obtain ⟨q, _, h2⟩ := List.mem_map.mp h1
     rw [← h2]
     have := j8 gf gok gfi q1 q3 hq q
     omega)
    have hms : dM (Ci y qs) = Sl.cold (((Ci y qs).map fun w => w.able.length).map fun (x : Nat) => (x : Int)) := by
     cases hW : Ci y qs with
     | nil => rw [hW] at hWl; simp at hWl; omega
     | cons w W => simp [dM]
    rw [← hms] at p1
    have hs3 := qk l (Sl.hot (Ho (Ci y qs))) 0 hll (by rw [hll]; omega)
    have hlq : l.len = (Sl.hot (Ho (Ci y qs)) : Sl AC).len := by rw [Sl.len_l, Sl.len_l, hll]; rfl
    have hie : (Ft (Ci y qs)).isEmpty = false := by rw [hL2]; rfl
    simp only [Bool.false_eq_true, if_false, hie, p1, p2, BV, decide_true, if_true, hlq, Bool.not_true, hs3, hh]
end
end Go.Lf
