/- A part of the proof. -/
import Derived.Test.YtohgomfnigdaoaaDoory37
set_option linter.all false
namespace Go.Lf
open Go Go.Lf.Pl
noncomputable section
def zo (s i : Int) : Bool := decide (s.toNat / 2 ^ i.toNat % 2 = 1)
def zc (s : Int) (n : Nat) : List Int := (idx n).filter (zo s)
theorem vY {n : Nat} (h : n ≤ 4) : opI .shl 1 (n : Int) = some ((2 ^ n : Nat) : Int) := by
 have key : ∀ m : _root_.Fin 5, opI .shl 1 ((m.val : Nat) : Int) = some ((2 ^ m.val : Nat) : Int) := by decide
 exact key ⟨n, by omega⟩
def CZ : List Int → List Int → Bool
 | a :: x, b :: y => if a = b then CZ x y else decide (a < b)
 | x, y => decide (x.length < y.length)
theorem s0 (y : List Int) : CZ [] y = decide (0 < y.length) := by cases y <;> rfl
theorem rB (x : List Int) : CZ x [] = decide (x.length < 0) := by cases x <;> rfl
def ck (x y : List Int) : Bool := decide (x.length < y.length) || (decide (x.length = y.length) && CZ x y)
theorem qy (x y : AC) : (if decide ([x.Piece, x.Part, x.Boy] = [y.Piece, y.Part, y.Boy]) = true then false else CZ [x.Piece, x.Part, x.Boy] [y.Piece, y.Part, y.Boy]) = (if x = y then false else lt3 x y) := by
 by_cases hxy : x = y
 ·subst hxy; simp
 ·rw [if_neg hxy]
  have h1 : ¬ [x.Piece, x.Part, x.Boy] = [y.Piece, y.Part, y.Boy] := by
   intro h; simp at h; exact hxy (TL h.1 h.2.1 h.2.2)
  rw [if_neg (by simpa using h1)]
  rw [Bool.eq_iff_iff, NE]
  have hne : ¬ (x.Piece = y.Piece ∧ x.Part = y.Part ∧ x.Boy = y.Boy) := fun h => hxy (TL h.1 h.2.1 h.2.2)
  by_cases e1 : x.Piece = y.Piece
  ·by_cases e2 : x.Part = y.Part
   ·have e3 : ¬ x.Boy = y.Boy := fun h => hne ⟨e1, e2, h⟩
    simp [CZ, e1, e2, e3]
   ·simp [CZ, e1, e2]
  ·simp [CZ, e1]
theorem vF (x y : AC) : CZ [x.Piece, x.Part, x.Boy] [y.Piece, y.Part, y.Boy] = lt3 x y := by
 have h3 := qy x y
 by_cases hxy : x = y
 ·subst hxy; rw [Z7]; simp [CZ]
 ·have h1 : ¬ [x.Piece, x.Part, x.Boy] = [y.Piece, y.Part, y.Boy] := by
   intro h; simp at h; exact hxy (TL h.1 h.2.1 h.2.2)
  rw [if_neg (by simpa using h1), if_neg hxy] at h3
  exact h3
end
end Go.Lf
namespace Go.Lf
open Go Go.Lf.Pl
noncomputable section
theorem P4 : ∀ c d : List Int, CZ c d = true → CZ d c = false
 | [], [], h => by simp [CZ] at h
 | [], b :: d, _ => by simp [CZ]
 | a :: c, [], h => by simp [CZ] at h
 | a :: c, b :: d, h => by
  simp only [CZ] at h ⊢
  by_cases hab : a = b
  ·subst hab
   rw [if_pos rfl] at h ⊢
   exact P4 c d h
  ·rw [if_neg hab] at h
   rw [if_neg (fun e => hab e.symm)]
   have := of_decide_eq_true h
   exact decide_eq_false (by omega)
theorem Jf : ∀ c : List Int, CZ c c = false
 | [] => by simp [CZ]
 | a :: c => by simp only [CZ, if_true]; exact Jf c
theorem Xi : ∀ (l : List Int) (m : Nat), l.Pairwise (· < ·) → (Dh m l).Pairwise fun c d => CZ c d = true
 | _, 0, _ => by simp [Dh]
 | [], _ + 1, _ => by simp [Dh]
 | a :: l, m + 1, h => by
  rw [List.pairwise_cons] at h
  simp only [Dh, List.pairwise_append]
  refine ⟨?_, Xi l (m + 1) h.2, ?_⟩
  ·rw [List.pairwise_map]
   refine (Xi l m h.2).imp ?_
   intro c d hcd
   simp only [CZ, if_true]; exact hcd
  ·intro c hc d hd
   obtain ⟨c', _, rfl⟩ := List.mem_map.mp hc
   obtain ⟨hs, hl⟩ := E6.mp hd
   cases d with
   | nil => simp at hl
   | cons e d =>
    have := h.1 e (hs.subset List.mem_cons_self)
    simp only [CZ]
    rw [if_neg (by omega)]
    exact decide_eq_true this
theorem uW {n : Nat} {can : List Int → Bool} {o : List Int} (ho : List.Sublist o (idx n)) (hc : can o = true) : ck o (Dp n can) = false := by
 have hlen : o.length ≤ n := by have := ho.length_le; rwa [Ao] at this
 unfold Dp
 cases h : (idx n).findSome? fun many => (Dh many.toNat (idx n)).find? can with
 | none =>
  simp only [Option.getD_none]
  by_cases hn : o.length = n
  ·have : o = idx n := ho.eq_of_length (by rw [Ao]; exact hn)
   subst this
   simp [ck, Jf]
  ·have h2 := List.findSome?_eq_none_iff.mp h (o.length : Int) (G4.mpr ⟨by omega, by omega⟩)
   rw [List.find?_eq_none] at h2
   exact absurd hc (h2 o (E6.mpr ⟨ho, by simp⟩))
 | some w =>
  simp only [Option.getD_some]
  obtain ⟨pre, a, post, e1, e2, e3⟩ := List.findSome?_eq_some_iff.mp h
  obtain ⟨e4, e5⟩ := P8 e1
  have hw := List.mem_of_find?_eq_some e2
  have hwl := Ig hw
  have hge : w.length ≤ o.length := by
   by_cases hlt : o.length < w.length
   ·exfalso
    have hin : (o.length : Int) ∈ pre := by
     have h1 : (o.length : Int) ∈ idx n := G4.mpr ⟨by omega, by omega⟩
     have hs := G6 n
     rw [e1] at h1 hs
     rw [List.pairwise_append] at hs
     rcases List.mem_append.mp h1 with hq | hq
     ·exact hq
     ·rcases List.mem_cons.mp hq with hq | hq
      ·omega
      ·have := (List.pairwise_cons.mp hs.2.1).1 _ hq; omega
    have := e3 _ hin
    rw [List.find?_eq_none] at this
    exact absurd hc (this o (E6.mpr ⟨ho, by simp⟩))
   ·omega
  simp only [ck, Bool.or_eq_false_iff, decide_eq_false_iff_not, Bool.and_eq_false_iff]
  refine ⟨by omega, ?_⟩
  by_cases heq : o.length = w.length
  ·right
   have hoin : o ∈ Dh a.toNat (idx n) := E6.mpr ⟨ho, by omega⟩
   obtain ⟨_, as1, bs, e6, e7⟩ := List.find?_eq_some_iff_append.mp e2
   have hlex := Xi (idx n) a.toNat (G6 n)
   rw [e6] at hoin hlex
   rw [List.pairwise_append] at hlex
   rcases List.mem_append.mp hoin with hq | hq
   ·have := e7 o hq; simp [hc] at this
   ·rcases List.mem_cons.mp hq with rfl | hq
    ·exact Jf _
    ·exact P4 _ _ ((List.pairwise_cons.mp hlex.2.1).1 o hq)
  ·left; exact heq
theorem W0 (b : BenchBook) (ex : Int → Bool) (p k : Int) : (BD b ex p k).Pairwise (· < ·) := by
 unfold BD
 cases b.Pieces.ix p with
 | none => simp
 | some x =>
  dsimp only
  cases x.Parts.ix k with
  | none => simp
  | some y => exact (G6 _).filter _
theorem jC (b : BenchBook) (ex : Int → Bool) (m : Nat) (ps : List Int) : (Iu b ex m ps).Pairwise fun x y => DG x y = true := by
 refine jJ _ _ _ ?_
 intro w hw
 simp only [EV, List.mem_map] at hw
 obtain ⟨w', _, rfl⟩ := hw
 exact W0 b ex _ _
theorem sr {b : BenchBook} {ex : Int → Bool} {x : List AC} (hx : x ∈ Iu b ex 3 (Gn b (BC b ex))) : DG x (K6 b ex) = false := by
 have hs := jC b ex 3 (Gn b (BC b ex))
 unfold K6
 unfold BC at hx hs
 cases hA : Iu b ex 3 (Gn b (Dp b.Pieces.l.length (TQ b ex))) with
 | nil => rw [hA] at hx; cases hx
 | cons y L =>
  simp only [JW]; rw [Sl.l_filled, Sl.l_grow]
  rw [hA] at hx hs
  rcases List.mem_cons.mp hx with rfl | hx
  ·exact JL _
  ·have h1 := (List.pairwise_cons.mp hs).1 x hx
   cases h2 : DG x y with
   | false => rfl
   | true => have := KQ _ _ _ h1 h2; rw [JL] at this; cases this
end
end Go.Lf
namespace Go.Lf
open Go Go.Lf.Pl
noncomputable section
theorem i8 (b : BenchBook) (ex : Int → Bool) (m : Nat) (p : Int) : (Jy b m p).Pairwise fun w w' => ltW (J8 b ex w) (J8 b ex w') := by
 simp only [Jy, List.pairwise_map]
 refine (G6 _).imp ?_
 intro k k' h
 exact .inr ⟨rfl, h⟩
theorem Ny (b : BenchBook) (ex : Int → Bool) (m : Nat) {ps : List Int} (hs : ps.Pairwise (· < ·)) : Qn (EV b ex m ps) := by
 refine ⟨?_, ?_⟩
 ·simp only [EV, List.pairwise_map, Fq]
  induction ps with
  | nil => simp
  | cons p ps ih =>
   rw [List.pairwise_cons] at hs
   rw [List.flatMap_cons, List.pairwise_append]
   refine ⟨i8 b ex m p, ih hs.2, ?_⟩
   intro w hw w' hw'
   simp only [Jy, List.mem_map] at hw
   obtain ⟨k, _, rfl⟩ := hw
   obtain ⟨q, hq, hw'⟩ := List.mem_flatMap.mp hw'
   simp only [Jy, List.mem_map] at hw'
   obtain ⟨k', _, rfl⟩ := hw'
   exact .inl (hs.1 q hq)
 ·intro w hw
  simp only [EV, List.mem_map] at hw
  obtain ⟨w', _, rfl⟩ := hw
  exact W0 b ex _ _
theorem Lt {b : BenchBook} {ex : Int → Bool} {m : Nat} {ps : List Int} {w : Jd} : w ∈ EV b ex m ps ↔ ∃ p ∈ ps, ∃ k : Int, 0 ≤ k ∧ k < (min m (GV b p) : Nat) ∧ w = ⟨p, k, (JA b p k).toNat, BD b ex p k⟩ := by
 simp only [EV, Fq, List.mem_map, List.mem_flatMap, Jy]
 constructor
 ·rintro ⟨w', ⟨p, hp, k, hk, rfl⟩, rfl⟩
  obtain ⟨h0, h1⟩ := G4.mp hk
  exact ⟨p, hp, k, h0, h1, rfl⟩
 ·rintro ⟨p, hp, k, h0, h1, rfl⟩
  exact ⟨⟨⟨p, k⟩, JA b p k, 0⟩, ⟨p, hp, k, G4.mpr ⟨h0, h1⟩, rfl⟩, rfl⟩
theorem sc {wk : Int → Int} {most : Nat} {x z : List AC} (hs : List.Sublist z x) (h : rest wk most x = true) : rest wk most z = true := by
 simp only [rest, List.all_eq_true, decide_eq_true_eq] at h ⊢
 intro s hz
 exact Nat.le_trans hs.countP_le (h s (hs.subset hz))
theorem iK {b : BenchBook} {ex : Int → Bool} {m m' : Nat} {ps : List Int} (hs : ps.Pairwise (· < ·)) {p : Int} (hp : p ∈ ps) (hm : m' ≤ m) {x : List AC} (hx : x ∈ Iu b ex m ps) :
  x.filter (fun s => s.Piece == p && decide (s.Part < (m' : Int))) ∈ Iu b ex m' [p] := by
 unfold Iu at hx ⊢
 rw [lG _ _ (Ny b ex m hs)] at hx
 rw [lG _ _ (Ny b ex m' (by simp))]
 obtain ⟨hf, hc, hr⟩ := hx
 have hsub : List.Sublist (x.filter fun s => s.Piece == p && decide (s.Part < (m' : Int))) x := List.filter_sublist
 refine ⟨⟨?_, hf.ord.sublist hsub, ?_⟩, hc.sublist hsub, sc hsub hr⟩
 ·intro s hsm
  obtain ⟨h1, h2⟩ := List.mem_filter.mp hsm
  simp only [Bool.and_eq_true, beq_iff_eq, decide_eq_true_eq] at h2
  obtain ⟨w, hw, e1, e2, e3⟩ := hf.mem s h1
  obtain ⟨q, hq, k, k0, k1, rfl⟩ := Lt.mp hw
  simp only at e1 e2 e3
  refine ⟨⟨q, k, (JA b q k).toNat, BD b ex q k⟩, Lt.mpr ⟨q, by simp [e1, h2.1], k, k0, ?_, rfl⟩, e1, e2, e3⟩
  omega
 ·intro w hw
  obtain ⟨q, hq, k, k0, k1, rfl⟩ := Lt.mp hw
  simp only [List.mem_singleton] at hq
  subst hq
  have hw2 : (⟨q, k, (JA b q k).toNat, BD b ex q k⟩ : Jd) ∈ EV b ex m ps := Lt.mpr ⟨q, hp, k, k0, by omega, rfl⟩
  have h1 := hf.cnt _ hw2
  simp only at h1 ⊢
  rw [← h1, List.countP_filter]
  apply List.countP_congr
  intro s _
  simp only [Bool.and_eq_true, beq_iff_eq, decide_eq_true_eq]
  constructor
  ·exact fun h => h.1
  ·intro h; exact ⟨h, h.1, by omega⟩
theorem MP {α : Type} {l : List α} {a : α} (h : a ∈ l) : l.isEmpty = false := by cases l with
 | nil => cases h
 | cons _ _ => rfl
theorem vG {b : BenchBook} {ex : Int → Bool} {m m' : Nat} {p : Int} (hm : m' ≤ m) (h : (Iu b ex m' [p]).isEmpty = true) : (Iu b ex m [p]).isEmpty = true := by
 cases hA : Iu b ex m [p] with
 | nil => rfl
 | cons x L =>
  have := MP (iK (b := b) (ex := ex) (m := m) (m' := m') (ps := [p]) (p := p) (by simp) (by simp) hm (x := x) (by rw [hA]; simp))
  rw [this] at h; cases h
theorem ug {b : BenchBook} (hv : GT b) {ex : Int → Bool} {m : Nat} (hm : m ≤ 3) {p : Int} (hp : 0 ≤ p ∧ p < b.Pieces.l.length) (h : (Iu b ex m [p]).isEmpty = true) : p ∈ BC b ex := by
 by_cases hin : p ∈ BC b ex
 ·exact hin
 ·exfalso
  have h1 := US hv ex
  have hpe : p ∈ Gn b (BC b ex) := by
   simp only [Gn, List.mem_filter, List.contains_eq_mem, Bool.not_eq_true', decide_eq_false_iff_not]
   exact ⟨G4.mpr hp, hin⟩
  have := MP (iK ((G6 _).filter _) hpe hm h1)
  rw [this] at h; cases h
section
variable {wk wk' : Int → Int} {most : Nat} {p q : Int} (hw : wk p = wk' q)
def pc (q : Int) (z : AC) : AC := ⟨q, z.Part, z.Boy⟩
def pcW (q : Int) (w : Jd) : Jd := ⟨q, w.wk, w.many, w.able⟩
theorem qF : ∀ L : List Jd, Ft (L.map (pcW q)) = (Ft L).map (fun x => x.map (pc q))
 | [] => rfl
 | w :: L => by
  simp only [List.map_cons, Ft, qF L, List.map_flatMap, List.map_map]
  show ((Dh w.many w.able).flatMap fun c => (Ft L).map fun r => BO q w.wk c ++ r.map (pc q)) = _
  congr 1; funext c; congr 1; funext r
  simp only [Function.comp, List.map_append]
  congr 1
  simp [BO, pc]
include hw
theorem uw {pre : List AC} {z : AC} (hp : ∀ y ∈ pre, y.Piece = p) (hz : z.Piece = p) : I7 wk' most (pre.map (pc q)) (pc q z) = I7 wk most pre z := by
 have h1 : Qq (pre.map (pc q)) (pc q z) = Qq pre z := by
  simp only [Qq, List.any_map]
  rw [Bool.eq_iff_iff, List.any_eq_true, List.any_eq_true]
  constructor
  ·rintro ⟨y, hy, h⟩; exact ⟨y, hy, by simpa [pc, hp y hy, hz] using h⟩
  ·rintro ⟨y, hy, h⟩; exact ⟨y, hy, by simpa [pc, hp y hy, hz] using h⟩
 have h2 : Fe wk' (pre.map (pc q)) (wk' q) z.Boy = Fe wk pre (wk p) z.Boy := by
  simp only [Fe, List.countP_map]
  apply List.countP_congr
  intro y hy
  simp [pc, hp y hy]
 simp only [I7, h1]
 show (!Qq pre z && decide (Fe wk' (pre.map (pc q)) (wk' q) z.Boy < most)) = _
 rw [h2, hz]
theorem oc : ∀ (x pre : List AC), (∀ y ∈ pre, y.Piece = p) → (∀ y ∈ x, y.Piece = p) → Bh wk' most (pre.map (pc q)) (x.map (pc q)) = Bh wk most pre x
 | [], _, _, _ => rfl
 | z :: x, pre, h1, h2 => by
  have hz := h2 z List.mem_cons_self
  simp only [List.map_cons, Bh, uw hw h1 hz]
  have := oc x (pre ++ [z]) (fun y hy => by
   rcases List.mem_append.mp hy with hy | hy
   ·exact h1 y hy
   ·simp only [List.mem_singleton] at hy; subst hy; exact hz) (fun y hy => h2 y (List.mem_cons_of_mem _ hy))
  rw [List.map_append, List.map_singleton] at this
  rw [this]
theorem uX {L : List Jd} (hL : ∀ w ∈ L, w.wp = p) : (fill wk' most (L.map (pcW q)) []).isEmpty = (fill wk most L []).isEmpty := by
 have hall : ∀ (L : List Jd), (∀ w ∈ L, w.wp = p) → ∀ x ∈ Ft L, ∀ y ∈ x, y.Piece = p := by
  intro L
  induction L with
  | nil => intro _ x hx; simp only [Ft, List.mem_singleton] at hx; subst hx; simp
  | cons w L ih =>
   intro hL x hx y hy
   simp only [Ft, List.mem_flatMap, List.mem_map] at hx
   obtain ⟨c, _, r, hr, rfl⟩ := hx
   rcases List.mem_append.mp hy with hy | hy
   ·simp only [BO, List.mem_map] at hy
    obtain ⟨_, _, rfl⟩ := hy
    exact hL w List.mem_cons_self
   ·exact ih (fun w' h => hL w' (List.mem_cons_of_mem _ h)) r hr y hy
 rw [J7, J7, qF]
 have e : ((Ft L).map fun x => x.map (pc q)).filter (Bh wk' most []) = ((Ft L).filter (Bh wk most [])).map fun x => x.map (pc q) := by
  rw [List.filter_map]
  congr 1
  apply List.filter_congr
  intro x hx
  exact oc hw x [] (by simp) (hall L hL x hx)
 rw [e]
 cases (Ft L).filter (Bh wk most []) <;> rfl
end
theorem wY {b : BenchBook} {ex : Int → Bool} {p : Int} {x : AK} (hx : b.Pieces.ix p = some x) {pcs : Sl AK} {pts : Sl A7} {m : Nat} (hm : m ≤ 3) (hl3 : x.Parts.l.length ≤ 3) (hpc : pcs.l = [⟨x.Week, pts⟩]) (hpt : pts.l = x.Parts.l.take m) :
  (Iu ⟨b.Voice, pcs, b.Most⟩ ex 3 [0]).isEmpty = (Iu b ex m [p]).isEmpty := by
 have h0 : pcs.ix 0 = some ⟨x.Week, pts⟩ := by simp [Sl.ix, hpc]
 have hn : min 3 (GV ⟨b.Voice, pcs, b.Most⟩ 0) = min m (GV b p) := by
  simp only [GV, h0, hx, hpt, List.length_take]; omega
 have hix : ∀ k : Int, 0 ≤ k → k < (min m (GV b p) : Nat) → pts.ix k = x.Parts.ix k := by
  intro k k0 k1
  simp only [Sl.ix, if_pos k0, hpt]
  rw [List.getElem?_take_of_lt]
  omega
 have hW : EV ⟨b.Voice, pcs, b.Most⟩ ex 3 [0] = (EV b ex m [p]).map (pcW 0) := by
  simp only [EV, Fq, List.flatMap_cons, List.flatMap_nil, List.append_nil, Jy, List.map_map, hn]
  apply List.map_congr_left
  intro k hk
  obtain ⟨k0, k1⟩ := G4.mp hk
  have := hix k k0 k1
  simp only [Function.comp, J8, pcW, JA, BD, h0, hx, this]
  rfl
 unfold Iu
 rw [hW]
 refine uX (p := p) (q := 0) ?_ ?_
 ·simp only [CX, h0, hx]
 ·intro w hw
  obtain ⟨q, hq, k, _, _, rfl⟩ := Lt.mp hw
  simpa using hq
theorem ef {b : BenchBook} {ex : Int → Bool} (h1 : b.Pieces.l.length = 1) : (BC b ex).length = 0 ↔ (Iu b ex 3 [0]).isEmpty = false := by
 have hi : idx 1 = [0] := rfl
 have he : Gn b [] = [0] := by simp [Gn, h1, hi]
 unfold BC Dp
 rw [h1, hi]
 simp only [List.findSome?_cons, List.findSome?_nil, show (0 : Int).toNat = 0 from rfl, Dh, List.find?_cons, List.find?_nil, TQ, he]
 cases (Iu b ex 3 [0]).isEmpty <;> simp
end
end Go.Lf
