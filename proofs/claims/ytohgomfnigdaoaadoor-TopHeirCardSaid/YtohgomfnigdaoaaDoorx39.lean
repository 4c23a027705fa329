/- A part of the proof. -/
import Derived.Test.YtohgomfnigdaoaaDoorx38
set_option linter.all false
namespace Go.Lf
open Go Go.Lf.Pl
noncomputable section
theorem iJ (b : BenchBook) (ex : Int → Bool) (m : Nat) (p : Int) : (KC b m p).Pairwise fun w w' => yt (LU b ex w) (LU b ex w') := by
 simp only [KC, List.pairwise_map]
 refine (Gq _).imp ?_
 intro k k' h
 exact .inr ⟨rfl, h⟩
theorem OU (b : BenchBook) (ex : Int → Bool) (m : Nat) {ps : List Int} (hs : ps.Pairwise (· < ·)) : Qb (HO b ex m ps) := by
 refine ⟨?_, ?_⟩
 ·simp only [HO, List.pairwise_map, GR]
  induction ps with
  | nil => simp
  | cons p ps ih =>
   rw [List.pairwise_cons] at hs
   rw [List.flatMap_cons, List.pairwise_append]
   refine ⟨iJ b ex m p, ih hs.2, ?_⟩
   intro w hw w' hw'
   simp only [KC, List.mem_map] at hw
   obtain ⟨k, _, rfl⟩ := hw
   obtain ⟨q, hq, hw'⟩ := List.mem_flatMap.mp hw'
   simp only [KC, List.mem_map] at hw'
   obtain ⟨k', _, rfl⟩ := hw'
   exact .inl (hs.1 q hq)
 ·intro w hw
  simp only [HO, List.mem_map] at hw
  obtain ⟨w', _, rfl⟩ := hw
  exact X3 b ex _ _
theorem LQ {b : BenchBook} {ex : Int → Bool} {m : Nat} {ps : List Int} {w : P4} : w ∈ HO b ex m ps ↔ ∃ p ∈ ps, ∃ k : Int, 0 ≤ k ∧ k < (min m (Gs b p) : Nat) ∧ w = ⟨p, k, (LL b p k).toNat, BA b ex p k⟩ := by
 simp only [HO, GR, List.mem_map, List.mem_flatMap, KC]
 constructor
 ·rintro ⟨w', ⟨p, hp, k, hk, rfl⟩, rfl⟩
  obtain ⟨h0, h1⟩ := Hl.mp hk
  exact ⟨p, hp, k, h0, h1, rfl⟩
 ·rintro ⟨p, hp, k, h0, h1, rfl⟩
  exact ⟨⟨⟨p, k⟩, LL b p k, 0⟩, ⟨p, hp, k, Hl.mpr ⟨h0, h1⟩, rfl⟩, rfl⟩
theorem qe {wk : Int → Int} {most : Nat} {x z : List AC} (hs : List.Sublist z x) (h : rest wk most x = true) : rest wk most z = true := by
 simp only [rest, List.all_eq_true, decide_eq_true_eq] at h ⊢
 intro s hz
 exact Nat.le_trans hs.countP_le (h s (hs.subset hz))
theorem fq {b : BenchBook} {ex : Int → Bool} {m m' : Nat} {ps : List Int} (hs : ps.Pairwise (· < ·)) {p : Int} (hp : p ∈ ps) (hm : m' ≤ m) {x : List AC} (hx : x ∈ Io b ex m ps) :
  x.filter (fun s => s.Piece == p && decide (s.Part < (m' : Int))) ∈ Io b ex m' [p] := by
 unfold Io at hx ⊢
 rw [lK _ _ (OU b ex m hs)] at hx
 rw [lK _ _ (OU b ex m' (by simp))]
 obtain ⟨hf, hc, hr⟩ := hx
 have hsub : List.Sublist (x.filter fun s => s.Piece == p && decide (s.Part < (m' : Int))) x := List.filter_sublist
 refine ⟨⟨?_, hf.ord.sublist hsub, ?_⟩, hc.sublist hsub, qe hsub hr⟩
 ·intro s hsm
  obtain ⟨h1, h2⟩ := List.mem_filter.mp hsm
  simp only [Bool.and_eq_true, beq_iff_eq, decide_eq_true_eq] at h2
  obtain ⟨w, hw, e1, e2, e3⟩ := hf.mem s h1
  obtain ⟨q, hq, k, k0, k1, rfl⟩ := LQ.mp hw
  simp only at e1 e2 e3
  refine ⟨⟨q, k, (LL b q k).toNat, BA b ex q k⟩, LQ.mpr ⟨q, by simp [e1, h2.1], k, k0, ?_, rfl⟩, e1, e2, e3⟩
  omega
 ·intro w hw
  obtain ⟨q, hq, k, k0, k1, rfl⟩ := LQ.mp hw
  simp only [List.mem_singleton] at hq
  subst hq
  have hw2 : (⟨q, k, (LL b q k).toNat, BA b ex q k⟩ : P4) ∈ HO b ex m ps := LQ.mpr ⟨q, hp, k, k0, by omega, rfl⟩
  have h1 := hf.cnt _ hw2
  simp only at h1 ⊢
  rw [← h1, List.countP_filter]
  apply List.countP_congr
  intro s _
  simp only [Bool.and_eq_true, beq_iff_eq, decide_eq_true_eq]
  constructor
  ·exact fun h => h.1
  ·intro h; exact ⟨h, h.1, by omega⟩
theorem RE {α : Type} {l : List α} {a : α} (h : a ∈ l) : l.isEmpty = false := by cases l with
 | nil => cases h
 | cons _ _ => rfl
theorem uR {b : BenchBook} {ex : Int → Bool} {m m' : Nat} {p : Int} (hm : m' ≤ m) (h : (Io b ex m' [p]).isEmpty = true) : (Io b ex m [p]).isEmpty = true := by
 cases hA : Io b ex m [p] with
 | nil => rfl
 | cons x L =>
  have := RE (fq (b := b) (ex := ex) (m := m) (m' := m') (ps := [p]) (p := p) (by simp) (by simp) hm (x := x) (by rw [hA]; simp))
  rw [this] at h; cases h
theorem uF {b : BenchBook} (hv : F5 b) {ex : Int → Bool} {m : Nat} (hm : m ≤ 3) {p : Int} (hp : 0 ≤ p ∧ p < b.Pieces.l.length) (h : (Io b ex m [p]).isEmpty = true) : p ∈ A7 b ex := by
 by_cases hin : p ∈ A7 b ex
 ·exact hin
 ·exfalso
  have h1 := TC hv ex
  have hpe : p ∈ GM b (A7 b ex) := by
   simp only [GM, List.mem_filter, List.contains_eq_mem, Bool.not_eq_true', decide_eq_false_iff_not]
   exact ⟨Hl.mpr hp, hin⟩
  have := RE (fq ((Gq _).filter _) hpe hm h1)
  rw [this] at h; cases h
section
variable {wk wk' : Int → Int} {most : Nat} {p q : Int} (hw : wk p = wk' q)
def pc (q : Int) (z : AC) : AC := ⟨q, z.Part, z.Boy⟩
def xm (q : Int) (w : P4) : P4 := ⟨q, w.wk, w.many, w.able⟩
theorem nW : ∀ L : List P4, G3 (L.map (xm q)) = (G3 L).map (fun x => x.map (pc q))
 | [] => rfl
 | w :: L => by
  simp only [List.map_cons, G3, nW L, List.map_flatMap, List.map_map]
  show ((DW w.many w.able).flatMap fun c => (G3 L).map fun r => BG q w.wk c ++ r.map (pc q)) = _
  congr 1; funext c; congr 1; funext r
  simp only [Function.comp, List.map_append]
  congr 1
  simp [BG, pc]
include hw
theorem tM {pre : List AC} {z : AC} (hp : ∀ y ∈ pre, y.Piece = p) (hz : z.Piece = p) : KB wk' most (pre.map (pc q)) (pc q z) = KB wk most pre z := by
 have h1 : Tv (pre.map (pc q)) (pc q z) = Tv pre z := by
  simp only [Tv, List.any_map]
  rw [Bool.eq_iff_iff, List.any_eq_true, List.any_eq_true]
  constructor
  ·rintro ⟨y, hy, h⟩; exact ⟨y, hy, by simpa [pc, hp y hy, hz] using h⟩
  ·rintro ⟨y, hy, h⟩; exact ⟨y, hy, by simpa [pc, hp y hy, hz] using h⟩
 have h2 : Ft wk' (pre.map (pc q)) (wk' q) z.Boy = Ft wk pre (wk p) z.Boy := by
  simp only [Ft, List.countP_map]
  apply List.countP_congr
  intro y hy
  simp [pc, hp y hy]
 simp only [KB, h1]
 show (!Tv pre z && decide (Ft wk' (pre.map (pc q)) (wk' q) z.Boy < most)) = _
 rw [h2, hz]
theorem pT : ∀ (x pre : List AC), (∀ y ∈ pre, y.Piece = p) → (∀ y ∈ x, y.Piece = p) → B1 wk' most (pre.map (pc q)) (x.map (pc q)) = B1 wk most pre x
 | [], _, _, _ => rfl
 | z :: x, pre, h1, h2 => by
  have hz := h2 z List.mem_cons_self
  simp only [List.map_cons, B1, tM hw h1 hz]
  have := pT x (pre ++ [z]) (fun y hy => by
   rcases List.mem_append.mp hy with hy | hy
   ·exact h1 y hy
   ·simp only [List.mem_singleton] at hy; subst hy; exact hz) (fun y hy => h2 y (List.mem_cons_of_mem _ hy))
  rw [List.map_append, List.map_singleton] at this
  rw [this]
theorem uA {L : List P4} (hL : ∀ w ∈ L, w.wp = p) : (fill wk' most (L.map (xm q)) []).isEmpty = (fill wk most L []).isEmpty := by
 have hall : ∀ (L : List P4), (∀ w ∈ L, w.wp = p) → ∀ x ∈ G3 L, ∀ y ∈ x, y.Piece = p := by
  intro L
  induction L with
  | nil => intro _ x hx; simp only [G3, List.mem_singleton] at hx; subst hx; simp
  | cons w L ih =>
   intro hL x hx y hy
   simp only [G3, List.mem_flatMap, List.mem_map] at hx
   obtain ⟨c, _, r, hr, rfl⟩ := hx
   rcases List.mem_append.mp hy with hy | hy
   ·simp only [BG, List.mem_map] at hy
    obtain ⟨_, _, rfl⟩ := hy
    exact hL w List.mem_cons_self
   ·exact ih (fun w' h => hL w' (List.mem_cons_of_mem _ h)) r hr y hy
 rw [KZ, KZ, nW]
 have e : ((G3 L).map fun x => x.map (pc q)).filter (B1 wk' most []) = ((G3 L).filter (B1 wk most [])).map fun x => x.map (pc q) := by
  rw [List.filter_map]
  congr 1
  apply List.filter_congr
  intro x hx
  exact pT hw x [] (by simp) (hall L hL x hx)
 rw [e]
 cases (G3 L).filter (B1 wk most []) <;> rfl
end
theorem vi {b : BenchBook} {ex : Int → Bool} {p : Int} {x : AI} (hx : b.Pieces.ix p = some x) {pcs : Sl AI} {pts : Sl A4} {m : Nat} (hm : m ≤ 3) (hl3 : x.Parts.l.length ≤ 3) (hpc : pcs.l = [⟨x.Week, pts⟩]) (hpt : pts.l = x.Parts.l.take m) :
  (Io ⟨b.Voice, pcs, b.Most⟩ ex 3 [0]).isEmpty = (Io b ex m [p]).isEmpty := by
 have h0 : pcs.ix 0 = some ⟨x.Week, pts⟩ := by simp [Sl.ix, hpc]
 have hn : min 3 (Gs ⟨b.Voice, pcs, b.Most⟩ 0) = min m (Gs b p) := by
  simp only [Gs, h0, hx, hpt, List.length_take]; omega
 have hix : ∀ k : Int, 0 ≤ k → k < (min m (Gs b p) : Nat) → pts.ix k = x.Parts.ix k := by
  intro k k0 k1
  simp only [Sl.ix, if_pos k0, hpt]
  rw [List.getElem?_take_of_lt]
  omega
 have hW : HO ⟨b.Voice, pcs, b.Most⟩ ex 3 [0] = (HO b ex m [p]).map (xm 0) := by
  simp only [HO, GR, List.flatMap_cons, List.flatMap_nil, List.append_nil, KC, List.map_map, hn]
  apply List.map_congr_left
  intro k hk
  obtain ⟨k0, k1⟩ := Hl.mp hk
  have := hix k k0 k1
  simp only [Function.comp, LU, xm, LL, BA, h0, hx, this]
  rfl
 unfold Io
 rw [hW]
 refine uA (p := p) (q := 0) ?_ ?_
 ·simp only [CN, h0, hx]
 ·intro w hw
  obtain ⟨q, hq, k, _, _, rfl⟩ := LQ.mp hw
  simpa using hq
theorem fA {b : BenchBook} {ex : Int → Bool} (h1 : b.Pieces.l.length = 1) : (A7 b ex).length = 0 ↔ (Io b ex 3 [0]).isEmpty = false := by
 have hi : yX 1 = [0] := rfl
 have he : GM b [] = [0] := by simp [GM, h1, hi]
 unfold A7 Di
 rw [h1, hi]
 simp only [List.findSome?_cons, List.findSome?_nil, show (0 : Int).toNat = 0 from rfl, DW, List.find?_cons, List.find?_nil, S9, he]
 cases (Io b ex 3 [0]).isEmpty <;> simp
end
end Go.Lf
