/- A part of the proof. -/
import Derived.Test.YtdjddljglkeefaaDoorx39
set_option linter.all false
namespace Go.Lf
open Go Go.Lf.Pl
noncomputable section
theorem ic (b : BenchBook) (ex : Int → Bool) (m : Nat) (p : Int) : (Iq b m p).Pairwise fun w w' => zF (K8 b ex w) (K8 b ex w') := by
 simp only [Iq, List.pairwise_map]
 refine (Dp _).imp ?_
 intro k k' h
 exact .inr ⟨rfl, h⟩
theorem OB (b : BenchBook) (ex : Int → Bool) (m : Nat) {ps : List Int} (hs : ps.Pairwise (· < ·)) : QL (EO b ex m ps) := by
 refine ⟨?_, ?_⟩
 ·simp only [EO, List.pairwise_map, FN]
  induction ps with
  | nil => simp
  | cons p ps ih =>
   rw [List.pairwise_cons] at hs
   rw [List.flatMap_cons, List.pairwise_append]
   refine ⟨ic b ex m p, ih hs.2, ?_⟩
   intro w hw w' hw'
   simp only [Iq, List.mem_map] at hw
   obtain ⟨k, _, rfl⟩ := hw
   obtain ⟨q, hq, hw'⟩ := List.mem_flatMap.mp hw'
   simp only [Iq, List.mem_map] at hw'
   obtain ⟨k', _, rfl⟩ := hw'
   exact .inl (hs.1 q hq)
 ·intro w hw
  simp only [EO, List.mem_map] at hw
  obtain ⟨w', _, rfl⟩ := hw
  exact L0 b ex _ _
theorem JB {b : BenchBook} {ex : Int → Bool} {m : Nat} {ps : List Int} {w : NB} : w ∈ EO b ex m ps ↔ ∃ p ∈ ps, ∃ k : Int, 0 ≤ k ∧ k < (min m (B7 b p) : Nat) ∧ w = ⟨p, k, (Is b p k).toNat, A2 b ex p k⟩ := by
 simp only [EO, FN, List.mem_map, List.mem_flatMap, Iq]
 constructor
 ·rintro ⟨w', ⟨p, hp, k, hk, rfl⟩, rfl⟩
  obtain ⟨h0, h1⟩ := D9.mp hk
  exact ⟨p, hp, k, h0, h1, rfl⟩
 ·rintro ⟨p, hp, k, h0, h1, rfl⟩
  exact ⟨⟨⟨p, k⟩, Is b p k, 0⟩, ⟨p, hp, k, D9.mpr ⟨h0, h1⟩, rfl⟩, rfl⟩
theorem tP {wk : Int → Int} {most : Nat} {x z : List AB} (hs : List.Sublist z x) (h : rest wk most x = true) : rest wk most z = true := by
 simp only [rest, List.all_eq_true, decide_eq_true_eq] at h ⊢
 intro s hz
 exact Nat.le_trans hs.countP_le (h s (hs.subset hz))
theorem iE {b : BenchBook} {ex : Int → Bool} {m m' : Nat} {ps : List Int} (hs : ps.Pairwise (· < ·)) {p : Int} (hp : p ∈ ps) (hm : m' ≤ m) {x : List AB} (hx : x ∈ FD b ex m ps) :
  x.filter (fun s => s.Piece == p && decide (s.Part < (m' : Int))) ∈ FD b ex m' [p] := by
 unfold FD at hx ⊢
 rw [kz _ _ (OB b ex m hs)] at hx
 rw [kz _ _ (OB b ex m' (by simp))]
 obtain ⟨hf, hc, hr⟩ := hx
 have hsub : List.Sublist (x.filter fun s => s.Piece == p && decide (s.Part < (m' : Int))) x := List.filter_sublist
 refine ⟨⟨?_, hf.ord.sublist hsub, ?_⟩, hc.sublist hsub, tP hsub hr⟩
 ·intro s hsm
  obtain ⟨h1, h2⟩ := List.mem_filter.mp hsm
  simp only [Bool.and_eq_true, beq_iff_eq, decide_eq_true_eq] at h2
  obtain ⟨w, hw, e1, e2, e3⟩ := hf.mem s h1
  obtain ⟨q, hq, k, k0, k1, rfl⟩ := JB.mp hw
  simp only at e1 e2 e3
  refine ⟨⟨q, k, (Is b q k).toNat, A2 b ex q k⟩, JB.mpr ⟨q, by simp [e1, h2.1], k, k0, ?_, rfl⟩, e1, e2, e3⟩
  omega
 ·intro w hw
  obtain ⟨q, hq, k, k0, k1, rfl⟩ := JB.mp hw
  simp only [List.mem_singleton] at hq
  subst hq
  have hw2 : (⟨q, k, (Is b q k).toNat, A2 b ex q k⟩ : NB) ∈ EO b ex m ps := JB.mpr ⟨q, hp, k, k0, by omega, rfl⟩
  have h1 := hf.cnt _ hw2
  simp only at h1 ⊢
  rw [← h1, List.countP_filter]
  apply List.countP_congr
  intro s _
  simp only [Bool.and_eq_true, beq_iff_eq, decide_eq_true_eq]
  constructor
  ·exact fun h => h.1
  ·intro h; exact ⟨h, h.1, by omega⟩
theorem NC {α : Type} {l : List α} {a : α} (h : a ∈ l) : l.isEmpty = false := by cases l with
 | nil => cases h
 | cons _ _ => rfl
theorem np {b : BenchBook} {ex : Int → Bool} {m m' : Nat} {p : Int} (hm : m' ≤ m) (h : (FD b ex m' [p]).isEmpty = true) : (FD b ex m [p]).isEmpty = true := by
 cases hA : FD b ex m [p] with
 | nil => rfl
 | cons x L =>
  have := NC (iE (b := b) (ex := ex) (m := m) (m' := m') (ps := [p]) (p := p) (by simp) (by simp) hm (x := x) (by rw [hA]; simp))
  rw [this] at h; cases h
theorem jj {b : BenchBook} (hv : C6 b) {ex : Int → Bool} {m : Nat} (hm : m ≤ 3) {p : Int} (hp : 0 ≤ p ∧ p < b.Pieces.l.length) (h : (FD b ex m [p]).isEmpty = true) : p ∈ A5 b ex := by
 by_cases hin : p ∈ A5 b ex
 ·exact hin
 ·exfalso
  have h1 := JA hv ex
  have hpe : p ∈ DT b (A5 b ex) := by
   simp only [DT, List.mem_filter, List.contains_eq_mem, Bool.not_eq_true', decide_eq_false_iff_not]
   exact ⟨D9.mpr hp, hin⟩
  have := NC (iE ((Dp _).filter _) hpe hm h1)
  rw [this] at h; cases h
section
variable {wk wk' : Int → Int} {most : Nat} {p q : Int} (hw : wk p = wk' q)
def pc (q : Int) (z : AB) : AB := ⟨q, z.Part, z.Boy⟩
def zk (q : Int) (w : NB) : NB := ⟨q, w.wk, w.many, w.able⟩
theorem pe : ∀ L : List NB, GE (L.map (zk q)) = (GE L).map (fun x => x.map (pc q))
 | [] => rfl
 | w :: L => by
  simp only [List.map_cons, GE, pe L, List.map_flatMap, List.map_map]
  show ((Di w.many w.able).flatMap fun c => (GE L).map fun r => As q w.wk c ++ r.map (pc q)) = _
  congr 1; funext c; congr 1; funext r
  simp only [Function.comp, List.map_append]
  congr 1
  simp [As, pc]
include hw
theorem vN {pre : List AB} {z : AB} (hp : ∀ y ∈ pre, y.Piece = p) (hz : z.Piece = p) : HT wk' most (pre.map (pc q)) (pc q z) = HT wk most pre z := by
 have h1 : Qf (pre.map (pc q)) (pc q z) = Qf pre z := by
  simp only [Qf, List.any_map]
  rw [Bool.eq_iff_iff, List.any_eq_true, List.any_eq_true]
  constructor
  ·rintro ⟨y, hy, h⟩; exact ⟨y, hy, by simpa [pc, hp y hy, hz] using h⟩
  ·rintro ⟨y, hy, h⟩; exact ⟨y, hy, by simpa [pc, hp y hy, hz] using h⟩
 have h2 : DJ wk' (pre.map (pc q)) (wk' q) z.Boy = DJ wk pre (wk p) z.Boy := by
  simp only [DJ, List.countP_map]
  apply List.countP_congr
  intro y hy
  simp [pc, hp y hy]
 simp only [HT, h1]
 show (!Qf pre z && decide (DJ wk' (pre.map (pc q)) (wk' q) z.Boy < most)) = _
 rw [h2, hz]
theorem pn : ∀ (x pre : List AB), (∀ y ∈ pre, y.Piece = p) → (∀ y ∈ x, y.Piece = p) → BW wk' most (pre.map (pc q)) (x.map (pc q)) = BW wk most pre x
 | [], _, _, _ => rfl
 | z :: x, pre, h1, h2 => by
  have hz := h2 z List.mem_cons_self
  simp only [List.map_cons, BW, vN hw h1 hz]
  have := pn x (pre ++ [z]) (fun y hy => by
   rcases List.mem_append.mp hy with hy | hy
   ·exact h1 y hy
   ·simp only [List.mem_singleton] at hy; subst hy; exact hz) (fun y hy => h2 y (List.mem_cons_of_mem _ hy))
  rw [List.map_append, List.map_singleton] at this
  rw [this]
theorem vC {L : List NB} (hL : ∀ w ∈ L, w.wp = p) : (fill wk' most (L.map (zk q)) []).isEmpty = (fill wk most L []).isEmpty := by
 have hall : ∀ (L : List NB), (∀ w ∈ L, w.wp = p) → ∀ x ∈ GE L, ∀ y ∈ x, y.Piece = p := by
  intro L
  induction L with
  | nil => intro _ x hx; simp only [GE, List.mem_singleton] at hx; subst hx; simp
  | cons w L ih =>
   intro hL x hx y hy
   simp only [GE, List.mem_flatMap, List.mem_map] at hx
   obtain ⟨c, _, r, hr, rfl⟩ := hx
   rcases List.mem_append.mp hy with hy | hy
   ·simp only [As, List.mem_map] at hy
    obtain ⟨_, _, rfl⟩ := hy
    exact hL w List.mem_cons_self
   ·exact ih (fun w' h => hL w' (List.mem_cons_of_mem _ h)) r hr y hy
 rw [Jq, Jq, pe]
 have e : ((GE L).map fun x => x.map (pc q)).filter (BW wk' most []) = ((GE L).filter (BW wk most [])).map fun x => x.map (pc q) := by
  rw [List.filter_map]
  congr 1
  apply List.filter_congr
  intro x hx
  exact pn hw x [] (by simp) (hall L hL x hx)
 rw [e]
 cases (GE L).filter (BW wk most []) <;> rfl
end
theorem lU {b : BenchBook} {ex : Int → Bool} {p : Int} {x : AE} (hx : b.Pieces.ix p = some x) {pcs : Sl AE} {pts : Sl Aj} {m : Nat} (hm : m ≤ 3) (hl3 : x.Parts.l.length ≤ 3) (hpc : pcs.l = [⟨x.Week, pts⟩]) (hpt : pts.l = x.Parts.l.take m) :
  (FD ⟨b.Voice, pcs, b.Most⟩ ex 3 [0]).isEmpty = (FD b ex m [p]).isEmpty := by
 have h0 : pcs.ix 0 = some ⟨x.Week, pts⟩ := by simp [Sl.ix, hpc]
 have hn : min 3 (B7 ⟨b.Voice, pcs, b.Most⟩ 0) = min m (B7 b p) := by
  simp only [B7, h0, hx, hpt, List.length_take]; omega
 have hix : ∀ k : Int, 0 ≤ k → k < (min m (B7 b p) : Nat) → pts.ix k = x.Parts.ix k := by
  intro k k0 k1
  simp only [Sl.ix, if_pos k0, hpt]
  rw [List.getElem?_take_of_lt]
  omega
 have hW : EO ⟨b.Voice, pcs, b.Most⟩ ex 3 [0] = (EO b ex m [p]).map (zk 0) := by
  simp only [EO, FN, List.flatMap_cons, List.flatMap_nil, List.append_nil, Iq, List.map_map, hn]
  apply List.map_congr_left
  intro k hk
  obtain ⟨k0, k1⟩ := D9.mp hk
  have := hix k k0 k1
  simp only [Function.comp, K8, zk, Is, A2, h0, hx, this]
  rfl
 unfold FD
 rw [hW]
 refine vC (p := p) (q := 0) ?_ ?_
 ·simp only [A0, h0, hx]
 ·intro w hw
  obtain ⟨q, hq, k, _, _, rfl⟩ := JB.mp hw
  simpa using hq
theorem eD {b : BenchBook} {ex : Int → Bool} (h1 : b.Pieces.l.length = 1) : (A5 b ex).length = 0 ↔ (FD b ex 3 [0]).isEmpty = false := by
 have hi : idx 1 = [0] := rfl
 have he : DT b [] = [0] := by simp [DT, h1, hi]
 unfold A5 Dm
 rw [h1, hi]
 simp only [List.findSome?_cons, List.findSome?_nil, show (0 : Int).toNat = 0 from rfl, Di, List.find?_cons, List.find?_nil, PY, he]
 cases (FD b ex 3 [0]).isEmpty <;> simp
end
end Go.Lf
namespace Go.Lf
open Go Go.Lf.Pl
section
variable {σ τ ρ α : Type} {f : σ → Option (σ ⊕ ρ)}
theorem wZ (mk : τ → Int → σ) (xs : List α) (Inv : List α → τ → Prop) (Q : ρ → Prop) {x0 : σ} {t0 : τ} (hn : xs.length < 4611686018427387904) (h0 : x0 = mk t0 0) (hi : Inv [] t0)
  (hs : ∀ pre a post t, xs = pre ++ a :: post → Inv pre t → W ((pre.length : Int) + 1) = (pre.length : Int) + 1 → (∃ t', Inv (pre ++ [a]) t' ∧ f (mk t pre.length) = some (.inl (mk t' ((pre.length : Int) + 1)))) ∨ ∃ r, Q r ∧ f (mk t pre.length) = some (.inr r))
  (hf : ∀ t, Inv xs t → ∃ r, Q r ∧ f (mk t xs.length) = some (.inr r)) : ∃ r, Q r ∧ Loop f x0 = some r := by
 subst h0
 have main : ∀ post pre t, xs = pre ++ post → Inv pre t → ∃ r, Q r ∧ Loop f (mk t pre.length) = some r := by
  intro post
  induction post with
  | nil =>
   intro pre t h hi
   simp only [List.append_nil] at h
   subst h
   obtain ⟨r, hq, he⟩ := hf t hi
   exact ⟨r, hq, Loop.done he⟩
  | cons a post ih =>
   intro pre t h hi
   have hl : pre.length < 4611686018427387904 := by rw [h] at hn; simp at hn; omega
   rcases hs pre a post t h hi (Jc hl) with ⟨t', hi', he⟩ | ⟨r, hq, he⟩
   ·rw [Loop.step he]
    have := ih (pre ++ [a]) t' (by rw [h]; simp) hi'
    simpa using this
   ·exact ⟨r, hq, Loop.done he⟩
 exact main xs [] t0 rfl hi
end
end Go.Lf
