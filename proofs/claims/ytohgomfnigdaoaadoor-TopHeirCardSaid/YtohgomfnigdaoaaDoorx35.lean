/- A part of the proof. -/
import Derived.Test.YtohgomfnigdaoaaDoorx34
set_option linter.all false
namespace Go.Lf
open Go Go.Lf.Pl
noncomputable section
def tD (b : BenchBook) (p k : Int) : Bool := BI b p && (match b.Pieces.ix p with | some x => AO k 0 (W (x.Parts.len - 1)) | none => false)
theorem QN {b : BenchBook} (hf : oc b) (p : Int) : BI b p = true ↔ 0 ≤ p ∧ p < b.Pieces.l.length := by
 have := hf.pieces
 simp only [BI, AO, Sl.len_l, Bool.and_eq_true, decide_eq_true_eq]
 rw [VA (by omega) (by omega)]; omega
section
variable {b : BenchBook} (hf : oc b)
include hf
theorem vv {p k : Int} {x : AI} (hx : b.Pieces.ix p = some x) : AO k 0 (W (x.Parts.len - 1)) = true ↔ 0 ≤ k ∧ k < x.Parts.l.length := by
 have := hf.parts x (Je hx).2.2
 simp only [AO, Sl.len_l, Bool.and_eq_true, decide_eq_true_eq]
 rw [VA (by omega) (by omega)]; omega
theorem fU (p k : Int) : ∃ l : Sl Int, GL b p k = some (l, BC b (tD b p k)) ∧ l.l = if BC b (tD b p k) = 0 then BA b Ba p k else [] := by
 have hq : (if (BI b p) then Option.bind (b.Pieces.ix p) fun v3 => Option.bind (Be b (AO k 0 (W (v3.Parts.len - 1)))) fun v5 => some (v5.1, v5.2) else Option.bind (Be b false) fun v7 => some (v7.1, v7.2) : Option (AB × Int)) = Be b (tD b p k) := by
  have hs : ∀ o : Option (AB × Int), (o.bind fun v => some (v.1, v.2)) = o := by intro o; cases o <;> rfl
  simp only [hs, tD]
  by_cases h : BI b p = true
  ·obtain ⟨h1, h2⟩ := (QN hf p).mp h
   obtain ⟨x, hx, _⟩ := oC h1 h2
   simp [h, hx]
  ·simp [h]
 obtain ⟨bk, he, h2⟩ := Ez hf (tD b p k)
 simp only [GL, hq, he, Option.bind_some]
 by_cases h0 : BC b (tD b p k) = 0
 ·obtain ⟨es, rfl, hes⟩ := h2 h0
  simp only [if_pos h0, h0, decide_true, if_true, Sl.sub3_all, Option.bind_some]
  exact ⟨_, rfl, by rw [Sl.l_filled]; exact jd hes p k⟩
 ·simp only [if_neg h0, decide_eq_false h0, Bool.false_eq_true, if_false]
  exact ⟨Sl.nil, rfl, rfl⟩
end
def qY (b : BenchBook) (p : Int) : Int × Int := match (yX (Gs b p)).find? (fun k => (Io b Ba (k + 1).toNat [p]).isEmpty) with
 | some k => (k, 0)
 | none => (0, 4)
section
variable {b : BenchBook} (hf : oc b)
include hf
theorem ch (p : Int) : Lc b p = some (if BC b (BI b p) = 0 then qY b p else (0, BC b (BI b p))) := by
 obtain ⟨bk, he, h2⟩ := Ez hf (BI b p)
 simp only [Lc, he, Option.bind_some]
 by_cases h0 : BC b (BI b p) = 0
 ·obtain ⟨hv, hq, hfi⟩ := HE hf h0
  obtain ⟨es, rfl, hes⟩ := h2 h0
  obtain ⟨h1, h3⟩ := (QN hf p).mp hq
  obtain ⟨x, hx, hxm⟩ := oC h1 h3
  have hnp : Gs b p = x.Parts.l.length := by simp [Gs, hx]
  have hx3 := hv.parts x hxm
  have hps : pr b [p] := ⟨by simp, by intro q hq; simp at hq; subst hq; exact ⟨h1, h3⟩⟩
  have e : Loop (Fo p (⟨b, Mp.mk es⟩, 0) x) 0 = some (((yX (Gs b p)).findSome? fun k => if (Io b Ba (k + 1).toNat [p]).isEmpty then some (.inl (k, 0) : (Int × Int) ⊕ Unit) else none).getD (.inr ())) := by
   refine Loop.find (fun i => i) (yX (Gs b p)) _ (by rw [An]; omega) rfl ?_ ?_
   ·intro pre k post hpre _ hW
    obtain ⟨hk, hlt0⟩ := P0 hpre
    subst hk
    have hlt : (pre.length : Int) < x.Parts.len := by rw [Sl.len_l, ← hnp]; exact hlt0
    have hw := Vl hv (Mp.mk es) (a1 := Sl.cold [p]) (by rw [Sl.l_cold]; exact hps) (m := (pre.length : Int) + 1) (by omega)
    rw [Sl.l_cold] at hw
    have hfst := cI hv hes (m := ((pre.length : Int) + 1).toNat) hps
    simp only [Fo, decide_eq_true hlt, if_true, hW, hw, Option.bind_some, hfst]
    have hnb : Io b (fun _ => false) ((pre.length : Int) + 1).toNat [p] = Io b Ba ((pre.length : Int) + 1).toNat [p] := rfl
    rw [hnb]
    cases hA : Io b Ba ((pre.length : Int) + 1).toNat [p] with
    | nil => simp [JX]
    | cons y L => simp [JX]
   ·intro _
    have hlt : ¬ ((yX (Gs b p)).length : Int) < x.Parts.len := by rw [Sl.len_l, An, hnp]; omega
    simp only [Fo, decide_eq_false hlt, Bool.false_eq_true, if_false]
  simp only [if_pos h0, h0, decide_true, if_true, hx, Option.bind_some, e, qY]
  generalize yX (Gs b p) = L
  induction L with
  | nil => rfl
  | cons k L ih =>
   simp only [List.findSome?_cons, List.find?_cons]
   by_cases hc : (Io b Ba (k + 1).toNat [p]).isEmpty = true
   ·simp [hc]
   ·simp only [hc, Bool.false_eq_true, if_false]; exact ih
 ·simp [h0]
end
end
end Go.Lf
namespace Go.Lf
open Go Go.Lf.Pl
noncomputable section
def rI (q : Int → Bool) : Option Int → List Int → Bool
 | _, [] => true
 | prev, p :: r => q p && (match prev with | none => true | some x => decide (x < p)) && rI q (some p) r
def xQ (b : BenchBook) (ps : List Int) : Bool := rI (BI b) none ps
theorem t8 (pre : List Int) : pre = [] ∨ ∃ q x, pre = q ++ [x] ∧ pre.getLast? = some x := by
 rcases List.eq_nil_or_concat pre with h | ⟨q, x, h⟩
 ·exact .inl h
 ·rw [List.concat_eq_append] at h; exact .inr ⟨q, x, h, by rw [h]; simp⟩
theorem hO (n : Int) (a : Sl Int) (hn : a.l.length < 4611686018427387904) : D3 a n = some (rI (fun p => CX p 0 (W (n - 1))) none a.l) := by
 have main : ∀ post pre, a.l = pre ++ post → ∃ r, Loop (CL a n) (pre.length : Int) = some r ∧ (match r with | .inl w => w | .inr _ => true) = rI (fun p => CX p 0 (W (n - 1))) pre.getLast? post := by
  intro post
  induction post with
  | nil =>
   intro pre h
   have hlt : ¬ (pre.length : Int) < a.len := by rw [Sl.len_l, h]; simp
   exact ⟨.inr (), Loop.done (by simp [CL, hlt]), rfl⟩
  | cons p post ih =>
   intro pre h
   have hlt : (pre.length : Int) < a.len := by rw [Sl.len_l, h]; simp; omega
   have hpl : pre.length < 4611686018427387904 := by rw [h] at hn; simp at hn; omega
   have hW : W ((pre.length : Int) + 1) = (pre.length : Int) + 1 := QB hpl
   have hg : CL a n (pre.length : Int) = some (if (CX p 0 (W (n - 1)) && (match pre.getLast? with | none => true | some x => decide (x < p))) then .inl ((pre.length : Int) + 1) else .inr (.inl false)) := by
    simp only [CL, decide_eq_true hlt, if_true, Sl.ix_at h, Option.bind_some, hW]
    rcases t8 pre with rfl | ⟨q, x, hq, hl⟩
    ·cases CX p 0 (W (n - 1)) <;> simp
    ·have h0 : (0 : Int) < (pre.length : Int) := by rw [hq, List.length_append, List.length_singleton]; omega
     have h0n : 0 < pre.length := by omega
     have hi : W ((pre.length : Int) - 1) = (q.length : Int) := by rw [VA (by omega) (by omega), hq]; simp
     have hx : a.ix (q.length : Int) = some x := Sl.ix_at (post := p :: post) (by rw [h, hq]; simp)
     rw [hl]
     by_cases hc : x < p
     ·have hc' : ¬ p ≤ x := by omega
      cases CX p 0 (W (n - 1)) <;> simp [h0, h0n, hi, hx, hc, hc']
     ·have hc' : p ≤ x := by omega
      cases CX p 0 (W (n - 1)) <;> simp [h0, h0n, hi, hx, hc, hc']
   simp only [rI]
   by_cases hc : (CX p 0 (W (n - 1)) && (match pre.getLast? with | none => true | some x => decide (x < p))) = true
   ·rw [if_pos hc] at hg
    obtain ⟨r, h1, h2⟩ := ih (pre ++ [p]) (by rw [h]; simp)
    refine ⟨r, by rw [Loop.step hg]; simpa using h1, ?_⟩
    rw [h2, hc]; simp
   ·rw [if_neg hc] at hg
    have hc' : (CX p 0 (W (n - 1)) && (match pre.getLast? with | none => true | some x => decide (x < p))) = false := by simpa using hc
    exact ⟨_, Loop.done hg, by rw [hc']; simp⟩
 obtain ⟨r, h1, h2⟩ := main a.l [] rfl
 have h1' : Loop (CL a n) 0 = some r := h1
 simp only [D3, h1', Option.bind_some]
 cases r with
 | inl w => exact congrArg some h2
 | inr u => exact congrArg some h2
theorem XK (q : Int → Bool) : ∀ (l : List Int) (prev : Option Int), rI q prev l = true → l.Pairwise (· < ·) ∧ (∀ p ∈ l, q p = true) ∧ ∀ x, prev = some x → ∀ p ∈ l, x < p
 | [], _, _ => by simp
 | p :: l, prev, h => by
  simp only [rI, Bool.and_eq_true] at h
  obtain ⟨⟨h1, h2⟩, h3⟩ := h
  obtain ⟨i1, i2, i3⟩ := XK q l (some p) h3
  refine ⟨List.pairwise_cons.mpr ⟨i3 p rfl, i1⟩, ?_, ?_⟩
  ·intro y hy
   rcases List.mem_cons.mp hy with rfl | hy
   ·exact h1
   ·exact i2 y hy
  ·rintro x rfl y hy
   simp only [decide_eq_true_eq] at h2
   rcases List.mem_cons.mp hy with rfl | hy
   ·exact h2
   ·have := i3 p rfl y hy; omega
theorem Z7 : ∀ (l : List Int) (a n : Int), l.Pairwise (· < ·) → (∀ p ∈ l, a ≤ p ∧ p < n) → a ≤ n → (l.length : Int) ≤ n - a
 | [], a, n, _, _, h => by simp; omega
 | p :: l, a, n, hs, hr, h => by
  have h1 := List.pairwise_cons.mp hs
  have hp := hr p List.mem_cons_self
  have := Z7 l (p + 1) n h1.2 (fun q hq => ⟨by have := h1.1 q hq; omega, (hr q (List.mem_cons_of_mem _ hq)).2⟩) (by omega)
  simp only [List.length_cons]; omega
theorem wx {b : BenchBook} (hv : F5 b) {ps : List Int} (h : xQ b ps = true) : pr b ps ∧ ps.Pairwise (· < ·) := by
 obtain ⟨h1, h2, _⟩ := XK _ _ _ h
 have h3 : ∀ p ∈ ps, 0 ≤ p ∧ p < b.Pieces.l.length := fun p hp => (QN hv.few p).mp (h2 p hp)
 have := Z7 ps 0 b.Pieces.l.length h1 h3 (by omega)
 have := hv.pieces
 exact ⟨⟨by omega, h3⟩, h1⟩
def xj (b : BenchBook) (ps : List Int) (x : List AC) : Bool := (Io b Ba 3 ps).any fun y => decide (y = x)
section
variable {b : BenchBook} (hv : F5 b) (ex : Int → Bool) (a2 : Sl Int) (a3 : Sl AC) (hp : pr b a2.l) (hn : a3.l.length < 4611686018427387904)
include hv hp hn
end
end
end Go.Lf
