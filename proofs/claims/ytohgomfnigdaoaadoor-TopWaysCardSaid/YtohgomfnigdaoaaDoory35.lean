/- A part of the proof. -/
import Derived.Test.YtohgomfnigdaoaaDoory34
set_option linter.all false
namespace Go.Lf
open Go Go.Lf.Pl
noncomputable section
def sb (b : BenchBook) (p k : Int) : Bool := BM b p && (match b.Pieces.ix p with | some x => AQ k 0 (W (x.Parts.len - 1)) | none => false)
theorem ND {b : BenchBook} (hf : pi b) (p : Int) : BM b p = true ↔ 0 ≤ p ∧ p < b.Pieces.l.length := by
 have := hf.pieces
 simp only [BM, AQ, Sl.len_l, Bool.and_eq_true, decide_eq_true_eq]
 rw [TK (by omega) (by omega)]; omega
section
variable {b : BenchBook} (hf : pi b)
include hf
theorem wy {p k : Int} {x : AK} (hx : b.Pieces.ix p = some x) : AQ k 0 (W (x.Parts.len - 1)) = true ↔ 0 ≤ k ∧ k < x.Parts.l.length := by
 have := hf.parts x (Ji hx).2.2
 simp only [AQ, Sl.len_l, Bool.and_eq_true, decide_eq_true_eq]
 rw [TK (by omega) (by omega)]; omega
theorem Uc (p k : Int) : ∃ l : Sl Int, Fh b p k = some (l, BA b (sb b p k)) ∧ l.l = if BA b (sb b p k) = 0 then BD b BE p k else [] := by
 have hq : (if (BM b p) then Option.bind (b.Pieces.ix p) fun v3 => Option.bind (Bm b (AQ k 0 (W (v3.Parts.len - 1)))) fun v5 => some (v5.1, v5.2) else Option.bind (Bm b false) fun v7 => some (v7.1, v7.2) : Option (AB × Int)) = Bm b (sb b p k) := by
  have hs : ∀ o : Option (AB × Int), (o.bind fun v => some (v.1, v.2)) = o := by intro o; cases o <;> rfl
  simp only [hs, sb]
  by_cases h : BM b p = true
  ·obtain ⟨h1, h2⟩ := (ND hf p).mp h
   obtain ⟨x, hx, _⟩ := dH h1 h2
   simp [h, hx]
  ·simp [h]
 obtain ⟨bk, he, h2⟩ := FC hf (sb b p k)
 simp only [Fh, hq, he, Option.bind_some]
 by_cases h0 : BA b (sb b p k) = 0
 ·obtain ⟨es, rfl, hes⟩ := h2 h0
  simp only [if_pos h0, h0, decide_true, if_true, Sl.sub3_all, Option.bind_some]
  exact ⟨_, rfl, by rw [Sl.l_filled]; exact mD hes p k⟩
 ·simp only [if_neg h0, decide_eq_false h0, Bool.false_eq_true, if_false]
  exact ⟨Sl.nil, rfl, rfl⟩
end
def rp (b : BenchBook) (p : Int) : Int × Int := match (idx (GV b p)).find? (fun k => (Iu b BE (k + 1).toNat [p]).isEmpty) with
 | some k => (k, 0)
 | none => (0, 4)
section
variable {b : BenchBook} (hf : pi b)
include hf
theorem dQ (p : Int) : LS b p = some (if BA b (BM b p) = 0 then rp b p else (0, BA b (BM b p))) := by
 obtain ⟨bk, he, h2⟩ := FC hf (BM b p)
 simp only [LS, he, Option.bind_some]
 by_cases h0 : BA b (BM b p) = 0
 ·obtain ⟨hv, hq, hfi⟩ := HM hf h0
  obtain ⟨es, rfl, hes⟩ := h2 h0
  obtain ⟨h1, h3⟩ := (ND hf p).mp hq
  obtain ⟨x, hx, hxm⟩ := dH h1 h3
  have hnp : GV b p = x.Parts.l.length := by simp [GV, hx]
  have hx3 := hv.parts x hxm
  have hps : qp b [p] := ⟨by simp, by intro q hq; simp at hq; subst hq; exact ⟨h1, h3⟩⟩
  have e : Loop (F9 p (⟨b, Mp.mk es⟩, 0) x) 0 = some (((idx (GV b p)).findSome? fun k => if (Iu b BE (k + 1).toNat [p]).isEmpty then some (.inl (k, 0) : (Int × Int) ⊕ Unit) else none).getD (.inr ())) := by
   refine Loop.find (fun i => i) (idx (GV b p)) _ (by rw [Ao]; omega) rfl ?_ ?_
   ·intro pre k post hpre _ hW
    obtain ⟨hk, hlt0⟩ := P8 hpre
    subst hk
    have hlt : (pre.length : Int) < x.Parts.len := by rw [Sl.len_l, ← hnp]; exact hlt0
    have hw := V3 hv (Mp.mk es) (a1 := Sl.cold [p]) (by rw [Sl.l_cold]; exact hps) (m := (pre.length : Int) + 1) (by omega)
    rw [Sl.l_cold] at hw
    have hfst := ca hv hes (m := ((pre.length : Int) + 1).toNat) hps
    simp only [F9, decide_eq_true hlt, if_true, hW, hw, Option.bind_some, hfst]
    have hnb : Iu b (fun _ => false) ((pre.length : Int) + 1).toNat [p] = Iu b BE ((pre.length : Int) + 1).toNat [p] := rfl
    rw [hnb]
    cases hA : Iu b BE ((pre.length : Int) + 1).toNat [p] with
    | nil => simp [JW]
    | cons y L => simp [JW]
   ·intro _
    have hlt : ¬ ((idx (GV b p)).length : Int) < x.Parts.len := by rw [Sl.len_l, Ao, hnp]; omega
    simp only [F9, decide_eq_false hlt, Bool.false_eq_true, if_false]
  simp only [if_pos h0, h0, decide_true, if_true, hx, Option.bind_some, e, rp]
  generalize idx (GV b p) = L
  induction L with
  | nil => rfl
  | cons k L ih =>
   simp only [List.findSome?_cons, List.find?_cons]
   by_cases hc : (Iu b BE (k + 1).toNat [p]).isEmpty = true
   ·simp [hc]
   ·simp only [hc, Bool.false_eq_true, if_false]; exact ih
 ·simp [h0]
end
end
end Go.Lf
namespace Go.Lf
open Go Go.Lf.Pl
noncomputable section
def ru (q : Int → Bool) : Option Int → List Int → Bool
 | _, [] => true
 | prev, p :: r => q p && (match prev with | none => true | some x => decide (x < p)) && ru q (some p) r
def zf (b : BenchBook) (ps : List Int) : Bool := ru (BM b) none ps
theorem uI (pre : List Int) : pre = [] ∨ ∃ q x, pre = q ++ [x] ∧ pre.getLast? = some x := by
 rcases List.eq_nil_or_concat pre with h | ⟨q, x, h⟩
 ·exact .inl h
 ·rw [List.concat_eq_append] at h; exact .inr ⟨q, x, h, by rw [h]; simp⟩
theorem Wq (n : Int) (a : Sl Int) (hn : a.l.length < 4611686018427387904) : DY a n = some (ru (fun p => CU p 0 (W (n - 1))) none a.l) := by
 have main : ∀ post pre, a.l = pre ++ post → ∃ r, Loop (CW a n) (pre.length : Int) = some r ∧ (match r with | .inl w => w | .inr _ => true) = ru (fun p => CU p 0 (W (n - 1))) pre.getLast? post := by
  intro post
  induction post with
  | nil =>
   intro pre h
   have hlt : ¬ (pre.length : Int) < a.len := by rw [Sl.len_l, h]; simp
   exact ⟨.inr (), Loop.done (by simp [CW, hlt]), rfl⟩
  | cons p post ih =>
   intro pre h
   have hlt : (pre.length : Int) < a.len := by rw [Sl.len_l, h]; simp; omega
   have hpl : pre.length < 4611686018427387904 := by rw [h] at hn; simp at hn; omega
   have hW : W ((pre.length : Int) + 1) = (pre.length : Int) + 1 := Q7 hpl
   have hg : CW a n (pre.length : Int) = some (if (CU p 0 (W (n - 1)) && (match pre.getLast? with | none => true | some x => decide (x < p))) then .inl ((pre.length : Int) + 1) else .inr (.inl false)) := by
    simp only [CW, decide_eq_true hlt, if_true, Sl.ix_at h, Option.bind_some, hW]
    rcases uI pre with rfl | ⟨q, x, hq, hl⟩
    ·cases CU p 0 (W (n - 1)) <;> simp
    ·have h0 : (0 : Int) < (pre.length : Int) := by rw [hq, List.length_append, List.length_singleton]; omega
     have h0n : 0 < pre.length := by omega
     have hi : W ((pre.length : Int) - 1) = (q.length : Int) := by rw [TK (by omega) (by omega), hq]; simp
     have hx : a.ix (q.length : Int) = some x := Sl.ix_at (post := p :: post) (by rw [h, hq]; simp)
     rw [hl]
     by_cases hc : x < p
     ·have hc' : ¬ p ≤ x := by omega
      cases CU p 0 (W (n - 1)) <;> simp [h0, h0n, hi, hx, hc, hc']
     ·have hc' : p ≤ x := by omega
      cases CU p 0 (W (n - 1)) <;> simp [h0, h0n, hi, hx, hc, hc']
   simp only [ru]
   by_cases hc : (CU p 0 (W (n - 1)) && (match pre.getLast? with | none => true | some x => decide (x < p))) = true
   ·rw [if_pos hc] at hg
    obtain ⟨r, h1, h2⟩ := ih (pre ++ [p]) (by rw [h]; simp)
    refine ⟨r, by rw [Loop.step hg]; simpa using h1, ?_⟩
    rw [h2, hc]; simp
   ·rw [if_neg hc] at hg
    have hc' : (CU p 0 (W (n - 1)) && (match pre.getLast? with | none => true | some x => decide (x < p))) = false := by simpa using hc
    exact ⟨_, Loop.done hg, by rw [hc']; simp⟩
 obtain ⟨r, h1, h2⟩ := main a.l [] rfl
 have h1' : Loop (CW a n) 0 = some r := h1
 simp only [DY, h1', Option.bind_some]
 cases r with
 | inl w => exact congrArg some h2
 | inr u => exact congrArg some h2
theorem Xm (q : Int → Bool) : ∀ (l : List Int) (prev : Option Int), ru q prev l = true → l.Pairwise (· < ·) ∧ (∀ p ∈ l, q p = true) ∧ ∀ x, prev = some x → ∀ p ∈ l, x < p
 | [], _, _ => by simp
 | p :: l, prev, h => by
  simp only [ru, Bool.and_eq_true] at h
  obtain ⟨⟨h1, h2⟩, h3⟩ := h
  obtain ⟨i1, i2, i3⟩ := Xm q l (some p) h3
  refine ⟨List.pairwise_cons.mpr ⟨i3 p rfl, i1⟩, ?_, ?_⟩
  ·intro y hy
   rcases List.mem_cons.mp hy with rfl | hy
   ·exact h1
   ·exact i2 y hy
  ·rintro x rfl y hy
   simp only [decide_eq_true_eq] at h2
   rcases List.mem_cons.mp hy with rfl | hy
   ·exact h2
   ·have := i3 p rfl y hy; omega
theorem ag : ∀ (l : List Int) (a n : Int), l.Pairwise (· < ·) → (∀ p ∈ l, a ≤ p ∧ p < n) → a ≤ n → (l.length : Int) ≤ n - a
 | [], a, n, _, _, h => by simp; omega
 | p :: l, a, n, hs, hr, h => by
  have h1 := List.pairwise_cons.mp hs
  have hp := hr p List.mem_cons_self
  have := ag l (p + 1) n h1.2 (fun q hq => ⟨by have := h1.1 q hq; omega, (hr q (List.mem_cons_of_mem _ hq)).2⟩) (by omega)
  simp only [List.length_cons]; omega
theorem zO {b : BenchBook} (hv : GT b) {ps : List Int} (h : zf b ps = true) : qp b ps ∧ ps.Pairwise (· < ·) := by
 obtain ⟨h1, h2, _⟩ := Xm _ _ _ h
 have h3 : ∀ p ∈ ps, 0 ≤ p ∧ p < b.Pieces.l.length := fun p hp => (ND hv.few p).mp (h2 p hp)
 have := ag ps 0 b.Pieces.l.length h1 h3 (by omega)
 have := hv.pieces
 exact ⟨⟨by omega, h3⟩, h1⟩
def AAQ (b : BenchBook) (ps : List Int) (x : List AC) : Bool := (Iu b BE 3 ps).any fun y => decide (y = x)
section
variable {b : BenchBook} (hv : GT b) (ex : Int → Bool) (a2 : Sl Int) (a3 : Sl AC) (hp : qp b a2.l) (hn : a3.l.length < 4611686018427387904)
include hv hp hn
end
end
end Go.Lf
