/- A part of the proof. -/
import Derived.Test.YtdjddljglkeefaaDoorx34
set_option linter.all false
namespace Go.Lf
open Go Go.Lf.Pl
noncomputable section
def og (b : BenchBook) (p k : Int) : Bool := Ap b p && (match b.Pieces.ix p with | some x => AQ k 0 (W (x.Parts.len - 1)) | none => false)
theorem FM {b : BenchBook} (hf : Tf b) (p : Int) : Ap b p = true ↔ 0 ≤ p ∧ p < b.Pieces.l.length := by
 have := hf.pieces
 simp only [Ap, AQ, Sl.len_l, Bool.and_eq_true, decide_eq_true_eq]
 rw [J9 (by omega) (by omega)]; omega
section
variable {b : BenchBook} (hf : Tf b)
include hf
theorem mb {p k : Int} {x : AE} (hx : b.Pieces.ix p = some x) : AQ k 0 (W (x.Parts.len - 1)) = true ↔ 0 ≤ k ∧ k < x.Parts.l.length := by
 have := hf.parts x (CN hx).2.2
 simp only [AQ, Sl.len_l, Bool.and_eq_true, decide_eq_true_eq]
 rw [J9 (by omega) (by omega)]; omega
theorem Nq (p k : Int) : ∃ l : Sl Int, HB b p k = some (l, Ai b (og b p k)) ∧ l.l = if Ai b (og b p k) = 0 then A2 b AW p k else [] := by
 have hq : (if (Ap b p) then Option.bind (b.Pieces.ix p) fun v3 => Option.bind (Bc b (AQ k 0 (W (v3.Parts.len - 1)))) fun v5 => some (v5.1, v5.2) else Option.bind (Bc b false) fun v7 => some (v7.1, v7.2) : Option (AC × Int)) = Bc b (og b p k) := by
  have hs : ∀ o : Option (AC × Int), (o.bind fun v => some (v.1, v.2)) = o := by intro o; cases o <;> rfl
  simp only [hs, og]
  by_cases h : Ap b p = true
  ·obtain ⟨h1, h2⟩ := (FM hf p).mp h
   obtain ⟨x, hx, _⟩ := QI h1 h2
   simp [h, hx]
  ·simp [h]
 obtain ⟨bk, he, h2⟩ := DL hf (og b p k)
 simp only [HB, hq, he, Option.bind_some]
 by_cases h0 : Ai b (og b p k) = 0
 ·obtain ⟨es, rfl, hes⟩ := h2 h0
  simp only [if_pos h0, h0, decide_true, if_true, Sl.sub3_all, Option.bind_some]
  exact ⟨_, rfl, by rw [Sl.l_filled]; exact mf hes p k⟩
 ·simp only [if_neg h0, decide_eq_false h0, Bool.false_eq_true, if_false]
  exact ⟨Sl.nil, rfl, rfl⟩
end
def ej (b : BenchBook) (p : Int) : Int × Int := match (idx (B7 b p)).find? (fun k => (FD b AW (k + 1).toNat [p]).isEmpty) with
 | some k => (k, 0)
 | none => (0, 4)
section
variable {b : BenchBook} (hf : Tf b)
include hf
theorem MM (p : Int) : Hz b p = some (if Ai b (Ap b p) = 0 then ej b p else (0, Ai b (Ap b p))) := by
 obtain ⟨bk, he, h2⟩ := DL hf (Ap b p)
 simp only [Hz, he, Option.bind_some]
 by_cases h0 : Ai b (Ap b p) = 0
 ·obtain ⟨hv, hq, hfi⟩ := Ed hf h0
  obtain ⟨es, rfl, hes⟩ := h2 h0
  obtain ⟨h1, h3⟩ := (FM hf p).mp hq
  obtain ⟨x, hx, hxm⟩ := QI h1 h3
  have hnp : B7 b p = x.Parts.l.length := by simp [B7, hx]
  have hx3 := hv.parts x hxm
  have hps : nv b [p] := ⟨by simp, by intro q hq; simp at hq; subst hq; exact ⟨h1, h3⟩⟩
  have e : Loop (Fo p (⟨b, Mp.mk es⟩, 0) x) 0 = some (((idx (B7 b p)).findSome? fun k => if (FD b AW (k + 1).toNat [p]).isEmpty then some (.inl (k, 0) : (Int × Int) ⊕ Unit) else none).getD (.inr ())) := by
   refine Loop.find (fun i => i) (idx (B7 b p)) _ (by rw [AU]; omega) rfl ?_ ?_
   ·intro pre k post hpre _ hW
    obtain ⟨hk, hlt0⟩ := Jm hpre
    subst hk
    have hlt : (pre.length : Int) < x.Parts.len := by rw [Sl.len_l, ← hnp]; exact hlt0
    have hw := SR hv (Mp.mk es) (a1 := Sl.cold [p]) (by rw [Sl.l_cold]; exact hps) (m := (pre.length : Int) + 1) (by omega)
    rw [Sl.l_cold] at hw
    have hfst := cb hv hes (m := ((pre.length : Int) + 1).toNat) hps
    simp only [Fo, decide_eq_true hlt, if_true, hW, hw, Option.bind_some, hfst]
    have hnb : FD b (fun _ => false) ((pre.length : Int) + 1).toNat [p] = FD b AW ((pre.length : Int) + 1).toNat [p] := rfl
    rw [hnb]
    cases hA : FD b AW ((pre.length : Int) + 1).toNat [p] with
    | nil => simp [It]
    | cons y L => simp [It]
   ·intro _
    have hlt : ¬ ((idx (B7 b p)).length : Int) < x.Parts.len := by rw [Sl.len_l, AU, hnp]; omega
    simp only [Fo, decide_eq_false hlt, Bool.false_eq_true, if_false]
  simp only [if_pos h0, h0, decide_true, if_true, hx, Option.bind_some, e, ej]
  generalize idx (B7 b p) = L
  induction L with
  | nil => rfl
  | cons k L ih =>
   simp only [List.findSome?_cons, List.find?_cons]
   by_cases hc : (FD b AW (k + 1).toNat [p]).isEmpty = true
   ·simp [hc]
   ·simp only [hc, Bool.false_eq_true, if_false]; exact ih
 ·simp [h0]
end
end
end Go.Lf
namespace Go.Lf
open Go Go.Lf.Pl
noncomputable section
def oh (q : Int → Bool) : Option Int → List Int → Bool
 | _, [] => true
 | prev, p :: r => q p && (match prev with | none => true | some x => decide (x < p)) && oh q (some p) r
def rh (b : BenchBook) (ps : List Int) : Bool := oh (Ap b) none ps
theorem rU (pre : List Int) : pre = [] ∨ ∃ q x, pre = q ++ [x] ∧ pre.getLast? = some x := by
 rcases List.eq_nil_or_concat pre with h | ⟨q, x, h⟩
 ·exact .inl h
 ·rw [List.concat_eq_append] at h; exact .inr ⟨q, x, h, by rw [h]; simp⟩
theorem pr {b : BenchBook} (a : Sl Int) (hn : a.l.length < 4611686018427387904) : Loop (EV b a) (true, 0) = some (rh b a.l) := by
 have main : ∀ post pre (t : Bool), a.l = pre ++ post → Loop (EV b a) (t, (pre.length : Int)) = some (t && oh (Ap b) pre.getLast? post) := by
  intro post
  induction post with
  | nil =>
   intro pre t h
   have hlt : ¬ (pre.length : Int) < a.len := by rw [Sl.len_l, h]; simp
   exact Loop.done (by simp [EV, hlt, oh])
  | cons p post ih =>
   intro pre t h
   have hlt : (pre.length : Int) < a.len := by rw [Sl.len_l, h]; simp; omega
   have hpl : pre.length < 4611686018427387904 := by rw [h] at hn; simp at hn; omega
   have hW : W ((pre.length : Int) + 1) = (pre.length : Int) + 1 := Jc hpl
   have hf : EV b a (t, pre.length) = some (.inl ((t && (Ap b p && (match pre.getLast? with | none => true | some x => decide (x < p)))), (pre.length : Int) + 1)) := by
    simp only [EV, decide_eq_true hlt, if_true, Sl.ix_at h, Option.bind_some, hW]
    rcases rU pre with rfl | ⟨q, x, hq, hl⟩
    ·cases t <;> cases Ap b p <;> simp
    ·have h0 : ¬ (pre.length : Int) = 0 := by rw [hq]; simp; omega
     have hi : W ((pre.length : Int) - 1) = (q.length : Int) := by rw [J9 (by omega) (by omega), hq]; simp
     have hx : a.ix (q.length : Int) = some x := Sl.ix_at (post := p :: post) (by rw [h, hq]; simp)
     rw [hl]
     have hne : ¬ pre = [] := by rw [hq]; simp
     cases t <;> cases Ap b p <;> simp [h0, hne, hi, hx]
   rw [Loop.step hf]
   have := ih (pre ++ [p]) (t && (Ap b p && (match pre.getLast? with | none => true | some x => decide (x < p)))) (by rw [h]; simp)
   rw [List.length_append, List.length_singleton] at this
   simp only [Int.natCast_add, Int.cast_ofNat_Int] at this
   rw [this]
   simp [oh, Bool.and_assoc]
 have := main a.l [] true rfl
 simpa [rh] using this
theorem W6 (n : Int) (a : Sl Int) (hn : a.l.length < 4611686018427387904) : CV a n = some (oh (fun p => AY p 0 (W (n - 1))) none a.l) := by
 have main : ∀ post pre, a.l = pre ++ post → ∃ r, Loop (B8 a n) (pre.length : Int) = some r ∧ (match r with | .inl w => w | .inr _ => true) = oh (fun p => AY p 0 (W (n - 1))) pre.getLast? post := by
  intro post
  induction post with
  | nil =>
   intro pre h
   have hlt : ¬ (pre.length : Int) < a.len := by rw [Sl.len_l, h]; simp
   exact ⟨.inr (), Loop.done (by simp [B8, hlt]), rfl⟩
  | cons p post ih =>
   intro pre h
   have hlt : (pre.length : Int) < a.len := by rw [Sl.len_l, h]; simp; omega
   have hpl : pre.length < 4611686018427387904 := by rw [h] at hn; simp at hn; omega
   have hW : W ((pre.length : Int) + 1) = (pre.length : Int) + 1 := Jc hpl
   have hg : B8 a n (pre.length : Int) = some (if (AY p 0 (W (n - 1)) && (match pre.getLast? with | none => true | some x => decide (x < p))) then .inl ((pre.length : Int) + 1) else .inr (.inl false)) := by
    simp only [B8, decide_eq_true hlt, if_true, Sl.ix_at h, Option.bind_some, hW]
    rcases rU pre with rfl | ⟨q, x, hq, hl⟩
    ·cases AY p 0 (W (n - 1)) <;> simp
    ·have h0 : (0 : Int) < (pre.length : Int) := by rw [hq, List.length_append, List.length_singleton]; omega
     have h0n : 0 < pre.length := by omega
     have hi : W ((pre.length : Int) - 1) = (q.length : Int) := by rw [J9 (by omega) (by omega), hq]; simp
     have hx : a.ix (q.length : Int) = some x := Sl.ix_at (post := p :: post) (by rw [h, hq]; simp)
     rw [hl]
     by_cases hc : x < p
     ·have hc' : ¬ p ≤ x := by omega
      cases AY p 0 (W (n - 1)) <;> simp [h0, h0n, hi, hx, hc, hc']
     ·have hc' : p ≤ x := by omega
      cases AY p 0 (W (n - 1)) <;> simp [h0, h0n, hi, hx, hc, hc']
   simp only [oh]
   by_cases hc : (AY p 0 (W (n - 1)) && (match pre.getLast? with | none => true | some x => decide (x < p))) = true
   ·rw [if_pos hc] at hg
    obtain ⟨r, h1, h2⟩ := ih (pre ++ [p]) (by rw [h]; simp)
    refine ⟨r, by rw [Loop.step hg]; simpa using h1, ?_⟩
    rw [h2, hc]; simp
   ·rw [if_neg hc] at hg
    have hc' : (AY p 0 (W (n - 1)) && (match pre.getLast? with | none => true | some x => decide (x < p))) = false := by simpa using hc
    exact ⟨_, Loop.done hg, by rw [hc']; simp⟩
 obtain ⟨r, h1, h2⟩ := main a.l [] rfl
 have h1' : Loop (B8 a n) 0 = some r := h1
 simp only [CV, h1', Option.bind_some]
 cases r with
 | inl w => exact congrArg some h2
 | inr u => exact congrArg some h2
theorem XS (q : Int → Bool) : ∀ (l : List Int) (prev : Option Int), oh q prev l = true → l.Pairwise (· < ·) ∧ (∀ p ∈ l, q p = true) ∧ ∀ x, prev = some x → ∀ p ∈ l, x < p
 | [], _, _ => by simp
 | p :: l, prev, h => by
  simp only [oh, Bool.and_eq_true] at h
  obtain ⟨⟨h1, h2⟩, h3⟩ := h
  obtain ⟨i1, i2, i3⟩ := XS q l (some p) h3
  refine ⟨List.pairwise_cons.mpr ⟨i3 p rfl, i1⟩, ?_, ?_⟩
  ·intro y hy
   rcases List.mem_cons.mp hy with rfl | hy
   ·exact h1
   ·exact i2 y hy
  ·rintro x rfl y hy
   simp only [decide_eq_true_eq] at h2
   rcases List.mem_cons.mp hy with rfl | hy
   ·exact h2
   ·have := i3 p rfl y hy; omega
theorem Zq : ∀ (l : List Int) (a n : Int), l.Pairwise (· < ·) → (∀ p ∈ l, a ≤ p ∧ p < n) → a ≤ n → (l.length : Int) ≤ n - a
 | [], a, n, _, _, h => by simp; omega
 | p :: l, a, n, hs, hr, h => by
  have h1 := List.pairwise_cons.mp hs
  have hp := hr p List.mem_cons_self
  have := Zq l (p + 1) n h1.2 (fun q hq => ⟨by have := h1.1 q hq; omega, (hr q (List.mem_cons_of_mem _ hq)).2⟩) (by omega)
  simp only [List.length_cons]; omega
theorem lB {b : BenchBook} (hv : C6 b) {ps : List Int} (h : rh b ps = true) : nv b ps ∧ ps.Pairwise (· < ·) := by
 obtain ⟨h1, h2, _⟩ := XS _ _ _ h
 have h3 : ∀ p ∈ ps, 0 ≤ p ∧ p < b.Pieces.l.length := fun p hp => (FM hv.few p).mp (h2 p hp)
 have := Zq ps 0 b.Pieces.l.length h1 h3 (by omega)
 have := hv.pieces
 exact ⟨⟨by omega, h3⟩, h1⟩
def uf (b : BenchBook) (ps : List Int) (x : List AB) : Bool := (FD b AW 3 ps).any fun y => decide (y = x)
theorem rE (a2 : Sl AB) : ∀ L : List (List AB), (∀ x ∈ L, x.length ≤ 1000) → Sj (zr (J1 a2)) (L.map Sl.grow) (.inl ()) = some (if L.any (fun y => decide (y = a2.l)) then (false, .inr ()) else (true, .inl ()))
 | [], _ => rfl
 | x :: L, h => by
  have hx := h x List.mem_cons_self
  have he := j7 (Sl.grow x) a2 (by rw [Sl.l_grow]; omega)
  rw [Sl.l_grow] at he
  have ih := rE a2 L fun y hy => h y (List.mem_cons_of_mem _ hy)
  simp only [List.map_cons, Sj, zr, J1, he, Option.bind_some, List.any_cons]
  by_cases hc : x = a2.l
  ·simp [hc]
  ·simp only [decide_eq_false hc, Bool.false_eq_true, if_false, Bool.false_or]; exact ih
theorem OR {b : BenchBook} (hf : Tf b) (a : Sl Int) (hn : a.l.length < 4611686018427387904) (x : Sl AB) : JZ b a x = some (if Ai b (rh b a.l) = 0 then (uf b a.l x.l, 0) else (false, Ai b (rh b a.l))) := by
 obtain ⟨bk, he, h2⟩ := DL hf (rh b a.l)
 simp only [JZ, pr a hn, Option.bind_some, he]
 by_cases h0 : Ai b (rh b a.l) = 0
 ·obtain ⟨hv, hq, hfi⟩ := Ed hf h0
  obtain ⟨es, rfl, hes⟩ := h2 h0
  obtain ⟨hp, hs⟩ := lB hv hq
  have hw := SR hv (Mp.mk es) (a1 := a) hp (m := 3) (by omega)
  have hr := rE x (FD b AW 3 a.l) (fun y hy => VN hv AW hp hy)
  simp only [if_pos h0, h0, decide_true, if_true, hw, Option.bind_some, show (3 : Int).toNat = 3 from rfl, uf]
  by_cases hc : ((FD b AW 3 a.l).any fun y => decide (y = x.l)) = true
  ·rw [if_pos hc] at hr
   rw [fU hv hes hp hr, hc]; rfl
  ·rw [if_neg hc] at hr
   have hc' : ((FD b AW 3 a.l).any fun y => decide (y = x.l)) = false := eq_false_of_ne_true hc
   rw [fU hv hes hp hr, hc']; rfl
 ·simp [h0]
section
variable {b : BenchBook} (hv : C6 b) (ex : Int → Bool) (a2 : Sl Int) (a3 : Sl AB) (hp : nv b a2.l) (hn : a3.l.length < 4611686018427387904)
include hv hp hn
end
end
end Go.Lf
