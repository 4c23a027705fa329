/- A part of the proof. -/
import Derived.Test.YtpkbckdhkaggbaaDoorx41
set_option linter.all false
namespace Go.Lf
open Go Go.Lf.Pl
noncomputable section
def jw (b : BenchBook) (p k : Int) : Bool := An b p && (match b.Pieces.ix p with | some x => AV k 0 (W (x.Parts.len - 1)) | none => false)
theorem IY {b : BenchBook} (hf : TG b) (p : Int) : An b p = true ↔ 0 ≤ p ∧ p < b.Pieces.l.length := by
 have := hf.pieces
 simp only [An, AV, Sl.len_l, Bool.and_eq_true, decide_eq_true_eq]
 rw [TJ (by omega) (by omega)]; omega
section
variable {b : BenchBook} (hf : TG b)
include hf
theorem iO {p k : Int} {x : AK} (hx : b.Pieces.ix p = some x) : AV k 0 (W (x.Parts.len - 1)) = true ↔ 0 ≤ k ∧ k < x.Parts.l.length := by
 have := hf.parts x (IG hx).2.2
 simp only [AV, Sl.len_l, Bool.and_eq_true, decide_eq_true_eq]
 rw [TJ (by omega) (by omega)]; omega
theorem Io (p k : Int) : ∃ l : Sl Int, HC b p k = some (l, AZ b (jw b p k)) ∧ l.l = if AZ b (jw b p k) = 0 then BK b A0 p k else [] := by
 have hq : (if (An b p) then Option.bind (b.Pieces.ix p) fun v3 => Option.bind (BP b (AV k 0 (W (v3.Parts.len - 1)))) fun v5 => some (v5.1, v5.2) else Option.bind (BP b false) fun v7 => some (v7.1, v7.2) : Option (AB × Int)) = BP b (jw b p k) := by
  have hs : ∀ o : Option (AB × Int), (o.bind fun v => some (v.1, v.2)) = o := by intro o; cases o <;> rfl
  simp only [hs, jw]
  by_cases h : An b p = true
  ·obtain ⟨h1, h2⟩ := (IY hf p).mp h
   obtain ⟨x, hx, _⟩ := kp h1 h2
   simp [h, hx]
  ·simp [h]
 obtain ⟨bk, he, h2⟩ := C3 hf (jw b p k)
 simp only [HC, hq, he, Option.bind_some]
 by_cases h0 : AZ b (jw b p k) = 0
 ·obtain ⟨es, rfl, hes⟩ := h2 h0
  simp only [if_pos h0, h0, decide_true, if_true, Sl.sub3_all, Option.bind_some]
  exact ⟨_, rfl, by rw [Sl.l_filled]; exact fB hes p k⟩
 ·simp only [if_neg h0, decide_eq_false h0, Bool.false_eq_true, if_false]
  exact ⟨Sl.nil, rfl, rfl⟩
end
def nt (b : BenchBook) (p : Int) : Int × Int := match (ue (Kz b p)).find? (fun k => (Ky b A0 (k + 1).toNat [p]).isEmpty) with
 | some k => (k, 0)
 | none => (0, 4)
section
variable {b : BenchBook} (hf : TG b)
include hf
theorem P8 (p : Int) : H3 b p = some (if AZ b (An b p) = 0 then nt b p else (0, AZ b (An b p))) := by
 obtain ⟨bk, he, h2⟩ := C3 hf (An b p)
 simp only [H3, he, Option.bind_some]
 by_cases h0 : AZ b (An b p) = 0
 ·obtain ⟨hv, hq, hfi⟩ := D6 hf h0
  obtain ⟨es, rfl, hes⟩ := h2 h0
  obtain ⟨h1, h3⟩ := (IY hf p).mp hq
  obtain ⟨x, hx, hxm⟩ := kp h1 h3
  have hnp : Kz b p = x.Parts.l.length := by simp [Kz, hx]
  have hx3 := hv.parts x hxm
  have hps : mX b [p] := ⟨by simp, by intro q hq; simp at hq; subst hq; exact ⟨h1, h3⟩⟩
  have e : Loop (Eo p (⟨b, Mp.mk es⟩, 0) x) 0 = some (((ue (Kz b p)).findSome? fun k => if (Ky b A0 (k + 1).toNat [p]).isEmpty then some (.inl (k, 0) : (Int × Int) ⊕ Unit) else none).getD (.inr ())) := by
   refine Loop.find (fun i => i) (ue (Kz b p)) _ (by rw [Aw]; omega) rfl ?_ ?_
   ·intro pre k post hpre _ hW
    obtain ⟨hk, hlt0⟩ := RO hpre
    subst hk
    have hlt : (pre.length : Int) < x.Parts.len := by rw [Sl.len_l, ← hnp]; exact hlt0
    have hw := QB hv (Mp.mk es) (a1 := Sl.cold [p]) (by rw [Sl.l_cold]; exact hps) (m := (pre.length : Int) + 1) (by omega)
    rw [Sl.l_cold] at hw
    have hfst := ZJ hv hes (m := ((pre.length : Int) + 1).toNat) hps
    simp only [Eo, decide_eq_true hlt, if_true, hW, hw, Option.bind_some, hfst]
    have hnb : Ky b (fun _ => false) ((pre.length : Int) + 1).toNat [p] = Ky b A0 ((pre.length : Int) + 1).toNat [p] := rfl
    rw [hnb]
    cases hA : Ky b A0 ((pre.length : Int) + 1).toNat [p] with
    | nil => simp [I4]
    | cons y L => simp [I4]
   ·intro _
    have hlt : ¬ ((ue (Kz b p)).length : Int) < x.Parts.len := by rw [Sl.len_l, Aw, hnp]; omega
    simp only [Eo, decide_eq_false hlt, Bool.false_eq_true, if_false]
  simp only [if_pos h0, h0, decide_true, if_true, hx, Option.bind_some, e, nt]
  generalize ue (Kz b p) = L
  induction L with
  | nil => rfl
  | cons k L ih =>
   simp only [List.findSome?_cons, List.find?_cons]
   by_cases hc : (Ky b A0 (k + 1).toNat [p]).isEmpty = true
   ·simp [hc]
   ·simp only [hc, Bool.false_eq_true, if_false]; exact ih
 ·simp [h0]
end
end
end Go.Lf
namespace Go.Lf
open Go Go.Lf.Pl
noncomputable section
def jx (q : Int → Bool) : Option Int → List Int → Bool
 | _, [] => true
 | prev, p :: r => q p && (match prev with | none => true | some x => decide (x < p)) && jx q (some p) r
def oR (b : BenchBook) (ps : List Int) : Bool := jx (An b) none ps
theorem kO (pre : List Int) : pre = [] ∨ ∃ q x, pre = q ++ [x] ∧ pre.getLast? = some x := by
 rcases List.eq_nil_or_concat pre with h | ⟨q, x, h⟩
 ·exact .inl h
 ·rw [List.concat_eq_append] at h; exact .inr ⟨q, x, h, by rw [h]; simp⟩
theorem mN {b : BenchBook} (a : Sl Int) (hn : a.l.length < 4611686018427387904) : Loop (D4 b a) (true, 0) = some (oR b a.l) := by
 have main : ∀ post pre (t : Bool), a.l = pre ++ post → Loop (D4 b a) (t, (pre.length : Int)) = some (t && jx (An b) pre.getLast? post) := by
  intro post
  induction post with
  | nil =>
   intro pre t h
   have hlt : ¬ (pre.length : Int) < a.len := by rw [Sl.len_l, h]; simp
   exact Loop.done (by simp [D4, hlt, jx])
  | cons p post ih =>
   intro pre t h
   have hlt : (pre.length : Int) < a.len := by rw [Sl.len_l, h]; simp; omega
   have hpl : pre.length < 4611686018427387904 := by rw [h] at hn; simp at hn; omega
   have hW : W ((pre.length : Int) + 1) = (pre.length : Int) + 1 := LA hpl
   have hf : D4 b a (t, pre.length) = some (.inl ((t && (An b p && (match pre.getLast? with | none => true | some x => decide (x < p)))), (pre.length : Int) + 1)) := by
    simp only [D4, decide_eq_true hlt, if_true, Sl.ix_at h, Option.bind_some, hW]
    rcases kO pre with rfl | ⟨q, x, hq, hl⟩
    ·cases t <;> cases An b p <;> simp
    ·have h0 : ¬ (pre.length : Int) = 0 := by rw [hq]; simp; omega
     have hi : W ((pre.length : Int) - 1) = (q.length : Int) := by rw [TJ (by omega) (by omega), hq]; simp
     have hx : a.ix (q.length : Int) = some x := Sl.ix_at (post := p :: post) (by rw [h, hq]; simp)
     rw [hl]
     have hne : ¬ pre = [] := by rw [hq]; simp
     cases t <;> cases An b p <;> simp [h0, hne, hi, hx]
   rw [Loop.step hf]
   have := ih (pre ++ [p]) (t && (An b p && (match pre.getLast? with | none => true | some x => decide (x < p)))) (by rw [h]; simp)
   rw [List.length_append, List.length_singleton] at this
   simp only [Int.natCast_add, Int.cast_ofNat_Int] at this
   rw [this]
   simp [jx, Bool.and_assoc]
 have := main a.l [] true rfl
 simpa [oR] using this
theorem Ug (n : Int) (a : Sl Int) (hn : a.l.length < 4611686018427387904) : Dc a n = some (jx (fun p => Aj p 0 (W (n - 1))) none a.l) := by
 have main : ∀ post pre, a.l = pre ++ post → ∃ r, Loop (Bt a n) (pre.length : Int) = some r ∧ (match r with | .inl w => w | .inr _ => true) = jx (fun p => Aj p 0 (W (n - 1))) pre.getLast? post := by
  intro post
  induction post with
  | nil =>
   intro pre h
   have hlt : ¬ (pre.length : Int) < a.len := by rw [Sl.len_l, h]; simp
   exact ⟨.inr (), Loop.done (by simp [Bt, hlt]), rfl⟩
  | cons p post ih =>
   intro pre h
   have hlt : (pre.length : Int) < a.len := by rw [Sl.len_l, h]; simp; omega
   have hpl : pre.length < 4611686018427387904 := by rw [h] at hn; simp at hn; omega
   have hW : W ((pre.length : Int) + 1) = (pre.length : Int) + 1 := LA hpl
   have hg : Bt a n (pre.length : Int) = some (if (Aj p 0 (W (n - 1)) && (match pre.getLast? with | none => true | some x => decide (x < p))) then .inl ((pre.length : Int) + 1) else .inr (.inl false)) := by
    simp only [Bt, decide_eq_true hlt, if_true, Sl.ix_at h, Option.bind_some, hW]
    rcases kO pre with rfl | ⟨q, x, hq, hl⟩
    ·cases Aj p 0 (W (n - 1)) <;> simp
    ·have h0 : (0 : Int) < (pre.length : Int) := by rw [hq, List.length_append, List.length_singleton]; omega
     have h0n : 0 < pre.length := by omega
     have hi : W ((pre.length : Int) - 1) = (q.length : Int) := by rw [TJ (by omega) (by omega), hq]; simp
     have hx : a.ix (q.length : Int) = some x := Sl.ix_at (post := p :: post) (by rw [h, hq]; simp)
     rw [hl]
     by_cases hc : x < p
     ·have hc' : ¬ p ≤ x := by omega
      cases Aj p 0 (W (n - 1)) <;> simp [h0, h0n, hi, hx, hc, hc']
     ·have hc' : p ≤ x := by omega
      cases Aj p 0 (W (n - 1)) <;> simp [h0, h0n, hi, hx, hc, hc']
   simp only [jx]
   by_cases hc : (Aj p 0 (W (n - 1)) && (match pre.getLast? with | none => true | some x => decide (x < p))) = true
   ·rw [if_pos hc] at hg
    obtain ⟨r, h1, h2⟩ := ih (pre ++ [p]) (by rw [h]; simp)
    refine ⟨r, by rw [Loop.step hg]; simpa using h1, ?_⟩
    rw [h2, hc]; simp
   ·rw [if_neg hc] at hg
    have hc' : (Aj p 0 (W (n - 1)) && (match pre.getLast? with | none => true | some x => decide (x < p))) = false := by simpa using hc
    exact ⟨_, Loop.done hg, by rw [hc']; simp⟩
 obtain ⟨r, h1, h2⟩ := main a.l [] rfl
 have h1' : Loop (Bt a n) 0 = some r := h1
 simp only [Dc, h1', Option.bind_some]
 cases r with
 | inl w => exact congrArg some h2
 | inr u => exact congrArg some h2
theorem TL (q : Int → Bool) : ∀ (l : List Int) (prev : Option Int), jx q prev l = true → l.Pairwise (· < ·) ∧ (∀ p ∈ l, q p = true) ∧ ∀ x, prev = some x → ∀ p ∈ l, x < p
 | [], _, _ => by simp
 | p :: l, prev, h => by
  simp only [jx, Bool.and_eq_true] at h
  obtain ⟨⟨h1, h2⟩, h3⟩ := h
  obtain ⟨i1, i2, i3⟩ := TL q l (some p) h3
  refine ⟨List.pairwise_cons.mpr ⟨i3 p rfl, i1⟩, ?_, ?_⟩
  ·intro y hy
   rcases List.mem_cons.mp hy with rfl | hy
   ·exact h1
   ·exact i2 y hy
  ·rintro x rfl y hy
   simp only [decide_eq_true_eq] at h2
   rcases List.mem_cons.mp hy with rfl | hy
   ·exact h2
   ·have := i3 p rfl y hy; omega
theorem X9 : ∀ (l : List Int) (a n : Int), l.Pairwise (· < ·) → (∀ p ∈ l, a ≤ p ∧ p < n) → a ≤ n → (l.length : Int) ≤ n - a
 | [], a, n, _, _, h => by simp; omega
 | p :: l, a, n, hs, hr, h => by
  have h1 := List.pairwise_cons.mp hs
  have hp := hr p List.mem_cons_self
  have := X9 l (p + 1) n h1.2 (fun q hq => ⟨by have := h1.1 q hq; omega, (hr q (List.mem_cons_of_mem _ hq)).2⟩) (by omega)
  simp only [List.length_cons]; omega
theorem qn {b : BenchBook} (hv : Ez b) {ps : List Int} (h : oR b ps = true) : mX b ps ∧ ps.Pairwise (· < ·) := by
 obtain ⟨h1, h2, _⟩ := TL _ _ _ h
 have h3 : ∀ p ∈ ps, 0 ≤ p ∧ p < b.Pieces.l.length := fun p hp => (IY hv.few p).mp (h2 p hp)
 have := X9 ps 0 b.Pieces.l.length h1 h3 (by omega)
 have := hv.pieces
 exact ⟨⟨by omega, h3⟩, h1⟩
def sn (b : BenchBook) (ps : List Int) (x : List AC) : Bool := (Ky b A0 3 ps).any fun y => decide (y = x)
theorem ka (a2 : Sl AC) : ∀ L : List (List AC), (∀ x ∈ L, x.length ≤ 1000) → QM (t9 (Iu a2)) (L.map Sl.grow) (.inl ()) = some (if L.any (fun y => decide (y = a2.l)) then (false, .inr ()) else (true, .inl ()))
 | [], _ => rfl
 | x :: L, h => by
  have hx := h x List.mem_cons_self
  have he := eV (Sl.grow x) a2 (by rw [Sl.l_grow]; omega)
  rw [Sl.l_grow] at he
  have ih := ka a2 L fun y hy => h y (List.mem_cons_of_mem _ hy)
  simp only [List.map_cons, QM, t9, Iu, he, Option.bind_some, List.any_cons]
  by_cases hc : x = a2.l
  ·simp [hc]
  ·simp only [decide_eq_false hc, Bool.false_eq_true, if_false, Bool.false_or]; exact ih
theorem dQ {b : BenchBook} (hf : TG b) (a : Sl Int) (hn : a.l.length < 4611686018427387904) (x : Sl AC) : MN b a x = some (if AZ b (oR b a.l) = 0 then (sn b a.l x.l, 0) else (false, AZ b (oR b a.l))) := by
 obtain ⟨bk, he, h2⟩ := C3 hf (oR b a.l)
 simp only [MN, mN a hn, Option.bind_some, he]
 by_cases h0 : AZ b (oR b a.l) = 0
 ·obtain ⟨hv, hq, hfi⟩ := D6 hf h0
  obtain ⟨es, rfl, hes⟩ := h2 h0
  obtain ⟨hp, hs⟩ := qn hv hq
  have hw := QB hv (Mp.mk es) (a1 := a) hp (m := 3) (by omega)
  have hr := ka x (Ky b A0 3 a.l) (fun y hy => gK hv A0 hp hy)
  simp only [if_pos h0, h0, decide_true, if_true, hw, Option.bind_some, show (3 : Int).toNat = 3 from rfl, sn]
  by_cases hc : ((Ky b A0 3 a.l).any fun y => decide (y = x.l)) = true
  ·rw [if_pos hc] at hr
   rw [bp hv hes hp hr, hc]; rfl
  ·rw [if_neg hc] at hr
   have hc' : ((Ky b A0 3 a.l).any fun y => decide (y = x.l)) = false := eq_false_of_ne_true hc
   rw [bp hv hes hp hr, hc']; rfl
 ·simp [h0]
section
variable {b : BenchBook} (hv : Ez b) (ex : Int → Bool) (a2 : Sl Int) (a3 : Sl AC) (hp : mX b a2.l) (hn : a3.l.length < 4611686018427387904)
include hv hp hn
end
end
end Go.Lf
