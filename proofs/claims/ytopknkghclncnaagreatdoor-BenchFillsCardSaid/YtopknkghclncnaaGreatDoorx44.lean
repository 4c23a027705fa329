/- A part of the proof. -/
import Derived.Test.YtopknkghclncnaaGreatDoorx43
set_option linter.all false
namespace Go.Lf
open Go Go.Lf.Pl
noncomputable section
def Zp (b : BenchBook) (p k : Int) : Bool := AS b p && (match b.Pieces.ix p with | some x => Aa k 0 (W (x.Parts.len - 1)) | none => false)
theorem Fq {b : BenchBook} (hf : Wi b) (p : Int) : AS b p = true ↔ 0 ≤ p ∧ p < b.Pieces.l.length := by
 have := hf.pieces
 simp only [AS, Aa, Sl.len_l, Bool.and_eq_true, decide_eq_true_eq]
 rw [VV (by omega) (by omega)]; omega
section
variable {b : BenchBook} (hf : Wi b)
include hf
theorem WY {p k : Int} {x : AM} (hx : b.Pieces.ix p = some x) : Aa k 0 (W (x.Parts.len - 1)) = true ↔ 0 ≤ k ∧ k < x.Parts.l.length := by
 have := hf.parts x (E6 hx).2.2
 simp only [Aa, Sl.len_l, Bool.and_eq_true, decide_eq_true_eq]
 rw [VV (by omega) (by omega)]; omega
theorem Vg (p k : Int) : ∃ l : Sl Int, Lx b p k = some (l, AU b (Zp b p k)) ∧ l.l = if AU b (Zp b p k) = 0 then As b Ap p k else [] := by
 have hq : (if (AS b p) then Option.bind (b.Pieces.ix p) fun v3 => Option.bind (Bg b (Aa k 0 (W (v3.Parts.len - 1)))) fun v5 => some (v5.1, v5.2) else Option.bind (Bg b false) fun v7 => some (v7.1, v7.2) : Option (AC × Int)) = Bg b (Zp b p k) := by
  have hs : ∀ o : Option (AC × Int), (o.bind fun v => some (v.1, v.2)) = o := by intro o; cases o <;> rfl
  simp only [hs, Zp]
  by_cases h : AS b p = true
  ·obtain ⟨h1, h2⟩ := (Fq hf p).mp h
   obtain ⟨x, hx, _⟩ := MF h1 h2
   simp [h, hx]
  ·simp [h]
 obtain ⟨bk, he, h2⟩ := Dh hf (Zp b p k)
 simp only [Lx, hq, he, Option.bind_some]
 by_cases h0 : AU b (Zp b p k) = 0
 ·obtain ⟨es, rfl, hes⟩ := h2 h0
  simp only [if_pos h0, h0, decide_true, if_true, Sl.sub3_all, Option.bind_some]
  exact ⟨_, rfl, by rw [Sl.l_filled]; exact qS hes p k⟩
 ·simp only [if_neg h0, decide_eq_false h0, Bool.false_eq_true, if_false]
  exact ⟨Sl.nil, rfl, rfl⟩
theorem jV (p k : Int) : ∃ l : Sl Int, Of b p k = some (l, AU b (Zp b p k)) ∧ l.l = if AU b (Zp b p k) = 0 then As b Ap p k else [] := by
 have hq : EI b p k = some (Zp b p k) := by
  have e : GX b p = AS b p := rfl
  simp only [EI, e, Zp]
  by_cases h : AS b p = true
  ·obtain ⟨h1, h2⟩ := (Fq hf p).mp h
   obtain ⟨x, hx, _⟩ := MF h1 h2
   simp only [h, if_true, hx, Option.bind_some, Bool.true_and]; rfl
  ·simp [h]
 simp only [Of, hq, Df hf, Option.bind_some]
 by_cases h0 : AU b (Zp b p k) = 0
 ·obtain ⟨hv, hcq, hfi⟩ := A4 hf h0
  simp only [Zp, Bool.and_eq_true] at hcq
  obtain ⟨h1, h2⟩ := (Fq hf p).mp hcq.1
  obtain ⟨x, hx, hxm⟩ := MF h1 h2
  have h3 := hcq.2
  rw [hx] at h3
  obtain ⟨h4, h5⟩ := (WY hf hx).mp h3
  obtain ⟨y, hy, _⟩ := MF h4 h5
  obtain ⟨l, e1, e2⟩ := gI (ex := Ap) hx hy
  simp only [if_pos h0, h0, decide_true, if_true, JA hf hv hfi, Option.bind_some, e1, e2]
  exact ⟨_, rfl, rfl⟩
 ·simp only [if_neg h0, decide_eq_false h0, Bool.false_eq_true, if_false]
  exact ⟨Sl.nil, rfl, rfl⟩
end
theorem ZU : ∀ (x pre : List AA), B8 pre x = true → ∀ boy : Int, x.countP (fun y => y.Boy == boy) ≤ 1 ∧ (Gi pre boy = true → x.countP (fun y => y.Boy == boy) = 0)
 | [], _, _, _ => by simp
 | s :: x, pre, h, boy => by
  simp only [B8, Bool.and_eq_true, Bool.not_eq_true'] at h
  have ih := ZU x (pre ++ [s]) h.2 boy
  by_cases hb : s.Boy = boy
  ·have ht : Gi (pre ++ [s]) boy = true := by simp [Gi, hb]
   have h0 := ih.2 ht
   refine ⟨by rw [List.countP_cons, h0]; simp [hb], ?_⟩
   intro h1; rw [hb, h1] at h; simp at h
  ·refine ⟨by rw [List.countP_cons]; simp [hb]; exact ih.1, ?_⟩
   intro h1
   have ht : Gi (pre ++ [s]) boy = true := by simp only [Gi, List.any_append, Bool.or_eq_true] at h1 ⊢; exact .inl h1
   rw [List.countP_cons, ih.2 ht]; simp [hb]
theorem rH {b : BenchBook} (hv : Ek b) (ex : Int → Bool) {p : Int} {x : AM} (hx : b.Pieces.ix p = some x) {m : Nat} (hm : m ≤ x.Parts.l.length) : (DK p (Pq b ex p m 0) []).Perm (JH b ex m [p]) := by
 have hnd : ∀ y ∈ Pq b ex p m 0, y.2.2.Nodup := by
  intro y hy
  simp only [Pq, List.mem_map] at hy
  obtain ⟨k, _, rfl⟩ := hy
  exact (M5 ex p k).imp (fun h => by omega)
 have h := cU (Aj b) b.Most.toNat [(p, Pq b ex p m 0)] (by
  intro y hy
  simp only [List.mem_singleton] at hy
  subst hy
  exact hnd) (by simp)
 have hw : Ky [(p, Pq b ex p m 0)] = Hz b ex m [p] := by
  have hnp : CG b p = x.Parts.l.length := by simp [CG, hx]
  simp only [Ky, Hz, Gv, List.flatMap_cons, List.flatMap_nil, List.append_nil, FX, Pq, prt, Nz, List.drop_zero, List.map_map, hnp, Nat.min_eq_left hm]
  rfl
 rw [hw] at h
 have hr : JS (Aj b) b.Most.toNat [(p, Pq b ex p m 0)] [[]] = DK p (Pq b ex p m 0) [] := by
  simp only [JS, List.flatMap_cons, List.flatMap_nil, List.append_nil, List.nil_append, List.map_id']
  rw [List.filter_eq_self]
  intro y hy
  have hy2 := (Ox p _ [] hnd).mem_iff.mp hy
  simp only [List.nil_append, List.map_id', List.mem_filter] at hy2
  have hp : ∀ s ∈ y, s.Piece = p := by
   intro s hs
   obtain ⟨w, hw, he⟩ := Ix hy2.1 s hs
   simp only [FX, List.mem_map] at hw
   obtain ⟨z, _, rfl⟩ := hw
   exact he
  rw [TM]
  intro s hs
  have h1 := (ZU y [] hy2.2 s.Boy).1
  have h2 : DR (Aj b) y (Aj b s.Piece) s.Boy ≤ y.countP (fun z => z.Boy == s.Boy) := by
   apply List.countP_mono_left
   intro z _ hz
   simp only [Bool.and_eq_true] at hz
   exact hz.2
  have h3 := Nat.le_trans h2 h1
  have := hv.most
  omega
 rw [hr] at h
 exact h
def sF (b : BenchBook) (p : Int) : Int × Int := match (idx (CG b p)).find? (fun k => (JH b Ap (k + 1).toNat [p]).isEmpty) with
 | some k => (k, 0)
 | none => (0, 4)
section
variable {b : BenchBook} (hf : Wi b)
include hf
theorem MY (p : Int) : IH b p = some (if AU b (AS b p) = 0 then sF b p else (0, AU b (AS b p))) := by
 obtain ⟨bk, he, h2⟩ := Dh hf (AS b p)
 simp only [IH, he, Option.bind_some]
 by_cases h0 : AU b (AS b p) = 0
 ·obtain ⟨hv, hq, hfi⟩ := A4 hf h0
  obtain ⟨es, rfl, hes⟩ := h2 h0
  obtain ⟨h1, h3⟩ := (Fq hf p).mp hq
  obtain ⟨x, hx, hxm⟩ := MF h1 h3
  have hnp : CG b p = x.Parts.l.length := by simp [CG, hx]
  have hx3 := hv.parts x hxm
  have hps : sK b [p] := ⟨by simp, by intro q hq; simp at hq; subst hq; exact ⟨h1, h3⟩⟩
  have e : Loop (GU p (⟨b, Mp.mk es⟩, 0) x) 0 = some (((idx (CG b p)).findSome? fun k => if (JH b Ap (k + 1).toNat [p]).isEmpty then some (.inl (k, 0) : (Int × Int) ⊕ Unit) else none).getD (.inr ())) := by
   refine Loop.find (fun i => i) (idx (CG b p)) _ (by rw [AQ]; omega) rfl ?_ ?_
   ·intro pre k post hpre _ hW
    obtain ⟨hk, hlt0⟩ := IG hpre
    subst hk
    have hlt : (pre.length : Int) < x.Parts.len := by rw [Sl.len_l, ← hnp]; exact hlt0
    have hw := SK hv (Mp.mk es) (a1 := Sl.cold [p]) (by rw [Sl.l_cold]; exact hps) (m := (pre.length : Int) + 1) (by omega)
    rw [Sl.l_cold] at hw
    have hfst := eG hv hes (m := ((pre.length : Int) + 1).toNat) hps
    simp only [GU, decide_eq_true hlt, if_true, hW, hw, Option.bind_some, hfst]
    have hnb : JH b (fun _ => false) ((pre.length : Int) + 1).toNat [p] = JH b Ap ((pre.length : Int) + 1).toNat [p] := rfl
    rw [hnb]
    cases hA : JH b Ap ((pre.length : Int) + 1).toNat [p] with
    | nil => simp [JU]
    | cons y L => simp [JU]
   ·intro _
    have hlt : ¬ ((idx (CG b p)).length : Int) < x.Parts.len := by rw [Sl.len_l, AQ, hnp]; omega
    simp only [GU, decide_eq_false hlt, Bool.false_eq_true, if_false]
  simp only [if_pos h0, h0, decide_true, if_true, hx, Option.bind_some, e, sF]
  generalize idx (CG b p) = L
  induction L with
  | nil => rfl
  | cons k L ih =>
   simp only [List.findSome?_cons, List.find?_cons]
   by_cases hc : (JH b Ap (k + 1).toNat [p]).isEmpty = true
   ·simp [hc]
   ·simp only [hc, Bool.false_eq_true, if_false]; exact ih
 ·simp [h0]
theorem fH (p : Int) : Lp b p = some (if AU b (AS b p) = 0 then sF b p else (0, AU b (AS b p))) := by
 have hpe : GX b p = AS b p := rfl
 simp only [Lp, hpe, Df hf, Option.bind_some]
 by_cases h0 : AU b (AS b p) = 0
 ·obtain ⟨hv, hq, hfi⟩ := A4 hf h0
  obtain ⟨h1, h3⟩ := (Fq hf p).mp hq
  obtain ⟨x, hx, hxm⟩ := MF h1 h3
  have hnp : CG b p = x.Parts.l.length := by simp [CG, hx]
  have hx3 := hv.parts x hxm
  have e : Loop (Gj b p (Jb b Ap)) 0 = some (((idx (CG b p)).findSome? fun k => if (JH b Ap (k + 1).toNat [p]).isEmpty then some (.inl (k, 0) : (Int × Int) ⊕ Unit) else none).getD (.inr ())) := by
   refine Loop.find (fun i => i) (idx (CG b p)) _ (by rw [AQ]; omega) rfl ?_ ?_
   ·intro pre k post hpre _ hW
    obtain ⟨hk, hlt0⟩ := IG hpre
    subst hk
    have hlt : (pre.length : Int) < x.Parts.len := by rw [Sl.len_l, ← hnp]; exact hlt0
    have hmn : ((pre.length : Int) + 1).toNat = pre.length + 1 := by omega
    have hmx : pre.length + 1 ≤ x.Parts.l.length := by omega
    obtain ⟨out, g1, g2⟩ := Qj hv Ap hx hmx (pre.length + 1) 64 0 (Sl.nil : Sl AA) (by omega) (by omega) (by simp [Sl.l])
    have g1' : BC 64 b (Jb b Ap) p 0 ((pre.length : Int) + 1) Sl.nil = some out := by
     have : ((pre.length : Int) + 1) = ((pre.length + 1 : Nat) : Int) := by simp
     rw [this]; exact g1
    have hperm := rH hv Ap hx hmx
    have hlen : out.l.length = (JH b Ap (pre.length + 1) [p]).length := by
     rw [← hperm.length_eq, ← List.length_map (f := Sl.l), g2]; rfl
    have hol : out.len = ((JH b Ap (pre.length + 1) [p]).length : Int) := by rw [Sl.len_l, hlen]
    simp only [Gj, hx, Option.bind_some, decide_eq_true hlt, if_true, hW, g1', hol, hmn]
    cases hA : JH b Ap (pre.length + 1) [p] with
    | nil => simp
    | cons y L =>
     have : ¬ (((y :: L).length : Nat) : Int) = 0 := by simp; omega
     simp only [decide_eq_false this, Bool.false_eq_true, if_false]; rfl
   ·intro _
    have hlt : ¬ ((idx (CG b p)).length : Int) < x.Parts.len := by rw [Sl.len_l, AQ, hnp]; omega
    simp only [Gj, hx, Option.bind_some, decide_eq_false hlt, Bool.false_eq_true, if_false]
  simp only [if_pos h0, h0, decide_true, if_true, JA hf hv hfi, Option.bind_some, e, sF]
  generalize idx (CG b p) = L
  induction L with
  | nil => rfl
  | cons k L ih =>
   simp only [List.findSome?_cons, List.find?_cons]
   by_cases hc : (JH b Ap (k + 1).toNat [p]).isEmpty = true
   ·simp [hc]
   ·simp only [hc, Bool.false_eq_true, if_false]; exact ih
 ·simp [h0]
end
end
end Go.Lf
namespace Go.Lf
open Go Go.Lf.Pl
noncomputable section
def vX (q : Int → Bool) : Option Int → List Int → Bool
 | _, [] => true
 | prev, p :: r => q p && (match prev with | none => true | some x => decide (x < p)) && vX q (some p) r
def rO (b : BenchBook) (ps : List Int) : Bool := vX (AS b) none ps
theorem tO (pre : List Int) : pre = [] ∨ ∃ q x, pre = q ++ [x] ∧ pre.getLast? = some x := by
 rcases List.eq_nil_or_concat pre with h | ⟨q, x, h⟩
 ·exact .inl h
 ·rw [List.concat_eq_append] at h; exact .inr ⟨q, x, h, by rw [h]; simp⟩
theorem t4 {b : BenchBook} (a : Sl Int) (hn : a.l.length < 4611686018427387904) : Loop (Eu b a) (true, 0) = some (rO b a.l) := by
 have main : ∀ post pre (t : Bool), a.l = pre ++ post → Loop (Eu b a) (t, (pre.length : Int)) = some (t && vX (AS b) pre.getLast? post) := by
  intro post
  induction post with
  | nil =>
   intro pre t h
   have hlt : ¬ (pre.length : Int) < a.len := by rw [Sl.len_l, h]; simp
   exact Loop.done (by simp [Eu, hlt, vX])
  | cons p post ih =>
   intro pre t h
   have hlt : (pre.length : Int) < a.len := by rw [Sl.len_l, h]; simp; omega
   have hpl : pre.length < 4611686018427387904 := by rw [h] at hn; simp at hn; omega
   have hW : W ((pre.length : Int) + 1) = (pre.length : Int) + 1 := Ig hpl
   have hf : Eu b a (t, pre.length) = some (.inl ((t && (AS b p && (match pre.getLast? with | none => true | some x => decide (x < p)))), (pre.length : Int) + 1)) := by
    simp only [Eu, decide_eq_true hlt, if_true, Sl.ix_at h, Option.bind_some, hW]
    rcases tO pre with rfl | ⟨q, x, hq, hl⟩
    ·cases t <;> cases AS b p <;> simp
    ·have h0 : ¬ (pre.length : Int) = 0 := by rw [hq]; simp; omega
     have hi : W ((pre.length : Int) - 1) = (q.length : Int) := by rw [VV (by omega) (by omega), hq]; simp
     have hx : a.ix (q.length : Int) = some x := Sl.ix_at (post := p :: post) (by rw [h, hq]; simp)
     rw [hl]
     have hne : ¬ pre = [] := by rw [hq]; simp
     cases t <;> cases AS b p <;> simp [h0, hne, hi, hx]
   rw [Loop.step hf]
   have := ih (pre ++ [p]) (t && (AS b p && (match pre.getLast? with | none => true | some x => decide (x < p)))) (by rw [h]; simp)
   rw [List.length_append, List.length_singleton] at this
   simp only [Int.natCast_add, Int.cast_ofNat_Int] at this
   rw [this]
   simp [vX, Bool.and_assoc]
 have := main a.l [] true rfl
 simpa [rO] using this
theorem rR {b : BenchBook} (hf : Wi b) (a : Sl Int) (hn : a.l.length < 4611686018427387904) : Ho a b.Pieces.len = some (rO b a.l) := by
 have main : ∀ post pre, a.l = pre ++ post → ∃ r, Loop (CJ a b.Pieces.len) (pre.length : Int) = some r ∧ (match r with | .inl w => w | .inr _ => true) = vX (AS b) pre.getLast? post := by
  intro post
  induction post with
  | nil =>
   intro pre h
   have hlt : ¬ (pre.length : Int) < a.len := by rw [Sl.len_l, h]; simp
   exact ⟨.inr (), Loop.done (by simp [CJ, hlt]), rfl⟩
  | cons p post ih =>
   intro pre h
   have hlt : (pre.length : Int) < a.len := by rw [Sl.len_l, h]; simp; omega
   have hpl : pre.length < 4611686018427387904 := by rw [h] at hn; simp at hn; omega
   have hW : W ((pre.length : Int) + 1) = (pre.length : Int) + 1 := Ig hpl
   have hli : Ai p 0 (W (b.Pieces.len - 1)) = AS b p := rfl
   have hf : CJ a b.Pieces.len (pre.length : Int) = some (if (AS b p && (match pre.getLast? with | none => true | some x => decide (x < p))) then .inl ((pre.length : Int) + 1) else .inr (.inl false)) := by
    simp only [CJ, decide_eq_true hlt, if_true, Sl.ix_at h, Option.bind_some, hW, hli]
    rcases tO pre with rfl | ⟨q, x, hq, hl⟩
    ·cases AS b p <;> simp
    ·have h0 : (0 : Int) < (pre.length : Int) := by rw [hq, List.length_append, List.length_singleton]; omega
     have h0n : 0 < pre.length := by omega
     have hi : W ((pre.length : Int) - 1) = (q.length : Int) := by rw [VV (by omega) (by omega), hq]; simp
     have hx : a.ix (q.length : Int) = some x := Sl.ix_at (post := p :: post) (by rw [h, hq]; simp)
     rw [hl]
     by_cases hc : x < p
     ·have hc' : ¬ p ≤ x := by omega
      cases AS b p <;> simp [h0, h0n, hi, hx, hc, hc']
     ·have hc' : p ≤ x := by omega
      cases AS b p <;> simp [h0, h0n, hi, hx, hc, hc']
   simp only [vX]
   by_cases hc : (AS b p && (match pre.getLast? with | none => true | some x => decide (x < p))) = true
   ·rw [if_pos hc] at hf
    obtain ⟨r, h1, h2⟩ := ih (pre ++ [p]) (by rw [h]; simp)
    refine ⟨r, by rw [Loop.step hf]; simpa using h1, ?_⟩
    rw [h2, hc]; simp
   ·rw [if_neg hc] at hf
    have hc' : (AS b p && (match pre.getLast? with | none => true | some x => decide (x < p))) = false := by simpa using hc
    exact ⟨_, Loop.done hf, by rw [hc']; simp⟩
 obtain ⟨r, h1, h2⟩ := main a.l [] rfl
 have h1' : Loop (CJ a b.Pieces.len) 0 = some r := h1
 simp only [Ho, h1', Option.bind_some, rO]
 cases r with
 | inl w => exact congrArg some h2
 | inr u => exact congrArg some h2
theorem Y1 (q : Int → Bool) : ∀ (l : List Int) (prev : Option Int), vX q prev l = true → l.Pairwise (· < ·) ∧ (∀ p ∈ l, q p = true) ∧ ∀ x, prev = some x → ∀ p ∈ l, x < p
 | [], _, _ => by simp
 | p :: l, prev, h => by
  simp only [vX, Bool.and_eq_true] at h
  obtain ⟨⟨h1, h2⟩, h3⟩ := h
  obtain ⟨i1, i2, i3⟩ := Y1 q l (some p) h3
  refine ⟨List.pairwise_cons.mpr ⟨i3 p rfl, i1⟩, ?_, ?_⟩
  ·intro y hy
   rcases List.mem_cons.mp hy with rfl | hy
   ·exact h1
   ·exact i2 y hy
  ·rintro x rfl y hy
   simp only [decide_eq_true_eq] at h2
   rcases List.mem_cons.mp hy with rfl | hy
   ·exact h2
   ·have := i3 p rfl y hy; omega
theorem dB : ∀ (l : List Int) (a n : Int), l.Pairwise (· < ·) → (∀ p ∈ l, a ≤ p ∧ p < n) → a ≤ n → (l.length : Int) ≤ n - a
 | [], a, n, _, _, h => by simp; omega
 | p :: l, a, n, hs, hr, h => by
  have h1 := List.pairwise_cons.mp hs
  have hp := hr p List.mem_cons_self
  have := dB l (p + 1) n h1.2 (fun q hq => ⟨by have := h1.1 q hq; omega, (hr q (List.mem_cons_of_mem _ hq)).2⟩) (by omega)
  simp only [List.length_cons]; omega
theorem ww {b : BenchBook} (hv : Ek b) {ps : List Int} (h : rO b ps = true) : sK b ps ∧ ps.Pairwise (· < ·) := by
 obtain ⟨h1, h2, _⟩ := Y1 _ _ _ h
 have h3 : ∀ p ∈ ps, 0 ≤ p ∧ p < b.Pieces.l.length := fun p hp => (Fq hv.few p).mp (h2 p hp)
 have := dB ps 0 b.Pieces.l.length h1 h3 (by omega)
 have := hv.pieces
 exact ⟨⟨by omega, h3⟩, h1⟩
def xt (b : BenchBook) (ps : List Int) (x : List AA) : Bool := (JH b Ap 3 ps).any fun y => decide (y = x)
theorem tL (a2 : Sl AA) : ∀ L : List (List AA), (∀ x ∈ L, x.length ≤ 1000) → Tq (onL (K6 a2)) (L.map Sl.grow) (.inl ()) = some (if L.any (fun y => decide (y = a2.l)) then (false, .inr ()) else (true, .inl ()))
 | [], _ => rfl
 | x :: L, h => by
  have hx := h x List.mem_cons_self
  have he := nj (Sl.grow x) a2 (by rw [Sl.l_grow]; omega)
  rw [Sl.l_grow] at he
  have ih := tL a2 L fun y hy => h y (List.mem_cons_of_mem _ hy)
  simp only [List.map_cons, Tq, onL, K6, he, Option.bind_some, List.any_cons]
  by_cases hc : x = a2.l
  ·simp [hc]
  ·simp only [decide_eq_false hc, Bool.false_eq_true, if_false, Bool.false_or]; exact ih
theorem Oe {b : BenchBook} (hf : Wi b) (a : Sl Int) (hn : a.l.length < 4611686018427387904) (x : Sl AA) : KT b a x = some (if AU b (rO b a.l) = 0 then (xt b a.l x.l, 0) else (false, AU b (rO b a.l))) := by
 obtain ⟨bk, he, h2⟩ := Dh hf (rO b a.l)
 simp only [KT, t4 a hn, Option.bind_some, he]
 by_cases h0 : AU b (rO b a.l) = 0
 ·obtain ⟨hv, hq, hfi⟩ := A4 hf h0
  obtain ⟨es, rfl, hes⟩ := h2 h0
  obtain ⟨hp, hs⟩ := ww hv hq
  have hw := SK hv (Mp.mk es) (a1 := a) hp (m := 3) (by omega)
  have hr := tL x (JH b Ap 3 a.l) (fun y hy => ez hv Ap hp hy)
  simp only [if_pos h0, h0, decide_true, if_true, hw, Option.bind_some, show (3 : Int).toNat = 3 from rfl, xt]
  by_cases hc : ((JH b Ap 3 a.l).any fun y => decide (y = x.l)) = true
  ·rw [if_pos hc] at hr
   rw [lO hv hes hp hr, hc]; rfl
  ·rw [if_neg hc] at hr
   have hc' : ((JH b Ap 3 a.l).any fun y => decide (y = x.l)) = false := eq_false_of_ne_true hc
   rw [lO hv hes hp hr, hc']; rfl
 ·simp [h0]
def OA (b : BenchBook) (ex : Int → Bool) (ps : List Int) (s : AA) : Bool := ps.contains s.Piece && (Zp b s.Piece s.Part && (As b ex s.Piece s.Part).contains s.Boy)
def N9 (y x : AA) : Bool := lt3 y x && !(decide (x.Piece = y.Piece) && decide (x.Boy = y.Boy))
def Nn (b : BenchBook) (ps : List Int) (x : List AA) : Bool := ps.all fun p => (idx (CG b p)).all fun k => decide (((x.countP fun s => s.Piece == p && s.Part == k : Nat) : Int) = Eq b p k)
def H4 (b : BenchBook) (ex : Int → Bool) (ps : List Int) (x : List AA) : Bool := (seatsOk x []) && (Nn b ps x && rest (Aj b) b.Most.toNat x)
where
 seatsOk : List AA → List AA → Bool
  | [], _ => true
  | s :: r, pre => OA b ex ps s && (pre.all fun y => N9 y s) && seatsOk r (pre ++ [s])
theorem qk (x y : AA) : Fa [x.Piece, x.Part, x.Boy] [y.Piece, y.Part, y.Boy] = lt3 x y := by
 have h3 := oj x y
 by_cases hxy : x = y
 ·subst hxy; rw [cO]; simp [Fa]
 ·have h1 : ¬ [x.Piece, x.Part, x.Boy] = [y.Piece, y.Part, y.Boy] := by
   intro h; simp at h; exact hxy (PZ h.1 h.2.1 h.2.2)
  rw [if_neg (by simpa using h1), if_neg hxy] at h3
  exact h3
section
variable {b : BenchBook} (hv : Ek b) (ex : Int → Bool) (a2 : Sl Int) (a3 : Sl AA) (hp : sK b a2.l) (hn : a3.l.length < 4611686018427387904)
include hv hp hn
theorem vD {pre post : List AA} {s : AA} (h : a3.l = pre ++ s :: post) : Loop (C7 a3 (pre.length : Int) s) 0 = some (if pre.all (fun y => N9 y s) then .inr () else .inl false) := by
 have hpl : pre.length < 4611686018427387904 := by rw [h] at hn; simp at hn; omega
 have := Loop.find (f := C7 a3 (pre.length : Int) s) (fun i => i) pre (fun y => if N9 y s then none else some (.inl false : Bool ⊕ Unit)) (x0 := 0) (r0 := .inr ()) hpl rfl (by
  intro q y r hq _ hW
  have hlt : (q.length : Int) < (pre.length : Int) := by rw [hq]; simp; omega
  have hy : a3.ix (q.length : Int) = some y := Sl.ix_at (post := r ++ s :: post) (by rw [h, hq]; simp)
  have hea := UX (Sl.cold [y.Piece, y.Part, y.Boy]) (Sl.cold [s.Piece, s.Part, s.Boy]) (by simp [Sl.l])
  simp only [Sl.l_cold, qk] at hea
  simp only [C7, decide_eq_true hlt, if_true, hy, Option.bind_some, hea, hW, N9]
  by_cases hl : lt3 y s = true
  ·by_cases h1 : s.Piece = y.Piece
   ·by_cases h2 : s.Boy = y.Boy
    ·simp [hl, h1, h2]
    ·simp [hl, h1, h2]
   ·simp [hl, h1]
  ·simp [hl]) (by
  intro _
  have hlt : ¬ (pre.length : Int) < (pre.length : Int) := by omega
  simp only [C7, decide_eq_false hlt, Bool.false_eq_true, if_false])
 rw [this, O5]
 split <;> rfl
theorem pu : ∀ post pre, a3.l = pre ++ post → Loop (CM b (Jb b ex) a2 a3) (pre.length : Int) = some (if H4.seatsOk b ex a2.l post pre then .inr () else .inl false)
 | [], pre, h => by
  have hlt : ¬ (pre.length : Int) < a3.len := by rw [Sl.len_l, h]; simp
  exact Loop.done (by simp [CM, hlt, H4.seatsOk])
 | s :: post, pre, h => by
  have hlt : (pre.length : Int) < a3.len := by rw [Sl.len_l, h]; simp; omega
  have hW : W ((pre.length : Int) + 1) = (pre.length : Int) + 1 := Ig (by rw [h] at hn; simp at hn; omega)
  obtain ⟨v, hv1, hv2⟩ := gr a2 (by have := hp.1; omega) s.Piece
  have ho : (Option.bind (E2 a2 s.Piece) fun v10 => if (decide (v10 < 0)) then some (true) else Option.bind (EI b s.Piece s.Part) fun v13 => if v13 then Option.bind ((Jb b ex).ix s.Piece) fun v16 => Option.bind (v16.ix s.Part) fun v18 => Option.bind (E2 v18 s.Boy) fun v20 => some ((decide (v20 < 0))) else some (true) : Option (Bool)) = some (!OA b ex a2.l s) := by
   rw [hv1, Option.bind_some, hv2, OA]
   by_cases h1 : a2.l.contains s.Piece = true
   ·have hpm := hp.2 s.Piece (List.contains_iff_mem.mp h1)
    obtain ⟨x, hx, hxm⟩ := MF hpm.1 hpm.2
    have hq : EI b s.Piece s.Part = some (Zp b s.Piece s.Part) := by
     have e : GX b s.Piece = AS b s.Piece := rfl
     have h2 := (Fq hv.few s.Piece).mpr hpm
     simp only [EI, e, Zp, h2, if_true, hx, Option.bind_some, Bool.true_and]; rfl
    simp only [h1, Bool.not_true, Bool.false_eq_true, if_false, hq, Option.bind_some, Bool.true_and]
    by_cases h2 : Zp b s.Piece s.Part = true
    ·have h3 := h2
     simp only [Zp, Bool.and_eq_true, hx] at h3
     obtain ⟨h4, h5⟩ := (WY hv.few hx).mp h3.2
     obtain ⟨y, hy, _⟩ := MF h4 h5
     obtain ⟨l, e1, e2⟩ := gI (ex := ex) hx hy
     have h4 := Oa hv ex s.Piece s.Part
     obtain ⟨w, hw1, hw2⟩ := gr (Sl.hot (As b ex s.Piece s.Part)) (by rw [Sl.l_hot]; omega) s.Boy
     rw [Sl.l_hot] at hw2
     simp only [h2, if_true, e1, e2, Option.bind_some, hw1, hw2, Bool.true_and]
    ·have h2' : Zp b s.Piece s.Part = false := by simpa using h2
     simp [h2']
   ·have h1' : a2.l.contains s.Piece = false := by simpa using h1
    simp only [h1', Bool.not_false, if_true, Bool.false_and]
  have hs2 := vD hv a2 a3 hp hn h
  have hf : CM b (Jb b ex) a2 a3 (pre.length : Int) = some (if OA b ex a2.l s && (pre.all fun y => N9 y s) then .inl ((pre.length : Int) + 1) else .inr (.inl false)) := by
   simp only [CM, decide_eq_true hlt, if_true, Sl.ix_at h, Option.bind_some]
   rw [ho]
   simp only [Option.bind_some, hs2, hW]
   cases OA b ex a2.l s with
   | false => simp
   | true =>
    cases hc : pre.all (fun y => N9 y s) <;> simp
  have e : H4.seatsOk b ex a2.l (s :: post) pre = ((OA b ex a2.l s && (pre.all fun y => N9 y s)) && H4.seatsOk b ex a2.l post (pre ++ [s])) := rfl
  by_cases hc : (OA b ex a2.l s && (pre.all fun y => N9 y s)) = true
  ·rw [if_pos hc] at hf
   have e2 : H4.seatsOk b ex a2.l (s :: post) pre = H4.seatsOk b ex a2.l post (pre ++ [s]) := by rw [e, hc, Bool.true_and]
   have := pu post (pre ++ [s]) (by rw [h]; simp)
   rw [Loop.step hf]
   simp only [e2]
   simpa using this
  ·rw [if_neg hc] at hf
   have e2 : H4.seatsOk b ex a2.l (s :: post) pre = false := by rw [e, eq_false_of_ne_true hc, Bool.false_and]
   rw [Loop.done hf]
   simp only [e2]; rfl
theorem vq : Loop (DF b a2 a3) 0 = some (if Nn b a2.l a3.l then .inr () else .inl false) := by
 have hp3 := hp.1
 have e5 : ∀ (i : Nat) (p k : Int), a2.ix i = some p → Loop (D9 a2 a3 i k) (0, 0) = some ((a3.l.countP fun s => s.Piece == p && s.Part == k : Nat) : Int) := by
  intro i p k hi
  refine Cj (fun t i => (t, i)) a3.l (fun pre => ((pre.countP fun s => s.Piece == p && s.Part == k : Nat) : Int)) hn rfl ?_ ?_
  ·intro pre s post hpre hW
   have hlt : (pre.length : Int) < a3.len := by rw [Sl.len_l, hpre]; simp; omega
   have hle : (pre.countP fun s => s.Piece == p && s.Part == k) ≤ pre.length := List.countP_le_length
   have hWs : W (((pre.countP fun s => s.Piece == p && s.Part == k : Nat) : Int) + 1) = ((pre.countP fun s => s.Piece == p && s.Part == k : Nat) : Int) + 1 := Ig (by rw [hpre] at hn; simp at hn; omega)
   simp only [D9, decide_eq_true hlt, if_true, Sl.ix_at hpre, hi, Option.bind_some, hW, hWs, List.countP_append, List.countP_cons, List.countP_nil]
   by_cases h1 : s.Piece = p
   ·by_cases h2 : s.Part = k
    ·simp [h1, h2]
    ·simp [h1, h2]
   ·simp [h1]
  ·have hlt : ¬ (a3.l.length : Int) < a3.len := by rw [Sl.len_l]; omega
   simp only [D9, decide_eq_false hlt, Bool.false_eq_true, if_false]
 have e4 : ∀ (i : Nat) (p : Int), a2.ix i = some p → Loop (DD b a2 a3 i) 0 = some (if (idx (CG b p)).all (fun k => decide (((a3.l.countP fun s => s.Piece == p && s.Part == k : Nat) : Int) = Eq b p k)) then .inr () else .inl false) := by
  intro i p hi
  have hpm := hp.2 p (E6 hi).2.2
  obtain ⟨x, hx, hxm⟩ := MF hpm.1 hpm.2
  have hx3 := hv.parts x hxm
  have hnp : CG b p = x.Parts.l.length := by simp [CG, hx]
  have := Loop.find (f := DD b a2 a3 i) (fun i => i) (idx (CG b p)) (fun k => if decide (((a3.l.countP fun s => s.Piece == p && s.Part == k : Nat) : Int) = Eq b p k) then none else some (.inl false : Bool ⊕ Unit)) (x0 := 0) (r0 := .inr ()) (by rw [AQ]; omega) rfl (by
   intro pre k post hpre _ hW
   obtain ⟨hk, hlt0⟩ := IG hpre
   subst hk
   have hlt : (pre.length : Int) < x.Parts.len := by rw [Sl.len_l, ← hnp]; exact hlt0
   obtain ⟨y, hy, _⟩ := MF (x := x.Parts) (i := (pre.length : Int)) (by omega) (by rw [← hnp]; exact hlt0)
   have hm : Eq b p pre.length = y.Many := by simp [Eq, hx, hy]
   simp only [DD, hi, hx, Option.bind_some, decide_eq_true hlt, if_true, e5 i p _ hi, hy, hW, hm]
   by_cases hc : ((a3.l.countP fun s => s.Piece == p && s.Part == (pre.length : Int) : Nat) : Int) = y.Many
   ·simp only [decide_eq_true hc, if_true]
   ·simp only [decide_eq_false hc, Bool.false_eq_true, if_false]) (by
   intro _
   have hlt : ¬ ((idx (CG b p)).length : Int) < x.Parts.len := by rw [AQ, Sl.len_l, hnp]; omega
   simp only [DD, hi, hx, Option.bind_some, decide_eq_false hlt, Bool.false_eq_true, if_false])
  rw [this, O5]
  split <;> rfl
 have := Loop.find (f := DF b a2 a3) (fun i => i) a2.l (fun p => if (idx (CG b p)).all (fun k => decide (((a3.l.countP fun s => s.Piece == p && s.Part == k : Nat) : Int) = Eq b p k)) then none else some (.inl false : Bool ⊕ Unit)) (x0 := 0) (r0 := .inr ()) (by omega) rfl (by
  intro pre p post hpre _ hW
  have hlt : (pre.length : Int) < a2.len := by rw [Sl.len_l, hpre]; simp; omega
  simp only [DF, decide_eq_true hlt, if_true, e4 pre.length p (Sl.ix_at hpre), Option.bind_some, hW]
  by_cases hc : (idx (CG b p)).all (fun k => decide (((a3.l.countP fun s => s.Piece == p && s.Part == k : Nat) : Int) = Eq b p k)) = true
  ·simp only [hc, if_true]
  ·simp only [hc, Bool.false_eq_true, if_false]) (by
  intro _
  have hlt : ¬ (a2.l.length : Int) < a2.len := by rw [Sl.len_l]; omega
  simp only [DF, decide_eq_false hlt, Bool.false_eq_true, if_false])
 rw [this, O5]
 simp only [Nn]
 have tail : ∀ c : Bool, ((if c = true then none else some (Sum.inl false : Bool ⊕ Unit)).getD (.inr ())) = (if c = true then .inr () else .inl false) := by intro c; cases c <;> rfl
 exact congrArg some (tail _)
omit hn in
theorem YU : ∀ (x pre : List AA), H4.seatsOk b ex a2.l x pre = true → (∀ s ∈ x, OA b ex a2.l s = true)
 | [], _, _ => by simp
 | s :: x, pre, h => by
  simp only [H4.seatsOk, Bool.and_eq_true] at h
  intro t ht
  rcases List.mem_cons.mp ht with rfl | ht
  ·exact h.1.1
  ·exact YU x _ h.2 t ht
theorem rX : Ht b (Jb b ex) a2 a3 = some (H4 b ex a2.l a3.l) := by
 have h1 := pu hv ex a2 a3 hp hn a3.l [] rfl
 have h1' : Loop (CM b (Jb b ex) a2 a3) 0 = some (if H4.seatsOk b ex a2.l a3.l [] then .inr () else .inl false) := h1
 have h3 := vq hv a2 a3 hp hn
 simp only [Ht, h1', Option.bind_some, H4]
 by_cases hc : H4.seatsOk b ex a2.l a3.l [] = true
 ·have hso : LQ b a3.l := by
   intro s hs
   have := YU hv ex a2 hp a3.l [] hc s hs
   simp only [OA, Bool.and_eq_true] at this
   exact ⟨hp.2 _ (List.contains_iff_mem.mp this.1), ek (List.contains_iff_mem.mp this.2.2)⟩
  have hr := oP hv a3 hn hso
  rw [if_pos hc, hc]
  simp only [h3, Option.bind_some]
  by_cases hc2 : Nn b a2.l a3.l = true
  ·rw [if_pos hc2, hc2]
   simp only [hr, Option.bind_some, Bool.true_and]
  ·have hc2' : Nn b a2.l a3.l = false := by simpa using hc2
   rw [if_neg hc2, hc2']; rfl
 ·have hc' : H4.seatsOk b ex a2.l a3.l [] = false := by simpa using hc
  rw [if_neg hc, hc']; rfl
end
theorem ZA (b : BenchBook) (ex : Int → Bool) (ps : List Int) : ∀ (x pre : List AA), H4.seatsOk b ex ps x pre = true ↔ (∀ s ∈ x, OA b ex ps s = true) ∧ (∀ y ∈ pre, ∀ s ∈ x, N9 y s = true) ∧ x.Pairwise (fun y s => N9 y s = true)
 | [], pre => by simp [H4.seatsOk]
 | s :: x, pre => by
  have ih := ZA b ex ps x (pre ++ [s])
  simp only [H4.seatsOk, Bool.and_eq_true, ih, List.all_eq_true, List.pairwise_cons]
  constructor
  ·rintro ⟨⟨h1, h2⟩, h3, h4, h5⟩
   refine ⟨?_, ?_, ?_, h5⟩
   ·intro t ht
    rcases List.mem_cons.mp ht with rfl | ht
    ·exact h1
    ·exact h3 t ht
   ·intro y hy t ht
    rcases List.mem_cons.mp ht with rfl | ht
    ·exact h2 y hy
    ·exact h4 y (by simp [hy]) t ht
   ·intro t ht; exact h4 s (by simp) t ht
  ·rintro ⟨h1, h2, h3, h4⟩
   refine ⟨⟨h1 s (by simp), fun y hy => h2 y hy s (by simp)⟩, fun t ht => h1 t (by simp [ht]), ?_, h4⟩
   intro y hy t ht
   rcases List.mem_append.mp hy with hy | hy
   ·exact h2 y hy t (by simp [ht])
   ·simp only [List.mem_singleton] at hy; subst hy; exact h3 t ht
theorem b9 {b : BenchBook} (ex : Int → Bool) (m : Nat) {ps : List Int} (hs : ps.Pairwise (· < ·)) : RL (Hz b ex m ps) := by
 refine ⟨?_, ?_⟩
 ·simp only [Hz, Gv, List.pairwise_map, List.pairwise_flatMap]
  refine ⟨?_, ?_⟩
  ·intro p _
   simp only [Nz, List.pairwise_map]
   refine (UI _).imp ?_
   intro a c h
   right; exact ⟨rfl, h⟩
  ·refine hs.imp ?_
   intro p q hpq w hw w' hw'
   simp only [Nz, List.mem_map] at hw hw'
   obtain ⟨k, _, rfl⟩ := hw
   obtain ⟨k', _, rfl⟩ := hw'
   left; exact hpq
 ·intro w hw
  simp only [Hz, List.mem_map] at hw
  obtain ⟨w', _, rfl⟩ := hw
  exact M5 ex _ _
theorem dS {b : BenchBook} (hv : Ek b) {ex : Int → Bool} {ps : List Int} {w : WZ} : w ∈ Hz b ex 3 ps ↔ ∃ p ∈ ps, ∃ k : Int, 0 ≤ k ∧ k < CG b p ∧ w = ⟨p, k, (Eq b p k).toNat, As b ex p k⟩ := by
 simp only [Hz, Gv, Nz, List.mem_map, List.mem_flatMap]
 constructor
 ·rintro ⟨w', ⟨p, hp, k, hk, rfl⟩, rfl⟩
  have := G7.mp hk
  have h3 := XO hv p
  exact ⟨p, hp, k, this.1, by omega, rfl⟩
 ·rintro ⟨p, hp, k, h0, h1, rfl⟩
  have h3 := XO hv p
  exact ⟨_, ⟨p, hp, k, G7.mpr ⟨h0, by omega⟩, rfl⟩, rfl⟩
theorem wI {b : BenchBook} (hv : Ek b) {ps : List Int} (hp : sK b ps) (hs : ps.Pairwise (· < ·)) (x : List AA) : H4 b Ap ps x = xt b ps x := by
 rw [Bool.eq_iff_iff]
 have hm : xt b ps x = true ↔ x ∈ JH b Ap 3 ps := by
  simp only [xt, List.any_eq_true, decide_eq_true_eq]
  constructor
  ·rintro ⟨y, hy, rfl⟩; exact hy
  ·intro h; exact ⟨x, h, rfl⟩
 rw [hm, JH, vH _ _ (b9 Ap 3 hs)]
 simp only [H4, Bool.and_eq_true, ZA, List.not_mem_nil, false_imp_iff, implies_true, true_and]
 have hseat : ∀ s : AA, OA b Ap ps s = true ↔ ∃ w ∈ Hz b Ap 3 ps, w.wp = s.Piece ∧ w.wk = s.Part ∧ s.Boy ∈ w.able := by
  intro s
  simp only [OA, Bool.and_eq_true, List.contains_iff_mem, dS hv]
  constructor
  ·rintro ⟨h1, h2, h3⟩
   have hpm := hp.2 _ h1
   obtain ⟨y, hy, hym⟩ := MF hpm.1 hpm.2
   simp only [Zp, Bool.and_eq_true, hy] at h2
   have h4 := (WY hv.few hy).mp h2.2
   exact ⟨_, ⟨s.Piece, h1, s.Part, h4.1, by simp only [CG, hy]; exact h4.2, rfl⟩, rfl, rfl, h3⟩
  ·rintro ⟨w, ⟨p, h1, k, h2, h3, rfl⟩, rfl, rfl, h4⟩
   have hpm := hp.2 _ h1
   obtain ⟨y, hy, hym⟩ := MF hpm.1 hpm.2
   refine ⟨h1, ?_, h4⟩
   simp only [Zp, Bool.and_eq_true, hy]
   simp only [CG, hy] at h3
   exact ⟨(Fq hv.few _).mpr hpm, (WY hv.few hy).mpr ⟨h2, h3⟩⟩
 have hcnt : Nn b ps x = true ↔ ∀ w ∈ Hz b Ap 3 ps, x.countP (fun s => s.Piece == w.wp && s.Part == w.wk) = w.many := by
  simp only [Nn, List.all_eq_true, decide_eq_true_eq, dS hv]
  constructor
  ·rintro h w ⟨p, h1, k, h2, h3, rfl⟩
   have := h p h1 k (G7.mpr ⟨h2, h3⟩)
   have hmo := Yo hv p k
   simp only
   omega
  ·intro h p h1 k hk
   have := h _ ⟨p, h1, k, (G7.mp hk).1, (G7.mp hk).2, rfl⟩
   have hmo := Yo hv p k
   simp only at this
   omega
 have hbeh : x.Pairwise (fun y s => N9 y s = true) ↔ x.Pairwise (fun y z => lt3 y z = true) ∧ x.Pairwise (fun y z => ¬ (y.Piece = z.Piece ∧ y.Boy = z.Boy)) := by
  rw [← List.pairwise_and_iff]
  apply List.Pairwise.iff
  intro y z
  simp only [N9, Bool.and_eq_true, Bool.not_eq_true', Bool.and_eq_false_iff, decide_eq_false_iff_not]
  constructor
  ·rintro ⟨h1, h2⟩
   refine ⟨h1, ?_⟩
   rintro ⟨h3, h4⟩
   rcases h2 with h2 | h2
   ·exact h2 h3.symm
   ·exact h2 h4.symm
  ·rintro ⟨h1, h2⟩
   refine ⟨h1, ?_⟩
   by_cases h3 : z.Piece = y.Piece
   ·right; intro h4; exact h2 ⟨h3.symm, h4.symm⟩
   ·left; exact h3
 rw [hcnt, hbeh]
 constructor
 ·rintro ⟨⟨h1, h2, h3⟩, h4, h5⟩
  exact ⟨⟨fun s hs => (hseat s).mp (h1 s hs), h2, h4⟩, h3, h5⟩
 ·rintro ⟨⟨h1, h2, h4⟩, h3, h5⟩
  exact ⟨⟨fun s hs => (hseat s).mpr (h1 s hs), h2, h3⟩, h4, h5⟩
theorem U9 {b : BenchBook} (hf : Wi b) (a : Sl Int) (hn : a.l.length < 4611686018427387904) (x : Sl AA) (hx : x.l.length < 4611686018427387904) : MO b a x = some (if AU b (rO b a.l) = 0 then (xt b a.l x.l, 0) else (false, AU b (rO b a.l))) := by
 simp only [MO, rR hf a hn, Option.bind_some, Df hf]
 by_cases h0 : AU b (rO b a.l) = 0
 ·obtain ⟨hv, hq, hfi⟩ := A4 hf h0
  obtain ⟨hp, hs⟩ := ww hv hq
  simp only [if_pos h0, h0, decide_true, if_true, JA hf hv hfi, Option.bind_some, rX hv Ap a x hp hx, wI hv hp hs]
 ·simp [h0]
end
end Go.Lf
