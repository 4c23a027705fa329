/- A part of the proof. -/
import Derived.Test.YtohgomfnigdaoaaDoory39
set_option linter.all false
namespace Go.Lf
open Go Go.Lf.Pl
noncomputable section
structure yy (W : List Jd) : Prop where
 one : ∀ w ∈ W, w.many = 1
 ord : W.Pairwise fun w w' => w.wp < w'.wp
theorem YM (wk : Int → Int) : ∀ (W : List Jd) (pre x : List AC), yy W → (∀ y ∈ pre, ∀ w ∈ W, y.Piece ≠ w.wp) → pre.length + W.length ≤ 3 → x ∈ Ft W → Bh wk 3 pre x = true
 | [], pre, x, _, _, _, hx => by
  simp only [Ft, List.mem_singleton] at hx; subst hx; rfl
 | w :: W, pre, x, ho, hp, hl, hx => by
  have h1 := ho.one w List.mem_cons_self
  simp only [Ft, List.mem_flatMap, List.mem_map] at hx
  obtain ⟨c, hc, r, hr, rfl⟩ := hx
  rw [h1, O0, List.mem_map] at hc
  obtain ⟨a, _, rfl⟩ := hc
  have ho' := List.pairwise_cons.mp ho.ord
  show Bh wk 3 pre (⟨w.wp, w.wk, a⟩ :: r) = true
  have hcl : Qq pre ⟨w.wp, w.wk, a⟩ = false := by
   rw [Bool.eq_false_iff]
   intro h
   simp only [Qq, List.any_eq_true, Bool.and_eq_true, beq_iff_eq] at h
   obtain ⟨y, hy, e, _⟩ := h
   exact hp y hy w List.mem_cons_self e
  have hsi : Fe wk pre (wk w.wp) a ≤ pre.length := List.countP_le_length
  simp only [List.length_cons] at hl
  have hs : decide (Fe wk pre (wk w.wp) a < 3) = true := decide_eq_true (by omega)
  have hst : I7 wk 3 pre ⟨w.wp, w.wk, a⟩ = true := by
   unfold I7
   rw [hcl]
   exact hs
  simp only [Bh, Bool.and_eq_true]
  refine ⟨hst, YM wk W (pre ++ [⟨w.wp, w.wk, a⟩]) r ⟨fun v hv => ho.one v (List.mem_cons_of_mem _ hv), ho'.2⟩ ?_ (by simp; omega) hr⟩
  intro y hy v hv
  rcases List.mem_append.mp hy with hy | hy
  ·exact hp y hy v (List.mem_cons_of_mem _ hv)
  ·simp only [List.mem_singleton] at hy; subst hy
   have := ho'.1 v hv
   show w.wp ≠ v.wp
   omega
def jQ : List Nat → Nat
 | [] => 1
 | n :: l => n * jQ l
theorem WH : ∀ W : List Jd, (∀ w ∈ W, w.many = 1) → (Ft W).length = jQ (W.map fun w => w.able.length)
 | [], _ => rfl
 | w :: W, h => by
  have ih := WH W fun v hv => h v (List.mem_cons_of_mem _ hv)
  simp only [Ft, h w List.mem_cons_self, O0, List.flatMap_map, List.map_cons, jQ]
  generalize w.able = l
  induction l with
  | nil => simp
  | cons a l ih2 =>
   simp only [List.flatMap_cons, List.length_append, List.length_map, ih2, ih, List.length_cons]
   rw [Nat.succ_mul, Nat.add_comm]
def Ho : List Jd → List AC
 | [] => []
 | w :: W => match w.able with
  | [] => Ho W
  | a :: _ => ⟨w.wp, w.wk, a⟩ :: Ho W
theorem eW : ∀ W : List Jd, (∀ w ∈ W, w.many = 1) → (∀ w ∈ W, w.able ≠ []) → ∃ L, Ft W = Ho W :: L
 | [], _, _ => ⟨[], rfl⟩
 | w :: W, h, hn => by
  obtain ⟨L, hL⟩ := eW W (fun v hv => h v (List.mem_cons_of_mem _ hv)) fun v hv => hn v (List.mem_cons_of_mem _ hv)
  have h1 := hn w List.mem_cons_self
  simp only [Ft, h w List.mem_cons_self, O0, List.flatMap_map, Ho]
  cases hA : w.able with
  | nil => exact absurd hA h1
  | cons a l =>
   simp only [List.flatMap_cons, hL, List.map_cons, List.cons_append]
   exact ⟨_, rfl⟩
theorem mt {l : List Nat} : jQ l = 0 ↔ 0 ∈ l := by
 induction l with
 | nil => simp [jQ]
 | cons n l ih => simp only [jQ, Nat.mul_eq_zero, ih, List.mem_cons]; exact ⟨fun h => h.imp Eq.symm id, fun h => h.imp Eq.symm id⟩
section
variable {b : VoiceBook} {qs : List (Int × BS)} (h3 : qs.length ≤ 3)
def oC (b : VoiceBook) (q : Int × BS) : List Int := V1 b q.1 q.2
def Ci (b : VoiceBook) (qs : List (Int × BS)) : List Jd := (List.range qs.length).map fun (p : Nat) => ⟨(p : Int), 0, 1, (qs[p]?.map (oC b)).getD []⟩
theorem oR : EV (EB b qs) BE 3 (idx qs.length) = Ci b qs := by
 have : ∀ l : List Nat, (∀ p ∈ l, p < qs.length) → EV (EB b qs) BE 3 (l.map fun (p : Nat) => (p : Int)) = l.map fun (p : Nat) => (⟨(p : Int), 0, 1, (qs[p]?.map (oC b)).getD []⟩ : Jd) := by
  intro l
  induction l with
  | nil => intro _; rfl
  | cons p l ih =>
   intro h
   have hp := h p List.mem_cons_self
   have hx := jn (b := b) hp
   have hn : GV (EB b qs) (p : Int) = 1 := by
    unfold GV; rw [hx]; rfl
   have hm : JA (EB b qs) (p : Int) 0 = 1 := by
    unfold JA; rw [hx]; rfl
   have ha : BD (EB b qs) BE (p : Int) 0 = oC b qs[p] := by
    rw [gU BE hp]; rfl
   have h1 : EV (EB b qs) BE 3 ((p : Int) :: l.map fun (p : Nat) => (p : Int)) = EV (EB b qs) BE 3 [(p : Int)] ++ EV (EB b qs) BE 3 (l.map fun (p : Nat) => (p : Int)) := by
    simp only [EV, Fq, List.flatMap_cons, List.flatMap_nil, List.append_nil, List.map_append]
   rw [List.map_cons, h1, ih fun q hq => h q (List.mem_cons_of_mem _ hq), List.map_cons]
   have h2 : EV (EB b qs) BE 3 [(p : Int)] = [⟨(p : Int), 0, 1, oC b qs[p]⟩] := by
    simp only [EV, Fq, List.flatMap_cons, List.flatMap_nil, List.append_nil, Jy, hn]
    show [(J8 (EB b qs) BE ⟨⟨(p : Int), 0⟩, JA (EB b qs) (p : Int) 0, 0⟩)] = _
    simp only [J8, hm, ha]
    rfl
   rw [h2, List.getElem?_eq_getElem hp]
   rfl
 exact this (List.range qs.length) fun p hp => List.mem_range.mp hp
include h3
theorem pj : sB (EB b qs) = Ft (Ci b qs) := by
 have hl : (EB b qs).Pieces.l.length = qs.length := by rw [QO, List.length_map]
 have hw : EV (EB b qs) BE 3 (idx (EB b qs).Pieces.l.length) = Ci b qs := by rw [hl]; exact oR
 have ho : yy (Ci b qs) := by
  refine ⟨fun w hw => ?_, ?_⟩
  ·simp only [Ci, List.mem_map] at hw
   obtain ⟨p, _, rfl⟩ := hw; rfl
  ·simp only [Ci, List.pairwise_map]
   refine (List.pairwise_lt_range (n := qs.length)).imp ?_
   intro a c h
   show (a : Int) < (c : Int)
   omega
 unfold sB Iu
 rw [hw, J7]
 simp only [List.nil_append, List.map_id']
 rw [List.filter_eq_self]
 intro x hx
 exact YM _ (Ci b qs) [] x ho (by simp) (by simp [Ci]; exact h3) hx
end
theorem jt (b : VoiceBook) (qs : List (Int × BS)) : (Ci b qs).map (fun w => w.able) = qs.map (oC b) := by
 apply List.ext_getElem?
 intro i
 simp only [Ci, List.map_map, List.getElem?_map]
 by_cases hi : i < qs.length
 ·rw [List.getElem?_range hi, List.getElem?_eq_getElem hi]
  simp [Function.comp, List.getElem?_eq_getElem hi]
 ·rw [List.getElem?_eq_none (by simp; omega), List.getElem?_eq_none (by omega)]
  rfl
end
end Go.Lf
namespace Go.Lf
open Go Go.Lf.Pl
noncomputable section
theorem qQ (l : Sl Int) (n : Int) (h : l.l.length ≤ 1000) : JR l n = some (Sl.hot (l.l ++ [n])) := by
 unfold JR
 have h1 : (Sl.hot [] : Sl Int).app 8 l.l = some (.hot l.l) := by
  rw [Sl.app_hot (Bl (by simp; omega) (by omega))]; rfl
 have h2 : (Sl.hot l.l : Sl Int).app 8 [n] = some (.hot (l.l ++ [n])) := Sl.app_hot (Bl (by simp; omega) (by omega))
 rw [h1, BV, h2, BV]
def t3 (b : VoiceBook) (r : Sl Int × Sl BS) : Prop := r.1.l.length = r.2.l.length ∧ r.2.l.length ≤ 3 ∧ (∀ w ∈ r.1.l, 0 ≤ w ∧ w < b.Weeks) ∧ ∀ s ∈ r.2.l, G5 s
theorem gV {b : VoiceBook} (hw : 1 ≤ b.Weeks ∧ b.Weeks ≤ 6) (n : Sl Int) (hn : n.l.length < 4611686018427387904) : ∀ (k : Nat) (ws : Sl Int) (pl : List BS), pl.length + k = 3 → t3 b (ws, Sl.hot pl) →
  ∃ r, t3 b r ∧ Loop (Dj b n) (ws, Sl.hot pl, ((3 * pl.length : Nat) : Int)) = some r
 | 0, ws, pl, hk, hc => by
  refine ⟨_, hc, Loop.done ?_⟩
  have h1 : ¬ (Sl.hot pl : Sl BS).len < 3 := by rw [Sl.len_l, Sl.l_hot]; omega
  simp only [Dj, decide_eq_false h1, Bool.and_false, Bool.false_eq_true, if_false]
 | k + 1, ws, pl, hk, hc => by
  have hpl : pl.length ≤ 2 := by omega
  have hW2 : W (((3 * pl.length : Nat) : Int) + 2) = ((3 * pl.length + 2 : Nat) : Int) := by rw [TK (by omega) (by omega)]; omega
  by_cases hlt : ((3 * pl.length + 2 : Nat) : Int) < n.len
  case neg =>
   refine ⟨_, hc, Loop.done ?_⟩
   simp only [Dj, hW2, decide_eq_false hlt, Bool.false_and, Bool.false_eq_true, if_false]
  case pos =>
   have h1 : (Sl.hot pl : Sl BS).len < 3 := by rw [Sl.len_l, Sl.l_hot]; omega
   have hlt' := hlt
   rw [Sl.len_l] at hlt'
   obtain ⟨n0, i0, _⟩ := dH (x := n) (i := ((3 * pl.length : Nat) : Int)) (by omega) (by omega)
   obtain ⟨n1, i1, _⟩ := dH (x := n) (i := ((3 * pl.length + 1 : Nat) : Int)) (by omega) (by omega)
   obtain ⟨n2, i2, _⟩ := dH (x := n) (i := ((3 * pl.length + 2 : Nat) : Int)) (by omega) (by omega)
   have hW1 : W (((3 * pl.length : Nat) : Int) + 1) = ((3 * pl.length + 1 : Nat) : Int) := by rw [TK (by omega) (by omega)]; omega
   obtain ⟨w, e1, w0, w1⟩ := YR (n := n0) (m := b.Weeks) (by omega) (by omega)
   obtain ⟨s, e2, hs⟩ := kO n1 n2
   obtain ⟨c1, c2, c3, c4⟩ := hc
   have c1' : ws.l.length = pl.length := c1
   have e3 := qQ ws w (by omega)
   have e4 : (Sl.hot pl : Sl BS).app 16 [s] = some (.hot (pl ++ [s])) := Sl.app_hot (Bl (by simp; omega) (by omega))
   have hW3 : W (((3 * pl.length : Nat) : Int) + 3) = ((3 * (pl ++ [s]).length : Nat) : Int) := by rw [TK (by omega) (by omega)]; simp; omega
   have hstep : Dj b n (ws, Sl.hot pl, ((3 * pl.length : Nat) : Int)) = some (.inl ((Sl.hot (ws.l ++ [w])).cool, Sl.hot (pl ++ [s]), ((3 * (pl ++ [s]).length : Nat) : Int))) := by
    simp only [Dj, hW2, hW1, decide_eq_true hlt, decide_eq_true h1, Bool.and_self, if_true, i0, i1, i2, e1, e2, e3, e4, BV, hW3]
   rw [Loop.step hstep]
   refine gV hw n hn k _ _ (by simp; omega) ⟨?_, ?_, ?_, ?_⟩
   ·show (ws.l ++ [w]).length = (pl ++ [s]).length
    simp [c1']
   ·show (pl ++ [s]).length ≤ 3
    simp; omega
   ·intro x hx
    rcases List.mem_append.mp (show x ∈ ws.l ++ [w] from hx) with h | h
    ·exact c3 x h
    ·simp only [List.mem_singleton] at h; subst h; exact ⟨w0, w1⟩
   ·intro x hx
    rcases List.mem_append.mp (show x ∈ pl ++ [s] from hx) with h | h
    ·exact c4 x h
    ·simp only [List.mem_singleton] at h; subst h; exact hs
theorem Q8 (a : Jd) : ∀ W : List Jd, Ho (W ++ [a]) = Ho W ++ (match a.able with
 | [] => []
 | x :: _ => [⟨a.wp, a.wk, x⟩])
 | [] => by
  simp only [List.nil_append, Ho]
  try (cases a.able <;> rfl)
 | w :: W => by
  simp only [List.cons_append, Ho, Q8 a W]
  try (cases w.able <;> rfl)
theorem UB : ∀ W : List Jd, (Ho W).length ≤ W.length
 | [] => by simp [Ho]
 | w :: W => by
  have := UB W
  simp only [Ho]
  cases w.able <;> simp <;> omega
def dM : List Jd → Sl Int
 | [] => Sl.hot []
 | w :: W => Sl.cold ((w :: W).map fun v => ((v.able.length : Nat) : Int))
theorem qA (W : List Jd) : (dM W).l = W.map fun v => ((v.able.length : Nat) : Int) := by cases W <;> rfl
theorem mg (W : List Jd) (a : Jd) : (Sl.hot ((dM W).l ++ [((a.able.length : Nat) : Int)])).cool = dM (W ++ [a]) := by
 rw [qA]
 cases W with
 | nil => rfl
 | cons w W => simp [dM, Sl.cool]
section
variable {b : VoiceBook} (hf : dU b) (hok : vOk b = true) (hfi : HI b = true) {qs : List (Int × BS)} (h1 : 1 ≤ qs.length) (h3 : qs.length ≤ 3) (hq : ∀ q ∈ qs, (0 ≤ q.1 ∧ q.1 < b.Weeks) ∧ G5 q.2)
include hf hok hfi h1 h3 hq
theorem kD : BA (EB b qs) true = 0 := by
 have h := oP hf hok h1 h3 hq
 have : HI (EB b qs).Voice = true := hfi
 simp [BA, h, this]
theorem rY {p : Nat} (hp : p < qs.length) : ∃ l : Sl Int, Fh (EB b qs) (p : Int) 0 = some (l, 0) ∧ l.l = oC b qs[p] := by
 obtain ⟨l, c1, c2⟩ := Uc (hf := V9 hf h3) (p : Int) 0
 have hcq : sb (EB b qs) (p : Int) 0 = true := by
  have hx := jn (b := b) hp
  simp only [sb, hx, Bool.and_eq_true]
  refine ⟨(ND (V9 hf h3) (p : Int)).mpr ⟨by omega, by rw [QO, List.length_map]; omega⟩, rfl⟩
 rw [hcq, kD hf hok hfi h1 h3 hq] at c1 c2
 rw [if_pos rfl, gU BE hp] at c2
 exact ⟨l, c1, c2⟩
theorem j8 (q : Int × BS) : (oC b q).length ≤ b.Boys.l.length := by
 have := List.length_filter_le (fun boy => Yf (EB b []) q.1 q.2 boy) (idx b.Boys.l.length)
 rw [Ao] at this
 exact this
theorem pS (boys : Sl AL) (hboys : boys.len = b.Boys.len) (y19 : Sl BS) (hy : y19.l.length = qs.length) :
  Loop (EU boys y19 (EB b qs)) ((Sl.hot [] : Sl Int), false, (Sl.hot [] : Sl AC), 0) = some (.inr (dM (Ci b qs), (Ci b qs).any (fun w => decide (w.able = [])), Sl.hot (Ho (Ci b qs)))) := by
 have hWl : (Ci b qs).length = qs.length := by simp [Ci]
 have hv := FM hf hok
 have hbo := hv.boys
 refine FV (fun (t : Sl Int × Bool × Sl AC) i => (t.1, t.2.1, t.2.2, i)) (Ci b qs) (fun pre => (dM pre, pre.any (fun w => decide (w.able = [])), Sl.hot (Ho pre))) (by omega) rfl ?_ ?_
 ·intro pre w post hx hW
  have hpl : pre.length < qs.length := by rw [← hWl, hx]; simp
  have hw : w = ⟨(pre.length : Int), 0, 1, oC b qs[pre.length]⟩ := by
   have h := congrArg (fun l => l[pre.length]?) hx
   simp only [Ci, List.getElem?_map, List.getElem?_range hpl, Option.map_some, List.getElem?_eq_getElem hpl, Option.getD_some] at h
   simp at h
   exact h.symm
  subst hw
  obtain ⟨l, c1, c2⟩ := rY hf hok hfi h1 h3 hq hpl
  have hlt : (pre.length : Int) < y19.len := by rw [Sl.len_l]; omega
  have hcl := j8 hf hok hfi h1 h3 hq qs[pre.length]
  have hor : DY l boys.len = some true := by
   rw [hboys, Wq b.Boys.len l (by rw [c2]; omega), c2]
   refine congrArg some (jw _ _ _ Qm (fun z hz => ?_) (fun _ h => by cases h))
   have hz1 := G4.mp (List.mem_filter.mp hz).1
   simp only [CU, Sl.len_l, Bool.and_eq_true, decide_eq_true_eq]
   rw [TK (by omega) (by omega)]; omega
  have hll : l.len = (((oC b qs[pre.length]).length : Nat) : Int) := by rw [Sl.len_l, c2]
  have hwi := qQ (dM pre) l.len (by rw [qA, List.length_map]; omega)
  have hsn := mg pre ⟨(pre.length : Int), 0, 1, oC b qs[pre.length]⟩
  dsimp only at hsn
  rw [← hll] at hsn
  have hfl := UB pre
  have hany : ∀ v : List Int, l.l = v → decide (l.len = 0) = decide (v = []) := by
   intro v hv
   rw [decide_eq_decide, Sl.len_l, hv]
   cases v <;> simp <;> omega
  cases hA : oC b qs[pre.length] with
  | nil =>
   have hn : ¬ (0 : Int) < l.len := by rw [hll, hA]; simp
   have hd := hany [] (by rw [c2, hA])
   rw [hA] at hsn
   simp only [EU, decide_eq_true hlt, if_true, c1, BV, decide_true, hor, Bool.not_true, Bool.false_eq_true, if_false, hwi, decide_eq_false hn, hW, hsn, Q8, List.append_nil, List.any_append, List.any_cons, List.any_nil, Bool.or_false, hd]
  | cons a r =>
   have hn : (0 : Int) < l.len := by rw [hll, hA]; simp
   have hd := hany (a :: r) (by rw [c2, hA])
   have hix : l.ix 0 = some a := Sl.ix_at (pre := []) (by rw [c2, hA]; rfl)
   have hap : (Sl.hot (Ho pre) : Sl AC).app 24 [⟨(pre.length : Int), 0, a⟩] = some (.hot (Ho pre ++ [⟨(pre.length : Int), 0, a⟩])) := Sl.app_hot (Bl (by simp; omega) (by omega))
   rw [hA] at hsn
   simp only [EU, decide_eq_true hlt, if_true, c1, BV, decide_true, hor, Bool.not_true, Bool.false_eq_true, if_false, hwi, decide_eq_true hn, hix, hap, hW, hsn, Q8, List.any_append, List.any_cons, List.any_nil, Bool.or_false, hd]
 ·have hlt : ¬ ((Ci b qs).length : Int) < y19.len := by rw [Sl.len_l]; omega
  simp only [EU, decide_eq_false hlt, Bool.false_eq_true, if_false]
end
theorem qk (x y : Sl AC) (e : Int) (h : x.l = y.l) (hn : x.l.length < 4611686018427387904) : Loop (FG y (x, e)) 0 = some (.inr ()) := by
 refine FV (fun (_ : Unit) i => i) x.l (fun _ => ()) hn rfl ?_ ?_
 ·intro pre a post hx hW
  have hl : (pre.length : Int) < x.len := by rw [Sl.len_l, hx]; simp; omega
  have hy : y.ix pre.length = some a := Sl.ix_at (by rw [← h]; exact hx)
  simp only [FG, decide_eq_true hl, if_true, Sl.ix_at hx, hy, BV, decide_true, hW]
 ·have hl : ¬ (x.l.length : Int) < x.len := by rw [Sl.len_l]; omega
  simp only [FG, decide_eq_false hl, Bool.false_eq_true, if_false]
end
end Go.Lf
