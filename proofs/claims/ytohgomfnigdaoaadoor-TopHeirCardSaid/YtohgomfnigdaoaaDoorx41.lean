/- A part of the proof. -/
import Derived.Test.YtohgomfnigdaoaaDoorx40
set_option linter.all false
namespace Go.Lf
open Go Go.Lf.Pl
noncomputable section
theorem gR : ∀ l : List Int, DW 1 l = l.map fun a => [a]
 | [] => rfl
 | a :: l => by
  simp only [DW, List.map_cons, List.map_nil, List.cons_append, List.nil_append, gR l]
theorem db (b : BenchBook) (ex : Int → Bool) : (A7 b ex).length ≤ b.Pieces.l.length := by
 unfold A7 Di
 cases h : (yX b.Pieces.l.length).findSome? fun many => (DW many.toNat (yX b.Pieces.l.length)).find? (S9 b ex) with
 | none => simp [An]
 | some l =>
  obtain ⟨many, hm, h1⟩ := List.exists_of_findSome?_eq_some h
  have := (Es.mp (List.mem_of_find?_eq_some h1)).1.length_le
  rw [An] at this
  simpa using this
section
variable {b : VoiceBook} {w : Int} {s : BW}
abbrev Ko (b : VoiceBook) (w : Int) (s : BW) : BenchBook := Jr b [(w, s)]
theorem cS (ex : Int → Bool) (m : Nat) (hm : 1 ≤ m) : Io (Ko b w s) ex m [0] = (BA (Ko b w s) ex 0 0).map fun a => [(⟨0, 0, a⟩ : AC)] := by
 have hW : HO (Ko b w s) ex m [0] = [⟨0, 0, 1, BA (Ko b w s) ex 0 0⟩] := by
  have hn : min m (Gs (Ko b w s) 0) = 1 := by
   have : Gs (Ko b w s) 0 = 1 := rfl
   omega
  simp only [HO, GR, List.flatMap_cons, List.flatMap_nil, List.append_nil, KC, hn]
  rfl
 unfold Io
 rw [hW, KZ]
 have hp : G3 [(⟨0, 0, 1, BA (Ko b w s) ex 0 0⟩ : P4)] = (BA (Ko b w s) ex 0 0).map fun a => [(⟨0, 0, a⟩ : AC)] := by
  simp only [G3, gR, List.map_cons, List.map_nil, List.flatMap_map]
  generalize BA (Ko b w s) ex 0 0 = l
  induction l with
  | nil => rfl
  | cons a l ih => simp only [List.flatMap_cons, List.map_cons, ih]; rfl
 rw [hp]
 simp only [List.nil_append, List.map_id']
 rw [List.filter_eq_self]
 intro x hx
 obtain ⟨a, _, rfl⟩ := List.mem_map.mp hx
 rfl
def W5 (b : VoiceBook) (w : Int) (s : BW) : List Int := (yX b.Boys.l.length).filter fun boy => Zf (Jr b []) w s boy
theorem lJ (ex : Int → Bool) : BA (Ko b w s) ex 0 0 = (W5 b w s).filter fun boy => !ex boy := by
 have : BA (Ko b w s) ex 0 0 = (yX b.Boys.l.length).filter fun boy => !ex boy && Zf (Jr b []) w s boy := rfl
 rw [this, W5, List.filter_filter]
theorem Tj : BA (Ko b w s) Ba 0 0 = W5 b w s := by
 rw [lJ]
 exact List.filter_eq_self.mpr fun _ _ => rfl
theorem aW (ex : Int → Bool) : (A7 (Ko b w s) ex).length = if ((W5 b w s).filter fun boy => !ex boy).isEmpty then 1 else 0 := by
 have h1 := fA (b := Ko b w s) (ex := ex) rfl
 rw [cS ex 3 (by omega), lJ] at h1
 have h2 := (db (Ko b w s) ex)
 cases hc : ((W5 b w s).filter fun boy => !ex boy) with
 | nil =>
  rw [hc] at h1
  simp only [List.map_nil, List.isEmpty_nil, Bool.true_eq_false, iff_false] at h1
  simp only [List.isEmpty_nil, if_true]
  have : (A7 (Ko b w s) ex).length ≤ 1 := h2
  omega
 | cons a l =>
  rw [hc] at h1
  simp only [List.map_cons, List.isEmpty_cons, iff_true] at h1
  simp only [List.isEmpty_cons, Bool.false_eq_true, if_false]
  exact h1
end
end
end Go.Lf
namespace Go.Lf
open Go Go.Lf.Pl
noncomputable section
section
variable {b : VoiceBook} {w : Int} {s : BW}
theorem XQ : (W5 b w s).Pairwise (· < ·) := (Gq _).filter _
theorem vD (boy : Int) : rH b boy w s = match ((W5 b w s).filter fun z => !decide (z = boy)).head? with
 | some h => (h, 0)
 | none => (0, 4) := by
 unfold rH W5
 rw [List.filter_filter, List.head?_filter]
 cases List.find? (fun h => !decide (h = boy) && Zf (Jr b []) w s h) (yX b.Boys.l.length) <;> rfl
theorem vL : nJ (Ko b w s) = if (W5 b w s).length = 1 then W5 b w s else [] := by
 have hn : nJ (Ko b w s) = (yX b.Boys.l.length).filter fun boy => decide ((A7 (Ko b w s) Ba).length < (A7 (Ko b w s) fun i => decide (i = boy)).length) := rfl
 have h0 : ((W5 b w s).filter fun boy => !Ba boy) = W5 b w s := List.filter_eq_self.mpr fun _ _ => rfl
 rw [hn]
 simp only [aW, h0]
 cases hA : W5 b w s with
 | nil =>
  simp only [List.filter_nil, List.isEmpty_nil, if_true, List.length_nil]
  rw [if_neg (by omega)]
  exact List.filter_eq_nil_iff.mpr fun x _ => by simp
 | cons a l =>
  have hs := XQ (b := b) (w := w) (s := s)
  rw [hA, List.pairwise_cons] at hs
  have ha : a ∈ yX b.Boys.l.length := by
   have : a ∈ W5 b w s := by rw [hA]; simp
   exact (List.mem_filter.mp this).1
  cases l with
  | nil =>
   have hc : ∀ boy : Int, (decide ((if ([a] : List Int).isEmpty = true then 1 else 0) < if ([a].filter fun z => !decide (z = boy)).isEmpty = true then 1 else 0)) = decide (boy = a) := by
    intro boy
    by_cases hb : boy = a
    ·subst hb; simp
    ·have : ¬ a = boy := fun h => hb h.symm
     simp [this, hb]
   simp only [hc, List.length_singleton, if_true]
   have : ∀ l : List Int, l.Pairwise (· < ·) → a ∈ l → (l.filter fun z => decide (z = a)) = [a] := by
    intro l
    induction l with
    | nil => intro _ h; cases h
    | cons c l ih =>
     intro hp hm
     rw [List.pairwise_cons] at hp
     by_cases hca : c = a
     ·subst hca
      have hno : l.filter (fun z => decide (z = c)) = [] := List.filter_eq_nil_iff.mpr fun z hz => by
       have := hp.1 z hz
       simp; omega
      simp [List.filter_cons, hno]
     ·have hm' : a ∈ l := by
       rcases List.mem_cons.mp hm with h | h
       ·exact absurd h.symm hca
       ·exact h
      simp [List.filter_cons, hca, ih hp.2 hm']
   exact this _ (Gq _) ha
  | cons c l =>
   have hac := hs.1 c (by simp)
   rw [if_neg (by simp)]
   refine List.filter_eq_nil_iff.mpr fun boy _ => ?_
   have hne : ((a :: c :: l).filter fun z => !decide (z = boy)).isEmpty = false := by
    by_cases hb : a = boy
    ·have : ¬ c = boy := by omega
     simp [List.filter_cons, hb, this]
    ·simp [List.filter_cons, hb]
   simp [hne]
theorem tJ : LY (Ko b w s) Ba = match W5 b w s with
 | [] => []
 | a :: _ => [⟨0, 0, a⟩] := by
 have hl := aW (b := b) (w := w) (s := s) Ba
 have h0 : ((W5 b w s).filter fun boy => !Ba boy) = W5 b w s := List.filter_eq_self.mpr fun _ _ => rfl
 rw [h0] at hl
 unfold LY
 have hsub : List.Sublist (Di (Ko b w s).Pieces.l.length (S9 (Ko b w s) Ba)) [0] := by
  unfold Di
  cases h : (yX (Ko b w s).Pieces.l.length).findSome? fun many => (DW many.toNat (yX (Ko b w s).Pieces.l.length)).find? (S9 (Ko b w s) Ba) with
  | none => exact List.Sublist.refl _
  | some l =>
   obtain ⟨many, _, h1⟩ := List.exists_of_findSome?_eq_some h
   exact (Es.mp (List.mem_of_find?_eq_some h1)).1
 have he : ∀ but, GM (Ko b w s) but = [0].filter fun p => !but.contains p := fun _ => rfl
 cases hA : W5 b w s with
 | nil =>
  rw [hA] at hl
  have hc : Di (Ko b w s).Pieces.l.length (S9 (Ko b w s) Ba) = [0] := hsub.eq_of_length (by
   show (A7 (Ko b w s) Ba).length = 1
   simpa using hl)
  rw [hc, he]
  rfl
 | cons a l =>
  rw [hA] at hl
  have hc : Di (Ko b w s).Pieces.l.length (S9 (Ko b w s) Ba) = [] := List.length_eq_zero_iff.mp (by
   show (A7 (Ko b w s) Ba).length = 0
   simpa using hl)
  rw [hc, he]
  have : ([0] : List Int).filter (fun p => !([] : List Int).contains p) = [0] := rfl
  rw [this, cS Ba 3 (by omega), Tj, hA]
  rfl
theorem uX : qY (Ko b w s) 0 = if (W5 b w s).isEmpty then (0, 0) else (0, 4) := by
 have h1 : yX (Gs (Ko b w s) 0) = [0] := rfl
 unfold qY
 rw [h1]
 simp only [List.find?_cons, List.find?_nil]
 rw [cS Ba _ (by decide), Tj]
 cases W5 b w s <;> rfl
end
theorem nw (l : Sl Int) (e boy : Int) (hn : l.l.length < 1000) : Loop (EG boy (l, e)) ((Sl.hot [] : Sl Int), 0) = some (Sl.hot (l.l.filter fun z => !decide (z = boy))) := by
 refine GX (fun t i => (t, i)) l.l (fun pre => Sl.hot (pre.filter fun z => !decide (z = boy))) (by omega) rfl ?_ ?_
 ·intro pre a post hx hW
  have hl : (pre.length : Int) < l.len := by rw [Sl.len_l, hx]; simp; omega
  have hpl : pre.length < 1000 := by rw [hx] at hn; simp at hn; omega
  have hle := List.length_filter_le (fun z => !decide (z = boy)) pre
  have hlen : (pre.filter fun z => !decide (z = boy)).length + ([a] : List Int).length ≤ 1000000000 := by rw [List.length_singleton]; omega
  rw [JJ]
  by_cases hc : a = boy
  ·simp only [EG, decide_eq_true hl, if_true, Sl.ix_at hx, FC, decide_eq_true hc, hW, Bool.not_true, Bool.false_eq_true, if_false, List.append_nil]
  ·simp only [EG, decide_eq_true hl, if_true, Sl.ix_at hx, FC, decide_eq_false hc, hW, Bool.not_false, Bool.false_eq_true, if_false, Sl.app_hot (q := 8) (C9 hlen (by omega))]
 ·have hl : ¬ (l.l.length : Int) < l.len := by rw [Sl.len_l]; omega
  simp only [EG, decide_eq_false hl, Bool.false_eq_true, if_false]
theorem ia (hh : DD = some true) {b : VoiceBook} (hf : jj b) (n : Ar 4 Int) : MX b n = some true := by
 unfold MX
 rw [qJ hf, FC]
 by_cases hg : (yk b && Iw b) = true
 case neg =>
  have : (yk b && Iw b) = false := by simpa using hg
  simp only [this, Bool.false_eq_true, if_false, hh, FC]
 case pos =>
  rw [if_pos hg]
  rw [Bool.and_eq_true] at hg
  obtain ⟨hok, hfi⟩ := hg
  have hv := H5 hf hok
  have hbo := hv.boys
  have hwe := hv.weeks
  obtain ⟨l, hl⟩ := n
  match l, hl with
  | [n0, n1, n2, n3], hl =>
   have i0 : (⟨[n0, n1, n2, n3], hl⟩ : Ar 4 Int).ix 0 = some n0 := rfl
   have i1 : (⟨[n0, n1, n2, n3], hl⟩ : Ar 4 Int).ix 1 = some n1 := rfl
   have i2 : (⟨[n0, n1, n2, n3], hl⟩ : Ar 4 Int).ix 2 = some n2 := rfl
   have i3 : (⟨[n0, n1, n2, n3], hl⟩ : Ar 4 Int).ix 3 = some n3 := rfl
   obtain ⟨w, e1, w0, w1⟩ := cE (n := n0) (m := b.Weeks) (by omega) (by omega)
   obtain ⟨s, e2, hs⟩ := qP n1 n2
   obtain ⟨boy, e3, b0, b1⟩ := cE (n := n3) (m := b.Boys.len) (by rw [Sl.len_l]; omega) (by rw [Sl.len_l]; omega)
   rw [Sl.len_l] at b1
   have e4 : CQ b (Sl.cold [w] : Sl Int) (Sl.cold [s] : Sl BW) = some (Ko b w s) := tC b (Sl.cold [w]) (Sl.cold [s]) rfl (by show 1 ≤ 3; omega)
   have hq : ∀ q ∈ [(w, s)], (0 ≤ q.1 ∧ q.1 < b.Weeks) ∧ Iu q.2 := by
    intro q hq
    simp only [List.mem_singleton] at hq; subst hq
    exact ⟨⟨w0, w1⟩, hs⟩
   have hfx : oc (Ko b w s) := qK hf (by simp)
   have hox : xn (Ko b w s) = true := tq hf hok (by simp) (by simp) hq
   have he : BC (Ko b w s) true = 0 := by
    have : Iw (Ko b w s).Voice = true := hfi
    simp [BC, hox, this]
   have hvx := WF hfx hox
   obtain ⟨c, c1, c2⟩ := fU (hf := hfx) 0 0
   have hcq : tD (Ko b w s) 0 0 = true := rfl
   rw [hcq, he] at c1 c2
   rw [if_pos rfl, Tj] at c2
   obtain ⟨nd, d1, d2⟩ := cP hfx
   rw [he] at d1 d2
   rw [if_pos rfl, vL] at d2
   obtain ⟨st, s1, s2⟩ := Yz hfx
   rw [he] at s1 s2
   rw [if_pos rfl, tJ] at s2
   have hla := ch hfx 0
   have hip : BI (Ko b w s) 0 = true := rfl
   rw [hip, he, if_pos rfl, uX] at hla
   have hhe := tf hf hok hfi ⟨b0, b1⟩ ⟨w0, w1⟩ hs
   rw [vD] at hhe
   have hAle : (W5 b w s).length ≤ 4 := by
    have := List.length_filter_le (fun boy => Zf (Jr b []) w s boy) (yX b.Boys.l.length)
    rw [An] at this
    simp only [W5]; omega
   have hco : D3 c b.Boys.len = some true := by
    rw [hO b.Boys.len c (by rw [c2]; omega), c2]
    refine congrArg some (ox _ _ _ XQ (fun z hz => ?_) (fun _ h => by cases h))
    have hz1 := Hl.mp (List.mem_filter.mp hz).1
    simp only [CX, Sl.len_l, Bool.and_eq_true, decide_eq_true_eq]
    rw [VA (by omega) (by omega)]; omega
   have hot := nw c 0 boy (by rw [c2]; omega)
   rw [c2] at hot
   simp only [i0, i1, i2, i3, e1, e2, e3, e4, FC, c1, d1, s1, hla, hhe, hot]
   cases hA : W5 b w s with
   | nil =>
    rw [hA] at c2 d2 s2
    have k1 : c.len = 0 := by rw [Sl.len_l, c2]; rfl
    have k2 : nd.len = 0 := by rw [Sl.len_l, d2]; rfl
    have k3 : st.len = 0 := by rw [Sl.len_l, s2]; rfl
    have k4 : W 0 = 0 := rfl
    have k5 : (Sl.hot [] : Sl Int).len = 0 := rfl
    simp [k1, k2, k3, k4, k5, hco, hh]
   | cons a r =>
    rw [hA] at c2 d2 s2
    have k1 : c.len = (r.length : Int) + 1 := by rw [Sl.len_l, c2]; simp
    have k3 : st.len = 1 := by rw [Sl.len_l, s2]; rfl
    have k4 : st.ix 0 = some ⟨0, 0, a⟩ := by
     have := Sl.ix_at (x := st) (pre := []) (a := ⟨0, 0, a⟩) (post := []) s2
     exact this
    have k5 : c.ix 0 = some a := by
     have := Sl.ix_at (x := c) (pre := []) (a := a) (post := r) c2
     exact this
    have k6 : (0 : Int) < c.len := by rw [k1]; omega
    have k7 : ¬ c.len = 0 := by rw [k1]; omega
    have hneed : (if 1 < c.len then if nd.len = 0 then if c.len = 1 then Option.bind (CG nd c) fun v104 => some ((!v104)) else some (false) else some (true) else if c.len = 1 then Option.bind (CG nd c) fun v107 => some ((!v107)) else some (false) : Option (Bool)) = some false := by
     cases r with
     | nil =>
      have k8 : c.len = 1 := by rw [k1]; rfl
      have k9 := rQ nd c (by rw [d2]; simp)
      rw [d2, c2] at k9
      simp at k9
      simp [k8, k9]
     | cons a2 r =>
      have k8 : (1 : Int) < c.len := by rw [k1]; simp; omega
      have k9 : ¬ c.len = 1 := by omega
      have k10 : nd.len = 0 := by rw [Sl.len_l, d2]; simp
      simp [k8, k9, k10]
    cases hB : ((a :: r).filter fun z => !decide (z = boy)) with
    | nil =>
     have k8 : (Sl.hot [] : Sl Int).len = 0 := rfl
     simp [k3, k4, k5, k6, k7, k8, hneed, hco, hh]
    | cons a3 r3 =>
     have k8 : (Sl.hot (a3 :: r3) : Sl Int).ix 0 = some a3 := rfl
     have k9 : ¬ (Sl.hot (a3 :: r3) : Sl Int).len = 0 := by rw [Sl.len_l, Sl.l_hot]; simp; omega
     have k10 : (0 : Int) < (Sl.hot (a3 :: r3) : Sl Int).len := by rw [Sl.len_l, Sl.l_hot]; simp
     simp [k3, k4, k5, k6, k7, k8, k9, k10, hneed, hco, hh]
end
end Go.Lf
