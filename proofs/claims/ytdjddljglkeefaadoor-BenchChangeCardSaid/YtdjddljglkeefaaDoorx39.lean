/- A part of the proof. -/
import Derived.Test.YtdjddljglkeefaaDoorx28
import Derived.Test.YtdjddljglkeefaaDoorx38
set_option linter.all false
namespace Go.Lf.Pl
section
variable (wk : Int → Int) (most : Nat)
def ZJ (p k : Int) (able : List Int) : Nat → Int → List EJ → List EJ → Option (List EJ × List EJ)
 | 0, _, pre, r => some (pre, r)
 | _ + 1, _, _, [] => none
 | m + 1, last, pre, z :: r => if z.Piece = p ∧ z.Part = k ∧ last < z.Boy ∧ z.Boy ∈ able ∧ HT wk most pre z = true then ZJ p k able m z.Boy (pre ++ [z]) r else none
def chk : List NB → List EJ → List EJ → Bool
 | [], _, r => r.isEmpty
 | w :: W, pre, r => match ZJ wk most w.wp w.wk w.able w.many (-1) pre r with
  | none => false
  | some (pre', r') => chk W pre' r'
theorem VO (p k : Int) (able : List Int) : ∀ (m : Nat) (last : Int) (pre r pre' r' : List EJ), ZJ wk most p k able m last pre r = some (pre', r') ↔
  ∃ c : List Int, c.length = m ∧ (last :: c).Pairwise (· < ·) ∧ (∀ a ∈ c, a ∈ able) ∧ r = As p k c ++ r' ∧ pre' = pre ++ As p k c ∧ BW wk most pre (As p k c) = true
 | 0, last, pre, r, pre', r' => by
  simp only [ZJ, Option.some.injEq, Prod.mk.injEq]
  constructor
  ·rintro ⟨rfl, rfl⟩; exact ⟨[], rfl, by simp, by simp, by simp [As], by simp [As], rfl⟩
  ·rintro ⟨c, h1, _, _, h2, h3, _⟩
   obtain rfl := List.length_eq_zero_iff.mp h1
   simp only [As, List.map_nil, List.nil_append, List.append_nil] at h2 h3
   exact ⟨h3.symm, h2⟩
 | m + 1, last, pre, [], pre', r' => by
  simp only [ZJ, reduceCtorEq, false_iff, not_exists, not_and]
  intro c h1 _ _ h2
  cases c with
  | nil => simp at h1
  | cons a c => simp [As] at h2
 | m + 1, last, pre, z :: r, pre', r' => by
  simp only [ZJ]
  constructor
  ·intro h
   split at h
   ·rename_i hc
    obtain ⟨c, h1, h2, h3, h4, h5, h6⟩ := (VO p k able m z.Boy (pre ++ [z]) r pre' r').mp h
    obtain ⟨g1, g2, g3, g4, g5⟩ := hc
    have hz : z = ⟨p, k, z.Boy⟩ := MO g1 g2 rfl
    refine ⟨z.Boy :: c, by simp [h1], ?_, ?_, ?_, ?_, ?_⟩
    ·rw [List.pairwise_cons] at h2 ⊢
     refine ⟨?_, List.pairwise_cons.mpr ⟨h2.1, h2.2⟩⟩
     intro a ha
     rcases List.mem_cons.mp ha with rfl | ha
     ·exact g3
     ·have := h2.1 a ha; omega
    ·intro a ha
     rcases List.mem_cons.mp ha with rfl | ha
     ·exact g4
     ·exact h3 a ha
    ·rw [h4]; simp only [As, List.map_cons, List.cons_append]; rw [← hz]
    ·rw [h5]; simp only [As, List.map_cons, List.append_assoc, List.singleton_append]; rw [← hz]
    ·simp only [As, List.map_cons, BW, Bool.and_eq_true]; rw [← hz]; exact ⟨g5, h6⟩
   ·cases h
  ·rintro ⟨c, h1, h2, h3, h4, h5, h6⟩
   cases c with
   | nil => simp at h1
   | cons a c =>
    simp only [As, List.map_cons, List.cons_append, List.cons.injEq] at h4
    obtain ⟨rfl, rfl⟩ := h4
    rw [List.pairwise_cons] at h2
    simp only [As, List.map_cons, BW, Bool.and_eq_true] at h6
    rw [if_pos ⟨rfl, rfl, h2.1 a List.mem_cons_self, h3 a List.mem_cons_self, h6.1⟩]
    refine (VO p k able m a _ _ pre' r').mpr ⟨c, by simpa using h1, h2.2, fun b hb => h3 b (List.mem_cons_of_mem _ hb), rfl, ?_, h6.2⟩
    rw [h5]; simp [As]
theorem qJ : ∀ (W : List NB) (pre r : List EJ), (∀ w ∈ W, w.able.Pairwise (· < ·) ∧ ∀ a ∈ w.able, 0 ≤ a) → (chk wk most W pre r = true ↔ r ∈ GE W ∧ BW wk most pre r = true)
 | [], pre, r, _ => by
  simp only [chk, GE, List.mem_singleton, List.isEmpty_iff]
  constructor
  ·rintro rfl; exact ⟨rfl, rfl⟩
  ·exact fun h => h.1
 | w :: W, pre, r, hw => by
  obtain ⟨hs, h0⟩ := hw w List.mem_cons_self
  have ih := fun pre r => qJ W pre r fun w' h => hw w' (List.mem_cons_of_mem _ h)
  simp only [chk, GE, List.mem_flatMap, List.mem_map]
  constructor
  ·intro h
   split at h
   ·cases h
   ·rename_i pre' r' he
    obtain ⟨c, h1, h2, h3, h4, h5, h6⟩ := (VO wk most w.wp w.wk w.able w.many (-1) pre r pre' r').mp he
    obtain ⟨g1, g2⟩ := (ih pre' r').mp h
    refine ⟨⟨c, D2.mpr ⟨F2 hs (List.pairwise_cons.mp h2).2 h3, h1⟩, r', g1, h4.symm⟩, ?_⟩
    rw [h4, Fg, h6, Bool.true_and, ← h5]; exact g2
  ·rintro ⟨⟨c, hc, r', hr', rfl⟩, h⟩
   rw [Fg, Bool.and_eq_true] at h
   obtain ⟨hsub, hlen⟩ := D2.mp hc
   have he := (VO wk most w.wp w.wk w.able w.many (-1) pre (As w.wp w.wk c ++ r') (pre ++ As w.wp w.wk c) r').mpr ⟨c, hlen, List.pairwise_cons.mpr ⟨fun a ha => by have := h0 a (hsub.subset ha); omega, hs.sublist hsub⟩, fun a ha => hsub.subset ha, rfl, rfl, h.1⟩
   rw [he]
   exact (ih _ _).mpr ⟨hr', h.2⟩
theorem se {W : List NB} (hw : ∀ w ∈ W, w.able.Pairwise (· < ·) ∧ ∀ a ∈ w.able, 0 ≤ a) (r : List EJ) : chk wk most W [] r = true ↔ r ∈ fill wk most W [] := by
 rw [qJ wk most W [] r hw, Jq]
 simp only [List.nil_append, List.map_id', List.mem_filter]
end
end Go.Lf.Pl
namespace Go.Lf
open Go Go.Lf.Pl
noncomputable section
def rn (s i : Int) : Bool := decide (s.toNat / 2 ^ i.toNat % 2 = 1)
theorem qj {s i : Int} (hs : 0 ≤ s ∧ s < 16) (hi : 0 ≤ i ∧ i < 4) : Ia s i = some (rn s i) := by
 obtain ⟨a, rfl⟩ := Int.eq_ofNat_of_zero_le hs.1
 obtain ⟨c, rfl⟩ := Int.eq_ofNat_of_zero_le hi.1
 have key : ∀ (a : _root_.Fin 16) (c : _root_.Fin 4), (zV .shr ((a.val : Nat) : Int) ((c.val : Nat) : Int)).bind (fun v => (zV .and v 1).bind fun w => some (decide (w = 1))) = some (rn ((a.val : Nat) : Int) ((c.val : Nat) : Int)) := by decide
 have := key ⟨a, by omega⟩ ⟨c, by omega⟩
 unfold Ia
 have h1 : decide ((0 : Int) ≤ (c : Int)) = true := by simp
 have h2 : decide ((c : Int) < 62) = true := by simp; omega
 simp only [h1, h2, if_true]
 simp only at this
 rw [this]; rfl
def F8 (s : Int) (n : Nat) : List Int := (idx n).filter (rn s)
theorem j8 {s : Int} {n : Nat} (hs : 0 ≤ s ∧ s < 16) (hn : n ≤ 4) : FS s n = some (Sl.hot (F8 s n)) := by
 have e : Loop (FU s n) (Sl.hot [], 0) = some (Sl.hot (F8 s n)) := by
  refine Dw (fun t i => (t, i)) (idx n) (fun pre => Sl.hot (pre.filter (rn s))) (by rw [AU]; omega) rfl ?_ ?_
  ·intro pre a post hpre hW
   obtain ⟨ha, hlt⟩ := Jm hpre
   have hle := List.length_filter_le (rn s) pre
   have hlen : (pre.filter (rn s)).length + ([(pre.length : Int)] : List Int).length ≤ 1000000000 := by rw [List.length_singleton]; omega
   rw [HY, ha]
   simp only [FU, decide_eq_true hlt, if_true, qj hs (by omega : 0 ≤ (pre.length : Int) ∧ (pre.length : Int) < 4), Option.bind_some, hW]
   cases rn s pre.length with
   | true => simp only [if_true, Sl.app_hot (q := 8) (BU hlen (by omega)), Option.bind_some]
   | false => simp
  ·have hlt : ¬ ((idx n).length : Int) < n := by rw [AU]; omega
   simp only [FU, decide_eq_false hlt, Bool.false_eq_true, if_false, F8]
 simp only [FS, e, Option.bind_some]
theorem pq {n : Nat} (h : n ≤ 4) : zV .shl 1 (n : Int) = some ((2 ^ n : Nat) : Int) := by
 have key : ∀ m : _root_.Fin 5, zV .shl 1 ((m.val : Nat) : Int) = some ((2 ^ m.val : Nat) : Int) := by decide
 exact key ⟨n, by omega⟩
def Bd : List Int → List Int → Bool
 | a :: x, b :: y => if a = b then Bd x y else decide (a < b)
 | x, y => decide (x.length < y.length)
theorem eH (y : List Int) : Bd [] y = decide (0 < y.length) := by cases y <;> rfl
theorem a9 (x : List Int) : Bd x [] = decide (x.length < 0) := by cases x <;> rfl
theorem Zr (x y : Sl Int) (hn : x.l.length < 4611686018427387904) : FQ x y = some (Bd x.l y.l) := by
 have main : ∀ px qx py qy, x.l = px ++ qx → y.l = py ++ qy → px.length = py.length → ∃ r, Loop (BQ x y) (px.length : Int) = some r ∧ (match r with | .inl w => w | .inr _ => decide (x.len < y.len)) = Bd qx qy := by
  intro px qx
  induction qx generalizing px with
  | nil =>
   intro py qy hx hy hp
   have hlt : ¬ (px.length : Int) < x.len := by rw [Sl.len_l, hx]; simp
   refine ⟨.inr (), Loop.done (by simp [BQ, hlt]), ?_⟩
   rw [eH]
   simp only [Sl.len_l, hx, hy, List.append_nil, List.length_append]
   rw [decide_eq_decide]; omega
  | cons a qx ih =>
   intro py qy hx hy hp
   have hlx : (px.length : Int) < x.len := by rw [Sl.len_l, hx]; simp; omega
   cases qy with
   | nil =>
    have hly : ¬ (px.length : Int) < y.len := by rw [Sl.len_l, hy]; simp; omega
    refine ⟨.inr (), Loop.done (by simp [BQ, hly]), ?_⟩
    rw [a9]
    simp only [Sl.len_l, hx, hy, List.append_nil, List.length_append]
    rw [decide_eq_decide]; simp; omega
   | cons c qy =>
    have hly : (px.length : Int) < y.len := by rw [Sl.len_l, hy]; simp; omega
    have hW : W ((px.length : Int) + 1) = (px.length : Int) + 1 := Jc (by rw [hx] at hn; simp at hn; omega)
    have hyi : y.ix px.length = some c := by rw [hp]; exact Sl.ix_at hy
    by_cases hc : a = c
    ·have hf : BQ x y px.length = some (.inl ((px.length : Int) + 1)) := by
      simp only [BQ, decide_eq_true hlx, decide_eq_true hly, Bool.and_self, if_true, Sl.ix_at hx, hyi, Option.bind_some, decide_eq_true hc, hW]
     obtain ⟨r, h1, h2⟩ := ih (px ++ [a]) (py ++ [c]) qy (by rw [hx]; simp) (by rw [hy]; simp) (by simp [hp])
     refine ⟨r, ?_, ?_⟩
     ·rw [Loop.step hf]; simpa using h1
     ·rw [h2]; simp [Bd, hc]
    ·have hf : BQ x y px.length = some (.inr (.inl (decide (a < c)))) := by
      simp only [BQ, decide_eq_true hlx, decide_eq_true hly, Bool.and_self, if_true, Sl.ix_at hx, hyi, Option.bind_some, decide_eq_false hc, Bool.false_eq_true, if_false]
     exact ⟨_, Loop.done hf, by simp [Bd, hc]⟩
 obtain ⟨r, h1, h2⟩ := main [] x.l [] y.l rfl rfl rfl
 have h1' : Loop (BQ x y) 0 = some r := h1
 simp only [FQ, h1', Option.bind_some]
 rw [← h2]
 cases r <;> rfl
def MP (x y : List Int) : Bool := decide (x.length < y.length) || (decide (x.length = y.length) && Bd x y)
theorem nJ (x y : Sl Int) (hn : x.l.length < 4611686018427387904) : G5 x y = some (MP x.l y.l) := by
 simp only [G5, Sl.len_l, Zr x y hn, Option.bind_some, MP]
 by_cases h1 : x.l.length < y.l.length
 ·simp [h1]
 ·by_cases h2 : x.l.length = y.l.length
  ·simp [h2]
  ·have h3 : ¬ (x.l.length : Int) = y.l.length := by omega
   have h4 : ¬ (x.l.length : Int) < y.l.length := by omega
   simp [h1, h2, h3, h4]
theorem mJ (x y : AB) : (if decide ([x.Piece, x.Part, x.Boy] = [y.Piece, y.Part, y.Boy]) = true then false else Bd [x.Piece, x.Part, x.Boy] [y.Piece, y.Part, y.Boy]) = (if x = y then false else lt3 x y) := by
 by_cases hxy : x = y
 ·subst hxy; simp
 ·rw [if_neg hxy]
  have h1 : ¬ [x.Piece, x.Part, x.Boy] = [y.Piece, y.Part, y.Boy] := by
   intro h; simp at h; exact hxy (MO h.1 h.2.1 h.2.2)
  rw [if_neg (by simpa using h1)]
  rw [Bool.eq_iff_iff, Ly]
  have hne : ¬ (x.Piece = y.Piece ∧ x.Part = y.Part ∧ x.Boy = y.Boy) := fun h => hxy (MO h.1 h.2.1 h.2.2)
  by_cases e1 : x.Piece = y.Piece
  ·by_cases e2 : x.Part = y.Part
   ·have e3 : ¬ x.Boy = y.Boy := fun h => hne ⟨e1, e2, h⟩
    simp [Bd, e1, e2, e3]
   ·simp [Bd, e1, e2]
  ·simp [Bd, e1]
theorem vu (x y : AB) : Bd [x.Piece, x.Part, x.Boy] [y.Piece, y.Part, y.Boy] = lt3 x y := by
 have h3 := mJ x y
 by_cases hxy : x = y
 ·subst hxy; rw [Zf]; simp [Bd]
 ·have h1 : ¬ [x.Piece, x.Part, x.Boy] = [y.Piece, y.Part, y.Boy] := by
   intro h; simp at h; exact hxy (MO h.1 h.2.1 h.2.2)
  rw [if_neg (by simpa using h1), if_neg hxy] at h3
  exact h3
end
end Go.Lf
namespace Go.Lf
open Go Go.Lf.Pl
noncomputable section
theorem Po : ∀ c d : List Int, Bd c d = true → Bd d c = false
 | [], [], h => by simp [Bd] at h
 | [], b :: d, _ => by simp [Bd]
 | a :: c, [], h => by simp [Bd] at h
 | a :: c, b :: d, h => by
  simp only [Bd] at h ⊢
  by_cases hab : a = b
  ·subst hab
   rw [if_pos rfl] at h ⊢
   exact Po c d h
  ·rw [if_neg hab] at h
   rw [if_neg (fun e => hab e.symm)]
   have := of_decide_eq_true h
   exact decide_eq_false (by omega)
theorem Jj : ∀ c : List Int, Bd c c = false
 | [] => by simp [Bd]
 | a :: c => by simp only [Bd, if_true]; exact Jj c
theorem Vw : ∀ (l : List Int) (m : Nat), l.Pairwise (· < ·) → (Di m l).Pairwise fun c d => Bd c d = true
 | _, 0, _ => by simp [Di]
 | [], _ + 1, _ => by simp [Di]
 | a :: l, m + 1, h => by
  rw [List.pairwise_cons] at h
  simp only [Di, List.pairwise_append]
  refine ⟨?_, Vw l (m + 1) h.2, ?_⟩
  ·rw [List.pairwise_map]
   refine (Vw l m h.2).imp ?_
   intro c d hcd
   simp only [Bd, if_true]; exact hcd
  ·intro c hc d hd
   obtain ⟨c', _, rfl⟩ := List.mem_map.mp hc
   obtain ⟨hs, hl⟩ := D2.mp hd
   cases d with
   | nil => simp at hl
   | cons e d =>
    have := h.1 e (hs.subset List.mem_cons_self)
    simp only [Bd]
    rw [if_neg (by omega)]
    exact decide_eq_true this
theorem X7 {n : Nat} {can : List Int → Bool} {o : List Int} (ho : List.Sublist o (idx n)) (hc : can o = true) : MP o (Dm n can) = false := by
 have hlen : o.length ≤ n := by have := ho.length_le; rwa [AU] at this
 unfold Dm
 cases h : (idx n).findSome? fun many => (Di many.toNat (idx n)).find? can with
 | none =>
  simp only [Option.getD_none]
  by_cases hn : o.length = n
  ·have : o = idx n := ho.eq_of_length (by rw [AU]; exact hn)
   subst this
   simp [MP, Jj]
  ·have h2 := List.findSome?_eq_none_iff.mp h (o.length : Int) (D9.mpr ⟨by omega, by omega⟩)
   rw [List.find?_eq_none] at h2
   exact absurd hc (h2 o (D2.mpr ⟨ho, by simp⟩))
 | some w =>
  simp only [Option.getD_some]
  obtain ⟨pre, a, post, e1, e2, e3⟩ := List.findSome?_eq_some_iff.mp h
  obtain ⟨e4, e5⟩ := Jm e1
  have hw := List.mem_of_find?_eq_some e2
  have hwl := IT hw
  have hge : w.length ≤ o.length := by
   by_cases hlt : o.length < w.length
   ·exfalso
    have hin : (o.length : Int) ∈ pre := by
     have h1 : (o.length : Int) ∈ idx n := D9.mpr ⟨by omega, by omega⟩
     have hs := Dp n
     rw [e1] at h1 hs
     rw [List.pairwise_append] at hs
     rcases List.mem_append.mp h1 with hq | hq
     ·exact hq
     ·rcases List.mem_cons.mp hq with hq | hq
      ·omega
      ·have := (List.pairwise_cons.mp hs.2.1).1 _ hq; omega
    have := e3 _ hin
    rw [List.find?_eq_none] at this
    exact absurd hc (this o (D2.mpr ⟨ho, by simp⟩))
   ·omega
  simp only [MP, Bool.or_eq_false_iff, decide_eq_false_iff_not, Bool.and_eq_false_iff]
  refine ⟨by omega, ?_⟩
  by_cases heq : o.length = w.length
  ·right
   have hoin : o ∈ Di a.toNat (idx n) := D2.mpr ⟨ho, by omega⟩
   obtain ⟨_, as, bs, e6, e7⟩ := List.find?_eq_some_iff_append.mp e2
   have hlex := Vw (idx n) a.toNat (Dp n)
   rw [e6] at hoin hlex
   rw [List.pairwise_append] at hlex
   rcases List.mem_append.mp hoin with hq | hq
   ·have := e7 o hq; simp [hc] at this
   ·rcases List.mem_cons.mp hq with rfl | hq
    ·exact Jj _
    ·exact Po _ _ ((List.pairwise_cons.mp hlex.2.1).1 o hq)
  ·left; exact heq
theorem L0 (b : BenchBook) (ex : Int → Bool) (p k : Int) : (A2 b ex p k).Pairwise (· < ·) := by
 unfold A2
 cases b.Pieces.ix p with
 | none => simp
 | some x =>
  dsimp only
  cases x.Parts.ix k with
  | none => simp
  | some y => exact (Dp _).filter _
theorem jF (b : BenchBook) (ex : Int → Bool) (m : Nat) (ps : List Int) : (FD b ex m ps).Pairwise fun x y => Bo x y = true := by
 refine iy _ _ _ ?_
 intro w hw
 simp only [EO, List.mem_map] at hw
 obtain ⟨w', _, rfl⟩ := hw
 exact L0 b ex _ _
theorem UC {b : BenchBook} {ex : Int → Bool} {x : List AB} (hx : x ∈ FD b ex 3 (DT b (A5 b ex))) : Bo x (LR b ex) = false := by
 have hs := jF b ex 3 (DT b (A5 b ex))
 unfold LR
 unfold A5 at hx hs
 cases hA : FD b ex 3 (DT b (Dm b.Pieces.l.length (PY b ex))) with
 | nil => rw [hA] at hx; cases hx
 | cons y L =>
  simp only [It]; rw [Sl.l_filled, Sl.l_grow]
  rw [hA] at hx hs
  rcases List.mem_cons.mp hx with rfl | hx
  ·exact I7 _
  ·have h1 := (List.pairwise_cons.mp hs).1 x hx
   cases h2 : Bo x y with
   | false => rfl
   | true => have := J4 _ _ _ h1 h2; rw [I7] at this; cases this
end
end Go.Lf
