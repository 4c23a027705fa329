/- A part of the proof. -/
import Derived.Test.YtdjddljglkeefaaDoorx39
import Derived.Test.YtdjddljglkeefaaDoorx41
set_option linter.all false
namespace Go.Lf
open Go Go.Lf.Pl
noncomputable section
def ly (wk : Int → Int) (most : Nat) : List NB → List AB → List AB → Option (List AB × List AB)
 | [], pre, r => some (pre, r)
 | w :: W, pre, r => (ZJ wk most w.wp w.wk w.able w.many (-1) pre r).bind fun x => ly wk most W x.1 x.2
theorem V5 (wk : Int → Int) (most : Nat) : ∀ (A B : List NB) (pre r : List AB), ly wk most (A ++ B) pre r = (ly wk most A pre r).bind fun x => ly wk most B x.1 x.2
 | [], B, pre, r => rfl
 | w :: A, B, pre, r => by
  simp only [List.cons_append, ly]
  cases ZJ wk most w.wp w.wk w.able w.many (-1) pre r with
  | none => rfl
  | some x => exact V5 wk most A B x.1 x.2
theorem xN (wk : Int → Int) (most : Nat) : ∀ (W : List NB) (pre r : List AB), chk wk most W pre r = (match ly wk most W pre r with | none => false | some x => x.2.isEmpty)
 | [], pre, r => rfl
 | w :: W, pre, r => by
  simp only [chk, ly]
  cases ZJ wk most w.wp w.wk w.able w.many (-1) pre r with
  | none => rfl
  | some x => exact xN wk most W x.1 x.2
theorem aw {b : BenchBook} (hf : Tf b) (p k : Int) : (A2 b AW p k).length < 4611686018427387904 := by
 have h : ∀ week s, (d6 b AW week s).length < 4611686018427387904 := by
  intro week s
  have := List.length_filter_le (fun boy => !AW boy && rm b week s boy) (idx b.Voice.Boys.l.length)
  rw [AU] at this
  exact Nat.lt_of_le_of_lt this hf.voice.boys
 unfold A2
 split
 ·split
  ·exact h _ _
  ·exact Nat.zero_lt_succ _
 ·exact Nat.zero_lt_succ _
theorem vQ {l : List Int} (hl : ∀ a ∈ l, 0 ≤ a ∧ a < (4 : Nat)) {i : Int} (h0 : 0 ≤ i) : Ia (gN l : Int) i = some (decide (i ∈ l)) := by
 have hs : gN l < 16 := nI (n := 4) hl
 obtain ⟨c, rfl⟩ := Int.eq_ofNat_of_zero_le h0
 have hd : decide ((c : Int) ∈ l) = (gN l).testBit c := by
  rw [qw, Bool.eq_iff_iff]
  simp only [decide_eq_true_eq, List.any_eq_true]
  constructor
  ·exact fun h => ⟨_, h, rfl⟩
  ·rintro ⟨a, ha, h⟩
   have := hl a ha
   rwa [show (c : Int) = a by omega]
 rw [hd]
 unfold Ia
 by_cases hc : c < 62
 ·have key : ∀ (a : _root_.Fin 16) (c : _root_.Fin 62), (zV .shr ((a.val : Nat) : Int) ((c.val : Nat) : Int)).bind (fun v => (zV .and v 1).bind fun w => some (decide (w = 1))) = some (a.val.testBit c.val) := by decide +kernel
  have := key ⟨gN l, hs⟩ ⟨c, hc⟩
  have h1 : decide ((0 : Int) ≤ (c : Int)) = true := by simp
  have h2 : decide ((c : Int) < 62) = true := by simp; omega
  simp only [h1, h2, if_true]
  simp only at this
  rw [this]; rfl
 ·have h1 : decide ((0 : Int) ≤ (c : Int)) = true := by simp
  have h2 : decide ((c : Int) < 62) = false := by simp; omega
  have h3 : (gN l).testBit c = false := Nat.testBit_lt_two_pow (Nat.lt_of_lt_of_le hs (Nat.pow_le_pow_right (n := 2) (i := 4) (j := c) (by omega) (by omega)))
  simp only [h1, h2, h3, Bool.false_eq_true, if_false, if_true, AP]
theorem qg {l : List Int} (hl : ∀ a ∈ l, 0 ≤ a ∧ a < (4 : Nat)) {i : Int} (hi : 0 ≤ i ∧ i < 4) : ∃ v, zV .shl 1 i = some v ∧ zV .or (gN l : Int) v = some (gN (l ++ [i]) : Int) := by
 obtain ⟨k, rfl⟩ := Int.eq_ofNat_of_zero_le hi.1
 have hk : k < 4 := by omega
 refine ⟨_, yX ⟨k, hk⟩, ?_⟩
 have := lg ⟨gN l, nI (n := 4) hl⟩ ⟨2 ^ k, (show 2 ^ k < 2 ^ 4 from Nat.pow_lt_pow_right (by decide) hk)⟩
 dsimp only at this
 rw [this, qQ, Int.toNat_natCast]
section
variable {b : BenchBook} (hv : C6 b) {a : Sl (Sl (Sl Int))} {ps : Sl Int} {z : Sl AB} (hz : z.l.length < 4611686018427387904)
def xW (b : BenchBook) (a : Sl (Sl (Sl Int))) : Prop := ∀ (p k : Int) (x : AE) (y : Aj), b.Pieces.ix p = some x → x.Parts.ix k = some y → ∃ r l, a.ix p = some r ∧ r.ix k = some l ∧ l.l = A2 b AW p k
variable (ha : xW b a)
def uj (b : BenchBook) (s : Ar 6 (Ar 4 Int)) (pre : List AB) : Prop := ∀ w boy : Int, 0 ≤ w → w < 6 → 0 ≤ boy → boy < 4 → ∃ row, s.ix w = some row ∧ row.ix boy = some (DJ (A0 b) pre w boy : Int)
theorem LC {n : Nat} {α : Type} {x : Ar n α} {i : Int} {v w : α} (h : x.ix i = some v) : (x.put i w).ix i = some w := by
 obtain ⟨h1, h2⟩ := cG h
 simp only [Ar.ix, Ar.put, if_pos h1]
 rw [List.getElem?_set_self (by rw [x.h]; exact h2)]
theorem ft {n : Nat} {α : Type} {x : Ar n α} {i j : Int} {v w : α} (h : x.ix i = some v) (hj : 0 ≤ j) (hne : j ≠ i) : (x.put i w).ix j = x.ix j := by
 obtain ⟨h1, h2⟩ := cG h
 simp only [Ar.ix, Ar.put, if_pos hj]
 rw [List.getElem?_set_ne (by omega)]
theorem rO {s : Ar 6 (Ar 4 Int)} {pre : List AB} (h : uj b s pre) {q : AB} {w : Int} (hw : A0 b q.Piece = w) (h0 : 0 ≤ w ∧ w < 6) (hb : 0 ≤ q.Boy ∧ q.Boy < 4) {row : Ar 4 Int} (h1 : s.ix w = some row) (h2 : row.ix q.Boy = some (DJ (A0 b) pre w q.Boy : Int)) :
  uj b (s.put w (row.put q.Boy (DJ (A0 b) pre w q.Boy + 1))) (pre ++ [q]) := by
 intro w' boy w0 w1 b0 b1
 obtain ⟨row', g1, g2⟩ := h w' boy w0 w1 b0 b1
 have hs : DJ (A0 b) (pre ++ [q]) w' boy = DJ (A0 b) pre w' boy + if w = w' ∧ q.Boy = boy then 1 else 0 := by
  simp only [DJ, List.countP_append, List.countP_cons, List.countP_nil, hw, Nat.zero_add]
  congr 1
  by_cases hc : w = w' ∧ q.Boy = boy
  ·rw [if_pos hc, if_pos (by simp [hc])]
  ·rw [if_neg hc, if_neg (by simpa using hc)]
 by_cases hww : w' = w
 ·subst hww
  refine ⟨_, LC h1, ?_⟩
  by_cases hbb : boy = q.Boy
  ·subst hbb
   rw [LC h2, hs, if_pos ⟨rfl, rfl⟩]; rfl
  ·rw [ft h2 b0 hbb, hs, if_neg (fun h => hbb h.2.symm)]
   rw [h1] at g1
   cases g1
   exact g2
 ·refine ⟨row', by rw [ft h1 w0 hww]; exact g1, ?_⟩
  rw [hs, if_neg (fun h => hww h.1.symm)]
  exact g2
structure At (b : BenchBook) (z : Sl AB) (pre r : List AB) (at_ : Int) (s : Ar 6 (Ar 4 Int)) : Prop where
 split : z.l = pre ++ r
 here : at_ = pre.length
 sung : uj b s pre
structure Had (pre : List AB) (p : Int) (had : Int) (hl : List Int) : Prop where
 val : had = gN hl
 rng : ∀ x ∈ hl, 0 ≤ x ∧ x < (4 : Nat)
 mem : ∀ boy, boy ∈ hl ↔ ∃ y ∈ pre, y.Piece = p ∧ y.Boy = boy
include hv hz ha
theorem uZ {p k j : Int} {x : AE} {y : Aj} (hx : b.Pieces.ix p = some x) (hy : x.Parts.ix k = some y) (hj : ps.ix j = some p) : ∀ (m i : Nat) (last : Int) (pre r : List AB) (at_ had : Int) (s : Ar 6 (Ar 4 Int)) (hl : List Int),
  (i : Int) + m = y.Many → -1 ≤ last → At b z pre r at_ s → Had pre p had hl →
  ∃ res, Loop (A9 b a ps z j x k) (at_, s, had, last, (i : Int)) = some res ∧ (match ZJ (A0 b) b.Most.toNat p k (A2 b AW p k) m last pre r with
   | none => res = .inl false
   | some (pre', r') => ∃ at' s' had' hl', res = .inr (at', s', had') ∧ At b z pre' r' at' s' ∧ Had pre' p had' hl' ∧ ∀ q ∈ pre', q ∈ pre ∨ q.Piece = p)
 | 0, i, last, pre, r, at_, had, s, hl, hm, h1, hA, hH => by
  refine ⟨.inr (at_, s, had), Loop.done ?_, at_, s, had, hl, rfl, hA, hH, fun q hq => .inl hq⟩
  have : ¬ (i : Int) < y.Many := by omega
  simp only [A9, hy, AP, decide_eq_false this, Bool.false_eq_true, if_false]
 | m + 1, i, last, pre, [], at_, had, s, hl, hm, h1, hA, hH => by
  refine ⟨.inl false, Loop.done ?_, rfl⟩
  have h2 : (i : Int) < y.Many := by omega
  have h3 : z.len ≤ at_ := by rw [Sl.len_l, hA.split, hA.here]; simp
  simp only [A9, hy, AP, decide_eq_true h2, decide_eq_true h3, if_true]
 | m + 1, i, last, pre, q :: r, at_, had, s, hl, hm, h1, hA, hH => by
  have h2 : (i : Int) < y.Many := by omega
  have h3 : ¬ z.len ≤ at_ := by rw [Sl.len_l, hA.split, hA.here]; simp; omega
  have h4 : z.ix at_ = some q := by rw [hA.here]; exact Sl.ix_at hA.split
  have hxm := (CN hx).2.2
  have hym := (CN hy).2.2
  have hpt := hv.part x hxm y hym
  have hwk := hv.week x hxm
  have hws := hv.voice.weeks
  have hwe : A0 b p = x.Week := by simp [A0, hx]
  have hmost := hv.most
  obtain ⟨ra, la, e1, e2, e3⟩ := ha p k x y hx hy
  obtain ⟨wv, f1, f2⟩ := cR la (by rw [e3]; exact aw hv.few p k) q.Boy
  rw [e3] at f2
  by_cases c1 : q.Piece = p
  case neg =>
   refine ⟨.inl false, Loop.done ?_, by simp [ZJ, c1]⟩
   simp only [A9, hy, AP, decide_eq_true h2, decide_eq_false h3, h4, hj, decide_eq_false c1, Bool.false_eq_true, if_false, if_true]
  by_cases c2 : q.Part = k
  case neg =>
   refine ⟨.inl false, Loop.done ?_, by simp [ZJ, c2]⟩
   simp only [A9, hy, AP, decide_eq_true h2, decide_eq_false h3, h4, hj, decide_eq_true c1, decide_eq_false c2, Bool.false_eq_true, if_false, if_true, Bool.not_false]
  by_cases c3 : q.Boy ≤ last
  case pos =>
   refine ⟨.inl false, Loop.done ?_, by simp [ZJ, show ¬ last < q.Boy by omega]⟩
   simp only [A9, hy, AP, decide_eq_true h2, decide_eq_false h3, h4, hj, decide_eq_true c1, decide_eq_true c2, decide_eq_true c3, Bool.false_eq_true, if_false, if_true, Bool.not_true]
  have hq0 : 0 ≤ q.Boy := by omega
  have hH1 := vQ hH.rng hq0
  rw [← hH.val] at hH1
  have hcl : Qf pre q = decide (q.Boy ∈ hl) := by
   rw [Bool.eq_iff_iff, decide_eq_true_eq, hH.mem]
   simp only [Qf, List.any_eq_true, Bool.and_eq_true, beq_iff_eq, c1]
  by_cases c4 : q.Boy ∈ hl
  case pos =>
   refine ⟨.inl false, Loop.done ?_, by simp [ZJ, HT, hcl, c4]⟩
   simp only [A9, hy, AP, decide_eq_true h2, decide_eq_false h3, h4, hj, decide_eq_true c1, decide_eq_true c2, decide_eq_false c3, hH1, decide_eq_true c4, Bool.false_eq_true, if_false, if_true, Bool.not_true]
  by_cases c5 : q.Boy ∈ A2 b AW p k
  case neg =>
   have : wv < 0 := by
    rw [List.contains_eq_mem, decide_eq_false c5] at f2; simpa using f2
   refine ⟨.inl false, Loop.done ?_, by simp [ZJ, c5]⟩
   simp only [A9, hy, AP, decide_eq_true h2, decide_eq_false h3, h4, hj, decide_eq_true c1, decide_eq_true c2, decide_eq_false c3, hH1, decide_eq_false c4, e1, e2, f1, decide_eq_true this, Bool.false_eq_true, if_false, if_true, Bool.not_true]
  have hwv : ¬ wv < 0 := by
   rw [List.contains_eq_mem, decide_eq_true c5] at f2; simpa using f2
  have hb4 := lX hv.voice.boys.1 c5
  have hb4' : 0 ≤ q.Boy ∧ q.Boy < 4 := ⟨hb4.1, by have := hb4.2; omega⟩
  obtain ⟨v, g1, g2⟩ := qg hH.rng hb4'
  rw [← hH.val] at g2
  obtain ⟨row, g3, g4⟩ := hA.sung x.Week q.Boy hwk.1 (by omega) hb4'.1 hb4'.2
  have hle : DJ (A0 b) pre x.Week q.Boy ≤ pre.length := List.countP_le_length
  have hpl : pre.length < z.l.length := by rw [hA.split]; simp
  have hW1 : W ((DJ (A0 b) pre x.Week q.Boy : Int) + 1) = (DJ (A0 b) pre x.Week q.Boy : Int) + 1 := J9 (by omega) (by omega)
  have hW2 : W (at_ + 1) = at_ + 1 := by rw [hA.here]; exact J9 (by omega) (by omega)
  have hW3 : W ((i : Int) + 1) = ((i + 1 : Nat) : Int) := by rw [J9 (by omega) (by omega)]; simp
  have hwq : A0 b q.Piece = x.Week := by rw [c1]; exact hwe
  have hA' : At b z (pre ++ [q]) r (at_ + 1) (s.put x.Week (row.put q.Boy ((DJ (A0 b) pre x.Week q.Boy : Int) + 1))) := ⟨by rw [hA.split]; simp, by rw [hA.here]; simp, rO hA.sung hwq ⟨hwk.1, by omega⟩ hb4' g3 g4⟩
  by_cases c6 : DJ (A0 b) pre (A0 b q.Piece) q.Boy < b.Most.toNat
  case neg =>
   have c6' : b.Most < (DJ (A0 b) pre x.Week q.Boy : Int) + 1 := by rw [hwq] at c6; omega
   refine ⟨.inl false, Loop.done ?_, by simp [ZJ, HT, c6]⟩
   simp only [A9, hy, AP, decide_eq_true h2, decide_eq_false h3, h4, hj, decide_eq_true c1, decide_eq_true c2, decide_eq_false c3, hH1, decide_eq_false c4, e1, e2, f1, decide_eq_false hwv, g1, g2, g3, g4, hW1, LC g3, LC g4, decide_eq_true c6', Bool.false_eq_true, if_false, if_true, Bool.not_true]
  case pos =>
   have c6' : ¬ b.Most < (DJ (A0 b) pre x.Week q.Boy : Int) + 1 := by rw [hwq] at c6; omega
   have hH' : Had (pre ++ [q]) p (gN (hl ++ [q.Boy])) (hl ++ [q.Boy]) := by
    refine ⟨rfl, ?_, ?_⟩
    ·intro w hw
     rcases List.mem_append.mp hw with hw | hw
     ·exact hH.rng w hw
     ·simp only [List.mem_singleton] at hw; subst hw; exact hb4
    ·intro w
     simp only [List.mem_append, List.mem_singleton, hH.mem]
     constructor
     ·rintro (⟨y', h5, h6⟩ | rfl)
      ·exact ⟨y', .inl h5, h6⟩
      ·exact ⟨q, .inr rfl, c1, rfl⟩
     ·rintro ⟨y', h5 | rfl, h6, h7⟩
      ·exact .inl ⟨y', h5, h6, h7⟩
      ·exact .inr h7.symm
   have hstep : A9 b a ps z j x k (at_, s, had, last, (i : Int)) = some (.inl (at_ + 1, s.put x.Week (row.put q.Boy ((DJ (A0 b) pre x.Week q.Boy : Int) + 1)), (gN (hl ++ [q.Boy]) : Int), q.Boy, ((i + 1 : Nat) : Int))) := by
    simp only [A9, hy, AP, decide_eq_true h2, decide_eq_false h3, h4, hj, decide_eq_true c1, decide_eq_true c2, decide_eq_false c3, hH1, decide_eq_false c4, e1, e2, f1, decide_eq_false hwv, g1, g2, g3, g4, hW1, hW2, hW3, LC g3, LC g4, decide_eq_false c6', Bool.false_eq_true, if_false, if_true, Bool.not_true]
   rw [Loop.step hstep]
   have hc : ZJ (A0 b) b.Most.toNat p k (A2 b AW p k) (m + 1) last pre (q :: r) = ZJ (A0 b) b.Most.toNat p k (A2 b AW p k) m q.Boy (pre ++ [q]) r := by
    simp only [ZJ]
    rw [if_pos ⟨c1, c2, by omega, c5, by simp [HT, hcl, c4, c6]⟩]
   rw [hc]
   obtain ⟨res, k1, k2⟩ := uZ hx hy hj m (i + 1) q.Boy (pre ++ [q]) r _ _ _ _ (by simp; omega) (by omega) hA' hH'
   refine ⟨res, k1, ?_⟩
   split at k2
   ·rename_i h; exact k2
   ·rename_i pre' r' h
    obtain ⟨at', s', had', hl', l1, l2, l3, l4⟩ := k2
    refine ⟨at', s', had', hl', l1, l2, l3, fun w hw => ?_⟩
    rcases l4 w hw with h5 | h5
    ·rcases List.mem_append.mp h5 with h5 | h5
     ·exact .inl h5
     ·simp only [List.mem_singleton] at h5; subst h5; exact .inr c1
    ·exact .inr h5
end
end
end Go.Lf
