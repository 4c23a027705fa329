/- A part of the proof. -/
import Derived.Test.YtpkbckdhkaggbaaDoorx45
set_option linter.all false
namespace Go.Lf
open Go Go.Lf.Pl
noncomputable section
section
variable {b : VoiceBook} {y : AE} {tr : Sl AE} (htr : tr.l = b.Trials.l ++ [y])
include htr
theorem jh (i loss : Int) (t : T5) : JS ⟨b.Boys, b.Weeks, tr⟩ i loss t = (!mZ i loss t y && JS b i loss t) := by
 simp only [JS, htr, List.all_append, List.all_cons, List.all_nil, Bool.and_true]
 exact Bool.and_comm _ _
theorem qD (i : Int) (x : AN) : tl ⟨b.Boys, b.Weeks, tr⟩ i x = (tl b i x).filter fun t => !mZ i x.Loss t y := by
 have e : JS ⟨b.Boys, b.Weeks, tr⟩ i x.Loss = fun t => !mZ i x.Loss t y && JS b i x.Loss t := funext (jh htr i x.Loss)
 simp only [tl, e, List.filter_flatMap, List.filter_filter]
theorem bQ (i : Int) : Ed ⟨b.Boys, b.Weeks, tr⟩ i = (Ed b i).filter fun t => !mZ i (US b i) t y := by
 unfold Ed US
 show (match b.Boys.ix i with | some x => tl ⟨b.Boys, b.Weeks, tr⟩ i x | none => []) = _
 cases b.Boys.ix i with
 | none => rfl
 | some x => exact qD htr i x
theorem lK (h : E3 ⟨b.Boys, b.Weeks, tr⟩ = true) : E3 b = true := by
 unfold E3 at *
 rw [List.all_eq_true] at *
 intro i hi
 have h1 := h i hi
 rw [bQ htr] at h1
 cases hb : Ed b i with
 | nil => rw [hb] at h1; exact h1
 | cons _ _ => rfl
theorem jA {boy week note : Int} (hf : 0 < (Ed ⟨b.Boys, b.Weeks, tr⟩ boy).length) (h : E9 b boy week note = 2) : E9 ⟨b.Boys, b.Weeks, tr⟩ boy week note = 2 := by
 have hm := bQ htr boy
 have h0 : 0 < (Ed b boy).length := by
  have := List.length_filter_le (fun t => !mZ boy (US b boy) t y) (Ed b boy)
  rw [hm] at hf
  omega
 rw [Ox hf]
 rw [Ox h0] at h
 intro t ht
 rw [hm] at ht
 exact h t (List.mem_filter.mp ht).1
theorem fG (h5 : b.Trials.l.length ≤ 5) (h : uS b = true) : uS ⟨b.Boys, b.Weeks, tr⟩ = BB b y := by
 have e1 : ∀ z, BB ⟨b.Boys, b.Weeks, tr⟩ z = BB b z := fun _ => rfl
 simp only [uS, Qj, Bool.and_eq_true] at h
 obtain ⟨⟨h1, h2, _⟩, h3, h4⟩ := h
 have hl : decide (tr.len ≤ 6) = true := by rw [Sl.len_l, htr]; simp; omega
 simp only [uS, Qj, h1, h2, hl, h3, htr, List.all_append, List.all_cons, List.all_nil, Bool.and_true, Bool.true_and]
 rw [show (b.Trials.l.all (BB ⟨b.Boys, b.Weeks, tr⟩)) = true from h4, Bool.true_and]
 exact e1 y
end
theorem pd {b : VoiceBook} {y : AE} (hf : lX b) (h5 : b.Trials.l.length ≤ 5) (h : uS b = true) :
  Je b y = some (if BB b y = true then (if E3 b = true then (E3 ⟨b.Boys, b.Weeks, .hot (b.Trials.l ++ [y])⟩, 0) else (false, 22)) else (false, 21)) := by
 obtain ⟨bk, h1, _⟩ := Nb hf (BB b y)
 unfold Je
 rw [h1, Be, if_pos h]
 cases hi : BB b y
 case false => simp
 case true =>
  cases hfi : E3 b
  case false => simp
  case true =>
   have ha : (b.Trials.filled).app 32 [y] = some (.hot (b.Trials.l ++ [y])) := Sl.app_filled (List.cons_ne_nil _ _) (B2 (by simp; omega) (by omega))
   have hf' : lX ⟨b.Boys, b.Weeks, .hot (b.Trials.l ++ [y])⟩ := ⟨hf.boys, by simp only [Sl.l_hot, List.length_append, List.length_singleton]; omega⟩
   have hv := Ip hf' (by rw [fG (b := b) (y := y) (Sl.l_hot _) h5 h]; exact hi)
   obtain ⟨es, _, he⟩ := U9 hv
   have ht := TX hv.boys.1 (m := Mp.mk es)
   simp only [if_true, decide_true, Sl.sub3_all, ha, Be, he]
   rw [ht]; rfl
section
variable {b : BenchBook} {y : AE} {tr : Sl AE} (htr : tr.l = b.Voice.Trials.l ++ [y])
include htr
theorem nV (hf : TG b) (h5 : b.Voice.Trials.l.length ≤ 5) : TG ⟨⟨b.Voice.Boys, b.Voice.Weeks, tr⟩, b.Pieces, b.Most⟩ :=
 ⟨⟨hf.voice.boys, by show tr.l.length < _; rw [htr]; simp; omega⟩, hf.pieces, hf.parts⟩
theorem nq (h5 : b.Voice.Trials.l.length ≤ 5) (h : uw b = true) : uw ⟨⟨b.Voice.Boys, b.Voice.Weeks, tr⟩, b.Pieces, b.Most⟩ = BB b.Voice y := by
 have e : ∀ x, IO ⟨⟨b.Voice.Boys, b.Voice.Weeks, tr⟩, b.Pieces, b.Most⟩ x = IO b x := fun _ => rfl
 have e1 : IO ⟨⟨b.Voice.Boys, b.Voice.Weeks, tr⟩, b.Pieces, b.Most⟩ = IO b := funext e
 simp only [uw, Vx, Bool.and_eq_true] at h
 obtain ⟨⟨h1, h2, h3⟩, h4⟩ := h
 simp only [uw, Vx, e1, h4, Bool.and_true]
 rw [fG htr h5 h1, h2, h3]
 simp
theorem l5 (hf : E3 ⟨b.Voice.Boys, b.Voice.Weeks, tr⟩ = true) {boy week : Int} {s : Ec} (hb : 0 ≤ boy ∧ boy < b.Voice.Boys.l.length) (h : Z1 b week s boy = true) : Z1 ⟨⟨b.Voice.Boys, b.Voice.Weeks, tr⟩, b.Pieces, b.Most⟩ week s boy = true := by
 unfold Z1 at *
 rw [List.all_eq_true] at *
 intro n hn
 have h1 := of_decide_eq_true (h n hn)
 exact decide_eq_true (jA htr (UI hf hb) h1)
theorem aj (hf : E3 ⟨b.Voice.Boys, b.Voice.Weeks, tr⟩ = true) (ex : Int → Bool) (p k : Int) : List.Sublist (BK b ex p k) (BK ⟨⟨b.Voice.Boys, b.Voice.Weeks, tr⟩, b.Pieces, b.Most⟩ ex p k) := by
 unfold BK
 show List.Sublist _ (match b.Pieces.ix p with | some x => (match x.Parts.ix k with | some y => SR ⟨⟨b.Voice.Boys, b.Voice.Weeks, tr⟩, b.Pieces, b.Most⟩ ex x.Week y.Notes | none => []) | none => [])
 cases b.Pieces.ix p with
 | none => exact List.Sublist.refl _
 | some x =>
  dsimp only
  cases x.Parts.ix k with
  | none => exact List.Sublist.refl _
  | some z =>
   dsimp only [SR]
   have : ∀ l : List Int, (∀ i ∈ l, 0 ≤ i ∧ i < b.Voice.Boys.l.length) → List.Sublist (l.filter fun boy => !ex boy && Z1 b x.Week z.Notes boy) (l.filter fun boy => !ex boy && Z1 ⟨⟨b.Voice.Boys, b.Voice.Weeks, tr⟩, b.Pieces, b.Most⟩ x.Week z.Notes boy) := by
    intro l
    induction l with
    | nil => intro _; exact List.Sublist.refl _
    | cons i l ih =>
     intro hl
     have h1 := ih fun j hj => hl j (List.mem_cons_of_mem _ hj)
     rw [List.filter_cons, List.filter_cons]
     by_cases hc : (!ex i && Z1 b x.Week z.Notes i) = true
     ·have hc' : (!ex i && Z1 ⟨⟨b.Voice.Boys, b.Voice.Weeks, tr⟩, b.Pieces, b.Most⟩ x.Week z.Notes i) = true := by
       rw [Bool.and_eq_true] at hc ⊢
       exact ⟨hc.1, l5 htr hf (hl i List.mem_cons_self) hc.2⟩
      rw [if_pos hc, if_pos hc']
      exact h1.cons_cons i
     ·rw [if_neg hc]
      split
      ·exact h1.cons i
      ·exact h1
   exact this _ fun i hi => I7.mp hi
theorem eA (hv : Ez b) (hf : E3 ⟨b.Voice.Boys, b.Voice.Weeks, tr⟩ = true) : (BL ⟨⟨b.Voice.Boys, b.Voice.Weeks, tr⟩, b.Pieces, b.Most⟩ A0).length ≤ (BL b A0).length := by
 have h1 := Q5 hv A0
 have h2 := gq b ⟨b.Voice.Boys, b.Voice.Weeks, tr⟩ A0 A0 3 _ h1 fun p k c hc _ => hc.trans (aj htr hf A0 p k)
 refine Xu (n := b.Pieces.l.length) (can := S4 b A0) (can' := S4 ⟨⟨b.Voice.Boys, b.Voice.Weeks, tr⟩, b.Pieces, b.Most⟩ A0) ?_
 unfold S4
 show (!(Ky ⟨⟨b.Voice.Boys, b.Voice.Weeks, tr⟩, b.Pieces, b.Most⟩ A0 3 (HQ b (BL b A0))).isEmpty) = true
 cases hA : Ky ⟨⟨b.Voice.Boys, b.Voice.Weeks, tr⟩, b.Pieces, b.Most⟩ A0 3 (HQ b (BL b A0)) with
 | nil => rw [hA] at h2; cases h2
 | cons _ _ => rfl
end
def gN (l : List Int) : Nat := l.foldl (fun s i => s ||| 2 ^ i.toNat) 0
theorem pN (l : List Int) (a : Int) : gN (l ++ [a]) = gN l ||| 2 ^ a.toNat := by simp [gN]
theorem qB {n : Nat} {l : List Int} (h : ∀ a ∈ l, 0 ≤ a ∧ a < n) : gN l < 2 ^ n := by
 have : ∀ (l : List Int) (s : Nat), (∀ a ∈ l, 0 ≤ a ∧ a < n) → s < 2 ^ n → l.foldl (fun s i => s ||| 2 ^ i.toNat) s < 2 ^ n := by
  intro l
  induction l with
  | nil => intro s _ hs; exact hs
  | cons a l ih =>
   intro s hl hs
   refine ih _ (fun b hb => hl b (List.mem_cons_of_mem _ hb)) ?_
   have ha := hl a List.mem_cons_self
   exact Nat.or_lt_two_pow hs (Nat.pow_lt_pow_right (by omega) (by omega))
 exact this l 0 h (Nat.two_pow_pos n)
theorem pD (l : List Int) (j : Nat) : (gN l).testBit j = l.any fun a => decide (a.toNat = j) := by
 have : ∀ (l : List Int) (s : Nat), (l.foldl (fun s i => s ||| 2 ^ i.toNat) s).testBit j = (s.testBit j || l.any fun a => decide (a.toNat = j)) := by
  intro l
  induction l with
  | nil => intro s; simp
  | cons a l ih =>
   intro s
   rw [List.foldl_cons, ih, Nat.testBit_or, Nat.testBit_two_pow, List.any_cons, Bool.or_assoc]
 have := this l 0
 rw [Nat.zero_testBit, Bool.false_or] at this
 exact this
theorem ql {l m : List Int} (h : ∀ a ∈ l, a ∈ m) : gN l ||| gN m = gN m := by
 apply Nat.eq_of_testBit_eq
 intro j
 rw [Nat.testBit_or, pD, pD]
 cases h1 : l.any fun a => decide (a.toNat = j) with
 | false => rfl
 | true =>
  obtain ⟨a, ha, hd⟩ := List.any_eq_true.mp h1
  have h2 : (m.any fun a => decide (a.toNat = j)) = true := List.any_eq_true.mpr ⟨a, h a ha, hd⟩
  rw [h2]; rfl
theorem nW : ∀ s t : _root_.Fin 16, uO .or ((s.val : Nat) : Int) ((t.val : Nat) : Int) = some (((s.val ||| t.val : Nat)) : Int) := by decide +kernel
theorem Z8 : ∀ s t : _root_.Fin 16, s.val ||| t.val = t.val → uO .andNot ((s.val : Nat) : Int) ((t.val : Nat) : Int) = some 0 := by decide +kernel
theorem to : ∀ i : _root_.Fin 4, uO .shl 1 ((i.val : Nat) : Int) = some (((2 ^ i.val : Nat)) : Int) := by decide +kernel
theorem cp (a : Sl Int) (hn : a.l.length < 4611686018427387904) (h : ∀ z ∈ a.l, 0 ≤ z ∧ z < (4 : Nat)) : FY a = some (gN a.l : Int) := by
 have e : Loop (Dw a) (0, 0) = some (gN a.l : Int) := by
  refine FG (fun t i => (t, i)) a.l (fun pre => (gN pre : Int)) hn rfl ?_ ?_
  ·intro pre z post hx hW
   have hl : (pre.length : Int) < a.len := by rw [Sl.len_l, hx]; simp; omega
   have hz := h z (by rw [hx]; simp)
   have hp : gN pre < 16 := qB (n := 4) fun w hw => h w (by rw [hx]; simp [hw])
   obtain ⟨k, rfl⟩ := Int.eq_ofNat_of_zero_le hz.1
   have hk : k < 4 := by omega
   have hk2 : 2 ^ k < 16 := (show 2 ^ k < 2 ^ 4 from Nat.pow_lt_pow_right (by decide) hk)
   have hL : Aj (k : Int) 0 61 = true := by simp only [Aj, Bool.and_eq_true, decide_eq_true_eq]; omega
   have h1 := to ⟨k, hk⟩
   have h2 := nW ⟨gN pre, hp⟩ ⟨2 ^ k, hk2⟩
   dsimp only at h1 h2
   simp only [Dw, decide_eq_true hl, if_true, Sl.ix_at hx, Be, hL, h1, h2, hW, pN, Int.toNat_natCast]
  ·have hl : ¬ (a.l.length : Int) < a.len := by rw [Sl.len_l]; omega
   simp only [Dw, decide_eq_false hl, Bool.false_eq_true, if_false]
 simp only [FY, e, Be]
theorem gh {b : BenchBook} {ex : Int → Bool} {p k a : Int} (h4 : b.Voice.Boys.l.length ≤ 4) (h : a ∈ BK b ex p k) : 0 ≤ a ∧ a < (4 : Nat) := by
 have := fO h
 omega
end
end Go.Lf
namespace Go.Lf
open Go Go.Lf.Pl
noncomputable section
theorem fY {b : BenchBook} (hf : TG b) (p k : Int) : (BK b A0 p k).length < 4611686018427387904 := by
 have h : ∀ week s, (SR b A0 week s).length < 4611686018427387904 := by
  intro week s
  have := List.length_filter_le (fun boy => !A0 boy && Z1 b week s boy) (ue b.Voice.Boys.l.length)
  rw [Aw] at this
  exact Nat.lt_of_le_of_lt this hf.voice.boys
 unfold BK
 split
 ·split
  ·exact h _ _
  ·exact Nat.zero_lt_succ _
 ·exact Nat.zero_lt_succ _
theorem Wp {b : BenchBook} (hf : TG b) (y : AE) (n : Ar 2 Int) : FA b y n = some true := by
 unfold FA
 rw [YE hf, Be]
 by_cases ho : uw b = true
 case neg =>
  have ho' : uw b = false := by simpa using ho
  simp only [ho', Bool.false_eq_true, if_false, if_true, CW, Be]
 case pos =>
  have hv := Ji hf ho
  have hvv := hv.voice
  have htl := hvv.trials
  rw [if_pos ho, Be]
  by_cases h6 : b.Voice.Trials.len = 6
  case pos => simp only [h6, decide_true, if_true, CW, Be]
  case neg =>
   have h5 : b.Voice.Trials.l.length ≤ 5 := by rw [Sl.len_l] at h6; omega
   have ha1 : (Sl.hot [] : Sl AE).app 32 b.Voice.Trials.l = some (.hot b.Voice.Trials.l) := by
    rw [Sl.app_hot (B2 (by simp; omega) (by omega))]; rfl
   have ha2 : (Sl.hot b.Voice.Trials.l).app 32 [y] = some (.hot (b.Voice.Trials.l ++ [y])) := Sl.app_hot (B2 (by simp; omega) (by omega))
   have htr : (Sl.hot (b.Voice.Trials.l ++ [y])).l = b.Voice.Trials.l ++ [y] := rfl
   have hfx := nV htr hf h5
   have hox := nq htr h5 ho
   have hft := pd (y := y) hf.voice h5 hv.vok
   have hle := fun h => eA htr hv h
   have hab := fun h => aj htr h (b := b) A0
   generalize htg : (Sl.hot (b.Voice.Trials.l ++ [y])) = tr at *
   obtain ⟨xl, x1, x2⟩ := Ie hfx
   rw [decide_eq_false h6]
   simp only [Bool.false_eq_true, if_false, ha1, ha2, Be, hft]
   cases hi : BB b.Voice y
   case false =>
    rw [hi] at hox
    have he := bA hox true
    rw [he] at x1
    simp [x1, CW]
   case true =>
    rw [hi] at hox
    cases hfi : E3 b.Voice
    case false =>
     have hfx' : E3 ⟨b.Voice.Boys, b.Voice.Weeks, tr⟩ = false := by
      cases h : E3 ⟨b.Voice.Boys, b.Voice.Weeks, tr⟩ with
      | false => rfl
      | true => rw [lK htr h] at hfi; cases hfi
     have he : AZ ⟨⟨b.Voice.Boys, b.Voice.Weeks, tr⟩, b.Pieces, b.Most⟩ true = 72 := by simp [AZ, hox, hfx']
     rw [he] at x1
     simp [x1, CW]
    case true =>
     cases hfx' : E3 ⟨b.Voice.Boys, b.Voice.Weeks, tr⟩
     case false =>
      have he : AZ ⟨⟨b.Voice.Boys, b.Voice.Weeks, tr⟩, b.Pieces, b.Most⟩ true = 72 := by simp [AZ, hox, hfx']
      rw [he] at x1
      simp [x1, CW]
     case true =>
      have he : AZ ⟨⟨b.Voice.Boys, b.Voice.Weeks, tr⟩, b.Pieces, b.Most⟩ true = 0 := by simp [AZ, hox, hfx']
      have he0 : AZ b true = 0 := by simp [AZ, ho, hfi]
      rw [he] at x1 x2
      rw [if_pos rfl] at x2
      obtain ⟨l, hl⟩ := n
      match l, hl with
      | [n0, n1], hl =>
       have hp := hv.pieces
       obtain ⟨p, e1, p0, p1⟩ := Qy (n := n0) (m := b.Pieces.len) (by rw [Sl.len_l]; omega) (by rw [Sl.len_l]; omega)
       obtain ⟨x, hx, hxm⟩ : ∃ x, b.Pieces.ix p = some x ∧ x ∈ b.Pieces.l := by
        rw [Sl.len_l] at p1
        have h0 : p.toNat < b.Pieces.l.length := by omega
        refine ⟨b.Pieces.l[p.toNat], ?_, List.getElem_mem h0⟩
        unfold Sl.ix
        rw [if_pos p0, List.getElem?_eq_getElem h0]
       have hxp := hv.parts x hxm
       obtain ⟨k, e2, k0, k1⟩ := Qy (n := n1) (m := x.Parts.len) (by rw [Sl.len_l]; omega) (by rw [Sl.len_l]; omega)
       have i0 : (⟨[n0, n1], hl⟩ : Ar 2 Int).ix 0 = some n0 := rfl
       have i1 : (⟨[n0, n1], hl⟩ : Ar 2 Int).ix 1 = some n1 := rfl
       have hq : jw b p k = true := by
        simp only [jw, hx, Bool.and_eq_true]
        exact ⟨(IY hf p).mpr ⟨p0, by rw [Sl.len_l] at p1; exact p1⟩, (iO hf hx).mpr ⟨k0, by rw [Sl.len_l] at k1; exact k1⟩⟩
       have hqx : jw ⟨⟨b.Voice.Boys, b.Voice.Weeks, tr⟩, b.Pieces, b.Most⟩ p k = true := hq
       obtain ⟨l1, c1, c2⟩ := Io (hf := hf) p k
       obtain ⟨l2, d1, d2⟩ := Io (hf := hfx) p k
       obtain ⟨wl, w1, w2⟩ := Ie hf
       rw [hq, he0] at c1 c2
       rw [hqx, he] at d1 d2
       rw [he0] at w1 w2
       rw [if_pos rfl] at c2 d2 w2
       have b4 := hvv.boys.1
       have r1 : ∀ z ∈ l1.l, 0 ≤ z ∧ z < (4 : Nat) := by rw [c2]; exact fun z hz => gh b4 hz
       have r2 : ∀ z ∈ l2.l, 0 ≤ z ∧ z < (4 : Nat) := by
        rw [d2]; exact fun z hz => gh (b := ⟨⟨b.Voice.Boys, b.Voice.Weeks, tr⟩, b.Pieces, b.Most⟩) b4 hz
       have n1' : l1.l.length < 4611686018427387904 := by rw [c2]; exact fY hf p k
       have n2' : l2.l.length < 4611686018427387904 := by rw [d2]; exact fY hfx p k
       have g1 := cp l1 n1' r1
       have g2 := cp l2 n2' r2
       have hs : gN l1.l ||| gN l2.l = gN l2.l := ql (by rw [c2, d2]; exact fun a ha => (hab hfx' p k).subset ha)
       have h3 := Z8 ⟨gN l1.l, qB (n := 4) r1⟩ ⟨gN l2.l, qB (n := 4) r2⟩ hs
       dsimp only at h3
       have hlen : xl.len ≤ wl.len := by
        rw [Sl.len_l, Sl.len_l, x2, w2]
        have := hle hfx'
        omega
       simp [e1, hx, e2, c1, d1, w1, x1, g1, g2, h3, hlen, CW, i0, i1]
end
end Go.Lf
