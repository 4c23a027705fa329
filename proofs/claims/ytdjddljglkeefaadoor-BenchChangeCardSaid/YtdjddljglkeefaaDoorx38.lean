/- A part of the proof. -/
import Derived.Test.YtdjddljglkeefaaDoorx37
set_option linter.all false
namespace Go.Lf
open Go Go.Lf.Pl
noncomputable section
theorem sH {b : BenchBook} {ex : Int → Bool} : PY b ex (idx b.Pieces.l.length) = true := by
 have : DT b (idx b.Pieces.l.length) = [] := by
  simp only [DT, List.filter_eq_nil_iff]
  intro p hp
  simp [hp]
 simp [PY, this, FD, EO, FN, fill]
theorem ka {α : Type} (f g : α → NB) (s : List AB) : ∀ (L : List α), (∀ w ∈ L, (f w).wp = (g w).wp ∧ (f w).wk = (g w).wk ∧ (f w).many = (g w).many ∧ ∀ c : List Int, List.Sublist c (f w).able → (∀ a ∈ c, (⟨(f w).wp, (f w).wk, a⟩ : AB) ∈ s) → List.Sublist c (g w).able) →
  ∀ x : List AB, x ∈ GE (L.map f) → (∀ z ∈ x, z ∈ s) → x ∈ GE (L.map g)
 | [], _, x, hx, _ => hx
 | w :: L, h, x, hx, hs => by
  simp only [List.map_cons, GE, List.mem_flatMap, List.mem_map] at hx ⊢
  obtain ⟨c, hc, r, hr, rfl⟩ := hx
  obtain ⟨h1, h2, h3, h4⟩ := h w List.mem_cons_self
  rw [D2] at hc
  refine ⟨c, D2.mpr ⟨h4 c hc.1 fun a ha => hs _ (List.mem_append_left _ (List.mem_map_of_mem ha)), h3 ▸ hc.2⟩, r, ka f g s L (fun w' hw' => h w' (List.mem_cons_of_mem _ hw')) r hr fun z hz => hs z (List.mem_append_right _ hz), ?_⟩
  rw [h1, h2]
theorem sw (b : BenchBook) (v : VoiceBook) (ex ex' : Int → Bool) (m : Nat) (ps : List Int) {x : List AB} (hx : x ∈ FD b ex m ps)
  (h : ∀ (p k : Int) (c : List Int), List.Sublist c (A2 b ex p k) → (∀ a ∈ c, (⟨p, k, a⟩ : AB) ∈ x) → List.Sublist c (A2 ⟨v, b.Pieces, b.Most⟩ ex' p k)) :
  x ∈ FD ⟨v, b.Pieces, b.Most⟩ ex' m ps := by
 simp only [FD, Jq, List.mem_map, List.mem_filter, List.nil_append, exists_eq_right] at hx ⊢
 exact ⟨ka (K8 b ex) (K8 ⟨v, b.Pieces, b.Most⟩ ex') x _ (fun w _ => ⟨rfl, rfl, rfl, fun c hc ha => h _ _ c hc ha⟩) x hx.1 fun z hz => hz, hx.2⟩
theorem ng {n : Nat} {can can' : List Int → Bool} (h : can' (Dm n can) = true) : (Dm n can').length ≤ (Dm n can).length := by
 have top : (Dm n can').length ≤ n := by
  unfold Dm
  cases h1 : (idx n).findSome? fun many => (Di many.toNat (idx n)).find? can' with
  | none => simp [AU]
  | some l =>
   obtain ⟨many, hm, h2⟩ := List.exists_of_findSome?_eq_some h1
   have := IT (List.mem_of_find?_eq_some h2)
   have := D9.mp hm
   simp only [Option.getD_some]; omega
 revert h
 conv => intro h; rhs; unfold Dm
 unfold Dm at *
 cases h1 : (idx n).findSome? fun many => (Di many.toNat (idx n)).find? can with
 | none => intro _; simpa [AU] using top
 | some l =>
  intro hl
  simp only [Option.getD_some] at hl ⊢
  obtain ⟨many, hm, h2⟩ := List.exists_of_findSome?_eq_some h1
  have hl2 := List.mem_of_find?_eq_some h2
  have hlen := IT hl2
  have hm2 := D9.mp hm
  cases h3 : (idx n).findSome? fun many => (Di many.toNat (idx n)).find? can' with
  | none =>
   have := List.findSome?_eq_none_iff.mp h3 many hm
   rw [List.find?_eq_none] at this
   exact absurd hl (this l hl2)
  | some l' =>
   obtain ⟨pre, a, post, e1, e2, e3⟩ := List.findSome?_eq_some_iff.mp h3
   have hlen' := IT (List.mem_of_find?_eq_some e2)
   obtain ⟨e4, e5⟩ := Jm e1
   simp only [Option.getD_some]
   have : many ∉ pre := by
    intro hin
    have := e3 many hin
    rw [List.find?_eq_none] at this
    exact absurd hl (this l hl2)
   have hs := Dp n
   rw [e1, List.pairwise_append] at hs
   rw [e1] at hm
   have hle : a ≤ many := by
    rcases List.mem_append.mp hm with hq | hq
    ·exact absurd hq this
    ·rcases List.mem_cons.mp hq with rfl | hq
     ·exact Int.le_refl _
     ·have := (List.pairwise_cons.mp hs.2.1).1 many hq; omega
   omega
theorem WM (b : BenchBook) (hv : C6 b) (ex : Int → Bool) : PY b ex (Dm b.Pieces.l.length (PY b ex)) = true := by
 unfold Dm
 cases h : (idx b.Pieces.l.length).findSome? fun many => (Di many.toNat (idx b.Pieces.l.length)).find? (PY b ex) with
 | none => exact sH
 | some l =>
  obtain ⟨many, _, h1⟩ := List.exists_of_findSome?_eq_some h
  exact List.find?_some h1
theorem JA {b : BenchBook} (hv : C6 b) (ex : Int → Bool) : LR b ex ∈ FD b ex 3 (DT b (A5 b ex)) := by
 have hc := WM b hv ex
 unfold LR A5
 cases hA : FD b ex 3 (DT b (Dm b.Pieces.l.length (PY b ex))) with
 | nil => simp [PY, hA] at hc
 | cons x L => simp only [It]; rw [Sl.l_filled, Sl.l_grow]; simp
theorem nW {α : Type} {p q : α → Bool} {l c : List α} (h : List.Sublist c (l.filter p)) (hq : ∀ a ∈ c, q a = true) : List.Sublist c (l.filter fun a => q a && p a) := by
 have h1 := h.filter q
 rw [List.filter_eq_self.mpr hq, List.filter_filter] at h1
 exact h1
theorem xI {b : BenchBook} (hv : C6 b) {boy : Int} (h : ∀ z ∈ LR b AW, z.Boy ≠ boy) : ¬ (A5 b AW).length < (A5 b fun i => decide (i = boy)).length := by
 have h1 := JA hv AW
 have h2 : LR b AW ∈ FD b (fun i => decide (i = boy)) 3 (DT b (A5 b AW)) := by
  refine sw b b.Voice AW (fun i => decide (i = boy)) 3 _ h1 ?_
  intro p k c hc hs
  show List.Sublist c (A2 b _ p k)
  unfold A2 at hc ⊢
  cases hx : b.Pieces.ix p with
  | none => simpa only [hx] using hc
  | some x =>
   simp only [hx] at hc ⊢
   cases hy : x.Parts.ix k with
   | none => simpa only [hy] using hc
   | some y =>
    simp only [hy] at hc ⊢
    unfold d6 at hc ⊢
    have h3 := nW (q := fun a => !decide (a = boy)) hc fun a ha => by
     have := h _ (hs a ha)
     simpa using this
    simpa only [AW, Bool.not_false, Bool.true_and] using h3
 have h3 : PY b (fun i => decide (i = boy)) (A5 b AW) = true := by
  unfold PY
  cases hA : FD b (fun i => decide (i = boy)) 3 (DT b (A5 b AW)) with
  | nil => rw [hA] at h2; cases h2
  | cons _ _ => rfl
 have := ng (n := b.Pieces.l.length) (can := PY b AW) h3
 simp only [A5]; omega
end
end Go.Lf
namespace Go.Lf
open Go Go.Lf.Pl
noncomputable section
theorem SH {b : BenchBook} (h : zO b = false) (q : Bool) : Ai b q = 70 := by simp [Ai, h]
theorem mH {b : BenchBook} (h : zO b = true) : Ai b true = 0 ∧ JU b.Voice = true ∨ Ai b true = 72 ∧ JU b.Voice = false := by
 cases hf : JU b.Voice
 ·exact .inr ⟨by simp [Ai, h, hf], rfl⟩
 ·exact .inl ⟨by simp [Ai, h, hf], rfl⟩
theorem oc {b : BenchBook} (hv : C6 b) : (LR b AW).length < 4611686018427387904 := by
 have := VN hv AW (RX hv _) (JA hv AW)
 omega
end
end Go.Lf
namespace Go.Lf
open Go Go.Lf.Pl
noncomputable section
def gN (l : List Int) : Nat := l.foldl (fun s i => s ||| 2 ^ i.toNat) 0
theorem qQ (l : List Int) (a : Int) : gN (l ++ [a]) = gN l ||| 2 ^ a.toNat := by simp [gN]
theorem nI {n : Nat} {l : List Int} (h : ∀ a ∈ l, 0 ≤ a ∧ a < n) : gN l < 2 ^ n := by
 have : ∀ (l : List Int) (s : Nat), (∀ a ∈ l, 0 ≤ a ∧ a < n) → s < 2 ^ n → l.foldl (fun s i => s ||| 2 ^ i.toNat) s < 2 ^ n := by
  intro l
  induction l with
  | nil => intro s _ hs; exact hs
  | cons a l ih =>
   intro s hl hs
   refine ih _ (fun b hb => hl b (List.mem_cons_of_mem _ hb)) ?_
   have ha := hl a List.mem_cons_self
   exact Nat.or_lt_two_pow hs (Nat.pow_lt_pow_right (by omega) (by omega))
 exact this l 0 h (Nat.two_pow_pos n)
theorem qw (l : List Int) (j : Nat) : (gN l).testBit j = l.any fun a => decide (a.toNat = j) := by
 have : ∀ (l : List Int) (s : Nat), (l.foldl (fun s i => s ||| 2 ^ i.toNat) s).testBit j = (s.testBit j || l.any fun a => decide (a.toNat = j)) := by
  intro l
  induction l with
  | nil => intro s; simp
  | cons a l ih =>
   intro s
   rw [List.foldl_cons, ih, Nat.testBit_or, Nat.testBit_two_pow, List.any_cons, Bool.or_assoc]
 have := this l 0
 rw [Nat.zero_testBit, Bool.false_or] at this
 exact this
theorem yZ {l m : List Int} (h : ∀ a ∈ l, a ∈ m) : gN l ||| gN m = gN m := by
 apply Nat.eq_of_testBit_eq
 intro j
 rw [Nat.testBit_or, qw, qw]
 cases h1 : l.any fun a => decide (a.toNat = j) with
 | false => rfl
 | true =>
  obtain ⟨a, ha, hd⟩ := List.any_eq_true.mp h1
  have h2 : (m.any fun a => decide (a.toNat = j)) = true := List.any_eq_true.mpr ⟨a, h a ha, hd⟩
  rw [h2]; rfl
theorem lg : ∀ s t : _root_.Fin 16, zV .or ((s.val : Nat) : Int) ((t.val : Nat) : Int) = some (((s.val ||| t.val : Nat)) : Int) := by decide +kernel
theorem ti : ∀ s t : _root_.Fin 16, s.val ||| t.val = t.val → zV .andNot ((s.val : Nat) : Int) ((t.val : Nat) : Int) = some 0 := by decide +kernel
theorem yX : ∀ i : _root_.Fin 4, zV .shl 1 ((i.val : Nat) : Int) = some (((2 ^ i.val : Nat)) : Int) := by decide +kernel
theorem pR (a : Sl Int) (hn : a.l.length < 4611686018427387904) (h : ∀ z ∈ a.l, 0 ≤ z ∧ z < (4 : Nat)) : IZ a = some (gN a.l : Int) := by
 have e : Loop (EQ a) (0, 0) = some (gN a.l : Int) := by
  refine Dw (fun t i => (t, i)) a.l (fun pre => (gN pre : Int)) hn rfl ?_ ?_
  ·intro pre z post hx hW
   have hl : (pre.length : Int) < a.len := by rw [Sl.len_l, hx]; simp; omega
   have hz := h z (by rw [hx]; simp)
   have hp : gN pre < 16 := nI (n := 4) fun w hw => h w (by rw [hx]; simp [hw])
   obtain ⟨k, rfl⟩ := Int.eq_ofNat_of_zero_le hz.1
   have hk : k < 4 := by omega
   have hk2 : 2 ^ k < 16 := (show 2 ^ k < 2 ^ 4 from Nat.pow_lt_pow_right (by decide) hk)
   have hL : AY (k : Int) 0 61 = true := by simp only [AY, Bool.and_eq_true, decide_eq_true_eq]; omega
   have h1 := yX ⟨k, hk⟩
   have h2 := lg ⟨gN pre, hp⟩ ⟨2 ^ k, hk2⟩
   dsimp only at h1 h2
   simp only [EQ, decide_eq_true hl, if_true, Sl.ix_at hx, AP, hL, h1, h2, hW, qQ, Int.toNat_natCast]
  ·have hl : ¬ (a.l.length : Int) < a.len := by rw [Sl.len_l]; omega
   simp only [EQ, decide_eq_false hl, Bool.false_eq_true, if_false]
 simp only [IZ, e, AP]
theorem lX {b : BenchBook} {ex : Int → Bool} {p k a : Int} (h4 : b.Voice.Boys.l.length ≤ 4) (h : a ∈ A2 b ex p k) : 0 ≤ a ∧ a < (4 : Nat) := by
 have := Qn h
 omega
end
end Go.Lf
