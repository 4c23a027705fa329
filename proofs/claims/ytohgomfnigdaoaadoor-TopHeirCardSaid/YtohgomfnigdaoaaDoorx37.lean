/- A part of the proof. -/
import Derived.Test.YtohgomfnigdaoaaDoorx36
set_option linter.all false
namespace Go.Lf
open Go Go.Lf.Pl
noncomputable section
theorem qN {b : BenchBook} {ex : Int → Bool} : S9 b ex (yX b.Pieces.l.length) = true := by
 have : GM b (yX b.Pieces.l.length) = [] := by
  simp only [GM, List.filter_eq_nil_iff]
  intro p hp
  simp [hp]
 simp [S9, this, Io, HO, GR, fill]
theorem lS {α : Type} (f g : α → P4) (s : List AC) : ∀ (L : List α), (∀ w ∈ L, (f w).wp = (g w).wp ∧ (f w).wk = (g w).wk ∧ (f w).many = (g w).many ∧ ∀ c : List Int, List.Sublist c (f w).able → (∀ a ∈ c, (⟨(f w).wp, (f w).wk, a⟩ : AC) ∈ s) → List.Sublist c (g w).able) →
  ∀ x : List AC, x ∈ G3 (L.map f) → (∀ z ∈ x, z ∈ s) → x ∈ G3 (L.map g)
 | [], _, x, hx, _ => hx
 | w :: L, h, x, hx, hs => by
  simp only [List.map_cons, G3, List.mem_flatMap, List.mem_map] at hx ⊢
  obtain ⟨c, hc, r, hr, rfl⟩ := hx
  obtain ⟨h1, h2, h3, h4⟩ := h w List.mem_cons_self
  rw [Es] at hc
  refine ⟨c, Es.mpr ⟨h4 c hc.1 fun a ha => hs _ (List.mem_append_left _ (List.mem_map_of_mem ha)), h3 ▸ hc.2⟩, r, lS f g s L (fun w' hw' => h w' (List.mem_cons_of_mem _ hw')) r hr fun z hz => hs z (List.mem_append_right _ hz), ?_⟩
  rw [h1, h2]
theorem rD (b : BenchBook) (v : VoiceBook) (ex ex' : Int → Bool) (m : Nat) (ps : List Int) {x : List AC} (hx : x ∈ Io b ex m ps)
  (h : ∀ (p k : Int) (c : List Int), List.Sublist c (BA b ex p k) → (∀ a ∈ c, (⟨p, k, a⟩ : AC) ∈ x) → List.Sublist c (BA ⟨v, b.Pieces, b.Most⟩ ex' p k)) :
  x ∈ Io ⟨v, b.Pieces, b.Most⟩ ex' m ps := by
 simp only [Io, KZ, List.mem_map, List.mem_filter, List.nil_append, exists_eq_right] at hx ⊢
 exact ⟨lS (LU b ex) (LU ⟨v, b.Pieces, b.Most⟩ ex') x _ (fun w _ => ⟨rfl, rfl, rfl, fun c hc ha => h _ _ c hc ha⟩) x hx.1 fun z hz => hz, hx.2⟩
theorem mS {n : Nat} {can can' : List Int → Bool} (h : can' (Di n can) = true) : (Di n can').length ≤ (Di n can).length := by
 have top : (Di n can').length ≤ n := by
  unfold Di
  cases h1 : (yX n).findSome? fun many => (DW many.toNat (yX n)).find? can' with
  | none => simp [An]
  | some l =>
   obtain ⟨many, hm, h2⟩ := List.exists_of_findSome?_eq_some h1
   have := IO (List.mem_of_find?_eq_some h2)
   have := Hl.mp hm
   simp only [Option.getD_some]; omega
 revert h
 conv => intro h; rhs; unfold Di
 unfold Di at *
 cases h1 : (yX n).findSome? fun many => (DW many.toNat (yX n)).find? can with
 | none => intro _; simpa [An] using top
 | some l =>
  intro hl
  simp only [Option.getD_some] at hl ⊢
  obtain ⟨many, hm, h2⟩ := List.exists_of_findSome?_eq_some h1
  have hl2 := List.mem_of_find?_eq_some h2
  have hlen := IO hl2
  have hm2 := Hl.mp hm
  cases h3 : (yX n).findSome? fun many => (DW many.toNat (yX n)).find? can' with
  | none =>
   have := List.findSome?_eq_none_iff.mp h3 many hm
   rw [List.find?_eq_none] at this
   exact absurd hl (this l hl2)
  | some l' =>
   obtain ⟨pre, a, post, e1, e2, e3⟩ := List.findSome?_eq_some_iff.mp h3
   have hlen' := IO (List.mem_of_find?_eq_some e2)
   obtain ⟨e4, e5⟩ := P0 e1
   simp only [Option.getD_some]
   have : many ∉ pre := by
    intro hin
    have := e3 many hin
    rw [List.find?_eq_none] at this
    exact absurd hl (this l hl2)
   have hs := Gq n
   rw [e1, List.pairwise_append] at hs
   rw [e1] at hm
   have hle : a ≤ many := by
    rcases List.mem_append.mp hm with hq | hq
    ·exact absurd hq this
    ·rcases List.mem_cons.mp hq with rfl | hq
     ·exact Int.le_refl _
     ·have := (List.pairwise_cons.mp hs.2.1).1 many hq; omega
   omega
theorem iH (b : BenchBook) (hv : F5 b) (ex : Int → Bool) : S9 b ex (Di b.Pieces.l.length (S9 b ex)) = true := by
 unfold Di
 cases h : (yX b.Pieces.l.length).findSome? fun many => (DW many.toNat (yX b.Pieces.l.length)).find? (S9 b ex) with
 | none => exact qN
 | some l =>
  obtain ⟨many, _, h1⟩ := List.exists_of_findSome?_eq_some h
  exact List.find?_some h1
theorem TC {b : BenchBook} (hv : F5 b) (ex : Int → Bool) : LY b ex ∈ Io b ex 3 (GM b (A7 b ex)) := by
 have hc := iH b hv ex
 unfold LY A7
 cases hA : Io b ex 3 (GM b (Di b.Pieces.l.length (S9 b ex))) with
 | nil => simp [S9, hA] at hc
 | cons x L => simp only [JX]; rw [Sl.l_filled, Sl.l_grow]; simp
theorem mA {α : Type} {p q : α → Bool} {l c : List α} (h : List.Sublist c (l.filter p)) (hq : ∀ a ∈ c, q a = true) : List.Sublist c (l.filter fun a => q a && p a) := by
 have h1 := h.filter q
 rw [List.filter_eq_self.mpr hq, List.filter_filter] at h1
 exact h1
theorem vS {b : BenchBook} (hv : F5 b) {boy : Int} (h : ∀ z ∈ LY b Ba, z.Boy ≠ boy) : ¬ (A7 b Ba).length < (A7 b fun i => decide (i = boy)).length := by
 have h1 := TC hv Ba
 have h2 : LY b Ba ∈ Io b (fun i => decide (i = boy)) 3 (GM b (A7 b Ba)) := by
  refine rD b b.Voice Ba (fun i => decide (i = boy)) 3 _ h1 ?_
  intro p k c hc hs
  show List.Sublist c (BA b _ p k)
  unfold BA at hc ⊢
  cases hx : b.Pieces.ix p with
  | none => simpa only [hx] using hc
  | some x =>
   simp only [hx] at hc ⊢
   cases hy : x.Parts.ix k with
   | none => simpa only [hy] using hc
   | some y =>
    simp only [hy] at hc ⊢
    unfold iZ at hc ⊢
    have h3 := mA (q := fun a => !decide (a = boy)) hc fun a ha => by
     have := h _ (hs a ha)
     simpa using this
    simpa only [Ba, Bool.not_false, Bool.true_and] using h3
 have h3 : S9 b (fun i => decide (i = boy)) (A7 b Ba) = true := by
  unfold S9
  cases hA : Io b (fun i => decide (i = boy)) 3 (GM b (A7 b Ba)) with
  | nil => rw [hA] at h2; cases h2
  | cons _ _ => rfl
 have := mS (n := b.Pieces.l.length) (can := S9 b Ba) h3
 simp only [A7]; omega
end
end Go.Lf
namespace Go.Lf
open Go Go.Lf.Pl
noncomputable section
theorem vG {b : BenchBook} (h : xn b = false) (q : Bool) : BC b q = 70 := by simp [BC, h]
theorem xK {b : BenchBook} (h : xn b = true) : BC b true = 0 ∧ Iw b.Voice = true ∨ BC b true = 72 ∧ Iw b.Voice = false := by
 cases hf : Iw b.Voice
 ·exact .inr ⟨by simp [BC, h, hf], rfl⟩
 ·exact .inl ⟨by simp [BC, h, hf], rfl⟩
theorem uI {b : BenchBook} (hv : F5 b) : (LY b Ba).length < 4611686018427387904 := by
 have := qD hv Ba (bG hv _) (TC hv Ba)
 omega
end
end Go.Lf
namespace Go.Lf
open Go Go.Lf.Pl
noncomputable section
def gN (l : List Int) : Nat := l.foldl (fun s i => s ||| 2 ^ i.toNat) 0
theorem wO (l : List Int) (a : Int) : gN (l ++ [a]) = gN l ||| 2 ^ a.toNat := by simp [gN]
theorem xN {n : Nat} {l : List Int} (h : ∀ a ∈ l, 0 ≤ a ∧ a < n) : gN l < 2 ^ n := by
 have : ∀ (l : List Int) (s : Nat), (∀ a ∈ l, 0 ≤ a ∧ a < n) → s < 2 ^ n → l.foldl (fun s i => s ||| 2 ^ i.toNat) s < 2 ^ n := by
  intro l
  induction l with
  | nil => intro s _ hs; exact hs
  | cons a l ih =>
   intro s hl hs
   refine ih _ (fun b hb => hl b (List.mem_cons_of_mem _ hb)) ?_
   have ha := hl a List.mem_cons_self
   exact Nat.or_lt_two_pow hs (Nat.pow_lt_pow_right (by omega) (by omega))
 exact this l 0 h (Nat.two_pow_pos n)
theorem sW (l : List Int) (j : Nat) : (gN l).testBit j = l.any fun a => decide (a.toNat = j) := by
 have : ∀ (l : List Int) (s : Nat), (l.foldl (fun s i => s ||| 2 ^ i.toNat) s).testBit j = (s.testBit j || l.any fun a => decide (a.toNat = j)) := by
  intro l
  induction l with
  | nil => intro s; simp
  | cons a l ih =>
   intro s
   rw [List.foldl_cons, ih, Nat.testBit_or, Nat.testBit_two_pow, List.any_cons, Bool.or_assoc]
 have := this l 0
 rw [Nat.zero_testBit, Bool.false_or] at this
 exact this
theorem wz {l m : List Int} (h : ∀ a ∈ l, a ∈ m) : gN l ||| gN m = gN m := by
 apply Nat.eq_of_testBit_eq
 intro j
 rw [Nat.testBit_or, sW, sW]
 cases h1 : l.any fun a => decide (a.toNat = j) with
 | false => rfl
 | true =>
  obtain ⟨a, ha, hd⟩ := List.any_eq_true.mp h1
  have h2 : (m.any fun a => decide (a.toNat = j)) = true := List.any_eq_true.mpr ⟨a, h a ha, hd⟩
  rw [h2]; rfl
theorem wA : ∀ s t : _root_.Fin 16, ym .or ((s.val : Nat) : Int) ((t.val : Nat) : Int) = some (((s.val ||| t.val : Nat)) : Int) := by decide +kernel
theorem sQ : ∀ s t : _root_.Fin 16, s.val ||| t.val = t.val → ym .andNot ((s.val : Nat) : Int) ((t.val : Nat) : Int) = some 0 := by decide +kernel
theorem xh : ∀ i : _root_.Fin 4, ym .shl 1 ((i.val : Nat) : Int) = some (((2 ^ i.val : Nat)) : Int) := by decide +kernel
theorem vx {b : BenchBook} {ex : Int → Bool} {p k a : Int} (h4 : b.Voice.Boys.l.length ≤ 4) (h : a ∈ BA b ex p k) : 0 ≤ a ∧ a < (4 : Nat) := by
 have := kE h
 omega
end
end Go.Lf
