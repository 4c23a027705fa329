/- A part of the proof. -/
import Derived.Test.YtohgomfnigdaoaaDoory36
set_option linter.all false
namespace Go.Lf
open Go Go.Lf.Pl
noncomputable section
theorem rM {b : BenchBook} {ex : Int → Bool} : TQ b ex (idx b.Pieces.l.length) = true := by
 have : Gn b (idx b.Pieces.l.length) = [] := by
  simp only [Gn, List.filter_eq_nil_iff]
  intro p hp
  simp [hp]
 simp [TQ, this, Iu, EV, Fq, fill]
theorem lX {α : Type} (f g : α → Jd) (s : List AC) : ∀ (L : List α), (∀ w ∈ L, (f w).wp = (g w).wp ∧ (f w).wk = (g w).wk ∧ (f w).many = (g w).many ∧ ∀ c : List Int, List.Sublist c (f w).able → (∀ a ∈ c, (⟨(f w).wp, (f w).wk, a⟩ : AC) ∈ s) → List.Sublist c (g w).able) →
  ∀ x : List AC, x ∈ Ft (L.map f) → (∀ z ∈ x, z ∈ s) → x ∈ Ft (L.map g)
 | [], _, x, hx, _ => hx
 | w :: L, h, x, hx, hs => by
  simp only [List.map_cons, Ft, List.mem_flatMap, List.mem_map] at hx ⊢
  obtain ⟨c, hc, r, hr, rfl⟩ := hx
  obtain ⟨h1, h2, h3, h4⟩ := h w List.mem_cons_self
  rw [E6] at hc
  refine ⟨c, E6.mpr ⟨h4 c hc.1 fun a ha => hs _ (List.mem_append_left _ (List.mem_map_of_mem ha)), h3 ▸ hc.2⟩, r, lX f g s L (fun w' hw' => h w' (List.mem_cons_of_mem _ hw')) r hr fun z hz => hs z (List.mem_append_right _ hz), ?_⟩
  rw [h1, h2]
theorem sM (b : BenchBook) (v : VoiceBook) (ex ex' : Int → Bool) (m : Nat) (ps : List Int) {x : List AC} (hx : x ∈ Iu b ex m ps)
  (h : ∀ (p k : Int) (c : List Int), List.Sublist c (BD b ex p k) → (∀ a ∈ c, (⟨p, k, a⟩ : AC) ∈ x) → List.Sublist c (BD ⟨v, b.Pieces, b.Most⟩ ex' p k)) :
  x ∈ Iu ⟨v, b.Pieces, b.Most⟩ ex' m ps := by
 simp only [Iu, J7, List.mem_map, List.mem_filter, List.nil_append, exists_eq_right] at hx ⊢
 exact ⟨lX (J8 b ex) (J8 ⟨v, b.Pieces, b.Most⟩ ex') x _ (fun w _ => ⟨rfl, rfl, rfl, fun c hc ha => h _ _ c hc ha⟩) x hx.1 fun z hz => hz, hx.2⟩
theorem mR {n : Nat} {can can' : List Int → Bool} (h : can' (Dp n can) = true) : (Dp n can').length ≤ (Dp n can).length := by
 have top : (Dp n can').length ≤ n := by
  unfold Dp
  cases h1 : (idx n).findSome? fun many => (Dh many.toNat (idx n)).find? can' with
  | none => simp [Ao]
  | some l =>
   obtain ⟨many, hm, h2⟩ := List.exists_of_findSome?_eq_some h1
   have := Ig (List.mem_of_find?_eq_some h2)
   have := G4.mp hm
   simp only [Option.getD_some]; omega
 revert h
 conv => intro h; rhs; unfold Dp
 unfold Dp at *
 cases h1 : (idx n).findSome? fun many => (Dh many.toNat (idx n)).find? can with
 | none => intro _; simpa [Ao] using top
 | some l =>
  intro hl
  simp only [Option.getD_some] at hl ⊢
  obtain ⟨many, hm, h2⟩ := List.exists_of_findSome?_eq_some h1
  have hl2 := List.mem_of_find?_eq_some h2
  have hlen := Ig hl2
  have hm2 := G4.mp hm
  cases h3 : (idx n).findSome? fun many => (Dh many.toNat (idx n)).find? can' with
  | none =>
   have := List.findSome?_eq_none_iff.mp h3 many hm
   rw [List.find?_eq_none] at this
   exact absurd hl (this l hl2)
  | some l' =>
   obtain ⟨pre, a, post, e1, e2, e3⟩ := List.findSome?_eq_some_iff.mp h3
   have hlen' := Ig (List.mem_of_find?_eq_some e2)
   obtain ⟨e4, e5⟩ := P8 e1
   simp only [Option.getD_some]
   have : many ∉ pre := by
    intro hin
    have := e3 many hin
    rw [List.find?_eq_none] at this
    exact absurd hl (this l hl2)
   have hs := G6 n
   rw [e1, List.pairwise_append] at hs
   rw [e1] at hm
   have hle : a ≤ many := by
    rcases List.mem_append.mp hm with hq | hq
    ·exact absurd hq this
    ·rcases List.mem_cons.mp hq with rfl | hq
     ·exact Int.le_refl _
     ·have := (List.pairwise_cons.mp hs.2.1).1 many hq; omega
   omega
theorem jo (b : BenchBook) (hv : GT b) (ex : Int → Bool) : TQ b ex (Dp b.Pieces.l.length (TQ b ex)) = true := by
 unfold Dp
 cases h : (idx b.Pieces.l.length).findSome? fun many => (Dh many.toNat (idx b.Pieces.l.length)).find? (TQ b ex) with
 | none => exact rM
 | some l =>
  obtain ⟨many, _, h1⟩ := List.exists_of_findSome?_eq_some h
  exact List.find?_some h1
theorem US {b : BenchBook} (hv : GT b) (ex : Int → Bool) : K6 b ex ∈ Iu b ex 3 (Gn b (BC b ex)) := by
 have hc := jo b hv ex
 unfold K6 BC
 cases hA : Iu b ex 3 (Gn b (Dp b.Pieces.l.length (TQ b ex))) with
 | nil => simp [TQ, hA] at hc
 | cons x L => simp only [JW]; rw [Sl.l_filled, Sl.l_grow]; simp
theorem nq {α : Type} {p q : α → Bool} {l c : List α} (h : List.Sublist c (l.filter p)) (hq : ∀ a ∈ c, q a = true) : List.Sublist c (l.filter fun a => q a && p a) := by
 have h1 := h.filter q
 rw [List.filter_eq_self.mpr hq, List.filter_filter] at h1
 exact h1
theorem vv {b : BenchBook} (hv : GT b) {boy : Int} (h : ∀ z ∈ K6 b BE, z.Boy ≠ boy) : ¬ (BC b BE).length < (BC b fun i => decide (i = boy)).length := by
 have h1 := US hv BE
 have h2 : K6 b BE ∈ Iu b (fun i => decide (i = boy)) 3 (Gn b (BC b BE)) := by
  refine sM b b.Voice BE (fun i => decide (i = boy)) 3 _ h1 ?_
  intro p k c hc hs
  show List.Sublist c (BD b _ p k)
  unfold BD at hc ⊢
  cases hx : b.Pieces.ix p with
  | none => simpa only [hx] using hc
  | some x =>
   simp only [hx] at hc ⊢
   cases hy : x.Parts.ix k with
   | none => simpa only [hy] using hc
   | some y =>
    simp only [hy] at hc ⊢
    unfold jg at hc ⊢
    have h3 := nq (q := fun a => !decide (a = boy)) hc fun a ha => by
     have := h _ (hs a ha)
     simpa using this
    simpa only [BE, Bool.not_false, Bool.true_and] using h3
 have h3 : TQ b (fun i => decide (i = boy)) (BC b BE) = true := by
  unfold TQ
  cases hA : Iu b (fun i => decide (i = boy)) 3 (Gn b (BC b BE)) with
  | nil => rw [hA] at h2; cases h2
  | cons _ _ => rfl
 have := mR (n := b.Pieces.l.length) (can := TQ b BE) h3
 simp only [BC]; omega
end
end Go.Lf
namespace Go.Lf
open Go Go.Lf.Pl
noncomputable section
theorem wN {b : BenchBook} (h : bOk b = false) (q : Bool) : BA b q = 70 := by simp [BA, h]
theorem zS {b : BenchBook} (h : bOk b = true) : BA b true = 0 ∧ HI b.Voice = true ∨ BA b true = 72 ∧ HI b.Voice = false := by
 cases hf : HI b.Voice
 ·exact .inr ⟨by simp [BA, h, hf], rfl⟩
 ·exact .inl ⟨by simp [BA, h, hf], rfl⟩
theorem vI {b : BenchBook} (hv : GT b) : (K6 b BE).length < 4611686018427387904 := by
 have := sR hv BE (cq hv _) (US hv BE)
 omega
end
end Go.Lf
namespace Go.Lf
open Go Go.Lf.Pl
noncomputable section
def gN (l : List Int) : Nat := l.foldl (fun s i => s ||| 2 ^ i.toNat) 0
theorem yO (l : List Int) (a : Int) : gN (l ++ [a]) = gN l ||| 2 ^ a.toNat := by simp [gN]
theorem zX {n : Nat} {l : List Int} (h : ∀ a ∈ l, 0 ≤ a ∧ a < n) : gN l < 2 ^ n := by
 have : ∀ (l : List Int) (s : Nat), (∀ a ∈ l, 0 ≤ a ∧ a < n) → s < 2 ^ n → l.foldl (fun s i => s ||| 2 ^ i.toNat) s < 2 ^ n := by
  intro l
  induction l with
  | nil => intro s _ hs; exact hs
  | cons a l ih =>
   intro s hl hs
   refine ih _ (fun b hb => hl b (List.mem_cons_of_mem _ hb)) ?_
   have ha := hl a List.mem_cons_self
   exact Nat.or_lt_two_pow hs (Nat.pow_lt_pow_right (by omega) (by omega))
 exact this l 0 h (Nat.two_pow_pos n)
theorem tc (l : List Int) (j : Nat) : (gN l).testBit j = l.any fun a => decide (a.toNat = j) := by
 have : ∀ (l : List Int) (s : Nat), (l.foldl (fun s i => s ||| 2 ^ i.toNat) s).testBit j = (s.testBit j || l.any fun a => decide (a.toNat = j)) := by
  intro l
  induction l with
  | nil => intro s; simp
  | cons a l ih =>
   intro s
   rw [List.foldl_cons, ih, Nat.testBit_or, Nat.testBit_two_pow, List.any_cons, Bool.or_assoc]
 have := this l 0
 rw [Nat.zero_testBit, Bool.false_or] at this
 exact this
theorem yx {l m : List Int} (h : ∀ a ∈ l, a ∈ m) : gN l ||| gN m = gN m := by
 apply Nat.eq_of_testBit_eq
 intro j
 rw [Nat.testBit_or, tc, tc]
 cases h1 : l.any fun a => decide (a.toNat = j) with
 | false => rfl
 | true =>
  obtain ⟨a, ha, hd⟩ := List.any_eq_true.mp h1
  have h2 : (m.any fun a => decide (a.toNat = j)) = true := List.any_eq_true.mpr ⟨a, h a ha, hd⟩
  rw [h2]; rfl
theorem wn : ∀ s t : _root_.Fin 16, opI .or ((s.val : Nat) : Int) ((t.val : Nat) : Int) = some (((s.val ||| t.val : Nat)) : Int) := by decide +kernel
theorem tP : ∀ s t : _root_.Fin 16, s.val ||| t.val = t.val → opI .andNot ((s.val : Nat) : Int) ((t.val : Nat) : Int) = some 0 := by decide +kernel
theorem AAR : ∀ i : _root_.Fin 4, opI .shl 1 ((i.val : Nat) : Int) = some (((2 ^ i.val : Nat)) : Int) := by decide +kernel
theorem wt {b : BenchBook} {ex : Int → Bool} {p k a : Int} (h4 : b.Voice.Boys.l.length ≤ 4) (h : a ∈ BD b ex p k) : 0 ≤ a ∧ a < (4 : Nat) := by
 have := kP h
 omega
end
end Go.Lf
