/- A part of the proof. -/
import Derived.Test.YtpkbckdhkaggbaaDoorx44
set_option linter.all false
namespace Go.Lf
open Go Go.Lf.Pl
noncomputable section
theorem na {l c : List Int} : c ∈ mW l ↔ List.Sublist c l := by
 induction l generalizing c with
 | nil => simp [mW]
 | cons a l ih =>
  simp only [mW, List.mem_append, List.mem_map, ih]
  constructor
  ·rintro (⟨x, hx, rfl⟩ | h)
   ·exact hx.cons_cons a
   ·exact h.cons a
  ·intro h
   cases h with
   | cons _ h => exact .inr h
   | cons_cons _ h => exact .inl ⟨_, h, rfl⟩
theorem cV {m : Nat} {l c : List Int} : c ∈ FO m l ↔ List.Sublist c l ∧ c.length = m := by
 rw [← Qo, List.mem_filter, na]; simp
theorem m8 {b : BenchBook} {ex : Int → Bool} : S4 b ex (ue b.Pieces.l.length) = true := by
 have : HQ b (ue b.Pieces.l.length) = [] := by
  simp only [HQ, List.filter_eq_nil_iff]
  intro p hp
  simp [hp]
 simp [S4, this, Ky, Vd, HO, fill]
theorem fH {α : Type} (f g : α → ox) (s : List AC) : ∀ (L : List α), (∀ w ∈ L, (f w).wp = (g w).wp ∧ (f w).wk = (g w).wk ∧ (f w).many = (g w).many ∧ ∀ c : List Int, List.Sublist c (f w).able → (∀ a ∈ c, (⟨(f w).wp, (f w).wk, a⟩ : AC) ∈ s) → List.Sublist c (g w).able) →
  ∀ x : List AC, x ∈ fw (L.map f) → (∀ z ∈ x, z ∈ s) → x ∈ fw (L.map g)
 | [], _, x, hx, _ => hx
 | w :: L, h, x, hx, hs => by
  simp only [List.map_cons, fw, List.mem_flatMap, List.mem_map] at hx ⊢
  obtain ⟨c, hc, r, hr, rfl⟩ := hx
  obtain ⟨h1, h2, h3, h4⟩ := h w List.mem_cons_self
  rw [cV] at hc
  refine ⟨c, cV.mpr ⟨h4 c hc.1 fun a ha => hs _ (List.mem_append_left _ (List.mem_map_of_mem ha)), h3 ▸ hc.2⟩, r, fH f g s L (fun w' hw' => h w' (List.mem_cons_of_mem _ hw')) r hr fun z hz => hs z (List.mem_append_right _ hz), ?_⟩
  rw [h1, h2]
theorem gq (b : BenchBook) (v : VoiceBook) (ex ex' : Int → Bool) (m : Nat) (ps : List Int) {x : List AC} (hx : x ∈ Ky b ex m ps)
  (h : ∀ (p k : Int) (c : List Int), List.Sublist c (BK b ex p k) → (∀ a ∈ c, (⟨p, k, a⟩ : AC) ∈ x) → List.Sublist c (BK ⟨v, b.Pieces, b.Most⟩ ex' p k)) :
  x ∈ Ky ⟨v, b.Pieces, b.Most⟩ ex' m ps := by
 simp only [Ky, Y9, List.mem_map, List.mem_filter, List.nil_append, exists_eq_right] at hx ⊢
 exact ⟨fH (NZ b ex) (NZ ⟨v, b.Pieces, b.Most⟩ ex') x _ (fun w _ => ⟨rfl, rfl, rfl, fun c hc ha => h _ _ c hc ha⟩) x hx.1 fun z hz => hz, hx.2⟩
theorem Xu {n : Nat} {can can' : List Int → Bool} (h : can' (F9 n can) = true) : (F9 n can').length ≤ (F9 n can).length := by
 have top : (F9 n can').length ≤ n := by
  unfold F9
  cases h1 : (ue n).findSome? fun many => (FO many.toNat (ue n)).find? can' with
  | none => simp [Aw]
  | some l =>
   obtain ⟨many, hm, h2⟩ := List.exists_of_findSome?_eq_some h1
   have := I2 (List.mem_of_find?_eq_some h2)
   have := I7.mp hm
   simp only [Option.getD_some]; omega
 revert h
 conv => intro h; rhs; unfold F9
 unfold F9 at *
 cases h1 : (ue n).findSome? fun many => (FO many.toNat (ue n)).find? can with
 | none => intro _; simpa [Aw] using top
 | some l =>
  intro hl
  simp only [Option.getD_some] at hl ⊢
  obtain ⟨many, hm, h2⟩ := List.exists_of_findSome?_eq_some h1
  have hl2 := List.mem_of_find?_eq_some h2
  have hlen := I2 hl2
  have hm2 := I7.mp hm
  cases h3 : (ue n).findSome? fun many => (FO many.toNat (ue n)).find? can' with
  | none =>
   have := List.findSome?_eq_none_iff.mp h3 many hm
   rw [List.find?_eq_none] at this
   exact absurd hl (this l hl2)
  | some l' =>
   obtain ⟨pre, a, post, e1, e2, e3⟩ := List.findSome?_eq_some_iff.mp h3
   have hlen' := I2 (List.mem_of_find?_eq_some e2)
   obtain ⟨e4, e5⟩ := RO e1
   simp only [Option.getD_some]
   have : many ∉ pre := by
    intro hin
    have := e3 many hin
    rw [List.find?_eq_none] at this
    exact absurd hl (this l hl2)
   have hs := Qg n
   rw [e1, List.pairwise_append] at hs
   rw [e1] at hm
   have hle : a ≤ many := by
    rcases List.mem_append.mp hm with hq | hq
    ·exact absurd hq this
    ·rcases List.mem_cons.mp hq with rfl | hq
     ·exact Int.le_refl _
     ·have := (List.pairwise_cons.mp hs.2.1).1 many hq; omega
   omega
theorem eN (b : BenchBook) (hv : Ez b) (ex : Int → Bool) : S4 b ex (F9 b.Pieces.l.length (S4 b ex)) = true := by
 unfold F9
 cases h : (ue b.Pieces.l.length).findSome? fun many => (FO many.toNat (ue b.Pieces.l.length)).find? (S4 b ex) with
 | none => exact m8
 | some l =>
  obtain ⟨many, _, h1⟩ := List.exists_of_findSome?_eq_some h
  exact List.find?_some h1
theorem Q5 {b : BenchBook} (hv : Ez b) (ex : Int → Bool) : NP b ex ∈ Ky b ex 3 (HQ b (BL b ex)) := by
 have hc := eN b hv ex
 unfold NP BL
 cases hA : Ky b ex 3 (HQ b (F9 b.Pieces.l.length (S4 b ex))) with
 | nil => simp [S4, hA] at hc
 | cons x L => simp only [I4]; rw [Sl.l_filled, Sl.l_grow]; simp
theorem i7 {α : Type} {p q : α → Bool} {l c : List α} (h : List.Sublist c (l.filter p)) (hq : ∀ a ∈ c, q a = true) : List.Sublist c (l.filter fun a => q a && p a) := by
 have h1 := h.filter q
 rw [List.filter_eq_self.mpr hq, List.filter_filter] at h1
 exact h1
theorem lF {b : BenchBook} (hv : Ez b) {boy : Int} (h : ∀ z ∈ NP b A0, z.Boy ≠ boy) : ¬ (BL b A0).length < (BL b fun i => decide (i = boy)).length := by
 have h1 := Q5 hv A0
 have h2 : NP b A0 ∈ Ky b (fun i => decide (i = boy)) 3 (HQ b (BL b A0)) := by
  refine gq b b.Voice A0 (fun i => decide (i = boy)) 3 _ h1 ?_
  intro p k c hc hs
  show List.Sublist c (BK b _ p k)
  unfold BK at hc ⊢
  cases hx : b.Pieces.ix p with
  | none => simpa only [hx] using hc
  | some x =>
   simp only [hx] at hc ⊢
   cases hy : x.Parts.ix k with
   | none => simpa only [hy] using hc
   | some y =>
    simp only [hy] at hc ⊢
    unfold SR at hc ⊢
    have h3 := i7 (q := fun a => !decide (a = boy)) hc fun a ha => by
     have := h _ (hs a ha)
     simpa using this
    simpa only [A0, Bool.not_false, Bool.true_and] using h3
 have h3 : S4 b (fun i => decide (i = boy)) (BL b A0) = true := by
  unfold S4
  cases hA : Ky b (fun i => decide (i = boy)) 3 (HQ b (BL b A0)) with
  | nil => rw [hA] at h2; cases h2
  | cons _ _ => rfl
 have := Xu (n := b.Pieces.l.length) (can := S4 b A0) h3
 simp only [BL]; omega
end
end Go.Lf
namespace Go.Lf
open Go Go.Lf.Pl
noncomputable section
theorem bA {b : BenchBook} (h : uw b = false) (q : Bool) : AZ b q = 70 := by simp [AZ, h]
theorem qp {b : BenchBook} (h : uw b = true) : AZ b true = 0 ∧ E3 b.Voice = true ∨ AZ b true = 72 ∧ E3 b.Voice = false := by
 cases hf : E3 b.Voice
 ·exact .inr ⟨by simp [AZ, h, hf], rfl⟩
 ·exact .inl ⟨by simp [AZ, h, hf], rfl⟩
theorem jd {b : BenchBook} (hv : Ez b) : (NP b A0).length < 4611686018427387904 := by
 have := gK hv A0 (Zb hv _) (Q5 hv A0)
 omega
theorem ku (v : Sl AC × Int) (boy : Int) (hn : v.1.l.length < 4611686018427387904) : Loop (CQ v boy) (false, 0) = some (v.1.l.any fun z => decide (z.Boy = boy)) := by
 refine FG (fun t i => (t, i)) v.1.l (fun pre => pre.any fun z => decide (z.Boy = boy)) hn rfl ?_ ?_
 ·intro pre a post hx hW
  have hl : (pre.length : Int) < v.1.len := by rw [Sl.len_l, hx]; simp; omega
  cases hp : pre.any fun z => decide (z.Boy = boy) <;> simp [CQ, hl, Sl.ix_at hx, hp, hW]
 ·have hl : ¬ (v.1.l.length : Int) < v.1.len := by rw [Sl.len_l]; omega
  simp [CQ, hl]
theorem Yo {b : BenchBook} (hf : TG b) (n : Int) : Fp b n = some true := by
 unfold Fp
 obtain ⟨l, c1, c2⟩ := O0 hf
 obtain ⟨s, s1, s2⟩ := Nh hf
 rw [c1, Be, YE hf, Be]
 by_cases ho : uw b = true
 case neg =>
  have ho' : uw b = false := by simpa using ho
  have he := bA ho' true
  rw [he, if_neg (by decide)] at c2
  simp only [ho', Bool.false_eq_true, if_false, CW, he, Sl.len_l, c2, Be]
  rfl
 case pos =>
  have hv := Ji hf ho
  rw [if_pos ho, s1, Be]
  rcases qp ho with ⟨he, hfi⟩ | ⟨he, hfi⟩
  case inr =>
   rw [he, if_neg (by decide)] at c2
   simp only [he, CW, Sl.len_l, c2, Be]
   rfl
  case inl =>
   rw [he, if_pos rfl] at c2 s2
   have hbl := hv.voice.boys
   obtain ⟨boy, e1, b0, b1⟩ := Qy (n := n) (m := b.Voice.Boys.len) (by rw [Sl.len_l]; omega) (by rw [Sl.len_l]; omega)
   have hlen : l.l.length < 4611686018427387904 := by
    rw [c2]
    have := List.length_filter_le (fun boy => decide ((BL b A0).length < (BL b fun i => decide (i = boy)).length)) (ue b.Voice.Boys.l.length)
    rw [Aw] at this
    simp only [i8]
    omega
   have ho1 : Dc l b.Voice.Boys.len = some true := by
    rw [Ug b.Voice.Boys.len l hlen, c2]
    refine congrArg some (dh _ _ _ ((Qg _).filter _) (fun z hz => ?_) (fun _ h => by cases h))
    have hz1 := I7.mp (List.mem_filter.mp hz).1
    simp only [Aj, Sl.len_l, Bool.and_eq_true, decide_eq_true_eq]
    rw [TJ (by omega) (by omega)]; omega
   obtain ⟨v, w1, w2⟩ := gZ l hlen boy
   have hL := ku (s, AZ b true) boy (by show s.l.length < _; rw [s2]; exact jd hv)
   rw [he] at hL ⊢
   simp only [decide_true, if_true, e1, Be, hL, ho1, w1, CW]
   cases hh : s.l.any fun z => decide (z.Boy = boy)
   case true => simp
   case false =>
    have hno : l.l.contains boy = false := by
     rw [s2] at hh
     rw [c2]
     have h1 := lF hv (boy := boy) (fun z hz => by
      have := List.any_eq_false.mp hh z hz
      simpa using this)
     simp only [i8, List.contains_eq_mem, List.mem_filter, decide_eq_false_iff_not, decide_eq_true_eq, not_and]
     exact fun _ => h1
    rw [hno] at w2
    simp [w2]
end
end Go.Lf
