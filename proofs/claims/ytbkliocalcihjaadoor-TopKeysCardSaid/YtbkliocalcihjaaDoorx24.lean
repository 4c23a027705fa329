/- A part of the proof. -/
import Derived.Test.YtbkliocalcihjaaDoorx23
set_option linter.all false
namespace Go.Lf
open Go
noncomputable section
def eT {σ α : Type} (yf : α → σ → Option (Bool × σ)) : List α → σ → Option (Bool × σ)
 | [], s => some (true, s)
 | a :: l, s => match yf a s with
  | some (true, s') => eT yf l s'
  | some (false, s') => some (false, s')
  | none => none
theorem WS {σ α : Type} (yf : α → σ → Option (Bool × σ)) : ∀ (l1 l2 : List α) (s : σ), eT yf (l1 ++ l2) s = match eT yf l1 s with
  | some (true, s') => eT yf l2 s'
  | some (false, s') => some (false, s')
  | none => none
 | [], l2, s => rfl
 | a :: l1, l2, s => by
  simp only [List.cons_append, eT]
  cases yf a s with
  | none => rfl
  | some p =>
   obtain ⟨b, s'⟩ := p
   cases b with
   | false => rfl
   | true => exact WS yf l1 l2 s'
theorem Loop.gen {σ V α ρ : Type} {f : σ × V × Int → Option ((σ × V × Int) ⊕ ((Bool × σ) ⊕ (σ × V)))} {yf : α → σ → Option (Bool × σ)} (xs : List Int) (G : Int → List α) (ok : V → Prop) (hn : xs.length < 4611686018427387904)
  (hs : ∀ pre a post v s b s', xs = pre ++ a :: post → ok v → eT yf (G a) s = some (b, s') → W ((pre.length : Int) + 1) = (pre.length : Int) + 1 → ∃ v', ok v' ∧ f (s, v, (pre.length : Int)) = some (if b then .inl (s', v', (pre.length : Int) + 1) else .inr (.inl (false, s'))))
  (hf : ∀ s v, ok v → f (s, v, (xs.length : Int)) = some (.inr (.inr (s, v)))) {s : σ} {v : V} {b : Bool} {s' : σ} (hv : ok v) (hr : eT yf (xs.flatMap G) s = some (b, s')) :
  ∃ v', Loop f (s, v, 0) = some (if b then .inr (s', v') else .inl (false, s')) := by
 have main : ∀ post pre s v, xs = pre ++ post → ok v → eT yf (post.flatMap G) s = some (b, s') → ∃ v', Loop f (s, v, (pre.length : Int)) = some (if b then .inr (s', v') else .inl (false, s')) := by
  intro post
  induction post with
  | nil =>
   intro pre s v h hv hr
   simp only [List.append_nil] at h
   subst h
   simp only [List.flatMap_nil, eT, Option.some.injEq, Prod.mk.injEq] at hr
   obtain ⟨rfl, rfl⟩ := hr
   exact ⟨v, Loop.done (hf s v hv)⟩
  | cons a post ih =>
   intro pre s v h hv hr
   have hl : pre.length < 4611686018427387904 := by rw [h] at hn; simp at hn; omega
   rw [List.flatMap_cons, WS] at hr
   cases hg : eT yf (G a) s with
   | none => rw [hg] at hr; cases hr
   | some p =>
    obtain ⟨b1, s1⟩ := p
    rw [hg] at hr
    obtain ⟨v', hv', he⟩ := hs pre a post v s b1 s1 h hv hg (gq hl)
    cases b1 with
    | false =>
     simp only [Option.some.injEq, Prod.mk.injEq] at hr
     obtain ⟨rfl, rfl⟩ := hr
     exact ⟨v, Loop.done he⟩
    | true =>
     simp only [if_true] at he
     rw [Loop.step he]
     have := ih (pre ++ [a]) s1 v' (by rw [h]; simp) hv' hr
     simpa using this
 exact main xs [] s v rfl hv hr
def mX (sp : Int → List Int) (ok : Ar 5 Int → Bool) : Nat → Int → Ar 5 Int → List (Ar 5 Int)
 | 0, _, v => if ok v then [v] else []
 | r + 1, k, v => (sp k).flatMap fun n => mX sp ok r (k + 1) (v.put k n)
def La (s : BJ) : Prop := 0 ≤ s.Low ∧ s.Low ≤ s.High ∧ s.High ≤ 40
theorem kJ {s : BJ} (h : La s) : W (W (s.High - s.Low) + 1) = s.High - s.Low + 1 := by
 obtain ⟨h1, h2, h3⟩ := h
 rw [LY (x := s.High - s.Low) (by omega) (by omega), LY (by omega) (by omega)]
theorem uV (x : Ar 5 Int) (i : Int) (a b : Int) : (x.put i a).put i b = x.put i b := by
 obtain ⟨l, h⟩ := x
 simp [Ar.put, List.set_set]
theorem vL (x : Ar 5 Int) (i : Int) (h : 0 ≤ i ∧ i < 5) : ∃ a, x.ix i = some a := by
 obtain ⟨l, hl⟩ := x
 have : i.toNat < l.length := by omega
 exact ⟨l[i.toNat], by simp [Ar.ix, h.1, this]⟩
theorem sy {σ : Type} {yf : Ar 5 Int → σ → Option (Bool × σ)} {spn : Ar 5 BJ} {bk : AA} {boy : Int} {sp : Int → List Int} {ok : Ar 5 Int → Bool}
  (hsp : ∀ k : Int, 0 ≤ k → k < 5 → ∃ s, spn.ix k = some s ∧ La s ∧ sp k = rng s) :
  ∀ (r n : Nat) (k : Int) (v : Ar 5 Int) (s : σ) (b : Bool) (s' : σ), (r : Int) + 1 + k = 5 → 0 ≤ k → r < n → (∀ w, w ∈ mX sp (fun _ => true) (r + 1) k v → BX bk boy w (Sl.nil : Sl Int) = some (ok w)) →
   eT yf (mX sp ok (r + 1) k v) s = some (b, s') → Af yf n v k spn bk boy (Sl.nil : Sl Int) s = some (b, s')
 | r, 0, _, _, _, _, _, _, _, h, _, _ => by omega
 | r, n + 1, k, v, s, b, s', hk, h0, hn, hok, hr => by
  obtain ⟨p, hp, ho, he⟩ := hsp k h0 (by omega)
  have hlen : ((rng p).length : Int) = p.High - p.Low + 1 := by rw [FR]; obtain ⟨h1, h2, h3⟩ := ho; omega
  have hlen2 : (rng p).length ≤ 41 := by obtain ⟨h1, h2, h3⟩ := ho; omega
  simp only [Af, hp, Option.bind_some]
  rw [mX, he] at hr
  have key := Loop.gen (ρ := Unit) (f := Ao (Af yf n) yf k spn bk boy (Sl.nil : Sl Int) p) (yf := yf) (rng p) (fun x => mX sp ok r (k + 1) (v.put k x)) (fun u => ∀ x, u.put k x = v.put k x) (by omega) (by
   intro pre a post u st b1 st' hx hu hrun hW
   have ha := jp hx
   have hmem : a ∈ rng p := by rw [hx]; simp
   have hlt : (pre.length : Int) < p.High - p.Low + 1 := by
    rw [← hlen, hx]; simp; omega
   have hWa : W (p.Low + pre.length) = a := by
    rw [ha]; obtain ⟨h1, h2, h3⟩ := ho
    exact LY (by omega) (by omega)
   obtain ⟨y, hy⟩ := vL u k ⟨h0, by omega⟩
   refine ⟨u.put k a, fun x => by rw [uV]; exact hu x, ?_⟩
   simp only [Ao, kJ ho, decide_eq_true hlt, if_true, hy, Option.bind_some, hWa, hu a, hW]
   cases r with
   | zero =>
    have hk4 : k = 4 := by omega
    subst hk4
    have h4 : decide ((4 : Int) < 4) = false := by decide
    simp only [h4, Bool.false_eq_true, if_false]
    have hokv := hok (v.put 4 a) (by simp only [mX, he, if_true, List.mem_flatMap, List.mem_singleton]; exact ⟨a, hmem, rfl⟩)
    rw [hokv]
    simp only [Option.bind_some, mX] at hrun ⊢
    cases hok2 : ok (v.put 4 a) with
    | false =>
     rw [hok2] at hrun
     simp only [Bool.false_eq_true, if_false, eT, Option.some.injEq, Prod.mk.injEq] at hrun ⊢
     obtain ⟨rfl, rfl⟩ := hrun
     rfl
    | true =>
     rw [hok2] at hrun
     simp only [if_true, eT] at hrun ⊢
     cases hy2 : yf (v.put 4 a) st with
     | none => rw [hy2] at hrun; cases hrun
     | some q =>
      obtain ⟨b2, s2⟩ := q
      rw [hy2] at hrun
      cases b2 with
      | true => simp only [Option.some.injEq, Prod.mk.injEq] at hrun; obtain ⟨rfl, rfl⟩ := hrun; rfl
      | false => simp only [Option.some.injEq, Prod.mk.injEq] at hrun; obtain ⟨rfl, rfl⟩ := hrun; rfl
   | succ r =>
    have hk4 : k < 4 := by omega
    have hWk : W (k + 1) = k + 1 := LY (by omega) (by omega)
    simp only [decide_eq_true hk4, if_true, hWk]
    have := sy hsp r n (k + 1) (v.put k a) st b1 st' (by omega) (by omega) (by omega) (by
     intro w hw
     apply hok w
     rw [mX, he]
     simp only [List.mem_flatMap]
     exact ⟨a, hmem, hw⟩) hrun
    rw [this, Option.bind_some]
    cases b1 <;> rfl) (by
   intro st u hu
   have : ¬ ((rng p).length : Int) < p.High - p.Low + 1 := by omega
   simp only [Ao, kJ ho, decide_eq_false this, Bool.false_eq_true, if_false]) (s := s) (v := v) (b := b) (s' := s') (fun x => rfl) hr
  obtain ⟨v', hv'⟩ := key
  rw [hv']
  cases b <;> rfl
end
end Go.Lf
namespace Go.Lf
open Go
noncomputable section
def tl (b : VoiceBook) (boy : Int) (x : AK) : List T5 :=
 (rng x.Low).flatMap fun lo => (rng x.High).flatMap fun hi => (rng x.Gain).flatMap fun ga => (rng x.Turn).flatMap fun tu => ((rng x.Break).map fun br => (⟨lo, hi, ga, tu, br⟩ : T5)).filter (Mc b boy x.Loss)
structure lq (x : AK) : Prop where
 low : La x.Low ∧ x.Low.High - x.Low.Low ≤ 2
 high : La x.High ∧ x.High.High - x.High.Low ≤ 2
 gain : La x.Gain ∧ x.Gain.High ≤ 2
 turn : La x.Turn ∧ x.Turn.High ≤ 6
 brk : La x.Break ∧ x.Break.High ≤ 9
 loss : 0 ≤ x.Loss ∧ x.Loss ≤ 2
theorem Lu {s : BJ} {h w : Int} (hh : h ≤ 40) (e : Aq s h w = true) : La s ∧ s.High ≤ h ∧ s.High - s.Low ≤ w := by
 simp only [Aq, Bool.and_eq_true, decide_eq_true_eq] at e
 obtain ⟨h1, h2, h3, h4⟩ := e
 rw [LY (by omega) (by omega)] at h4
 exact ⟨⟨h1, h2, by omega⟩, h3, h4⟩
theorem oW {x : AK} (e : dj x = true) : lq x := by
 simp only [dj, Bool.and_eq_true] at e
 obtain ⟨h1, h2, h3, h4, h5, h6⟩ := e
 have a1 := Lu (by omega) h1
 have a2 := Lu (by omega) h2
 have a3 := Lu (by omega) h3
 have a5 := Lu (by omega) h5
 have a6 := Lu (by omega) h6
 simp only [Ab, Bool.and_eq_true, decide_eq_true_eq] at h4
 exact ⟨⟨a1.1, a1.2.2⟩, ⟨a2.1, a2.2.2⟩, ⟨a3.1, a3.2.1⟩, ⟨a5.1, a5.2.1⟩, ⟨a6.1, a6.2.1⟩, h4⟩
def rp (x : AK) (k : Int) : List Int := if k = 0 then rng x.Low else if k = 1 then rng x.High else if k = 2 then rng x.Gain else if k = 3 then rng x.Turn else rng x.Break
def v0 : Ar 5 Int := ⟨[(-1), (-1), (-1), (-1), (-1)], rfl⟩
def zA (v : Ar 5 Int) : T5 := ⟨v.l.getD 0 0, v.l.getD 1 0, v.l.getD 2 0, v.l.getD 3 0, v.l.getD 4 0⟩
theorem fh {α β γ : Type} (g : β → γ) (f : α → List β) (l : List α) : (l.flatMap f).map g = l.flatMap fun a => (f a).map g := by
 induction l with
 | nil => rfl
 | cons a l ih => simp only [List.flatMap_cons, List.map_append, ih]
theorem t3 (b : VoiceBook) (boy : Int) (x : AK) : mX (rp x) (fun v => Mc b boy x.Loss (zA v)) 5 0 v0 = (tl b boy x).map T5.ar := by
 have e0 : rp x 0 = rng x.Low := rfl
 have e1 : rp x (0 + 1) = rng x.High := rfl
 have e2 : rp x (0 + 1 + 1) = rng x.Gain := rfl
 have e3 : rp x (0 + 1 + 1 + 1) = rng x.Turn := rfl
 have e4 : rp x (0 + 1 + 1 + 1 + 1) = rng x.Break := rfl
 simp only [mX, e0, e1, e2, e3, e4, tl, fh]
 congr 1; funext a; congr 1; funext b1; congr 1; funext c; congr 1; funext d
 rw [show (0 + 1 : Int) = 1 from rfl, show (1 + 1 : Int) = 2 from rfl, show (2 + 1 : Int) = 3 from rfl, show (3 + 1 : Int) = 4 from rfl]
 have key : ∀ l : List Int, (l.flatMap fun n => if Mc b boy x.Loss ⟨a, b1, c, d, n⟩ = true then [(⟨a, b1, c, d, n⟩ : T5).ar] else []) = ((l.map fun br => (⟨a, b1, c, d, br⟩ : T5)).filter (Mc b boy x.Loss)).map T5.ar := by
  intro l
  induction l with
  | nil => rfl
  | cons e l ih =>
   simp only [List.flatMap_cons, List.map_cons, List.filter_cons, ih]
   by_cases h : Mc b boy x.Loss ⟨a, b1, c, d, e⟩ = true
   ·simp only [h, if_true, List.map_cons, List.singleton_append]
   ·simp only [h, Bool.false_eq_true, if_false, List.nil_append]
 exact key _
theorem qP {x : AK} {w : Ar 5 Int} (h : w ∈ mX (rp x) (fun _ => true) 5 0 v0) : ∃ t : T5, w = t.ar ∧ x.Low.Low ≤ t.lo := by
 have e0 : rp x 0 = rng x.Low := rfl
 simp only [mX, List.mem_flatMap, if_true, List.mem_singleton] at h
 obtain ⟨a, ha, b, _, c, _, d, _, e, _, rfl⟩ := h
 rw [e0] at ha
 exact ⟨⟨a, b, c, d, e⟩, rfl, (IC.mp ha).1⟩
theorem lM {σ : Type} {yf : Ar 5 Int → σ → Option (Bool × σ)} {bk : AA} {boy : Int} {x : AK} (hn : bk.VoiceBook.Trials.l.length < 4611686018427387904) (hx : bk.VoiceBook.Boys.ix boy = some x) (ho : lq x) {s s' : σ} {b : Bool}
  (hr : eT yf ((tl bk.VoiceBook boy x).map T5.ar) s = some (b, s')) : BH yf bk boy (Sl.nil : Sl Int) s = some ((), s') := by
 unfold BH
 rw [hx, Option.bind_some]
 rw [← t3] at hr
 have := sy (yf := yf) (spn := ⟨[x.Low, x.High, x.Gain, x.Turn, x.Break], rfl⟩) (bk := bk) (boy := boy) (sp := rp x) (ok := fun v => Mc bk.VoiceBook boy x.Loss (zA v)) (by
  intro k h0 h5
  have hk : k = 0 ∨ k = 1 ∨ k = 2 ∨ k = 3 ∨ k = 4 := by omega
  rcases hk with rfl | rfl | rfl | rfl | rfl
  ·exact ⟨x.Low, rfl, ho.low.1, rfl⟩
  ·exact ⟨x.High, rfl, ho.high.1, rfl⟩
  ·exact ⟨x.Gain, rfl, ho.gain.1, rfl⟩
  ·exact ⟨x.Turn, rfl, ho.turn.1, rfl⟩
  ·exact ⟨x.Break, rfl, ho.brk.1, rfl⟩) 4 64 0 v0 s b s' (by decide) (by decide) (by decide) (by
  intro w hw
  obtain ⟨t, rfl, ht⟩ := qP hw
  have h1 : 0 ≤ t.lo := Int.le_trans ho.low.1.1 ht
  exact rP hn hx t (by omega)) hr
 show Option.bind (Af yf 64 v0 0 _ bk boy Sl.nil s) _ = _
 rw [this, Option.bind_some]
theorem uj {s : BJ} (h : La s) : (rng s).length ≤ 41 := by rw [FR]; obtain ⟨h1, h2, h3⟩ := h; omega
theorem D6 {α β : Type} (f : α → List β) (k : Nat) : ∀ l : List α, (∀ a ∈ l, (f a).length ≤ k) → (l.flatMap f).length ≤ l.length * k
 | [], _ => by simp
 | a :: l, h => by
  have h1 := h a List.mem_cons_self
  have h2 := D6 f k l fun b hb => h b (List.mem_cons_of_mem _ hb)
  simp only [List.flatMap_cons, List.length_append, List.length_cons, Nat.add_mul, Nat.one_mul]
  omega
theorem Tu {s : BJ} {n : Nat} (h : s.High - s.Low + 1 ≤ n) : (rng s).length ≤ n := by rw [FR]; omega
theorem vu (b : VoiceBook) (boy : Int) {x : AK} (ho : lq x) : (tl b boy x).length ≤ 2000000 := by
 unfold tl
 have h1 : (rng x.Low).length ≤ 3 := Tu (by have := ho.low.2; omega)
 have h2 : (rng x.High).length ≤ 3 := Tu (by have := ho.high.2; omega)
 have h3 : (rng x.Gain).length ≤ 3 := Tu (by have := ho.gain; have := this.1.1; omega)
 have h4 : (rng x.Turn).length ≤ 7 := Tu (by have := ho.turn; have := this.1.1; omega)
 have h5 : (rng x.Break).length ≤ 10 := Tu (by have := ho.brk; have := this.1.1; omega)
 refine Nat.le_trans (D6 _ 630 _ fun lo _ => ?_) (Nat.le_trans (Nat.mul_le_mul_right _ h1) (by decide))
 refine Nat.le_trans (D6 _ 210 _ fun hi _ => ?_) (Nat.le_trans (Nat.mul_le_mul_right _ h2) (by decide))
 refine Nat.le_trans (D6 _ 70 _ fun ga _ => ?_) (Nat.le_trans (Nat.mul_le_mul_right _ h3) (by decide))
 refine Nat.le_trans (D6 _ 10 _ fun tu _ => ?_) (Nat.le_trans (Nat.mul_le_mul_right _ h4) (by decide))
 exact Nat.le_trans (List.length_filter_le _ _) (by rw [List.length_map]; exact h5)
section
variable {b : VoiceBook} {boy : Int} {x : AK} (hn : b.Trials.l.length < 4611686018427387904) (ho : lq x)
include hn ho
end
end
end Go.Lf
