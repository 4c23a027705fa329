/- A part of the proof. -/
import Derived.Test.YtopknkghclncnaaGreatDoorx31
set_option linter.all false
namespace Go.Lf
open Go
noncomputable section
def Tq {σ α : Type} (yf : α → σ → Option (Bool × σ)) : List α → σ → Option (Bool × σ)
 | [], s => some (true, s)
 | a :: l, s => match yf a s with
  | some (true, s') => Tq yf l s'
  | some (false, s') => some (false, s')
  | none => none
theorem Qu {σ α : Type} (yf : α → σ → Option (Bool × σ)) : ∀ (l1 l2 : List α) (s : σ), Tq yf (l1 ++ l2) s = match Tq yf l1 s with
  | some (true, s') => Tq yf l2 s'
  | some (false, s') => some (false, s')
  | none => none
 | [], l2, s => rfl
 | a :: l1, l2, s => by
  simp only [List.cons_append, Tq]
  cases yf a s with
  | none => rfl
  | some p =>
   obtain ⟨b, s'⟩ := p
   cases b with
   | false => rfl
   | true => exact Qu yf l1 l2 s'
theorem Loop.gen {σ V α ρ : Type} {f : σ × V × Int → Option ((σ × V × Int) ⊕ ((Bool × σ) ⊕ (σ × V)))} {yf : α → σ → Option (Bool × σ)} (xs : List Int) (G : Int → List α) (ok : V → Prop) (hn : xs.length < 4611686018427387904)
  (hs : ∀ pre a post v s b s', xs = pre ++ a :: post → ok v → Tq yf (G a) s = some (b, s') → W ((pre.length : Int) + 1) = (pre.length : Int) + 1 → ∃ v', ok v' ∧ f (s, v, (pre.length : Int)) = some (if b then .inl (s', v', (pre.length : Int) + 1) else .inr (.inl (false, s'))))
  (hf : ∀ s v, ok v → f (s, v, (xs.length : Int)) = some (.inr (.inr (s, v)))) {s : σ} {v : V} {b : Bool} {s' : σ} (hv : ok v) (hr : Tq yf (xs.flatMap G) s = some (b, s')) :
  ∃ v', Loop f (s, v, 0) = some (if b then .inr (s', v') else .inl (false, s')) := by
 have main : ∀ post pre s v, xs = pre ++ post → ok v → Tq yf (post.flatMap G) s = some (b, s') → ∃ v', Loop f (s, v, (pre.length : Int)) = some (if b then .inr (s', v') else .inl (false, s')) := by
  intro post
  induction post with
  | nil =>
   intro pre s v h hv hr
   simp only [List.append_nil] at h
   subst h
   simp only [List.flatMap_nil, Tq, Option.some.injEq, Prod.mk.injEq] at hr
   obtain ⟨rfl, rfl⟩ := hr
   exact ⟨v, Loop.done (hf s v hv)⟩
  | cons a post ih =>
   intro pre s v h hv hr
   have hl : pre.length < 4611686018427387904 := by rw [h] at hn; simp at hn; omega
   rw [List.flatMap_cons, Qu] at hr
   cases hg : Tq yf (G a) s with
   | none => rw [hg] at hr; cases hr
   | some p =>
    obtain ⟨b1, s1⟩ := p
    rw [hg] at hr
    obtain ⟨v', hv', he⟩ := hs pre a post v s b1 s1 h hv hg (Ig hl)
    cases b1 with
    | false =>
     simp only [Option.some.injEq, Prod.mk.injEq] at hr
     obtain ⟨rfl, rfl⟩ := hr
     exact ⟨v, Loop.done he⟩
    | true =>
     simp only [if_true] at he
     rw [Loop.step he]
     have := ih (pre ++ [a]) s1 v' (by rw [h]; simp) hv' hr
     simpa using this
 exact main xs [] s v rfl hv hr
def sL (sp : Int → List Int) (ok : Ar 5 Int → Bool) : Nat → Int → Ar 5 Int → List (Ar 5 Int)
 | 0, _, v => if ok v then [v] else []
 | r + 1, k, v => (sp k).flatMap fun n => sL sp ok r (k + 1) (v.put k n)
def MR (s : Fo) : Prop := 0 ≤ s.Low ∧ s.Low ≤ s.High ∧ s.High ≤ 40
theorem pG {s : Fo} (h : MR s) : W (W (s.High - s.Low) + 1) = s.High - s.Low + 1 := by
 obtain ⟨h1, h2, h3⟩ := h
 rw [VV (x := s.High - s.Low) (by omega) (by omega), VV (by omega) (by omega)]
theorem xe (x : Ar 5 Int) (i : Int) (a b : Int) : (x.put i a).put i b = x.put i b := by
 obtain ⟨l, h⟩ := x
 simp [Ar.put, List.set_set]
theorem zr (x : Ar 5 Int) (i : Int) (h : 0 ≤ i ∧ i < 5) : ∃ a, x.ix i = some a := by
 obtain ⟨l, hl⟩ := x
 have : i.toNat < l.length := by omega
 exact ⟨l[i.toNat], by simp [Ar.ix, h.1, this]⟩
theorem wu {σ : Type} {yf : Ar 5 Int → σ → Option (Bool × σ)} {spn : Ar 5 Fo} {bk : AB} {boy : Int} {sp : Int → List Int} {ok : Ar 5 Int → Bool}
  (hsp : ∀ k : Int, 0 ≤ k → k < 5 → ∃ s, spn.ix k = some s ∧ MR s ∧ sp k = rng s) :
  ∀ (r n : Nat) (k : Int) (v : Ar 5 Int) (s : σ) (b : Bool) (s' : σ), (r : Int) + 1 + k = 5 → 0 ≤ k → r < n → (∀ w, w ∈ sL sp (fun _ => true) (r + 1) k v → C0 bk boy w (Sl.nil : Sl Int) = some (ok w)) →
   Tq yf (sL sp ok (r + 1) k v) s = some (b, s') → Aq yf n v k spn bk boy (Sl.nil : Sl Int) s = some (b, s')
 | r, 0, _, _, _, _, _, _, _, h, _, _ => by omega
 | r, n + 1, k, v, s, b, s', hk, h0, hn, hok, hr => by
  obtain ⟨p, hp, ho, he⟩ := hsp k h0 (by omega)
  have hlen : ((rng p).length : Int) = p.High - p.Low + 1 := by rw [Jn]; obtain ⟨h1, h2, h3⟩ := ho; omega
  have hlen2 : (rng p).length ≤ 41 := by obtain ⟨h1, h2, h3⟩ := ho; omega
  simp only [Aq, hp, Option.bind_some]
  rw [sL, he] at hr
  have key := Loop.gen (ρ := Unit) (f := BE (Aq yf n) yf k spn bk boy (Sl.nil : Sl Int) p) (yf := yf) (rng p) (fun x => sL sp ok r (k + 1) (v.put k x)) (fun u => ∀ x, u.put k x = v.put k x) (by omega) (by
   intro pre a post u st b1 st' hx hu hrun hW
   have ha := pR hx
   have hmem : a ∈ rng p := by rw [hx]; simp
   have hlt : (pre.length : Int) < p.High - p.Low + 1 := by
    rw [← hlen, hx]; simp; omega
   have hWa : W (p.Low + pre.length) = a := by
    rw [ha]; obtain ⟨h1, h2, h3⟩ := ho
    exact VV (by omega) (by omega)
   obtain ⟨y, hy⟩ := zr u k ⟨h0, by omega⟩
   refine ⟨u.put k a, fun x => by rw [xe]; exact hu x, ?_⟩
   simp only [BE, pG ho, decide_eq_true hlt, if_true, hy, Option.bind_some, hWa, hu a, hW]
   cases r with
   | zero =>
    have hk4 : k = 4 := by omega
    subst hk4
    have h4 : decide ((4 : Int) < 4) = false := by decide
    simp only [h4, Bool.false_eq_true, if_false]
    have hokv := hok (v.put 4 a) (by simp only [sL, he, if_true, List.mem_flatMap, List.mem_singleton]; exact ⟨a, hmem, rfl⟩)
    rw [hokv]
    simp only [Option.bind_some, sL] at hrun ⊢
    cases hok2 : ok (v.put 4 a) with
    | false =>
     rw [hok2] at hrun
     simp only [Bool.false_eq_true, if_false, Tq, Option.some.injEq, Prod.mk.injEq] at hrun ⊢
     obtain ⟨rfl, rfl⟩ := hrun
     rfl
    | true =>
     rw [hok2] at hrun
     simp only [if_true, Tq] at hrun ⊢
     cases hy2 : yf (v.put 4 a) st with
     | none => rw [hy2] at hrun; cases hrun
     | some q =>
      obtain ⟨b2, s2⟩ := q
      rw [hy2] at hrun
      cases b2 with
      | true => simp only [Option.some.injEq, Prod.mk.injEq] at hrun; obtain ⟨rfl, rfl⟩ := hrun; rfl
      | false => simp only [Option.some.injEq, Prod.mk.injEq] at hrun; obtain ⟨rfl, rfl⟩ := hrun; rfl
   | succ r =>
    have hk4 : k < 4 := by omega
    have hWk : W (k + 1) = k + 1 := VV (by omega) (by omega)
    simp only [decide_eq_true hk4, if_true, hWk]
    have := wu hsp r n (k + 1) (v.put k a) st b1 st' (by omega) (by omega) (by omega) (by
     intro w hw
     apply hok w
     rw [sL, he]
     simp only [List.mem_flatMap]
     exact ⟨a, hmem, hw⟩) hrun
    rw [this, Option.bind_some]
    cases b1 <;> rfl) (by
   intro st u hu
   have : ¬ ((rng p).length : Int) < p.High - p.Low + 1 := by omega
   simp only [BE, pG ho, decide_eq_false this, Bool.false_eq_true, if_false]) (s := s) (v := v) (b := b) (s' := s') (fun x => rfl) hr
  obtain ⟨v', hv'⟩ := key
  rw [hv']
  cases b <;> rfl
end
end Go.Lf
namespace Go.Lf
open Go
noncomputable section
def tl (b : VoiceBook) (boy : Int) (x : AO) : List T5 :=
 (rng x.Low).flatMap fun lo => (rng x.High).flatMap fun hi => (rng x.Gain).flatMap fun ga => (rng x.Turn).flatMap fun tu => ((rng x.Break).map fun br => (⟨lo, hi, ga, tu, br⟩ : T5)).filter (MA b boy x.Loss)
structure qe (x : AO) : Prop where
 low : MR x.Low ∧ x.Low.High - x.Low.Low ≤ 2
 high : MR x.High ∧ x.High.High - x.High.Low ≤ 2
 gain : MR x.Gain ∧ x.Gain.High ≤ 2
 turn : MR x.Turn ∧ x.Turn.High ≤ 6
 brk : MR x.Break ∧ x.Break.High ≤ 9
 loss : 0 ≤ x.Loss ∧ x.Loss ≤ 2
theorem Ot {s : Fo} {h w : Int} (hh : h ≤ 40) (e : Aw s h w = true) : MR s ∧ s.High ≤ h ∧ s.High - s.Low ≤ w := by
 simp only [Aw, Bool.and_eq_true, decide_eq_true_eq] at e
 obtain ⟨h1, h2, h3, h4⟩ := e
 rw [VV (by omega) (by omega)] at h4
 exact ⟨⟨h1, h2, by omega⟩, h3, h4⟩
theorem tA {x : AO} (e : Sr x = true) : qe x := by
 simp only [Sr, Bool.and_eq_true] at e
 obtain ⟨h1, h2, h3, h4, h5, h6⟩ := e
 have a1 := Ot (by omega) h1
 have a2 := Ot (by omega) h2
 have a3 := Ot (by omega) h3
 have a5 := Ot (by omega) h5
 have a6 := Ot (by omega) h6
 simp only [Ak, Bool.and_eq_true, decide_eq_true_eq] at h4
 exact ⟨⟨a1.1, a1.2.2⟩, ⟨a2.1, a2.2.2⟩, ⟨a3.1, a3.2.1⟩, ⟨a5.1, a5.2.1⟩, ⟨a6.1, a6.2.1⟩, h4⟩
def vL (x : AO) (k : Int) : List Int := if k = 0 then rng x.Low else if k = 1 then rng x.High else if k = 2 then rng x.Gain else if k = 3 then rng x.Turn else rng x.Break
def v0 : Ar 5 Int := ⟨[(-1), (-1), (-1), (-1), (-1)], rfl⟩
def ABE (v : Ar 5 Int) : T5 := ⟨v.l.getD 0 0, v.l.getD 1 0, v.l.getD 2 0, v.l.getD 3 0, v.l.getD 4 0⟩
theorem ABp (a b c d e : Int) : ((((v0.put 0 a).put 1 b).put 2 c).put 3 d).put 4 e = (⟨a, b, c, d, e⟩ : T5).ar := rfl
theorem ABl (t : T5) : ABE t.ar = t := rfl
theorem U0 {α β γ : Type} (g : β → γ) (f : α → List β) (l : List α) : (l.flatMap f).map g = l.flatMap fun a => (f a).map g := by
 induction l with
 | nil => rfl
 | cons a l ih => simp only [List.flatMap_cons, List.map_append, ih]
theorem yh {α β : Type} (q : β → Bool) (g : α → β) (l : List α) : (l.flatMap fun a => if q (g a) = true then [g a] else []) = (l.map g).filter q := by
 induction l with
 | nil => rfl
 | cons a l ih =>
  simp only [List.flatMap_cons, List.map_cons, List.filter_cons, ih]
  by_cases h : q (g a) = true
  ·simp [h]
  ·simp [h]
theorem yi (b : VoiceBook) (boy : Int) (x : AO) : sL (vL x) (fun v => MA b boy x.Loss (ABE v)) 5 0 v0 = (tl b boy x).map T5.ar := by
 have e0 : vL x 0 = rng x.Low := rfl
 have e1 : vL x (0 + 1) = rng x.High := rfl
 have e2 : vL x (0 + 1 + 1) = rng x.Gain := rfl
 have e3 : vL x (0 + 1 + 1 + 1) = rng x.Turn := rfl
 have e4 : vL x (0 + 1 + 1 + 1 + 1) = rng x.Break := rfl
 simp only [sL, e0, e1, e2, e3, e4, tl, U0]
 congr 1; funext a; congr 1; funext b1; congr 1; funext c; congr 1; funext d
 rw [show (0 + 1 : Int) = 1 from rfl, show (1 + 1 : Int) = 2 from rfl, show (2 + 1 : Int) = 3 from rfl, show (3 + 1 : Int) = 4 from rfl]
 have key : ∀ l : List Int, (l.flatMap fun n => if MA b boy x.Loss ⟨a, b1, c, d, n⟩ = true then [(⟨a, b1, c, d, n⟩ : T5).ar] else []) = ((l.map fun br => (⟨a, b1, c, d, br⟩ : T5)).filter (MA b boy x.Loss)).map T5.ar := by
  intro l
  induction l with
  | nil => rfl
  | cons e l ih =>
   simp only [List.flatMap_cons, List.map_cons, List.filter_cons, ih]
   by_cases h : MA b boy x.Loss ⟨a, b1, c, d, e⟩ = true
   ·simp only [h, if_true, List.map_cons, List.singleton_append]
   ·simp only [h, Bool.false_eq_true, if_false, List.nil_append]
 exact key _
theorem vU {x : AO} {w : Ar 5 Int} (h : w ∈ sL (vL x) (fun _ => true) 5 0 v0) : ∃ t : T5, w = t.ar ∧ x.Low.Low ≤ t.lo := by
 have e0 : vL x 0 = rng x.Low := rfl
 simp only [sL, List.mem_flatMap, if_true, List.mem_singleton] at h
 obtain ⟨a, ha, b, _, c, _, d, _, e, _, rfl⟩ := h
 rw [e0] at ha
 exact ⟨⟨a, b, c, d, e⟩, rfl, (Nk.mp ha).1⟩
theorem rf {σ : Type} {yf : Ar 5 Int → σ → Option (Bool × σ)} {bk : AB} {boy : Int} {x : AO} (hn : bk.VoiceBook.Trials.l.length < 4611686018427387904) (hx : bk.VoiceBook.Boys.ix boy = some x) (ho : qe x) {s s' : σ} {b : Bool}
  (hr : Tq yf ((tl bk.VoiceBook boy x).map T5.ar) s = some (b, s')) : CS yf bk boy (Sl.nil : Sl Int) s = some ((), s') := by
 unfold CS
 rw [hx, Option.bind_some]
 rw [← yi] at hr
 have := wu (yf := yf) (spn := ⟨[x.Low, x.High, x.Gain, x.Turn, x.Break], rfl⟩) (bk := bk) (boy := boy) (sp := vL x) (ok := fun v => MA bk.VoiceBook boy x.Loss (ABE v)) (by
  intro k h0 h5
  have hk : k = 0 ∨ k = 1 ∨ k = 2 ∨ k = 3 ∨ k = 4 := by omega
  rcases hk with rfl | rfl | rfl | rfl | rfl
  ·exact ⟨x.Low, rfl, ho.low.1, rfl⟩
  ·exact ⟨x.High, rfl, ho.high.1, rfl⟩
  ·exact ⟨x.Gain, rfl, ho.gain.1, rfl⟩
  ·exact ⟨x.Turn, rfl, ho.turn.1, rfl⟩
  ·exact ⟨x.Break, rfl, ho.brk.1, rfl⟩) 4 64 0 v0 s b s' (by decide) (by decide) (by decide) (by
  intro w hw
  obtain ⟨t, rfl, ht⟩ := vU hw
  have h1 : 0 ≤ t.lo := Int.le_trans ho.low.1.1 ht
  exact vz hn hx t (by omega)) hr
 show Option.bind (Aq yf 64 v0 0 _ bk boy Sl.nil s) _ = _
 rw [this, Option.bind_some]
theorem xb {s : Fo} (h : MR s) : (rng s).length ≤ 41 := by rw [Jn]; obtain ⟨h1, h2, h3⟩ := h; omega
theorem Be {α β : Type} (f : α → List β) (k : Nat) : ∀ l : List α, (∀ a ∈ l, (f a).length ≤ k) → (l.flatMap f).length ≤ l.length * k
 | [], _ => by simp
 | a :: l, h => by
  have h1 := h a List.mem_cons_self
  have h2 := Be f k l fun b hb => h b (List.mem_cons_of_mem _ hb)
  simp only [List.flatMap_cons, List.length_append, List.length_cons, Nat.add_mul, Nat.one_mul]
  omega
theorem Y5 {s : Fo} {n : Nat} (h : s.High - s.Low + 1 ≤ n) : (rng s).length ≤ n := by rw [Jn]; omega
theorem wl (b : VoiceBook) (boy : Int) {x : AO} (ho : qe x) : (tl b boy x).length ≤ 2000000 := by
 unfold tl
 have h1 : (rng x.Low).length ≤ 3 := Y5 (by have := ho.low.2; omega)
 have h2 : (rng x.High).length ≤ 3 := Y5 (by have := ho.high.2; omega)
 have h3 : (rng x.Gain).length ≤ 3 := Y5 (by have := ho.gain; have := this.1.1; omega)
 have h4 : (rng x.Turn).length ≤ 7 := Y5 (by have := ho.turn; have := this.1.1; omega)
 have h5 : (rng x.Break).length ≤ 10 := Y5 (by have := ho.brk; have := this.1.1; omega)
 refine Nat.le_trans (Be _ 630 _ fun lo _ => ?_) (Nat.le_trans (Nat.mul_le_mul_right _ h1) (by decide))
 refine Nat.le_trans (Be _ 210 _ fun hi _ => ?_) (Nat.le_trans (Nat.mul_le_mul_right _ h2) (by decide))
 refine Nat.le_trans (Be _ 70 _ fun ga _ => ?_) (Nat.le_trans (Nat.mul_le_mul_right _ h3) (by decide))
 refine Nat.le_trans (Be _ 10 _ fun tu _ => ?_) (Nat.le_trans (Nat.mul_le_mul_right _ h4) (by decide))
 exact Nat.le_trans (List.length_filter_le _ _) (by rw [List.length_map]; exact h5)
theorem AAw {xs ys : List AD} (hy : ys ≠ []) (h : xs.length + ys.length ≤ 1000000000) : (Sl.grow xs).app 48 ys = some (Sl.grow (xs ++ ys)) := Sl.app_grow hy (A8 h (by omega))
theorem OP {f : Sl AD × AD → Option ((Sl AD × AD) ⊕ (Sl AD × AD))} (p : Fo) (hp : MR p) (mk : Int → AD → Prop) (G : Int → List AD) (acc : List AD)
  (hs : ∀ a v acc, a ∈ rng p → mk a v → acc.length + (G a).length ≤ 900000000 → ∃ v', mk (a + 1) v' ∧ f (Sl.grow acc, v) = some (.inl (Sl.grow (acc ++ G a), v')))
  (hf : ∀ v acc, mk (p.High + 1) v → f (Sl.grow acc, v) = some (.inr (Sl.grow acc, v))) (hacc : acc.length + ((rng p).flatMap G).length ≤ 900000000) {v : AD} (hv : mk p.Low v) :
  ∃ v', mk (p.High + 1) v' ∧ Loop f (Sl.grow acc, v) = some (Sl.grow (acc ++ (rng p).flatMap G), v') := by
 have hlen : ((rng p).length : Int) = p.High - p.Low + 1 := by rw [Jn]; obtain ⟨h1, h2, h3⟩ := hp; omega
 have main : ∀ post pre v, rng p = pre ++ post → mk (p.Low + pre.length) v → ∃ v', mk (p.High + 1) v' ∧ Loop f (Sl.grow (acc ++ pre.flatMap G), v) = some (Sl.grow (acc ++ (rng p).flatMap G), v') := by
  intro post
  induction post with
  | nil =>
   intro pre v h hv
   simp only [List.append_nil] at h
   rw [← h] at hv ⊢
   have : p.Low + ((rng p).length : Int) = p.High + 1 := by omega
   rw [this] at hv
   exact ⟨v, hv, Loop.done (hf v _ hv)⟩
  | cons a post ih =>
   intro pre v h hv
   have ha := pR h
   rw [← ha] at hv
   have hl : (acc ++ pre.flatMap G).length + (G a).length ≤ 900000000 := by
    have : (pre.flatMap G).length + (G a).length ≤ ((rng p).flatMap G).length := by rw [h, List.flatMap_append, List.length_append, List.flatMap_cons, List.length_append]; omega
    rw [List.length_append]; omega
   obtain ⟨v1, hv1, he⟩ := hs a v (acc ++ pre.flatMap G) (by rw [h]; simp) hv hl
   have hi := ih (pre ++ [a]) v1 (by rw [h]; simp) (by
    have : p.Low + (((pre ++ [a]).length : Nat) : Int) = a + 1 := by simp; omega
    rw [this]; exact hv1)
   obtain ⟨v', h1, h2⟩ := hi
   refine ⟨v', h1, ?_⟩
   rw [Loop.step he]
   have e : acc ++ (pre ++ [a]).flatMap G = acc ++ pre.flatMap G ++ G a := by simp [List.flatMap_append]
   rw [e] at h2
   exact h2
 have := main (rng p) [] v rfl (by simpa using hv)
 simpa using this
section
variable {b : VoiceBook} {boy : Int} {x : AO} (hn : b.Trials.l.length < 4611686018427387904) (ho : qe x)
def g5 (b : VoiceBook) (boy : Int) (x : AO) (lo hi ga tu br : Int) : List AD := if MA b boy x.Loss ⟨lo, hi, ga, tu, br⟩ = true then [(⟨lo, hi, ga, tu, br⟩ : T5).rv x.Loss] else []
include hn ho
theorem zB (lo hi ga tu : Int) (acc : List AD) (hacc : acc.length + ((rng x.Break).flatMap (g5 b boy x lo hi ga tu)).length ≤ 900000000) :
  ∃ v', (v'.Low = lo ∧ v'.High = hi ∧ v'.Gain = ga ∧ v'.Turn = tu ∧ v'.Loss = x.Loss) ∧ Loop (Dw b boy 0 x) (Sl.grow acc, ⟨lo, hi, ga, tu, x.Loss, x.Break.Low⟩) = some (Sl.grow (acc ++ (rng x.Break).flatMap (g5 b boy x lo hi ga tu)), v') := by
 obtain ⟨v', h1, h2⟩ := OP (f := Dw b boy 0 x) x.Break ho.brk.1 (fun a v => v = ⟨lo, hi, ga, tu, x.Loss, a⟩) (g5 b boy x lo hi ga tu) acc (by
  rintro a v acc ha rfl hl
  have hm := Nk.mp ha
  have hb := ho.brk
  refine ⟨⟨lo, hi, ga, tu, x.Loss, a + 1⟩, rfl, ?_⟩
  have hW : W (a + 1) = a + 1 := VV (by have := hb.1.1; omega) (by omega)
  have hr := t9 hn boy x.Loss ⟨lo, hi, ga, tu, a⟩
  simp only [T5.rv] at hr
  simp only [Dw, decide_eq_true hm.2, if_true, hr, Option.bind_some, hW, g5]
  cases hrr : MA b boy x.Loss ⟨lo, hi, ga, tu, a⟩ with
  | true =>
   simp only [g5, hrr, if_true, List.length_singleton] at hl
   simp only [if_true, AAw (xs := acc) (ys := [⟨lo, hi, ga, tu, x.Loss, a⟩]) (by simp) (by simp; omega), Option.bind_some, T5.rv]
  | false => simp) (by
  rintro v acc rfl
  have : ¬ x.Break.High + 1 ≤ x.Break.High := by omega
  simp only [Dw, decide_eq_false this, Bool.false_eq_true, if_false]) hacc (v := ⟨lo, hi, ga, tu, x.Loss, x.Break.Low⟩) rfl
 exact ⟨v', by subst h1; exact ⟨rfl, rfl, rfl, rfl, rfl⟩, h2⟩
theorem zH (lo hi ga : Int) (acc : List AD) (hacc : acc.length + ((rng x.Turn).flatMap fun tu => (rng x.Break).flatMap (g5 b boy x lo hi ga tu)).length ≤ 900000000) (v : AD) (hv : v.Low = lo ∧ v.High = hi ∧ v.Gain = ga ∧ v.Turn = x.Turn.Low ∧ v.Loss = x.Loss) :
  ∃ v', (v'.Low = lo ∧ v'.High = hi ∧ v'.Gain = ga ∧ v'.Loss = x.Loss) ∧ Loop (Dv b boy 0 x) (Sl.grow acc, v) = some (Sl.grow (acc ++ (rng x.Turn).flatMap fun tu => (rng x.Break).flatMap (g5 b boy x lo hi ga tu)), v') := by
 obtain ⟨v', h1, h2⟩ := OP (f := Dv b boy 0 x) x.Turn ho.turn.1 (fun a v => v.Low = lo ∧ v.High = hi ∧ v.Gain = ga ∧ v.Turn = a ∧ v.Loss = x.Loss) (fun tu => (rng x.Break).flatMap (g5 b boy x lo hi ga tu)) acc (by
  rintro a v acc ha ⟨e1, e2, e3, e4, e5⟩ hl
  have hm := Nk.mp ha
  have hb := ho.turn
  have hW : W (a + 1) = a + 1 := VV (by have := hb.1.1; omega) (by omega)
  obtain ⟨v', ⟨f1, f2, f3, f4, f5⟩, h⟩ := zB hn ho lo hi ga a acc hl
  refine ⟨⟨v'.Low, v'.High, v'.Gain, a + 1, v'.Loss, v'.Break⟩, ⟨f1, f2, f3, rfl, f5⟩, ?_⟩
  have h4 : v.Turn ≤ x.Turn.High := by omega
  simp only [Dv, decide_eq_true h4, decide_eq_true hm.2, if_true, e1, e2, e3, e4, e5, h, Option.bind_some, f4, hW]) (by
  rintro v acc ⟨e1, e2, e3, e4, e5⟩
  have : ¬ v.Turn ≤ x.Turn.High := by omega
  simp only [Dv, decide_eq_false this, Bool.false_eq_true, if_false]) hacc hv
 exact ⟨v', ⟨h1.1, h1.2.1, h1.2.2.1, h1.2.2.2.2⟩, h2⟩
theorem zt (lo hi : Int) (acc : List AD) (hacc : acc.length + ((rng x.Gain).flatMap fun ga => (rng x.Turn).flatMap fun tu => (rng x.Break).flatMap (g5 b boy x lo hi ga tu)).length ≤ 900000000) (v : AD) (hv : v.Low = lo ∧ v.High = hi ∧ v.Gain = x.Gain.Low ∧ v.Loss = x.Loss) :
  ∃ v', (v'.Low = lo ∧ v'.High = hi ∧ v'.Loss = x.Loss) ∧ Loop (D2 b boy 0 x) (Sl.grow acc, v) = some (Sl.grow (acc ++ (rng x.Gain).flatMap fun ga => (rng x.Turn).flatMap fun tu => (rng x.Break).flatMap (g5 b boy x lo hi ga tu)), v') := by
 obtain ⟨v', h1, h2⟩ := OP (f := D2 b boy 0 x) x.Gain ho.gain.1 (fun a v => v.Low = lo ∧ v.High = hi ∧ v.Gain = a ∧ v.Loss = x.Loss) (fun ga => (rng x.Turn).flatMap fun tu => (rng x.Break).flatMap (g5 b boy x lo hi ga tu)) acc (by
  rintro a v acc ha ⟨e1, e2, e3, e5⟩ hl
  have hm := Nk.mp ha
  have hb := ho.gain
  have hW : W (a + 1) = a + 1 := VV (by have := hb.1.1; omega) (by omega)
  obtain ⟨v', ⟨f1, f2, f3, f5⟩, h⟩ := zH hn ho lo hi a acc hl ⟨lo, hi, a, x.Turn.Low, x.Loss, v.Break⟩ ⟨rfl, rfl, rfl, rfl, rfl⟩
  refine ⟨⟨v'.Low, v'.High, a + 1, v'.Turn, v'.Loss, v'.Break⟩, ⟨f1, f2, rfl, f5⟩, ?_⟩
  have h4 : v.Gain ≤ x.Gain.High := by omega
  simp only [D2, decide_eq_true h4, decide_eq_true hm.2, if_true, e1, e2, e3, e5, h, Option.bind_some, f3, hW]) (by
  rintro v acc ⟨e1, e2, e3, e5⟩
  have : ¬ v.Gain ≤ x.Gain.High := by omega
  simp only [D2, decide_eq_false this, Bool.false_eq_true, if_false]) hacc hv
 exact ⟨v', ⟨h1.1, h1.2.1, h1.2.2.2⟩, h2⟩
theorem zJ (lo : Int) (acc : List AD) (hacc : acc.length + ((rng x.High).flatMap fun hi => (rng x.Gain).flatMap fun ga => (rng x.Turn).flatMap fun tu => (rng x.Break).flatMap (g5 b boy x lo hi ga tu)).length ≤ 900000000) (v : AD) (hv : v.Low = lo ∧ v.High = x.High.Low ∧ v.Loss = x.Loss) :
  ∃ v', (v'.Low = lo ∧ v'.Loss = x.Loss) ∧ Loop (Du b boy 0 x) (Sl.grow acc, v) = some (Sl.grow (acc ++ (rng x.High).flatMap fun hi => (rng x.Gain).flatMap fun ga => (rng x.Turn).flatMap fun tu => (rng x.Break).flatMap (g5 b boy x lo hi ga tu)), v') := by
 obtain ⟨v', h1, h2⟩ := OP (f := Du b boy 0 x) x.High ho.high.1 (fun a v => v.Low = lo ∧ v.High = a ∧ v.Loss = x.Loss) (fun hi => (rng x.Gain).flatMap fun ga => (rng x.Turn).flatMap fun tu => (rng x.Break).flatMap (g5 b boy x lo hi ga tu)) acc (by
  rintro a v acc ha ⟨e1, e2, e5⟩ hl
  have hm := Nk.mp ha
  have hb := ho.high
  have hW : W (a + 1) = a + 1 := VV (by have := hb.1.1; omega) (by have := hb.1.2; omega)
  obtain ⟨v', ⟨f1, f2, f5⟩, h⟩ := zt hn ho lo a acc hl ⟨lo, a, x.Gain.Low, v.Turn, x.Loss, v.Break⟩ ⟨rfl, rfl, rfl, rfl⟩
  refine ⟨⟨v'.Low, a + 1, v'.Gain, v'.Turn, v'.Loss, v'.Break⟩, ⟨f1, rfl, f5⟩, ?_⟩
  have h4 : v.High ≤ x.High.High := by omega
  simp only [Du, decide_eq_true h4, decide_eq_true hm.2, if_true, e1, e2, e5, h, Option.bind_some, f2, hW]) (by
  rintro v acc ⟨e1, e2, e5⟩
  have : ¬ v.High ≤ x.High.High := by omega
  simp only [Du, decide_eq_false this, Bool.false_eq_true, if_false]) hacc hv
 exact ⟨v', ⟨h1.1, h1.2.2⟩, h2⟩
theorem zo (acc : List AD) (hacc : acc.length + ((rng x.Low).flatMap fun lo => (rng x.High).flatMap fun hi => (rng x.Gain).flatMap fun ga => (rng x.Turn).flatMap fun tu => (rng x.Break).flatMap (g5 b boy x lo hi ga tu)).length ≤ 900000000) (v : AD) (hv : v.Low = x.Low.Low ∧ v.Loss = x.Loss) :
  ∃ v', Loop (Dx b boy 0 x) (Sl.grow acc, v) = some (Sl.grow (acc ++ (rng x.Low).flatMap fun lo => (rng x.High).flatMap fun hi => (rng x.Gain).flatMap fun ga => (rng x.Turn).flatMap fun tu => (rng x.Break).flatMap (g5 b boy x lo hi ga tu)), v') := by
 obtain ⟨v', h1, h2⟩ := OP (f := Dx b boy 0 x) x.Low ho.low.1 (fun a v => v.Low = a ∧ v.Loss = x.Loss) (fun lo => (rng x.High).flatMap fun hi => (rng x.Gain).flatMap fun ga => (rng x.Turn).flatMap fun tu => (rng x.Break).flatMap (g5 b boy x lo hi ga tu)) acc (by
  rintro a v acc ha ⟨e1, e5⟩ hl
  have hm := Nk.mp ha
  have hb := ho.low
  have hW : W (a + 1) = a + 1 := VV (by have := hb.1.1; omega) (by have := hb.1.2; omega)
  obtain ⟨v', ⟨f1, f5⟩, h⟩ := zJ hn ho a acc hl ⟨a, x.High.Low, v.Gain, v.Turn, x.Loss, v.Break⟩ ⟨rfl, rfl, rfl⟩
  refine ⟨⟨a + 1, v'.High, v'.Gain, v'.Turn, v'.Loss, v'.Break⟩, ⟨rfl, f5⟩, ?_⟩
  have h4 : v.Low ≤ x.Low.High := by omega
  simp only [Dx, decide_eq_true h4, decide_eq_true hm.2, if_true, e1, e5, h, Option.bind_some, f1, hW]) (by
  rintro v acc ⟨e1, e5⟩
  have : ¬ v.Low ≤ x.Low.High := by omega
  simp only [Dx, decide_eq_false this, Bool.false_eq_true, if_false]) hacc hv
 exact ⟨v', h2⟩
omit hn ho in
theorem zn : ((rng x.Low).flatMap fun lo => (rng x.High).flatMap fun hi => (rng x.Gain).flatMap fun ga => (rng x.Turn).flatMap fun tu => (rng x.Break).flatMap (g5 b boy x lo hi ga tu)) = (tl b boy x).map (T5.rv x.Loss) := by
 simp only [tl, U0]
 congr 1; funext a; congr 1; funext b1; congr 1; funext c; congr 1; funext d
 induction rng x.Break with
 | nil => rfl
 | cons e l ih =>
  simp only [List.flatMap_cons, List.map_cons, List.filter_cons, ih, g5]
  by_cases h : MA b boy x.Loss ⟨a, b1, c, d, e⟩ = true
  ·simp only [h, if_true, List.map_cons, List.singleton_append]
  ·simp only [h, Bool.false_eq_true, if_false, List.nil_append]
theorem rl (hx : b.Boys.ix boy = some x) : F6 b boy 0 = some (Sl.grow ((tl b boy x).map (T5.rv x.Loss))) := by
 obtain ⟨v', h⟩ := zo (b := b) (boy := boy) hn ho [] (by rw [zn]; simp; have := wl b boy ho; omega) ⟨x.Low.Low, 0, 0, 0, x.Loss, 0⟩ ⟨rfl, rfl⟩
 have e : Sl.grow ([] : List AD) = Sl.nil := rfl
 rw [e, zn, List.nil_append] at h
 simp only [F6, hx, Option.bind_some, h]
end
end
end Go.Lf
