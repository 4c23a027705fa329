/- A part of the proof. -/
import Derived.Test.YtohgomfnigdaoaaDoory21
import Derived.Test.YtohgomfnigdaoaaDoory22
set_option linter.all false
namespace Go.Lf
open Go
noncomputable section
def gj (x : AL) : Bool := Ak x.Low 40 2 && (Ak x.High 40 2 && (Ak x.Gain 2 1 && (Aa x.Loss 0 2 && (Ak x.Turn 6 2 && Ak x.Break 9 3))))
def Ze (b : VoiceBook) : Bool := Aa b.Boys.len 1 4 && (Aa b.Weeks 1 6 && decide (b.Trials.len ≤ 6))
def vOk (b : VoiceBook) : Bool := Ze b && (b.Boys.l.all gj && b.Trials.l.all (HL b))
structure dU (b : VoiceBook) : Prop where
 boys : b.Boys.l.length < 4611686018427387904
 trials : b.Trials.l.length < 4611686018427387904
theorem IR {b : VoiceBook} (h : dU b) : Dv b = some (if vOk b then 0 else 20) := by
 have e1 : Loop (EO b) (Ze b, 0) = some (Ze b && b.Boys.l.all gj) := by
  refine FV (fun t i => (t, i)) b.Boys.l (fun pre => Ze b && pre.all gj) h.boys (by simp) ?_ ?_
  ·intro pre a post hx hW
   simp [EO, Sl.ix_at hx, Sl.len_l, hx, hW, gj, Bool.and_assoc]
   omega
  ·simp [EO, Sl.len_l]
 have e2 : Loop (EL b) (Ze b && b.Boys.l.all gj, 0) = some (vOk b) := by
  refine FV (fun t i => (t, i)) b.Trials.l (fun pre => (Ze b && b.Boys.l.all gj) && pre.all (HL b)) h.trials (by simp) ?_ ?_
  ·intro pre a post hx hW
   simp [EL, Sl.ix_at hx, Sl.len_l, hx, hW, Bool.and_assoc]
   omega
  ·simp [EL, Sl.len_l, vOk, Bool.and_assoc]
 unfold Dv
 rw [show ((Aa b.Boys.len 1 4) && ((Aa b.Weeks 1 6) && (decide (b.Trials.len ≤ 6)))) = Ze b from rfl, e1, Option.bind_some, e2, Option.bind_some]
 cases vOk b <;> rfl
end
end Go.Lf
namespace Go.Lf
open Go
noncomputable section
def rng (s : BS) : List Int := (List.range (s.High - s.Low + 1).toNat).map fun (i : Nat) => s.Low + (i : Int)
theorem pw {s : BS} {pre post : List Int} {a : Int} (h : rng s = pre ++ a :: post) : a = s.Low + pre.length := by
 have h1 : (rng s)[pre.length]? = some a := by rw [h]; simp
 simp only [rng, List.getElem?_map, Option.map_eq_some_iff] at h1
 obtain ⟨i, h2, rfl⟩ := h1
 have := List.getElem?_eq_some_iff.mp h2
 obtain ⟨hl, h3⟩ := this
 simp at h3
 omega
theorem Lj (s : BS) : (rng s).length = (s.High - s.Low + 1).toNat := by simp [rng]
theorem OO {s : BS} {a : Int} : a ∈ rng s ↔ s.Low ≤ a ∧ a ≤ s.High := by
 simp only [rng, List.mem_map, List.mem_range]
 constructor
 ·rintro ⟨i, hi, rfl⟩; omega
 ·rintro ⟨h1, h2⟩; exact ⟨(a - s.Low).toNat, by omega, by omega⟩
structure T5 where
 lo : Int
 hi : Int
 ga : Int
 tu : Int
 br : Int
 deriving DecidableEq
def T5.ar (t : T5) : Ar 5 Int := ⟨[t.lo, t.hi, t.ga, t.tu, t.br], rfl⟩
def xe (loss : Int) (t : T5) (week : Int) : Int := W ((W (t.hi + (W (min week t.tu * t.ga)))) - (W ((W (week - min week t.tu)) * loss)))
def iY (loss : Int) (t : T5) (week note : Int) : Bool := decide (week < t.br) && Aa note t.lo (xe loss t week)
def xC (boy loss : Int) (t : T5) (x : AI) : Bool := decide (x.Boy = boy) && (iY loss t x.Week x.Note != decide (x.Sang = 1))
def SC (b : VoiceBook) (boy loss : Int) (t : T5) : Bool := b.Trials.l.all fun x => !xC boy loss t x
theorem ob (a v : Int) : Ey a (Sl.cold [v]) = some (min a v) := by
 have e : Loop (EK (Sl.cold [v])) (a, 0) = some (min a v) := by
  refine FV (fun t i => (t, i)) [v] (fun pre => pre.foldl min a) (by simp) rfl ?_ ?_
  ·intro pre x post hx hW
   have : (Sl.cold [v]).l = pre ++ x :: post := hx
   simp [EK, Sl.ix_at this, Sl.len_l, this, hW, List.foldl_append]
   omega
  ·simp [EK, Sl.len_l, Sl.l]
 simp [Ey, e]
theorem ve (t : T5) : t.ar.ix 0 = some t.lo ∧ t.ar.ix 1 = some t.hi ∧ t.ar.ix 2 = some t.ga ∧ t.ar.ix 3 = some t.tu ∧ t.ar.ix 4 = some t.br := ⟨rfl, rfl, rfl, rfl, rfl⟩
theorem vU {b : AA} {boy : Int} {x : AL} (hx : b.VoiceBook.Boys.ix boy = some x) (t : T5) (week : Int) : EP b boy t.ar week = some (xe x.Loss t week) := by
 obtain ⟨h0, h1, h2, h3, h4⟩ := ve t
 simp [EP, h0, h1, h2, h3, h4, ob, hx, xe]
theorem sJ (t : T5) (h : t.lo ≠ -1) : decide (Bc.key t.ar = Bc.key (⟨[(-1), (-1), (-1), (-1), (-1)], rfl⟩ : (Ar 5 Int))) = false := by
 rw [decide_eq_false_iff_not]
 intro e
 have : ([t.lo, t.hi, t.ga, t.tu, t.br] : List Int) = [-1, -1, -1, -1, -1] := e
 simp at this
 exact h this.1
theorem tQ {b : AA} {boy : Int} {x : AL} (hx : b.VoiceBook.Boys.ix boy = some x) (t : T5) (ht : t.lo ≠ -1) (week note : Int) : Dk b boy t.ar week note = some (iY x.Loss t week note) := by
 obtain ⟨h0, h1, h2, h3, h4⟩ := ve t
 unfold Dk
 rw [sJ t ht]
 by_cases hw : week < t.br
 ·simp [h0, h4, hw, vU hx, iY]
 ·simp [h4, hw, iY]
theorem yh (b : AA) (boy : Int) (v : Ar 5 Int) (week note : Int) : D5 b boy v week note = Dk b boy v week note := rfl
theorem gq (n : Int) : B2 (Sl.nil : Sl Int) n = some false := by
 have e : Loop (BF (Sl.nil : Sl Int) n) 0 = some (.inr ()) := by
  apply Loop.done; simp [BF, Sl.len_l, Sl.l]
 simp [B2, Fp, e]
theorem sH {b : AA} {boy : Int} {x : AL} (hn : b.VoiceBook.Trials.l.length < 4611686018427387904) (hx : b.VoiceBook.Boys.ix boy = some x) (t : T5) (ht : t.lo ≠ -1) : Bo b boy t.ar (Sl.nil : Sl Int) = some (SC b.VoiceBook boy x.Loss t) := by
 have e : Loop (BK b boy t.ar (Sl.nil : Sl Int)) 0 = some ((b.VoiceBook.Trials.l.findSome? fun y => if xC boy x.Loss t y then some (.inl false : Bool ⊕ Unit) else none).getD (.inr ())) := by
  refine Loop.find (fun i => i) b.VoiceBook.Trials.l _ hn rfl ?_ ?_
  ·intro pre a post h _ hW
   have hlt : (pre.length : Int) < b.VoiceBook.Trials.len := by rw [Sl.len_l, h]; simp; omega
   simp only [BK, decide_eq_true hlt, if_true, Sl.ix_at h, Option.bind_some, gq, yh, tQ hx t ht, hW, xC]
   by_cases h1 : a.Boy = boy
   ·simp only [h1, decide_true, if_true, Bool.true_and]
    cases h2 : (iY x.Loss t a.Week a.Note != decide (a.Sang = 1)) <;> simp [h2]
   ·simp [h1]
  ·intro _
   simp [BK, Sl.len_l]
 simp only [Bo, e, Option.bind_some, SC]
 induction b.VoiceBook.Trials.l with
 | nil => rfl
 | cons y l ih =>
  cases hb : xC boy x.Loss t y with
  | true => simp [hb]
  | false => simpa [hb] using ih
end
end Go.Lf
