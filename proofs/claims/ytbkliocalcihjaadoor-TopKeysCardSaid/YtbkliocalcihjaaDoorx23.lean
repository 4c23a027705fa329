/- A part of the proof. -/
import Derived.Test.YtbkliocalcihjaaDoorx21
import Derived.Test.YtbkliocalcihjaaDoorx22
set_option linter.all false
namespace Go.Lf
open Go
noncomputable section
def dj (x : AK) : Bool := Aq x.Low 40 2 && (Aq x.High 40 2 && (Aq x.Gain 2 1 && (Ab x.Loss 0 2 && (Aq x.Turn 6 2 && Aq x.Break 9 3))))
def aB (b : VoiceBook) : Bool := Ab b.Boys.len 1 4 && (Ab b.Weeks 1 6 && decide (b.Trials.len ≤ 6))
def vOk (b : VoiceBook) : Bool := aB b && (b.Boys.l.all dj && b.Trials.l.all (DX b))
structure Wz (b : VoiceBook) : Prop where
 boys : b.Boys.l.length < 4611686018427387904
 trials : b.Trials.l.length < 4611686018427387904
theorem Fa {b : VoiceBook} (h : Wz b) : Bo b = some (if vOk b then 0 else 20) := by
 have e1 : Loop (Dh b) (aB b, 0) = some (aB b && b.Boys.l.all dj) := by
  refine JC (fun t i => (t, i)) b.Boys.l (fun pre => aB b && pre.all dj) h.boys (by simp) ?_ ?_
  ·intro pre a post hx hW
   simp [Dh, Sl.ix_at hx, Sl.len_l, hx, hW, dj, Bool.and_assoc]
   omega
  ·simp [Dh, Sl.len_l]
 have e2 : Loop (Dj b) (aB b && b.Boys.l.all dj, 0) = some (vOk b) := by
  refine JC (fun t i => (t, i)) b.Trials.l (fun pre => (aB b && b.Boys.l.all dj) && pre.all (DX b)) h.trials (by simp) ?_ ?_
  ·intro pre a post hx hW
   simp [Dj, Sl.ix_at hx, Sl.len_l, hx, hW, Bool.and_assoc]
   omega
  ·simp [Dj, Sl.len_l, vOk, Bool.and_assoc]
 unfold Bo
 rw [show ((Ab b.Boys.len 1 4) && ((Ab b.Weeks 1 6) && (decide (b.Trials.len ≤ 6)))) = aB b from rfl, e1, Option.bind_some, e2, Option.bind_some]
 cases vOk b <;> rfl
end
end Go.Lf
namespace Go.Lf
open Go
noncomputable section
def rng (s : BJ) : List Int := (List.range (s.High - s.Low + 1).toNat).map fun (i : Nat) => s.Low + (i : Int)
theorem jp {s : BJ} {pre post : List Int} {a : Int} (h : rng s = pre ++ a :: post) : a = s.Low + pre.length := by
 have h1 : (rng s)[pre.length]? = some a := by rw [h]; simp
 simp only [rng, List.getElem?_map, Option.map_eq_some_iff] at h1
 obtain ⟨i, h2, rfl⟩ := h1
 have := List.getElem?_eq_some_iff.mp h2
 obtain ⟨hl, h3⟩ := this
 simp at h3
 omega
theorem FR (s : BJ) : (rng s).length = (s.High - s.Low + 1).toNat := by simp [rng]
theorem IC {s : BJ} {a : Int} : a ∈ rng s ↔ s.Low ≤ a ∧ a ≤ s.High := by
 simp only [rng, List.mem_map, List.mem_range]
 constructor
 ·rintro ⟨i, hi, rfl⟩; omega
 ·rintro ⟨h1, h2⟩; exact ⟨(a - s.Low).toNat, by omega, by omega⟩
structure T5 where
 lo : Int
 hi : Int
 ga : Int
 tu : Int
 br : Int
 deriving DecidableEq
def T5.ar (t : T5) : Ar 5 Int := ⟨[t.lo, t.hi, t.ga, t.tu, t.br], rfl⟩
def yJ (loss : Int) (t : T5) (week : Int) : Int := W ((W (t.hi + (W (min week t.tu * t.ga)))) - (W ((W (week - min week t.tu)) * loss)))
def gC (loss : Int) (t : T5) (week note : Int) : Bool := decide (week < t.br) && Ab note t.lo (yJ loss t week)
def xd (boy loss : Int) (t : T5) (x : AI) : Bool := decide (x.Boy = boy) && (gC loss t x.Week x.Note != decide (x.Sang = 1))
def Mc (b : VoiceBook) (boy loss : Int) (t : T5) : Bool := b.Trials.l.all fun x => !xd boy loss t x
theorem sY (a v : Int) : EN a (Sl.cold [v]) = some (min a v) := by
 have e : Loop (Ds (Sl.cold [v])) (a, 0) = some (min a v) := by
  refine JC (fun t i => (t, i)) [v] (fun pre => pre.foldl min a) (by simp) rfl ?_ ?_
  ·intro pre x post hx hW
   have : (Sl.cold [v]).l = pre ++ x :: post := hx
   simp [Ds, Sl.ix_at this, Sl.len_l, this, hW, List.foldl_append]
   omega
  ·simp [Ds, Sl.len_l, Sl.l]
 simp [EN, e]
theorem vp (t : T5) : t.ar.ix 0 = some t.lo ∧ t.ar.ix 1 = some t.hi ∧ t.ar.ix 2 = some t.ga ∧ t.ar.ix 3 = some t.tu ∧ t.ar.ix 4 = some t.br := ⟨rfl, rfl, rfl, rfl, rfl⟩
theorem vq {b : AA} {boy : Int} {x : AK} (hx : b.VoiceBook.Boys.ix boy = some x) (t : T5) (week : Int) : Di b boy t.ar week = some (yJ x.Loss t week) := by
 obtain ⟨h0, h1, h2, h3, h4⟩ := vp t
 simp [Di, h0, h1, h2, h3, h4, sY, hx, yJ]
theorem rF (t : T5) (h : t.lo ≠ -1) : decide (Bj.key t.ar = Bj.key (⟨[(-1), (-1), (-1), (-1), (-1)], rfl⟩ : (Ar 5 Int))) = false := by
 rw [decide_eq_false_iff_not]
 intro e
 have : ([t.lo, t.hi, t.ga, t.tu, t.br] : List Int) = [-1, -1, -1, -1, -1] := e
 simp at this
 exact h this.1
theorem sU {b : AA} {boy : Int} {x : AK} (hx : b.VoiceBook.Boys.ix boy = some x) (t : T5) (ht : t.lo ≠ -1) (week note : Int) : C0 b boy t.ar week note = some (gC x.Loss t week note) := by
 obtain ⟨h0, h1, h2, h3, h4⟩ := vp t
 unfold C0
 rw [rF t ht]
 by_cases hw : week < t.br
 ·simp [h0, h4, hw, vq hx, gC]
 ·simp [h4, hw, gC]
theorem xt (b : AA) (boy : Int) (v : Ar 5 Int) (week note : Int) : DU b boy v week note = C0 b boy v week note := rfl
theorem dL (n : Int) : DF (Sl.nil : Sl Int) n = some false := by
 have e : Loop (D3 (Sl.nil : Sl Int) n) 0 = some (.inr ()) := by
  apply Loop.done; simp [D3, Sl.len_l, Sl.l]
 simp [DF, GG, e]
theorem rP {b : AA} {boy : Int} {x : AK} (hn : b.VoiceBook.Trials.l.length < 4611686018427387904) (hx : b.VoiceBook.Boys.ix boy = some x) (t : T5) (ht : t.lo ≠ -1) : BX b boy t.ar (Sl.nil : Sl Int) = some (Mc b.VoiceBook boy x.Loss t) := by
 have e : Loop (BC b boy t.ar (Sl.nil : Sl Int)) 0 = some ((b.VoiceBook.Trials.l.findSome? fun y => if xd boy x.Loss t y then some (.inl false : Bool ⊕ Unit) else none).getD (.inr ())) := by
  refine Loop.find (fun i => i) b.VoiceBook.Trials.l _ hn rfl ?_ ?_
  ·intro pre a post h _ hW
   have hlt : (pre.length : Int) < b.VoiceBook.Trials.len := by rw [Sl.len_l, h]; simp; omega
   simp only [BC, decide_eq_true hlt, if_true, Sl.ix_at h, Option.bind_some, dL, xt, sU hx t ht, hW, xd]
   by_cases h1 : a.Boy = boy
   ·simp only [h1, decide_true, if_true, Bool.true_and]
    cases h2 : (gC x.Loss t a.Week a.Note != decide (a.Sang = 1)) <;> simp [h2]
   ·simp [h1]
  ·intro _
   simp [BC, Sl.len_l]
 simp only [BX, e, Option.bind_some, Mc]
 induction b.VoiceBook.Trials.l with
 | nil => rfl
 | cons y l ih =>
  cases hb : xd boy x.Loss t y with
  | true => simp [hb]
  | false => simpa [hb] using ih
end
end Go.Lf
