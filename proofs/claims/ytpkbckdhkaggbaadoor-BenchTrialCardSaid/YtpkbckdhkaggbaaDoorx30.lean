/- A part of the proof. -/
import Derived.Test.YtpkbckdhkaggbaaDoorx28
import Derived.Test.YtpkbckdhkaggbaaDoorx29
set_option linter.all false
namespace Go.Lf
open Go
noncomputable section
def ca (x : AN) : Bool := Ap x.Low 40 2 && (Ap x.High 40 2 && (Ap x.Gain 2 1 && (Ad x.Loss 0 2 && (Ap x.Turn 6 2 && Ap x.Break 9 3))))
def Qj (b : VoiceBook) : Bool := Ad b.Boys.len 1 4 && (Ad b.Weeks 1 6 && decide (b.Trials.len ≤ 6))
def uS (b : VoiceBook) : Bool := Qj b && (b.Boys.l.all ca && b.Trials.l.all (BB b))
structure lX (b : VoiceBook) : Prop where
 boys : b.Boys.l.length < 4611686018427387904
 trials : b.Trials.l.length < 4611686018427387904
theorem G5 {b : VoiceBook} (h : lX b) : EB b = some (if uS b then 0 else 20) := by
 have e1 : Loop (EN b) (Qj b, 0) = some (Qj b && b.Boys.l.all ca) := by
  refine FG (fun t i => (t, i)) b.Boys.l (fun pre => Qj b && pre.all ca) h.boys (by simp) ?_ ?_
  ·intro pre a post hx hW
   simp [EN, Sl.ix_at hx, Sl.len_l, hx, hW, ca, Bool.and_assoc]
   omega
  ·simp [EN, Sl.len_l]
 have e2 : Loop (EP b) (Qj b && b.Boys.l.all ca, 0) = some (uS b) := by
  refine FG (fun t i => (t, i)) b.Trials.l (fun pre => (Qj b && b.Boys.l.all ca) && pre.all (BB b)) h.trials (by simp) ?_ ?_
  ·intro pre a post hx hW
   simp [EP, Sl.ix_at hx, Sl.len_l, hx, hW, Bool.and_assoc]
   omega
  ·simp [EP, Sl.len_l, uS, Bool.and_assoc]
 unfold EB
 rw [show ((Ad b.Boys.len 1 4) && ((Ad b.Weeks 1 6) && (decide (b.Trials.len ≤ 6)))) = Qj b from rfl, e1, Option.bind_some, e2, Option.bind_some]
 cases uS b <;> rfl
end
end Go.Lf
namespace Go.Lf
open Go
noncomputable section
def rng (s : Ec) : List Int := (List.range (s.High - s.Low + 1).toNat).map fun (i : Nat) => s.Low + (i : Int)
theorem oM {s : Ec} {pre post : List Int} {a : Int} (h : rng s = pre ++ a :: post) : a = s.Low + pre.length := by
 have h1 : (rng s)[pre.length]? = some a := by rw [h]; simp
 simp only [rng, List.getElem?_map, Option.map_eq_some_iff] at h1
 obtain ⟨i, h2, rfl⟩ := h1
 have := List.getElem?_eq_some_iff.mp h2
 obtain ⟨hl, h3⟩ := this
 simp at h3
 omega
theorem MQ (s : Ec) : (rng s).length = (s.High - s.Low + 1).toNat := by simp [rng]
theorem QW {s : Ec} {a : Int} : a ∈ rng s ↔ s.Low ≤ a ∧ a ≤ s.High := by
 simp only [rng, List.mem_map, List.mem_range]
 constructor
 ·rintro ⟨i, hi, rfl⟩; omega
 ·rintro ⟨h1, h2⟩; exact ⟨(a - s.Low).toNat, by omega, by omega⟩
structure T5 where
 lo : Int
 hi : Int
 ga : Int
 tu : Int
 br : Int
 deriving DecidableEq
def T5.ar (t : T5) : Ar 5 Int := ⟨[t.lo, t.hi, t.ga, t.tu, t.br], rfl⟩
def sW (loss : Int) (t : T5) (week : Int) : Int := W ((W (t.hi + (W (min week t.tu * t.ga)))) - (W ((W (week - min week t.tu)) * loss)))
def dW (loss : Int) (t : T5) (week note : Int) : Bool := decide (week < t.br) && Ad note t.lo (sW loss t week)
def mZ (boy loss : Int) (t : T5) (x : AE) : Bool := decide (x.Boy = boy) && (dW loss t x.Week x.Note != decide (x.Sang = 1))
def JS (b : VoiceBook) (boy loss : Int) (t : T5) : Bool := b.Trials.l.all fun x => !mZ boy loss t x
theorem lG (a v : Int) : FP a (Sl.cold [v]) = some (min a v) := by
 have e : Loop (EU (Sl.cold [v])) (a, 0) = some (min a v) := by
  refine FG (fun t i => (t, i)) [v] (fun pre => pre.foldl min a) (by simp) rfl ?_ ?_
  ·intro pre x post hx hW
   have : (Sl.cold [v]).l = pre ++ x :: post := hx
   simp [EU, Sl.ix_at this, Sl.len_l, this, hW, List.foldl_append]
   omega
  ·simp [EU, Sl.len_l, Sl.l]
 simp [FP, e]
theorem rl (t : T5) : t.ar.ix 0 = some t.lo ∧ t.ar.ix 1 = some t.hi ∧ t.ar.ix 2 = some t.ga ∧ t.ar.ix 3 = some t.tu ∧ t.ar.ix 4 = some t.br := ⟨rfl, rfl, rfl, rfl, rfl⟩
theorem qq {b : AA} {boy : Int} {x : AN} (hx : b.VoiceBook.Boys.ix boy = some x) (t : T5) (week : Int) : E7 b boy t.ar week = some (sW x.Loss t week) := by
 obtain ⟨h0, h1, h2, h3, h4⟩ := rl t
 simp [E7, h0, h1, h2, h3, h4, lG, hx, sW]
theorem nH (t : T5) (h : t.lo ≠ -1) : decide (BZ.key t.ar = BZ.key (⟨[(-1), (-1), (-1), (-1), (-1)], rfl⟩ : (Ar 5 Int))) = false := by
 rw [decide_eq_false_iff_not]
 intro e
 have : ([t.lo, t.hi, t.ga, t.tu, t.br] : List Int) = [-1, -1, -1, -1, -1] := e
 simp at this
 exact h this.1
theorem ot {b : AA} {boy : Int} {x : AN} (hx : b.VoiceBook.Boys.ix boy = some x) (t : T5) (ht : t.lo ≠ -1) (week note : Int) : EO b boy t.ar week note = some (dW x.Loss t week note) := by
 obtain ⟨h0, h1, h2, h3, h4⟩ := rl t
 unfold EO
 rw [nH t ht]
 by_cases hw : week < t.br
 ·simp [h0, h4, hw, qq hx, dW]
 ·simp [h4, hw, dW]
theorem sg (b : AA) (boy : Int) (v : Ar 5 Int) (week note : Int) : FC b boy v week note = EO b boy v week note := rfl
theorem cT (n : Int) : CL (Sl.nil : Sl Int) n = some false := by
 have e : Loop (BF (Sl.nil : Sl Int) n) 0 = some (.inr ()) := by
  apply Loop.done; simp [BF, Sl.len_l, Sl.l]
 simp [CL, HB, e]
theorem nI {b : AA} {boy : Int} {x : AN} (hn : b.VoiceBook.Trials.l.length < 4611686018427387904) (hx : b.VoiceBook.Boys.ix boy = some x) (t : T5) (ht : t.lo ≠ -1) : CP b boy t.ar (Sl.nil : Sl Int) = some (JS b.VoiceBook boy x.Loss t) := by
 have e : Loop (Bd b boy t.ar (Sl.nil : Sl Int)) 0 = some ((b.VoiceBook.Trials.l.findSome? fun y => if mZ boy x.Loss t y then some (.inl false : Bool ⊕ Unit) else none).getD (.inr ())) := by
  refine Loop.find (fun i => i) b.VoiceBook.Trials.l _ hn rfl ?_ ?_
  ·intro pre a post h _ hW
   have hlt : (pre.length : Int) < b.VoiceBook.Trials.len := by rw [Sl.len_l, h]; simp; omega
   simp only [Bd, decide_eq_true hlt, if_true, Sl.ix_at h, Option.bind_some, cT, sg, ot hx t ht, hW, mZ]
   by_cases h1 : a.Boy = boy
   ·simp only [h1, decide_true, if_true, Bool.true_and]
    cases h2 : (dW x.Loss t a.Week a.Note != decide (a.Sang = 1)) <;> simp [h2]
   ·simp [h1]
  ·intro _
   simp [Bd, Sl.len_l]
 simp only [CP, e, Option.bind_some, JS]
 induction b.VoiceBook.Trials.l with
 | nil => rfl
 | cons y l ih =>
  cases hb : mZ boy x.Loss t y with
  | true => simp [hb]
  | false => simpa [hb] using ih
end
end Go.Lf
