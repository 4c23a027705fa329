/- A part of the proof. -/
import Derived.Test.YtdjddljglkeefaaDoorx21
import Derived.Test.YtdjddljglkeefaaDoorx22
set_option linter.all false
namespace Go.Lf
open Go
noncomputable section
def eZ (x : AO) : Bool := Aw x.Low 40 2 && (Aw x.High 40 2 && (Aw x.Gain 2 1 && (Ah x.Loss 0 2 && (Aw x.Turn 6 2 && Aw x.Break 9 3))))
def VA (b : VoiceBook) : Bool := Ah b.Boys.len 1 4 && (Ah b.Weeks 1 6 && decide (b.Trials.len ≤ 6))
def vOk (b : VoiceBook) : Bool := VA b && (b.Boys.l.all eZ && b.Trials.l.all (HF b))
structure tL (b : VoiceBook) : Prop where
 boys : b.Boys.l.length < 4611686018427387904
 trials : b.Trials.l.length < 4611686018427387904
theorem ID {b : VoiceBook} (h : tL b) : Ee b = some (if vOk b then 0 else 20) := by
 have e1 : Loop (Eq b) (VA b, 0) = some (VA b && b.Boys.l.all eZ) := by
  refine Dw (fun t i => (t, i)) b.Boys.l (fun pre => VA b && pre.all eZ) h.boys (by simp) ?_ ?_
  ·intro pre a post hx hW
   simp [Eq, Sl.ix_at hx, Sl.len_l, hx, hW, eZ, Bool.and_assoc]
   omega
  ·simp [Eq, Sl.len_l]
 have e2 : Loop (E4 b) (VA b && b.Boys.l.all eZ, 0) = some (vOk b) := by
  refine Dw (fun t i => (t, i)) b.Trials.l (fun pre => (VA b && b.Boys.l.all eZ) && pre.all (HF b)) h.trials (by simp) ?_ ?_
  ·intro pre a post hx hW
   simp [E4, Sl.ix_at hx, Sl.len_l, hx, hW, Bool.and_assoc]
   omega
  ·simp [E4, Sl.len_l, vOk, Bool.and_assoc]
 unfold Ee
 rw [show ((Ah b.Boys.len 1 4) && ((Ah b.Weeks 1 6) && (decide (b.Trials.len ≤ 6)))) = VA b from rfl, e1, Option.bind_some, e2, Option.bind_some]
 cases vOk b <;> rfl
end
end Go.Lf
namespace Go.Lf
open Go
noncomputable section
def rng (s : Ew) : List Int := (List.range (s.High - s.Low + 1).toNat).map fun (i : Nat) => s.Low + (i : Int)
theorem tn {s : Ew} {pre post : List Int} {a : Int} (h : rng s = pre ++ a :: post) : a = s.Low + pre.length := by
 have h1 : (rng s)[pre.length]? = some a := by rw [h]; simp
 simp only [rng, List.getElem?_map, Option.map_eq_some_iff] at h1
 obtain ⟨i, h2, rfl⟩ := h1
 have := List.getElem?_eq_some_iff.mp h2
 obtain ⟨hl, h3⟩ := this
 simp at h3
 omega
theorem PG (s : Ew) : (rng s).length = (s.High - s.Low + 1).toNat := by simp [rng]
theorem Ii {s : Ew} {a : Int} : a ∈ rng s ↔ s.Low ≤ a ∧ a ≤ s.High := by
 simp only [rng, List.mem_map, List.mem_range]
 constructor
 ·rintro ⟨i, hi, rfl⟩; omega
 ·rintro ⟨h1, h2⟩; exact ⟨(a - s.Low).toNat, by omega, by omega⟩
structure T5 where
 lo : Int
 hi : Int
 ga : Int
 tu : Int
 br : Int
 deriving DecidableEq
def T5.ar (t : T5) : Ar 5 Int := ⟨[t.lo, t.hi, t.ga, t.tu, t.br], rfl⟩
def tr (loss : Int) (t : T5) (week : Int) : Int := W ((W (t.hi + (W (min week t.tu * t.ga)))) - (W ((W (week - min week t.tu)) * loss)))
def eL (loss : Int) (t : T5) (week note : Int) : Bool := decide (week < t.br) && Ah note t.lo (tr loss t week)
def xO (boy loss : Int) (t : T5) (x : AM) : Bool := decide (x.Boy = boy) && (eL loss t x.Week x.Note != decide (x.Sang = 1))
def SL (b : VoiceBook) (boy loss : Int) (t : T5) : Bool := b.Trials.l.all fun x => !xO boy loss t x
theorem qS (a v : Int) : GZ a (Sl.cold [v]) = some (min a v) := by
 have e : Loop (Ep (Sl.cold [v])) (a, 0) = some (min a v) := by
  refine Dw (fun t i => (t, i)) [v] (fun pre => pre.foldl min a) (by simp) rfl ?_ ?_
  ·intro pre x post hx hW
   have : (Sl.cold [v]).l = pre ++ x :: post := hx
   simp [Ep, Sl.ix_at this, Sl.len_l, this, hW, List.foldl_append]
   omega
  ·simp [Ep, Sl.len_l, Sl.l]
 simp [GZ, e]
theorem xG (t : T5) : t.ar.ix 0 = some t.lo ∧ t.ar.ix 1 = some t.hi ∧ t.ar.ix 2 = some t.ga ∧ t.ar.ix 3 = some t.tu ∧ t.ar.ix 4 = some t.br := ⟨rfl, rfl, rfl, rfl, rfl⟩
theorem xJ {b : AA} {boy : Int} {x : AO} (hx : b.VoiceBook.Boys.ix boy = some x) (t : T5) (week : Int) : GH b boy t.ar week = some (tr x.Loss t week) := by
 obtain ⟨h0, h1, h2, h3, h4⟩ := xG t
 simp [GH, h0, h1, h2, h3, h4, qS, hx, tr]
theorem s0 (t : T5) (h : t.lo ≠ -1) : decide (Bm.key t.ar = Bm.key (⟨[(-1), (-1), (-1), (-1), (-1)], rfl⟩ : (Ar 5 Int))) = false := by
 rw [decide_eq_false_iff_not]
 intro e
 have : ([t.lo, t.hi, t.ga, t.tu, t.br] : List Int) = [-1, -1, -1, -1, -1] := e
 simp at this
 exact h this.1
theorem uB {b : AA} {boy : Int} {x : AO} (hx : b.VoiceBook.Boys.ix boy = some x) (t : T5) (ht : t.lo ≠ -1) (week note : Int) : E1 b boy t.ar week note = some (eL x.Loss t week note) := by
 obtain ⟨h0, h1, h2, h3, h4⟩ := xG t
 unfold E1
 rw [s0 t ht]
 by_cases hw : week < t.br
 ·simp [h0, h4, hw, xJ hx, eL]
 ·simp [h4, hw, eL]
theorem xt (b : AA) (boy : Int) (v : Ar 5 Int) (week note : Int) : GN b boy v week note = E1 b boy v week note := rfl
theorem fS (n : Int) : CZ (Sl.nil : Sl Int) n = some false := by
 have e : Loop (BN (Sl.nil : Sl Int) n) 0 = some (.inr ()) := by
  apply Loop.done; simp [BN, Sl.len_l, Sl.l]
 simp [CZ, IR, e]
theorem sq {b : AA} {boy : Int} {x : AO} (hn : b.VoiceBook.Trials.l.length < 4611686018427387904) (hx : b.VoiceBook.Boys.ix boy = some x) (t : T5) (ht : t.lo ≠ -1) : Cm b boy t.ar (Sl.nil : Sl Int) = some (SL b.VoiceBook boy x.Loss t) := by
 have e : Loop (Br b boy t.ar (Sl.nil : Sl Int)) 0 = some ((b.VoiceBook.Trials.l.findSome? fun y => if xO boy x.Loss t y then some (.inl false : Bool ⊕ Unit) else none).getD (.inr ())) := by
  refine Loop.find (fun i => i) b.VoiceBook.Trials.l _ hn rfl ?_ ?_
  ·intro pre a post h _ hW
   have hlt : (pre.length : Int) < b.VoiceBook.Trials.len := by rw [Sl.len_l, h]; simp; omega
   simp only [Br, decide_eq_true hlt, if_true, Sl.ix_at h, Option.bind_some, fS, xt, uB hx t ht, hW, xO]
   by_cases h1 : a.Boy = boy
   ·simp only [h1, decide_true, if_true, Bool.true_and]
    cases h2 : (eL x.Loss t a.Week a.Note != decide (a.Sang = 1)) <;> simp [h2]
   ·simp [h1]
  ·intro _
   simp [Br, Sl.len_l]
 simp only [Cm, e, Option.bind_some, SL]
 induction b.VoiceBook.Trials.l with
 | nil => rfl
 | cons y l ih =>
  cases hb : xO boy x.Loss t y with
  | true => simp [hb]
  | false => simpa [hb] using ih
end
end Go.Lf
