/- A part of the proof. -/
import Derived.Test.YtohgomfnigdaoaaDoorx21
import Derived.Test.YtohgomfnigdaoaaDoorx22
set_option linter.all false
namespace Go.Lf
open Go
noncomputable section
def ed (x : AL) : Bool := Ah x.Low 40 2 && (Ah x.High 40 2 && (Ah x.Gain 2 1 && (AZ x.Loss 0 2 && (Ah x.Turn 6 2 && Ah x.Break 9 3))))
def ah (b : VoiceBook) : Bool := AZ b.Boys.len 1 4 && (AZ b.Weeks 1 6 && decide (b.Trials.len ≤ 6))
def yk (b : VoiceBook) : Bool := ah b && (b.Boys.l.all ed && b.Trials.l.all (HJ b))
structure jj (b : VoiceBook) : Prop where
 boys : b.Boys.l.length < 4611686018427387904
 trials : b.Trials.l.length < 4611686018427387904
theorem IE {b : VoiceBook} (h : jj b) : Dm b = some (if yk b then 0 else 20) := by
 have e1 : Loop (EL b) (ah b, 0) = some (ah b && b.Boys.l.all ed) := by
  refine GX (fun t i => (t, i)) b.Boys.l (fun pre => ah b && pre.all ed) h.boys (by simp) ?_ ?_
  ·intro pre a post hx hW
   simp [EL, Sl.ix_at hx, Sl.len_l, hx, hW, ed, Bool.and_assoc]
   omega
  ·simp [EL, Sl.len_l]
 have e2 : Loop (EJ b) (ah b && b.Boys.l.all ed, 0) = some (yk b) := by
  refine GX (fun t i => (t, i)) b.Trials.l (fun pre => (ah b && b.Boys.l.all ed) && pre.all (HJ b)) h.trials (by simp) ?_ ?_
  ·intro pre a post hx hW
   simp [EJ, Sl.ix_at hx, Sl.len_l, hx, hW, Bool.and_assoc]
   omega
  ·simp [EJ, Sl.len_l, yk, Bool.and_assoc]
 unfold Dm
 rw [show ((AZ b.Boys.len 1 4) && ((AZ b.Weeks 1 6) && (decide (b.Trials.len ≤ 6)))) = ah b from rfl, e1, Option.bind_some, e2, Option.bind_some]
 cases yk b <;> rfl
end
end Go.Lf
namespace Go.Lf
open Go
noncomputable section
def rng (s : BW) : List Int := (List.range (s.High - s.Low + 1).toNat).map fun (i : Nat) => s.Low + (i : Int)
theorem nR {s : BW} {pre post : List Int} {a : Int} (h : rng s = pre ++ a :: post) : a = s.Low + pre.length := by
 have h1 : (rng s)[pre.length]? = some a := by rw [h]; simp
 simp only [rng, List.getElem?_map, Option.map_eq_some_iff] at h1
 obtain ⟨i, h2, rfl⟩ := h1
 have := List.getElem?_eq_some_iff.mp h2
 obtain ⟨hl, h3⟩ := this
 simp at h3
 omega
theorem K7 (s : BW) : (rng s).length = (s.High - s.Low + 1).toNat := by simp [rng]
theorem Qm {s : BW} {a : Int} : a ∈ rng s ↔ s.Low ≤ a ∧ a ≤ s.High := by
 simp only [rng, List.mem_map, List.mem_range]
 constructor
 ·rintro ⟨i, hi, rfl⟩; omega
 ·rintro ⟨h1, h2⟩; exact ⟨(a - s.Low).toNat, by omega, by omega⟩
structure T5 where
 lo : Int
 hi : Int
 ga : Int
 tu : Int
 br : Int
 deriving DecidableEq
def T5.ar (t : T5) : Ar 5 Int := ⟨[t.lo, t.hi, t.ga, t.tu, t.br], rfl⟩
def wP (loss : Int) (t : T5) (week : Int) : Int := W ((W (t.hi + (W (min week t.tu * t.ga)))) - (W ((W (week - min week t.tu)) * loss)))
def gz (loss : Int) (t : T5) (week note : Int) : Bool := decide (week < t.br) && AZ note t.lo (wP loss t week)
def vn (boy loss : Int) (t : T5) (x : AK) : Bool := decide (x.Boy = boy) && (gz loss t x.Week x.Note != decide (x.Sang = 1))
def Us (b : VoiceBook) (boy loss : Int) (t : T5) : Bool := b.Trials.l.all fun x => !vn boy loss t x
theorem ot (a v : Int) : Ec a (Sl.cold [v]) = some (min a v) := by
 have e : Loop (EE (Sl.cold [v])) (a, 0) = some (min a v) := by
  refine GX (fun t i => (t, i)) [v] (fun pre => pre.foldl min a) (by simp) rfl ?_ ?_
  ·intro pre x post hx hW
   have : (Sl.cold [v]).l = pre ++ x :: post := hx
   simp [EE, Sl.ix_at this, Sl.len_l, this, hW, List.foldl_append]
   omega
  ·simp [EE, Sl.len_l, Sl.l]
 simp [Ec, e]
theorem vH (t : T5) : t.ar.ix 0 = some t.lo ∧ t.ar.ix 1 = some t.hi ∧ t.ar.ix 2 = some t.ga ∧ t.ar.ix 3 = some t.tu ∧ t.ar.ix 4 = some t.br := ⟨rfl, rfl, rfl, rfl, rfl⟩
theorem vZ {b : AA} {boy : Int} {x : AL} (hx : b.VoiceBook.Boys.ix boy = some x) (t : T5) (week : Int) : ED b boy t.ar week = some (wP x.Loss t week) := by
 obtain ⟨h0, h1, h2, h3, h4⟩ := vH t
 simp [ED, h0, h1, h2, h3, h4, ot, hx, wP]
theorem rX (t : T5) (h : t.lo ≠ -1) : decide (BU.key t.ar = BU.key (⟨[(-1), (-1), (-1), (-1), (-1)], rfl⟩ : (Ar 5 Int))) = false := by
 rw [decide_eq_false_iff_not]
 intro e
 have : ([t.lo, t.hi, t.ga, t.tu, t.br] : List Int) = [-1, -1, -1, -1, -1] := e
 simp at this
 exact h this.1
theorem sK {b : AA} {boy : Int} {x : AL} (hx : b.VoiceBook.Boys.ix boy = some x) (t : T5) (ht : t.lo ≠ -1) (week note : Int) : Da b boy t.ar week note = some (gz x.Loss t week note) := by
 obtain ⟨h0, h1, h2, h3, h4⟩ := vH t
 unfold Da
 rw [rX t ht]
 by_cases hw : week < t.br
 ·simp [h0, h4, hw, vZ hx, gz]
 ·simp [h4, hw, gz]
theorem wI (b : AA) (boy : Int) (v : Ar 5 Int) (week note : Int) : Dw b boy v week note = Da b boy v week note := rfl
theorem gx (n : Int) : Bq (Sl.nil : Sl Int) n = some false := by
 have e : Loop (A9 (Sl.nil : Sl Int) n) 0 = some (.inr ()) := by
  apply Loop.done; simp [A9, Sl.len_l, Sl.l]
 simp [Bq, FS, e]
theorem qt {b : AA} {boy : Int} {x : AL} (hn : b.VoiceBook.Trials.l.length < 4611686018427387904) (hx : b.VoiceBook.Boys.ix boy = some x) (t : T5) (ht : t.lo ≠ -1) : Bg b boy t.ar (Sl.nil : Sl Int) = some (Us b.VoiceBook boy x.Loss t) := by
 have e : Loop (BE b boy t.ar (Sl.nil : Sl Int)) 0 = some ((b.VoiceBook.Trials.l.findSome? fun y => if vn boy x.Loss t y then some (.inl false : Bool ⊕ Unit) else none).getD (.inr ())) := by
  refine Loop.find (fun i => i) b.VoiceBook.Trials.l _ hn rfl ?_ ?_
  ·intro pre a post h _ hW
   have hlt : (pre.length : Int) < b.VoiceBook.Trials.len := by rw [Sl.len_l, h]; simp; omega
   simp only [BE, decide_eq_true hlt, if_true, Sl.ix_at h, Option.bind_some, gx, wI, sK hx t ht, hW, vn]
   by_cases h1 : a.Boy = boy
   ·simp only [h1, decide_true, if_true, Bool.true_and]
    cases h2 : (gz x.Loss t a.Week a.Note != decide (a.Sang = 1)) <;> simp [h2]
   ·simp [h1]
  ·intro _
   simp [BE, Sl.len_l]
 simp only [Bg, e, Option.bind_some, Us]
 induction b.VoiceBook.Trials.l with
 | nil => rfl
 | cons y l ih =>
  cases hb : vn boy x.Loss t y with
  | true => simp [hb]
  | false => simpa [hb] using ih
end
end Go.Lf
