/- A part of the proof. -/
import Derived.Test.YtopknkghclncnaaGreatDoorx29
import Derived.Test.YtopknkghclncnaaGreatDoorx30
set_option linter.all false
namespace Go.Lf
open Go
noncomputable section
def Sr (x : AO) : Bool := Aw x.Low 40 2 && (Aw x.High 40 2 && (Aw x.Gain 2 1 && (Ak x.Loss 0 2 && (Aw x.Turn 6 2 && Aw x.Break 9 3))))
def Ui (b : VoiceBook) : Bool := Ak b.Boys.len 1 4 && (Ak b.Weeks 1 6 && decide (b.Trials.len ≤ 6))
def vOk (b : VoiceBook) : Bool := Ui b && (b.Boys.l.all Sr && b.Trials.l.all (EK b))
structure qu (b : VoiceBook) : Prop where
 boys : b.Boys.l.length < 4611686018427387904
 trials : b.Trials.l.length < 4611686018427387904
theorem LR {b : VoiceBook} (h : qu b) : Fp b = some (if vOk b then 0 else 20) := by
 have e1 : Loop (FK b) (Ui b, 0) = some (Ui b && b.Boys.l.all Sr) := by
  refine Cj (fun t i => (t, i)) b.Boys.l (fun pre => Ui b && pre.all Sr) h.boys (by simp) ?_ ?_
  ·intro pre a post hx hW
   simp [FK, Sl.ix_at hx, Sl.len_l, hx, hW, Sr, Bool.and_assoc]
   omega
  ·simp [FK, Sl.len_l]
 have e2 : Loop (FR b) (Ui b && b.Boys.l.all Sr, 0) = some (vOk b) := by
  refine Cj (fun t i => (t, i)) b.Trials.l (fun pre => (Ui b && b.Boys.l.all Sr) && pre.all (EK b)) h.trials (by simp) ?_ ?_
  ·intro pre a post hx hW
   simp [FR, Sl.ix_at hx, Sl.len_l, hx, hW, Bool.and_assoc]
   omega
  ·simp [FR, Sl.len_l, vOk, Bool.and_assoc]
 unfold Fp
 rw [show ((Ak b.Boys.len 1 4) && ((Ak b.Weeks 1 6) && (decide (b.Trials.len ≤ 6)))) = Ui b from rfl, e1, Option.bind_some, e2, Option.bind_some]
 cases vOk b <;> rfl
theorem tN (s : Fo) (a b : Int) : BR s 0 a b = Aw s a b := rfl
theorem mE (a b c : Int) : Ai a b c = Ak a b c := rfl
theorem tW (v : AO) : ((BR v.Low 0 40 2) && ((BR v.High 0 40 2) && ((BR v.Gain 0 2 1) && ((BR v.Turn 0 6 2) && ((Ai v.Loss 0 2) && (BR v.Break 0 9 3)))))) = Sr v := by
 simp only [Sr, tN, mE]; ac_rfl
theorem rr (b : VoiceBook) (x : AN) : NG b x = EK b x := rfl
theorem LA {b : VoiceBook} (h : qu b) : Ft b = some (if vOk b then 0 else 20) := by
 have e1 : Loop (Eb b) (Ui b, 0) = some (Ui b && b.Boys.l.all Sr) := by
  refine Loop.all (fun t i => (t, i)) b.Boys.l Sr id h.boys rfl ?_ ?_ ?_
  ·intro pre a post hx _ _ hW
   simp [Eb, Sl.ix_at hx, Sl.len_l, hx, hW, tW]
   omega
  ·simp [Eb, Sl.len_l]
  ·intro i; simp [Eb]
 have e2 : Loop (ET b) (Ui b && b.Boys.l.all Sr, 0) = some (vOk b) := by
  have : vOk b = (Ui b && b.Boys.l.all Sr && b.Trials.l.all (EK b)) := by simp [vOk, Bool.and_assoc]
  rw [this]
  refine Loop.all (fun t i => (t, i)) b.Trials.l (EK b) id h.trials rfl ?_ ?_ ?_
  ·intro pre a post hx _ _ hW
   simp [ET, Sl.ix_at hx, Sl.len_l, hx, hW, rr]
   omega
  ·simp [ET, Sl.len_l]
  ·intro i; simp [ET]
 unfold Ft
 rw [show ((Ai b.Boys.len 1 4) && ((Ai b.Weeks 1 6) && (decide (b.Trials.len ≤ 6)))) = Ui b from rfl, e1, Option.bind_some, e2, Option.bind_some]
 cases vOk b <;> rfl
end
end Go.Lf
namespace Go.Lf
open Go
noncomputable section
def rng (s : Fo) : List Int := (List.range (s.High - s.Low + 1).toNat).map fun (i : Nat) => s.Low + (i : Int)
theorem pR {s : Fo} {pre post : List Int} {a : Int} (h : rng s = pre ++ a :: post) : a = s.Low + pre.length := by
 have h1 : (rng s)[pre.length]? = some a := by rw [h]; simp
 simp only [rng, List.getElem?_map, Option.map_eq_some_iff] at h1
 obtain ⟨i, h2, rfl⟩ := h1
 have := List.getElem?_eq_some_iff.mp h2
 obtain ⟨hl, h3⟩ := this
 simp at h3
 omega
theorem Jn (s : Fo) : (rng s).length = (s.High - s.Low + 1).toNat := by simp [rng]
theorem Nk {s : Fo} {a : Int} : a ∈ rng s ↔ s.Low ≤ a ∧ a ≤ s.High := by
 simp only [rng, List.mem_map, List.mem_range]
 constructor
 ·rintro ⟨i, hi, rfl⟩; omega
 ·rintro ⟨h1, h2⟩; exact ⟨(a - s.Low).toNat, by omega, by omega⟩
structure T5 where
 lo : Int
 hi : Int
 ga : Int
 tu : Int
 br : Int
 deriving DecidableEq
def T5.ar (t : T5) : Ar 5 Int := ⟨[t.lo, t.hi, t.ga, t.tu, t.br], rfl⟩
def T5.rv (loss : Int) (t : T5) : AD := ⟨t.lo, t.hi, t.ga, t.tu, loss, t.br⟩
def AA8 (loss : Int) (t : T5) (week : Int) : Int := W ((W (t.hi + (W (min week t.tu * t.ga)))) - (W ((W (week - min week t.tu)) * loss)))
def bj (loss : Int) (t : T5) (week note : Int) : Bool := decide (week < t.br) && Ak note t.lo (AA8 loss t week)
def yB (boy loss : Int) (t : T5) (x : AN) : Bool := decide (x.Boy = boy) && (bj loss t x.Week x.Note != decide (x.Sang = 1))
def MA (b : VoiceBook) (boy loss : Int) (t : T5) : Bool := b.Trials.l.all fun x => !yB boy loss t x
theorem tr (a v : Int) : HD a (Sl.cold [v]) = some (min a v) := by
 have e : Loop (FI (Sl.cold [v])) (a, 0) = some (min a v) := by
  refine Cj (fun t i => (t, i)) [v] (fun pre => pre.foldl min a) (by simp) rfl ?_ ?_
  ·intro pre x post hx hW
   have : (Sl.cold [v]).l = pre ++ x :: post := hx
   simp [FI, Sl.ix_at this, Sl.len_l, this, hW, List.foldl_append]
   omega
  ·simp [FI, Sl.len_l, Sl.l]
 simp [HD, e]
theorem zw (t : T5) : t.ar.ix 0 = some t.lo ∧ t.ar.ix 1 = some t.hi ∧ t.ar.ix 2 = some t.ga ∧ t.ar.ix 3 = some t.tu ∧ t.ar.ix 4 = some t.br := ⟨rfl, rfl, rfl, rfl, rfl⟩
theorem zb {b : AB} {boy : Int} {x : AO} (hx : b.VoiceBook.Boys.ix boy = some x) (t : T5) (week : Int) : Gx b boy t.ar week = some (AA8 x.Loss t week) := by
 obtain ⟨h0, h1, h2, h3, h4⟩ := zw t
 simp [Gx, h0, h1, h2, h3, h4, tr, hx, AA8]
theorem vu (t : T5) (h : t.lo ≠ -1) : decide (Bq.key t.ar = Bq.key (⟨[(-1), (-1), (-1), (-1), (-1)], rfl⟩ : (Ar 5 Int))) = false := by
 rw [decide_eq_false_iff_not]
 intro e
 have : ([t.lo, t.hi, t.ga, t.tu, t.br] : List Int) = [-1, -1, -1, -1, -1] := e
 simp at this
 exact h this.1
theorem wz {b : AB} {boy : Int} {x : AO} (hx : b.VoiceBook.Boys.ix boy = some x) (t : T5) (ht : t.lo ≠ -1) (week note : Int) : Ea b boy t.ar week note = some (bj x.Loss t week note) := by
 obtain ⟨h0, h1, h2, h3, h4⟩ := zw t
 unfold Ea
 rw [vu t ht]
 by_cases hw : week < t.br
 ·simp [h0, h4, hw, zb hx, bj]
 ·simp [h4, hw, bj]
theorem AAn (b : AB) (boy : Int) (v : Ar 5 Int) (week note : Int) : G2 b boy v week note = Ea b boy v week note := rfl
theorem jY (n : Int) : B9 (Sl.nil : Sl Int) n = some false := by
 have e : Loop (BN (Sl.nil : Sl Int) n) 0 = some (.inr ()) := by
  apply Loop.done; simp [BN, Sl.len_l, Sl.l]
 simp [B9, JD, e]
theorem vz {b : AB} {boy : Int} {x : AO} (hn : b.VoiceBook.Trials.l.length < 4611686018427387904) (hx : b.VoiceBook.Boys.ix boy = some x) (t : T5) (ht : t.lo ≠ -1) : C0 b boy t.ar (Sl.nil : Sl Int) = some (MA b.VoiceBook boy x.Loss t) := by
 have e : Loop (Bt b boy t.ar (Sl.nil : Sl Int)) 0 = some ((b.VoiceBook.Trials.l.findSome? fun y => if yB boy x.Loss t y then some (.inl false : Bool ⊕ Unit) else none).getD (.inr ())) := by
  refine Loop.find (fun i => i) b.VoiceBook.Trials.l _ hn rfl ?_ ?_
  ·intro pre a post h _ hW
   have hlt : (pre.length : Int) < b.VoiceBook.Trials.len := by rw [Sl.len_l, h]; simp; omega
   simp only [Bt, decide_eq_true hlt, if_true, Sl.ix_at h, Option.bind_some, jY, AAn, wz hx t ht, hW, yB]
   by_cases h1 : a.Boy = boy
   ·simp only [h1, decide_true, if_true, Bool.true_and]
    cases h2 : (bj x.Loss t a.Week a.Note != decide (a.Sang = 1)) <;> simp [h2]
   ·simp [h1]
  ·intro _
   simp [Bt, Sl.len_l]
 simp only [C0, e, Option.bind_some, MA]
 induction b.VoiceBook.Trials.l with
 | nil => rfl
 | cons y l ih =>
  cases hb : yB boy x.Loss t y with
  | true => simp [hb]
  | false => simpa [hb] using ih
theorem uM (loss : Int) (t : T5) (week note : Int) : Rt (t.rv loss) week note = bj loss t week note := rfl
theorem oG (i : Int) : F3 0 i = some false := by
 unfold F3
 by_cases h0 : 0 ≤ i
 ·by_cases h1 : i < 62
  ·have hs : opI .shr 0 i = some 0 := by
    obtain ⟨n, rfl⟩ := Int.eq_ofNat_of_zero_le h0
    have : n < 62 := by omega
    have key : ∀ m : _root_.Fin 62, opI .shr 0 (m.val : Int) = some 0 := by decide
    exact key ⟨n, this⟩
   have ha : opI .and 0 1 = some 0 := by decide
   simp [h0, h1, hs, ha]
  ·simp [h0, h1]
 ·simp [h0]
theorem t9 {b : VoiceBook} (hn : b.Trials.l.length < 4611686018427387904) (boy loss : Int) (t : T5) : J8 b boy (t.rv loss) 0 = some (MA b boy loss t) := by
 have e : Loop (FH b boy (t.rv loss) 0) 0 = some ((b.Trials.l.findSome? fun y => if yB boy loss t y then some (.inl false : Bool ⊕ Unit) else none).getD (.inr ())) := by
  refine Loop.find (fun i => i) b.Trials.l _ hn rfl ?_ ?_
  ·intro pre a post h _ hW
   have hlt : (pre.length : Int) < b.Trials.len := by rw [Sl.len_l, h]; simp; omega
   simp only [FH, decide_eq_true hlt, if_true, Sl.ix_at h, Option.bind_some, oG, uM, hW, yB]
   by_cases h1 : a.Boy = boy
   ·simp only [h1, decide_true, if_true, Bool.true_and]
    cases h2 : (bj loss t a.Week a.Note != decide (a.Sang = 1)) <;> simp [h2]
   ·simp [h1]
  ·intro _
   simp [FH, Sl.len_l]
 simp only [J8, e, Option.bind_some, MA]
 induction b.Trials.l with
 | nil => rfl
 | cons y l ih =>
  cases hb : yB boy loss t y with
  | true => simp [hb]
  | false => simpa [hb] using ih
end
end Go.Lf
