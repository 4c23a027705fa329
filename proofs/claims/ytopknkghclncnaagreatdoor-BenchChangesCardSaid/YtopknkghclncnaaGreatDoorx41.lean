/- A part of the proof. -/
import Derived.Test.YtopknkghclncnaaGreatDoorx40
set_option linter.all false
namespace Go.Lf
open Go Go.Lf.Pl
noncomputable section
theorem yX {n : Nat} (h : n ≤ 1000000000000) : Jf n 24 = true := by
 unfold Jf; rw [decide_eq_true_iff]; omega
theorem Ni (x y : Sl Int) (hn : x.l.length < 4611686018427387904) : BW x y = some (decide (x.l = y.l)) := by
 have e : Loop (B2 x y) (decide (x.len = y.len), 0) = some (decide (x.l = y.l)) := by
  by_cases hl : x.l.length = y.l.length
  ·have h0 : decide (x.len = y.len) = true := by simp [Sl.len_l, hl]
   rw [h0]
   have main : ∀ post pre, x.l = pre ++ post → x.l.take pre.length = y.l.take pre.length → Loop (B2 x y) (true, (pre.length : Int)) = some (decide (x.l = y.l)) := by
    intro post
    induction post with
    | nil =>
     intro pre h ht
     have hlt : ¬ (pre.length : Int) < x.len := by rw [Sl.len_l, h]; simp
     have : x.l = y.l := by
      rw [List.take_of_length_le (by rw [h]; simp), List.take_of_length_le (by rw [← hl, h]; simp)] at ht
      exact ht
     rw [decide_eq_true this]
     exact Loop.done (by simp [B2, hlt])
    | cons a post ih =>
     intro pre h ht
     have hlt : (pre.length : Int) < x.len := by rw [Sl.len_l, h]; simp; omega
     have hlx : pre.length < x.l.length := by rw [h]; simp
     have hW : W ((pre.length : Int) + 1) = (pre.length : Int) + 1 := Ig (by omega)
     have hy : y.ix (pre.length : Int) = some (y.l[pre.length]'(by omega)) := by rw [Sl.ix_nat]; simp
     have hxa : x.l[pre.length]'hlx = a := by
      have : x.l[pre.length]? = some a := by rw [h]; simp
      rw [List.getElem?_eq_getElem hlx] at this
      exact Option.some.inj this
     have hf : B2 x y (true, pre.length) = some (.inl (decide (a = y.l[pre.length]'(by omega)), (pre.length : Int) + 1)) := by
      simp only [B2, Bool.true_and, decide_eq_true hlt, if_true, Sl.ix_at h, Option.bind_some, hy, hW]
     rw [Loop.step hf]
     by_cases hc : a = y.l[pre.length]'(by omega)
     ·rw [decide_eq_true hc]
      have := ih (pre ++ [a]) (by rw [h]; simp) (by
       rw [List.length_append, List.length_singleton, List.take_succ_eq_append_getElem hlx, List.take_succ_eq_append_getElem (by omega), ht, hxa, ← hc])
      simpa using this
     ·rw [decide_eq_false hc]
      have : ¬ x.l = y.l := by
       intro he; apply hc; rw [← hxa]; congr 1
      rw [decide_eq_false this]
      exact Loop.done (by simp [B2])
   exact main x.l [] rfl (by simp)
  ·have h0 : decide (x.len = y.len) = false := by simp [Sl.len_l]; omega
   have h1 : ¬ x.l = y.l := by intro h; apply hl; rw [h]
   rw [h0, decide_eq_false h1]
   exact Loop.done (by simp [B2])
 simp only [BW, e, Option.bind_some]
def Fa : List Int → List Int → Bool
 | a :: x, b :: y => if a = b then Fa x y else decide (a < b)
 | x, y => decide (x.length < y.length)
theorem jt (y : List Int) : Fa [] y = decide (0 < y.length) := by cases y <;> rfl
theorem dq (x : List Int) : Fa x [] = decide (x.length < 0) := by cases x <;> rfl
theorem UX (x y : Sl Int) (hn : x.l.length < 4611686018427387904) : E7 x y = some (Fa x.l y.l) := by
 have main : ∀ px qx py qy, x.l = px ++ qx → y.l = py ++ qy → px.length = py.length → ∃ r, Loop (BP x y) (px.length : Int) = some r ∧ (match r with | .inl w => w | .inr _ => decide (x.len < y.len)) = Fa qx qy := by
  intro px qx
  induction qx generalizing px with
  | nil =>
   intro py qy hx hy hp
   have hlt : ¬ (px.length : Int) < x.len := by rw [Sl.len_l, hx]; simp
   refine ⟨.inr (), Loop.done (by simp [BP, hlt]), ?_⟩
   rw [jt]
   simp only [Sl.len_l, hx, hy, List.append_nil, List.length_append]
   rw [decide_eq_decide]; omega
  | cons a qx ih =>
   intro py qy hx hy hp
   have hlx : (px.length : Int) < x.len := by rw [Sl.len_l, hx]; simp; omega
   cases qy with
   | nil =>
    have hly : ¬ (px.length : Int) < y.len := by rw [Sl.len_l, hy]; simp; omega
    refine ⟨.inr (), Loop.done (by simp [BP, hly]), ?_⟩
    rw [dq]
    simp only [Sl.len_l, hx, hy, List.append_nil, List.length_append]
    rw [decide_eq_decide]; simp; omega
   | cons c qy =>
    have hly : (px.length : Int) < y.len := by rw [Sl.len_l, hy]; simp; omega
    have hW : W ((px.length : Int) + 1) = (px.length : Int) + 1 := Ig (by rw [hx] at hn; simp at hn; omega)
    have hyi : y.ix px.length = some c := by rw [hp]; exact Sl.ix_at hy
    by_cases hc : a = c
    ·have hf : BP x y px.length = some (.inl ((px.length : Int) + 1)) := by
      simp only [BP, decide_eq_true hlx, decide_eq_true hly, Bool.and_self, if_true, Sl.ix_at hx, hyi, Option.bind_some, decide_eq_true hc, hW]
     obtain ⟨r, h1, h2⟩ := ih (px ++ [a]) (py ++ [c]) qy (by rw [hx]; simp) (by rw [hy]; simp) (by simp [hp])
     refine ⟨r, ?_, ?_⟩
     ·rw [Loop.step hf]; simpa using h1
     ·rw [h2]; simp [Fa, hc]
    ·have hf : BP x y px.length = some (.inr (.inl (decide (a < c)))) := by
      simp only [BP, decide_eq_true hlx, decide_eq_true hly, Bool.and_self, if_true, Sl.ix_at hx, hyi, Option.bind_some, decide_eq_false hc, Bool.false_eq_true, if_false]
     exact ⟨_, Loop.done hf, by simp [Fa, hc]⟩
 obtain ⟨r, h1, h2⟩ := main [] x.l [] y.l rfl rfl rfl
 have h1' : Loop (BP x y) 0 = some r := h1
 simp only [E7, h1', Option.bind_some]
 rw [← h2]
 cases r <;> rfl
def P5 (x y : List Int) : Bool := decide (x.length < y.length) || (decide (x.length = y.length) && Fa x y)
theorem ru (x y : Sl Int) (hn : x.l.length < 4611686018427387904) : He x y = some (P5 x.l y.l) := by
 simp only [He, Sl.len_l, UX x y hn, Option.bind_some, P5]
 by_cases h1 : x.l.length < y.l.length
 ·simp [h1]
 ·by_cases h2 : x.l.length = y.l.length
  ·simp [h2]
  ·have h3 : ¬ (x.l.length : Int) = y.l.length := by omega
   have h4 : ¬ (x.l.length : Int) < y.l.length := by omega
   simp [h1, h2, h3, h4]
theorem gr (a : Sl Int) (hn : a.l.length < 4611686018427387904) (n : Int) : ∃ v, E2 a n = some v ∧ decide (v < 0) = !a.l.contains n := by
 have e : Loop (B6 a n) 0 = some (match a.l.findIdx? (fun y => n == y) with | some i => .inl (i : Int) | none => .inr ()) := by
  have main : ∀ post pre, a.l = pre ++ post → Loop (B6 a n) (pre.length : Int) = some (match post.findIdx? (fun y => n == y) with | some i => .inl ((pre.length + i : Nat) : Int) | none => .inr ()) := by
   intro post
   induction post with
   | nil =>
    intro pre h
    have hl : ¬ (pre.length : Int) < a.len := by rw [Sl.len_l, h]; simp
    exact Loop.done (by simp only [B6, decide_eq_false hl, Bool.false_eq_true, if_false]; rfl)
   | cons y post ih =>
    intro pre h
    have hl : (pre.length : Int) < a.len := by rw [Sl.len_l, h]; simp; omega
    have hW : W ((pre.length : Int) + 1) = (pre.length : Int) + 1 := Ig (by rw [h] at hn; simp at hn; omega)
    by_cases hc : n = y
    ·have hf : B6 a n pre.length = some (.inr (.inl (pre.length : Int))) := by
      simp only [B6, decide_eq_true hl, if_true, Sl.ix_at h, Option.bind_some, hc, decide_true]
     rw [Loop.done hf]
     simp [List.findIdx?_cons, hc]
    ·have hf : B6 a n pre.length = some (.inl ((pre.length : Int) + 1)) := by
      have hc' : ¬ y = n := fun h => hc h.symm
      simp only [B6, decide_eq_true hl, if_true, Sl.ix_at h, Option.bind_some, decide_eq_false hc', Bool.false_eq_true, if_false, hW]
     rw [Loop.step hf]
     have := ih (pre ++ [y]) (by rw [h]; simp)
     simp only [List.length_append, List.length_cons, List.length_nil, Nat.zero_add] at this
     rw [show ((pre.length : Int) + 1) = ((pre.length + 1 : Nat) : Int) by simp, this]
     have hb : (n == y) = false := by simpa using hc
     simp only [List.findIdx?_cons, hb, Bool.false_eq_true, if_false]
     cases post.findIdx? (fun y => n == y) with
     | none => rfl
     | some i => simp; omega
  have := main a.l [] rfl
  simpa using this
 have hany : a.l.contains n = (a.l.findIdx? (fun y => n == y)).isSome := by
  rw [List.findIdx?_isSome, List.contains_eq_any_beq]
 simp only [E2, e, Option.bind_some, hany]
 cases a.l.findIdx? (fun y => n == y) with
 | none => exact ⟨-1, rfl, by simp⟩
 | some i => exact ⟨(i : Int), rfl, by simp⟩
theorem oj (x y : AA) : (if decide ([x.Piece, x.Part, x.Boy] = [y.Piece, y.Part, y.Boy]) = true then false else Fa [x.Piece, x.Part, x.Boy] [y.Piece, y.Part, y.Boy]) = (if x = y then false else lt3 x y) := by
 by_cases hxy : x = y
 ·subst hxy; simp
 ·rw [if_neg hxy]
  have h1 : ¬ [x.Piece, x.Part, x.Boy] = [y.Piece, y.Part, y.Boy] := by
   intro h; simp at h; exact hxy (PZ h.1 h.2.1 h.2.2)
  rw [if_neg (by simpa using h1)]
  rw [Bool.eq_iff_iff, Nl]
  have hne : ¬ (x.Piece = y.Piece ∧ x.Part = y.Part ∧ x.Boy = y.Boy) := fun h => hxy (PZ h.1 h.2.1 h.2.2)
  by_cases e1 : x.Piece = y.Piece
  ·by_cases e2 : x.Part = y.Part
   ·have e3 : ¬ x.Boy = y.Boy := fun h => hne ⟨e1, e2, h⟩
    simp [Fa, e1, e2, e3]
   ·simp [Fa, e1, e2]
  ·simp [Fa, e1]
theorem uu (x y : Sl AA) (hn : x.l.length < 4611686018427387904) : I2 x y = some (Bl x.l y.l) := by
 have main : ∀ px qx py qy, x.l = px ++ qx → y.l = py ++ qy → px.length = py.length → ∃ r, Loop (BV x y) (px.length : Int) = some r ∧ (match r with | .inl w => w | .inr _ => decide (x.len < y.len)) = Bl qx qy := by
  intro px qx
  induction qx generalizing px with
  | nil =>
   intro py qy hx hy hp
   have hlt : ¬ (px.length : Int) < x.len := by rw [Sl.len_l, hx]; simp
   refine ⟨.inr (), Loop.done (by simp [BV, hlt]), ?_⟩
   simp only [Sl.len_l, hx, hy, List.append_nil, List.length_append]
   cases qy with
   | nil => simp [Bl]; omega
   | cons c qy => simp [Bl]; omega
  | cons a qx ih =>
   intro py qy hx hy hp
   have hlx : (px.length : Int) < x.len := by rw [Sl.len_l, hx]; simp; omega
   cases qy with
   | nil =>
    have hly : ¬ (px.length : Int) < y.len := by rw [Sl.len_l, hy]; simp; omega
    refine ⟨.inr (), Loop.done (by simp [BV, hly]), ?_⟩
    simp only [Sl.len_l, hx, hy, List.append_nil, List.length_append, Bl]
    simp; omega
   | cons c qy =>
    have hly : (px.length : Int) < y.len := by rw [Sl.len_l, hy]; simp; omega
    have hW : W ((px.length : Int) + 1) = (px.length : Int) + 1 := Ig (by rw [hx] at hn; simp at hn; omega)
    have hyi : y.ix px.length = some c := by rw [hp]; exact Sl.ix_at hy
    have h3 := oj a c
    have heq := Ni (Sl.cold [a.Piece, a.Part, a.Boy]) (Sl.cold [c.Piece, c.Part, c.Boy]) (by simp [Sl.l])
    have hea := UX (Sl.cold [a.Piece, a.Part, a.Boy]) (Sl.cold [c.Piece, c.Part, c.Boy]) (by simp [Sl.l])
    simp only [Sl.l_cold] at heq hea
    by_cases hc : a = c
    ·have heq' : BW (Sl.cold [a.Piece, a.Part, a.Boy]) (Sl.cold [c.Piece, c.Part, c.Boy]) = some true := by
      rw [heq]; congr 1; exact decide_eq_true (by rw [hc])
     have hf : BV x y px.length = some (.inl ((px.length : Int) + 1)) := by
      simp only [BV, decide_eq_true hlx, decide_eq_true hly, Bool.and_self, if_true, Sl.ix_at hx, hyi, Option.bind_some, heq', hW]
     obtain ⟨r, h1, h2⟩ := ih (px ++ [a]) (py ++ [c]) qy (by rw [hx]; simp) (by rw [hy]; simp) (by simp [hp])
     refine ⟨r, ?_, ?_⟩
     ·rw [Loop.step hf]; simpa using h1
     ·rw [h2]; simp [Bl, hc]
    ·have hne : ¬ [a.Piece, a.Part, a.Boy] = [c.Piece, c.Part, c.Boy] := by
      intro h; simp at h; exact hc (PZ h.1 h.2.1 h.2.2)
     rw [if_neg (by simpa using hne), if_neg hc] at h3
     have heq' : BW (Sl.cold [a.Piece, a.Part, a.Boy]) (Sl.cold [c.Piece, c.Part, c.Boy]) = some false := by
      rw [heq]; congr 1; exact decide_eq_false hne
     have hf : BV x y px.length = some (.inr (.inl (lt3 a c))) := by
      simp only [BV, decide_eq_true hlx, decide_eq_true hly, Bool.and_self, if_true, Sl.ix_at hx, hyi, Option.bind_some, heq', Bool.false_eq_true, if_false, hea, h3]
     exact ⟨_, Loop.done hf, by simp [Bl, hc]⟩
 obtain ⟨r, h1, h2⟩ := main [] x.l [] y.l rfl rfl rfl
 have h1' : Loop (BV x y) 0 = some r := h1
 simp only [I2, h1', Option.bind_some]
 rw [← h2]
 cases r <;> rfl
theorem sZ {L : Sl (Sl AA)} {a : Sl AA} {r : List (Sl AA)} (hL : L.l = a :: r) (hn : L.l.length < 4611686018427387904) (hx : ∀ x ∈ L.l, x.l.length < 4611686018427387904) : ∃ s, HC L = some s ∧ s.l = G5 (L.l.map Sl.l) a.l := by
 have h0 : L.ix 0 = some a := by
  have := Sl.ix_at (pre := []) (x := L) hL
  simpa using this
 have main : ∀ post pre (best : Sl AA), L.l = pre ++ post → ∃ s, Loop (Di L) (best, (pre.length : Int)) = some s ∧ s.l = G5 (post.map Sl.l) best.l := by
  intro post
  induction post with
  | nil =>
   intro pre best h
   have hlt : ¬ (pre.length : Int) < L.len := by rw [Sl.len_l, h]; simp
   exact ⟨best, Loop.done (by simp [Di, hlt]), rfl⟩
  | cons c post ih =>
   intro pre best h
   have hlt : (pre.length : Int) < L.len := by rw [Sl.len_l, h]; simp; omega
   have hW : W ((pre.length : Int) + 1) = (pre.length : Int) + 1 := Ig (by rw [h] at hn; simp at hn; omega)
   have hso := uu c best (hx c (by rw [h]; simp))
   have hf : Di L (best, pre.length) = some (.inl ((if Bl c.l best.l then c else best), (pre.length : Int) + 1)) := by
    simp only [Di, decide_eq_true hlt, if_true, Sl.ix_at h, Option.bind_some, hso, hW]
    cases Bl c.l best.l <;> rfl
   obtain ⟨s, h1, h2⟩ := ih (pre ++ [c]) (if Bl c.l best.l then c else best) (by rw [h]; simp)
   refine ⟨s, ?_, ?_⟩
   ·rw [Loop.step hf]; simpa using h1
   ·rw [h2]
    simp only [List.map_cons, G5]
    cases Bl c.l best.l <;> rfl
 obtain ⟨s, h1, h2⟩ := main L.l [] a rfl
 refine ⟨s, ?_, h2⟩
 have h1' : Loop (Di L) (a, 0) = some s := h1
 simp only [HC, h0, Option.bind_some, h1']
def LQ (b : BenchBook) (x : List AA) : Prop := ∀ s ∈ x, (0 ≤ s.Piece ∧ s.Piece < b.Pieces.l.length) ∧ (0 ≤ s.Boy ∧ s.Boy < b.Voice.Boys.l.length)
theorem O5 {α β : Type} {p : α → Bool} {r : β} (l : List α) : (l.findSome? fun x => if p x then none else some r) = if l.all p then none else some r := by
 induction l with
 | nil => rfl
 | cons a l ih =>
  by_cases h : p a = true
  ·simp [h, ih]
  ·simp [h]
theorem oP {b : BenchBook} (hv : Ek b) (x : Sl AA) (hn : x.l.length < 4611686018427387904) (hx : LQ b x.l) : IZ b x = some (rest (Aj b) b.Most.toNat x.l) := by
 have hb4 := hv.voice.boys
 have hw6 := hv.voice.weeks
 have hm := hv.most
 have e3 : ∀ boy week : Int, Loop (FS b x boy week) (0, 0) = some ((DR (Aj b) x.l week boy : Nat) : Int) := by
  intro boy week
  refine Cj (fun t i => (t, i)) x.l (fun pre => ((DR (Aj b) pre week boy : Nat) : Int)) hn rfl ?_ ?_
  ·intro pre s post hpre hW
   have hlt : (pre.length : Int) < x.len := by rw [Sl.len_l, hpre]; simp; omega
   have hs := hx s (by rw [hpre]; simp)
   obtain ⟨y, hy, hym⟩ := MF hs.1.1 hs.1.2
   have hwk : Aj b s.Piece = y.Week := by simp [Aj, hy]
   have hle : DR (Aj b) pre week boy ≤ pre.length := List.countP_le_length
   have hWs : W (((DR (Aj b) pre week boy : Nat) : Int) + 1) = ((DR (Aj b) pre week boy : Nat) : Int) + 1 := Ig (by rw [hpre] at hn; simp at hn; omega)
   have hsn : DR (Aj b) (pre ++ [s]) week boy = DR (Aj b) pre week boy + (if s.Boy = boy ∧ y.Week = week then 1 else 0) := by
    rw [HE]
    congr 1
    simp only [DR, List.countP_cons, List.countP_nil, hwk]
    by_cases hc : s.Boy = boy ∧ y.Week = week
    ·simp [hc.1, hc.2]
    ·rw [if_neg hc]
     have : ¬ ((y.Week == week && s.Boy == boy) = true) := by simp; intro h1 h2; exact hc ⟨h2, h1⟩
     simp [this]
   rw [hsn]
   simp only [FS, decide_eq_true hlt, if_true, Sl.ix_at hpre, Option.bind_some, hy, hW, hWs]
   by_cases h1 : s.Boy = boy
   ·by_cases h2 : y.Week = week
    ·simp [h1, h2]
    ·simp [h1, h2]
   ·simp [h1]
  ·have hlt : ¬ (x.l.length : Int) < x.len := by rw [Sl.len_l]; omega
   simp only [FS, decide_eq_false hlt, Bool.false_eq_true, if_false]
 have e2 : ∀ boy : Int, Loop (EV b x boy) 0 = some (if (idx b.Voice.Weeks.toNat).all (fun week => decide (DR (Aj b) x.l week boy ≤ b.Most.toNat)) then .inr () else .inl false) := by
  intro boy
  have := Loop.find (f := EV b x boy) (fun i => i) (idx b.Voice.Weeks.toNat) (fun week => if decide (DR (Aj b) x.l week boy ≤ b.Most.toNat) then none else some (.inl false : Bool ⊕ Unit)) (x0 := 0) (r0 := .inr ()) (by rw [AQ]; omega) rfl (by
   intro pre week post hpre _ hW
   obtain ⟨ha, hlt⟩ := IG hpre
   subst ha
   have hltw : (pre.length : Int) < b.Voice.Weeks := by omega
   simp only [EV, decide_eq_true hltw, if_true, e3, Option.bind_some, hW]
   by_cases hc : DR (Aj b) x.l (pre.length : Int) boy ≤ b.Most.toNat
   ·have h1 : ¬ b.Most < ((DR (Aj b) x.l (pre.length : Int) boy : Nat) : Int) := by omega
    simp [hc, h1]
   ·have h1 : b.Most < ((DR (Aj b) x.l (pre.length : Int) boy : Nat) : Int) := by omega
    simp [hc, h1]) (by
   intro _
   have hltw : ¬ ((idx b.Voice.Weeks.toNat).length : Int) < b.Voice.Weeks := by rw [AQ]; omega
   simp only [EV, decide_eq_false hltw, Bool.false_eq_true, if_false])
  rw [this, O5]
  split <;> rfl
 have e1 : Loop (ER b x) 0 = some (if (idx b.Voice.Boys.l.length).all (fun boy => (idx b.Voice.Weeks.toNat).all (fun week => decide (DR (Aj b) x.l week boy ≤ b.Most.toNat))) then .inr () else .inl false) := by
  have := Loop.find (f := ER b x) (fun i => i) (idx b.Voice.Boys.l.length) (fun boy => if (idx b.Voice.Weeks.toNat).all (fun week => decide (DR (Aj b) x.l week boy ≤ b.Most.toNat)) then none else some (.inl false : Bool ⊕ Unit)) (x0 := 0) (r0 := .inr ()) (by rw [AQ]; omega) rfl (by
   intro pre boy post hpre _ hW
   obtain ⟨ha, hlt⟩ := IG hpre
   subst ha
   have hltw : (pre.length : Int) < b.Voice.Boys.len := by rw [Sl.len_l]; exact hlt
   simp only [ER, decide_eq_true hltw, if_true, e2, Option.bind_some, hW]
   by_cases hc : (idx b.Voice.Weeks.toNat).all (fun week => decide (DR (Aj b) x.l week (pre.length : Int) ≤ b.Most.toNat)) = true
   ·simp only [hc, if_true]
   ·simp only [hc, Bool.false_eq_true, if_false]) (by
   intro _
   have hltw : ¬ ((idx b.Voice.Boys.l.length).length : Int) < b.Voice.Boys.len := by rw [AQ, Sl.len_l]; omega
   simp only [ER, decide_eq_false hltw, Bool.false_eq_true, if_false])
  rw [this, O5]
  split <;> rfl
 have hall : (idx b.Voice.Boys.l.length).all (fun boy => (idx b.Voice.Weeks.toNat).all (fun week => decide (DR (Aj b) x.l week boy ≤ b.Most.toNat))) = rest (Aj b) b.Most.toNat x.l := by
  rw [Bool.eq_iff_iff, TM]
  simp only [List.all_eq_true, decide_eq_true_eq]
  constructor
  ·intro h s hs
   have h1 := hx s hs
   obtain ⟨y, hy, hym⟩ := MF h1.1.1 h1.1.2
   have hwk : Aj b s.Piece = y.Week := by simp [Aj, hy]
   have := hv.week y hym
   exact h s.Boy (G7.mpr h1.2) _ (G7.mpr (by rw [hwk]; omega))
  ·intro h boy _ week _
   by_cases h0 : DR (Aj b) x.l week boy = 0
   ·omega
   ·have h1 : 0 < DR (Aj b) x.l week boy := by omega
    obtain ⟨s, hs, hp⟩ := List.countP_pos_iff.mp h1
    simp only [Bool.and_eq_true, beq_iff_eq] at hp
    have := h s hs
    rwa [hp.1, hp.2] at this
 simp only [IZ, e1, Option.bind_some, hall]
 cases rest (Aj b) b.Most.toNat x.l <;> rfl
end
end Go.Lf
namespace Go.Lf
open Go Go.Lf.Pl
noncomputable section
theorem Xu (p : Int) : ∀ (ps : List (Int × Nat × List Int)) (sm x : List AA), x ∈ DK p ps sm → (∀ s ∈ x, s ∈ sm ∨ (s.Piece = p ∧ ∃ q ∈ ps, s.Boy ∈ q.2.2)) ∧ ((∀ q ∈ ps, q.2.2.length ≤ 4) → x.length ≤ sm.length + 4 * ps.length)
 | [], sm, x, h => by
  simp only [DK, List.mem_singleton] at h
  subst h
  exact ⟨fun s hs => .inl hs, fun _ => by simp⟩
 | (k, m, l) :: r, sm, x, h => by
  simp only [DK, List.mem_flatMap, bp, List.mem_map] at h
  obtain ⟨c, ⟨set, _, rfl⟩, hx⟩ := h
  split at hx
  ·obtain ⟨h1, h2⟩ := Xu p r _ x hx
   refine ⟨fun s hs => ?_, fun hl => ?_⟩
   ·rcases h1 s hs with h | ⟨h3, q, hq, h4⟩
    ·rcases List.mem_append.mp h with h | h
     ·exact .inl h
     ·simp only [A5, List.mem_map] at h
      obtain ⟨y, hy, rfl⟩ := h
      exact .inr ⟨rfl, (k, m, l), List.mem_cons_self, vO hy⟩
    ·exact .inr ⟨h3, q, List.mem_cons_of_mem _ hq, h4⟩
   ·have h3 := h2 fun q hq => hl q (List.mem_cons_of_mem _ hq)
    have h4 := W0 l set
    have h5 := hl (k, m, l) List.mem_cons_self
    simp only [A5, List.length_append, List.length_map, List.length_cons] at h3 ⊢
    simp only at h5
    omega
  ·cases hx
theorem pS {b : BenchBook} (hv : Ek b) (a : Sl Int) (hn : a.l.length < 4611686018427387904) : Eg b a = some (Sl.hot (Gw b a.l)) := by
 have h3 := hv.pieces
 have e : Loop (GQ b a) (Sl.hot [], 0) = some (Sl.hot (Gw b a.l)) := by
  refine Cj (fun t i => (t, i)) (idx b.Pieces.l.length) (fun pre => Sl.hot (pre.filter fun p => !a.l.contains p)) (by rw [AQ]; omega) rfl ?_ ?_
  ·intro pre p post hpre hW
   obtain ⟨hpl, hlt0⟩ := IG hpre
   have hlt : (pre.length : Int) < b.Pieces.len := by rw [Sl.len_l]; exact hlt0
   have hle := List.length_filter_le (fun p => !a.l.contains p) pre
   have hlen : (pre.filter fun p => !a.l.contains p).length + ([(pre.length : Int)] : List Int).length ≤ 1000000000 := by rw [List.length_singleton]; omega
   obtain ⟨v, hv1, hv2⟩ := gr a hn (pre.length : Int)
   rw [E4, hpl]
   simp only [GQ, decide_eq_true hlt, if_true, hv1, Option.bind_some, hW, hv2]
   by_cases hc : a.l.contains (pre.length : Int) = true
   ·simp only [hc, if_true, Bool.not_true, Bool.false_eq_true, if_false, List.append_nil]
   ·have hc' : a.l.contains (pre.length : Int) = false := by simpa using hc
    simp only [hc', Bool.false_eq_true, if_false, Sl.app_hot (q := 8) (A8 hlen (by omega)), Option.bind_some, Bool.not_false, if_true]
  ·have hlt : ¬ ((idx b.Pieces.l.length).length : Int) < b.Pieces.len := by rw [Sl.len_l, AQ]; omega
   simp only [GQ, decide_eq_false hlt, Bool.false_eq_true, if_false, Gw]
 simp only [Eg, e, Option.bind_some]
def sH (b : BenchBook) (ex : Int → Bool) (ps : List Int) : List (Int × List (Int × Nat × List Int)) := ps.map fun p => (p, Pq b ex p (CG b p) 0)
theorem TE (wk : Int → Int) (most : Nat) : ∀ (A B : List (Int × List (Int × Nat × List Int))) (out : List (List AA)), JS wk most (A ++ B) out = JS wk most B (JS wk most A out)
 | [], _, _ => rfl
 | (p, ps) :: A, B, out => by simp only [List.cons_append, JS, TE wk most A B]
section
variable {b : BenchBook} (hv : Ek b) (ex : Int → Bool)
include hv
theorem zc {x2 v12 : Sl (Sl AA)} {i : Int} {o : Sl AA} (ho : x2.ix i = some o) (hol : o.l.length ≤ 100) (hos : LQ b o.l) (hvl : v12.l.length ≤ 4096) (hvx : ∀ x ∈ v12.l, x.l.length ≤ 100 ∧ LQ b x.l) {acc : Sl (Sl AA)} (ha : acc.warm) (hal : acc.l.length + 4096 ≤ 1000000000000) :
  ∃ acc', Loop (Ew b x2 v12 i) (acc, 0) = some acc' ∧ acc'.warm ∧ acc'.l.map Sl.l = acc.l.map Sl.l ++ ((v12.l.map Sl.l).map (o.l ++ ·)).filter (rest (Aj b) b.Most.toNat) ∧ acc'.l.length ≤ acc.l.length + v12.l.length := by
 obtain ⟨r, ⟨h1, h2, h3⟩, he⟩ := Iy (f := Ew b x2 v12 i) (fun t i => (t, i)) v12.l
  (fun pre (t : Sl (Sl AA)) => t.warm ∧ t.l.map Sl.l = acc.l.map Sl.l ++ ((pre.map Sl.l).map (o.l ++ ·)).filter (rest (Aj b) b.Most.toNat) ∧ t.l.length ≤ acc.l.length + pre.length)
  (fun t => t.warm ∧ t.l.map Sl.l = acc.l.map Sl.l ++ ((v12.l.map Sl.l).map (o.l ++ ·)).filter (rest (Aj b) b.Most.toNat) ∧ t.l.length ≤ acc.l.length + v12.l.length) (x0 := (acc, 0)) (t0 := acc) (by omega) rfl ⟨ha, by simp, by simp⟩ (by
  rintro pre y post t hpre ⟨g1, g2, g3⟩ hW
  have hlt : (pre.length : Int) < v12.len := by rw [Sl.len_l, hpre]; simp; omega
  have hy := hvx y (by rw [hpre]; simp)
  have hlp : pre.length < 4096 := by rw [hpre] at hvl; simp at hvl; omega
  have ha1 : Sl.app 24 (Sl.hot [] : Sl AA) o.l = some (.hot o.l) := by
   have := Sl.app_hot (q := 24) (xs := ([] : List AA)) (ys := o.l) (A8 (by simp; omega) (by omega))
   simpa using this
  have ha2 : Sl.app 24 (Sl.hot o.l) y.l = some (.hot (o.l ++ y.l)) := Sl.app_hot (A8 (by omega) (by omega))
  have hso : LQ b (Sl.hot (o.l ++ y.l)).l := by
   intro s hs
   rw [Sl.l_hot] at hs
   rcases List.mem_append.mp hs with hs | hs
   ·exact hos s hs
   ·exact hy.2 s hs
  have hr := oP hv (.hot (o.l ++ y.l)) (by rw [Sl.l_hot, List.length_append]; omega) hso
  rw [Sl.l_hot] at hr
  have e : ((pre ++ [y]).map Sl.l |>.map (o.l ++ ·)).filter (rest (Aj b) b.Most.toNat) = ((pre.map Sl.l).map (o.l ++ ·)).filter (rest (Aj b) b.Most.toNat) ++ (if rest (Aj b) b.Most.toNat (o.l ++ y.l) then [o.l ++ y.l] else []) := by
   rw [List.map_append, List.map_append]; exact E4 _ _ _
  by_cases hc : rest (Aj b) b.Most.toNat (o.l ++ y.l) = true
  ·have ha3 : Sl.app 24 t [Sl.hot (o.l ++ y.l)] = some (.hot (t.l ++ [Sl.hot (o.l ++ y.l)])) := Sl.app_warm g1 (by simp) (yX (by simp; omega))
   refine ⟨.hot (t.l ++ [Sl.hot (o.l ++ y.l)]), ⟨Sl.warm_hot _, ?_, ?_⟩, ?_⟩
   ·rw [e, if_pos hc, Sl.l_hot, List.map_append, g2, List.append_assoc]; rfl
   ·rw [Sl.l_hot, List.length_append, List.length_append]; simp; omega
   ·simp only [Ew, decide_eq_true hlt, if_true, ho, Option.bind_some, ha1, Sl.ix_at hpre, ha2, hr, hc, ha3, hW]
  ·have hc' : rest (Aj b) b.Most.toNat (o.l ++ y.l) = false := by simpa using hc
   refine ⟨t, ⟨g1, ?_, ?_⟩, ?_⟩
   ·rw [e, if_neg hc, List.append_nil, g2]
   ·rw [List.length_append]; omega
   ·simp only [Ew, decide_eq_true hlt, if_true, ho, Option.bind_some, ha1, Sl.ix_at hpre, ha2, hr, hc', Bool.false_eq_true, if_false, hW]) (by
  rintro t ⟨g1, g2, g3⟩
  refine ⟨t, ⟨g1, g2, g3⟩, ?_⟩
  have hlt : ¬ (v12.l.length : Int) < v12.len := by rw [Sl.len_l]; omega
  simp only [Ew, decide_eq_false hlt, Bool.false_eq_true, if_false])
 exact ⟨r, he, h1, h2, h3⟩
theorem zu {x2 v12 : Sl (Sl AA)} (h2l : x2.l.length ≤ 16777216) (h2x : ∀ x ∈ x2.l, x.l.length ≤ 100 ∧ LQ b x.l) (hvl : v12.l.length ≤ 4096) (hvx : ∀ x ∈ v12.l, x.l.length ≤ 100 ∧ LQ b x.l) :
  ∃ acc', Loop (Fz b x2 v12) (Sl.nil, 0) = some acc' ∧ acc'.warm ∧ acc'.l.map Sl.l = (x2.l.map Sl.l).flatMap (fun o => ((v12.l.map Sl.l).map (o ++ ·)).filter (rest (Aj b) b.Most.toNat)) ∧ acc'.l.length ≤ x2.l.length * 4096 := by
 obtain ⟨r, ⟨h1, h2, h3⟩, he⟩ := Iy (f := Fz b x2 v12) (fun t i => (t, i)) x2.l
  (fun pre (t : Sl (Sl AA)) => t.warm ∧ t.l.map Sl.l = (pre.map Sl.l).flatMap (fun o => ((v12.l.map Sl.l).map (o ++ ·)).filter (rest (Aj b) b.Most.toNat)) ∧ t.l.length ≤ pre.length * 4096)
  (fun t => t.warm ∧ t.l.map Sl.l = (x2.l.map Sl.l).flatMap (fun o => ((v12.l.map Sl.l).map (o ++ ·)).filter (rest (Aj b) b.Most.toNat)) ∧ t.l.length ≤ x2.l.length * 4096) (x0 := (Sl.nil, 0)) (t0 := Sl.nil) (by omega) rfl ⟨Sl.warm_nil, rfl, by simp [Sl.l]⟩ (by
  rintro pre o post t hpre ⟨g1, g2, g3⟩ hW
  have hlt : (pre.length : Int) < x2.len := by rw [Sl.len_l, hpre]; simp; omega
  have hox := h2x o (by rw [hpre]; simp)
  have hlp : pre.length < 16777216 := by rw [hpre] at h2l; simp at h2l; omega
  obtain ⟨t', e1, e2, e3, e4⟩ := zc hv (Sl.ix_at hpre) hox.1 hox.2 hvl hvx g1 (by omega)
  refine ⟨t', ⟨e2, ?_, ?_⟩, ?_⟩
  ·rw [e3, g2]; simp
  ·rw [List.length_append, List.length_singleton]; omega
  ·simp only [Fz, decide_eq_true hlt, if_true, e1, Option.bind_some, hW]) (by
  rintro t ⟨g1, g2, g3⟩
  refine ⟨t, ⟨g1, g2, g3⟩, ?_⟩
  have hlt : ¬ (x2.l.length : Int) < x2.len := by rw [Sl.len_l]; omega
  simp only [Fz, decide_eq_false hlt, Bool.false_eq_true, if_false])
 exact ⟨r, he, h1, h2, h3⟩
theorem yb {a2 : Sl Int} (hp : sK b a2.l) : ∃ out, Gt b (Jb b ex) a2 = some out ∧ out.l.map Sl.l = JS (Aj b) b.Most.toNat (sH b ex a2.l) [[]] ∧ out.l.length ≤ 68719476736 ∧ ∀ x ∈ out.l, x.l.length ≤ 100 := by
 have hp3 := hp.1
 obtain ⟨r, ⟨h2, h3, h4⟩, he⟩ := Iy (f := HG b (Jb b ex) a2) (fun t i => (t, i)) a2.l
  (fun pre (t : Sl (Sl AA)) => t.l.map Sl.l = JS (Aj b) b.Most.toNat (sH b ex pre) [[]] ∧ t.l.length ≤ 4096 ^ pre.length ∧ ∀ x ∈ t.l.map Sl.l, x.length ≤ 12 * pre.length ∧ LQ b x)
  (fun t => t.l.map Sl.l = JS (Aj b) b.Most.toNat (sH b ex a2.l) [[]] ∧ t.l.length ≤ 68719476736 ∧ ∀ x ∈ t.l, x.l.length ≤ 100) (x0 := (Sl.hot [Sl.nil], 0)) (t0 := Sl.hot [Sl.nil]) (by omega) rfl ⟨rfl, by simp [Sl.l], by simp [Sl.l, LQ]⟩ (by
  rintro pre p post t hpre ⟨g2, g3, g4⟩ hW
  have hlt : (pre.length : Int) < a2.len := by rw [Sl.len_l, hpre]; simp; omega
  have hpm := hp.2 p (by rw [hpre]; simp)
  obtain ⟨x, hx, hxm⟩ := MF hpm.1 hpm.2
  have hx3 := hv.parts x hxm
  have hnp : CG b p = x.Parts.l.length := by simp [CG, hx]
  have hpl : pre.length ≤ 2 := by rw [hpre] at hp3; simp at hp3; omega
  obtain ⟨own, ho1, ho2⟩ := Qj hv ex hx (m := x.Parts.l.length) (Nat.le_refl _) x.Parts.l.length 64 0 (Sl.nil : Sl AA) (by omega) (by omega) (by simp [Sl.l])
  have ho1' : BC 64 b (Jb b ex) p 0 x.Parts.len Sl.nil = some own := by rw [Sl.len_l]; exact ho1
  have hq4 : ∀ q ∈ Pq b ex p x.Parts.l.length 0, q.2.2.length ≤ 4 := by
   intro q hq
   simp only [Pq, List.mem_map] at hq
   obtain ⟨j, _, rfl⟩ := hq
   exact Oa hv ex p j
  have hql : (Pq b ex p x.Parts.l.length 0).length ≤ 3 := by simp [Pq, AQ]; omega
  have hown : own.l.length ≤ 4096 := by
   have h5 := congrArg List.length ho2
   rw [List.length_map] at h5
   rw [h5]
   exact Nat.le_trans (NK p _ _ hq4) (Nat.le_trans (Nat.pow_le_pow_right (by omega) hql) (by decide))
  have hownx : ∀ y ∈ own.l, y.l.length ≤ 12 ∧ LQ b y.l := by
   intro y hy
   have : y.l ∈ DK p (Pq b ex p x.Parts.l.length 0) (Sl.nil : Sl AA).l := by rw [← ho2]; exact List.mem_map_of_mem hy
   obtain ⟨m1, m2⟩ := Xu p _ _ _ this
   refine ⟨?_, ?_⟩
   ·have := m2 hq4
    have e : (Sl.nil : Sl AA).l.length = 0 := rfl
    omega
   ·intro s hs
    rcases m1 s hs with h | ⟨e1, q, hq, e2⟩
    ·cases h
    ·simp only [Pq, List.mem_map] at hq
     obtain ⟨j, _, rfl⟩ := hq
     exact ⟨by rw [e1]; exact hpm, ek e2⟩
  have h16 : 4096 ^ pre.length ≤ 16777216 := Nat.le_trans (Nat.pow_le_pow_right (by omega) hpl) (by decide)
  obtain ⟨t', e1, _, e3, e4⟩ := zu hv (x2 := t) (v12 := own) (by omega) (by
   intro y hy
   have := g4 y.l (List.mem_map_of_mem hy)
   exact ⟨by omega, this.2⟩) hown (fun y hy => ⟨by have := hownx y hy; omega, (hownx y hy).2⟩)
  refine ⟨t', ⟨?_, ?_, ?_⟩, ?_⟩
  ·rw [e3, g2]
   have : sH b ex (pre ++ [p]) = sH b ex pre ++ [(p, Pq b ex p x.Parts.l.length 0)] := by simp [sH, hnp]
   rw [this, TE]
   simp only [JS, ho2]
   rfl
  ·rw [List.length_append, List.length_singleton, Nat.pow_succ]
   exact Nat.le_trans e4 (Nat.mul_le_mul_right _ g3)
  ·intro y hy
   rw [e3] at hy
   simp only [List.mem_flatMap, List.mem_filter, List.mem_map] at hy
   obtain ⟨o, ⟨o', ho', rfl⟩, ⟨w, ⟨w', hw', rfl⟩, rfl⟩, _⟩ := hy
   have a1 := g4 o'.l (List.mem_map_of_mem ho')
   have a2 := hownx w' hw'
   refine ⟨?_, ?_⟩
   ·simp only [List.length_append, List.length_singleton]; omega
   ·intro s hs
    rcases List.mem_append.mp hs with hs | hs
    ·exact a1.2 s hs
    ·exact a2.2 s hs
  ·simp only [HG, decide_eq_true hlt, if_true, Sl.ix_at hpre, Option.bind_some, hx, ho1', e1, hW]) (by
  rintro t ⟨g2, g3, g4⟩
  refine ⟨t, ⟨g2, ?_, ?_⟩, ?_⟩
  ·exact Nat.le_trans g3 (Nat.le_trans (Nat.pow_le_pow_right (by omega) hp3) (by decide))
  ·intro y hy
   have := (g4 y.l (List.mem_map_of_mem hy)).1
   omega
  ·have hlt : ¬ (a2.l.length : Int) < a2.len := by rw [Sl.len_l]; omega
   simp only [HG, decide_eq_false hlt, Bool.false_eq_true, if_false])
 exact ⟨r, by simp only [Gt, he, Option.bind_some], h2, h3, h4⟩
omit hv in
theorem nG {ps : List Int} (h : ∀ p ∈ ps, CG b p ≤ 3) : Ky (sH b ex ps) = Hz b ex 3 ps := by
 simp only [Ky, sH, Hz, Gv, List.flatMap_map, List.map_flatMap]
 induction ps with
 | nil => rfl
 | cons p ps ih =>
  have h1 := h p List.mem_cons_self
  simp only [List.flatMap_cons, ih fun q hq => h q (List.mem_cons_of_mem _ hq)]
  congr 1
  simp only [FX, Pq, prt, Nz, List.drop_zero, List.map_map, Nat.min_eq_right h1]
  rfl
theorem XO (p : Int) : CG b p ≤ 3 := by
 unfold CG
 cases hx : b.Pieces.ix p with
 | none => simp
 | some x => have := hv.parts x (E6 hx).2.2; simp; omega
omit hv in
theorem UI (n : Nat) : (idx n).Pairwise (· < ·) := by
 simp only [idx, List.pairwise_map]
 refine List.Pairwise.imp ?_ (List.pairwise_lt_range (n := n))
 intro a b h; omega
omit hv in
theorem M5 (p k : Int) : (As b ex p k).Pairwise (· < ·) := by
 unfold As
 cases b.Pieces.ix p with
 | none => simp
 | some x =>
  simp only
  cases x.Parts.ix k with
  | none => simp
  | some y => exact (UI _).filter _
theorem wY {ps : List Int} (hs : ps.Pairwise (· < ·)) : (JS (Aj b) b.Most.toNat (sH b ex ps) [[]]).Perm (JH b ex 3 ps) := by
 have h := cU (Aj b) b.Most.toNat (sH b ex ps) (by
  intro x hx y hy
  simp only [sH, List.mem_map] at hx
  obtain ⟨p, _, rfl⟩ := hx
  simp only [Pq, List.mem_map] at hy
  obtain ⟨k, _, rfl⟩ := hy
  exact (M5 ex p k).imp (fun h => by omega)) (by
  simp only [sH, List.map_map]
  rw [show ((fun x : Int × List (Int × Nat × List Int) => x.1) ∘ fun p => (p, Pq b ex p (CG b p) 0)) = id from rfl, List.map_id]
  exact hs.imp (fun h => by omega))
 rwa [nG ex fun p _ => XO hv p] at h
omit hv in
theorem l4 (m : Nat) (ps : List Int) : (JH b ex m ps).Pairwise fun x y => Bl x y = true := by
 refine mc _ _ _ ?_
 intro w hw
 simp only [Hz, List.mem_map] at hw
 obtain ⟨w', _, rfl⟩ := hw
 exact M5 ex _ _
omit hv in
theorem kY (but : List Int) : (Gw b but).Pairwise (· < ·) := (UI _).filter _
end
end
end Go.Lf
