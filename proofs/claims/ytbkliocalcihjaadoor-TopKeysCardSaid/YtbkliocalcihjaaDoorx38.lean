/- A part of the proof. -/
import Derived.Test.YtbkliocalcihjaaDoorx27
import Derived.Test.YtbkliocalcihjaaDoorx30
import Derived.Test.YtbkliocalcihjaaDoorx31
import Derived.Test.YtbkliocalcihjaaDoorx32
import Derived.Test.YtbkliocalcihjaaDoorx33
import Derived.Test.YtbkliocalcihjaaDoorx34
import Derived.Test.YtbkliocalcihjaaDoorx37
import Derived.KernelRfl
set_option linter.all false
set_option maxRecDepth 100000
namespace Go.Lf
open Go
noncomputable section
theorem wQ {n : Nat} {x y : Ar n Int} (h : Enc.cells x = Enc.cells y) : x = y := by
 obtain ⟨xs, hx⟩ := x
 obtain ⟨ys, hy⟩ := y
 have h' : xs.flatMap Enc.cells = ys.flatMap Enc.cells := h
 rw [LH, LH] at h'
 have key : ∀ a b : List Int, a.map DV.int = b.map DV.int → a = b := by
  intro a
  induction a with
  | nil => intro b h; cases b with
   | nil => rfl
   | cons _ _ => simp at h
  | cons c a ih =>
   intro b h
   cases b with
   | nil => simp at h
   | cons d b =>
    simp only [List.map_cons, List.cons.injEq, DV.int.injEq] at h
    rw [h.1, ih b h.2]
 cases key _ _ h'
 rfl
theorem kD {m : Nat} : ∀ a b : List (Ar m Int), a.length = b.length → a.flatMap Enc.cells = b.flatMap Enc.cells → a = b
 | [], [], _, _ => rfl
 | [], _ :: _, h, _ => by simp at h
 | _ :: _, [], h, _ => by simp at h
 | x :: a, y :: b, hl, h => by
  simp only [List.flatMap_cons] at h
  obtain ⟨h1, h2⟩ := List.append_inj h (by rw [bf, bf])
  rw [wQ h1, kD a b (by simpa using hl) h2]
theorem rV {n m : Nat} {x y : Ar n (Ar m Int)} (h : Enc.cells x = Enc.cells y) : x = y := by
 obtain ⟨xs, hx⟩ := x
 obtain ⟨ys, hy⟩ := y
 cases kD xs ys (by rw [hx, hy]) h
 rfl
structure nW (y : AH) (v : VoiceBook) (rows : Ar 6 (Ar 6 Int)) : Prop where
 pipes : y.OrganBook.Pipes = 1
 is_ : y.is_ = true
 voice : Qs y.OrganBook.Voice v
 rows : y.rows = rows
theorem Ul {y : AH} {x : AH} (h : Enc.enc y = Enc.enc x) (h1 : x.OrganBook.Pipes = 1) (h2 : x.is_ = true) : nW y x.OrganBook.Voice x.rows := by
 have h' := DV.agg.inj h
 have l1 : (Enc.cells y.rows).length = (Enc.cells x.rows).length := by rw [Ju, Ju]
 obtain ⟨h3, h4⟩ := List.append_inj h' (by simp [l1])
 obtain ⟨h5, h6⟩ := List.append_inj h3 (by simp)
 simp only [List.cons.injEq, DV.int.injEq, DV.bool.injEq, and_true] at h4 h5
 obtain ⟨a1, _, _, a4, a5, a6, _⟩ := h5
 exact ⟨a1.trans h1, h4.trans h2, ⟨jn (fun _ _ => nr) a4, a5, jn (fun _ _ => eu) a6⟩, rV h6⟩
theorem JR {α : Type} [Enc α] (x : Sl α) : (x.dv = .nils ∧ x.l = []) ∨ ∃ xs, x.dv = .slice (Enc.n α) xs := by
 cases x with
 | nil => exact .inl ⟨rfl, rfl⟩
 | _ => exact .inr ⟨_, rfl⟩
def VY : Ar 6 (Ar 6 Int) := ⟨[⟨[0, 1048576, 1048576, 1048576, 1048576, 20], rfl⟩, ⟨[1048556, 1048576, 1048576, 1048576, 1048576, 1048576], rfl⟩, ⟨[1048556, 1048576, 1048576, 1048576, 1048576, 1048576], rfl⟩, ⟨[1048556, 1048576, 1048576, 1048576, 1048576, 1048576], rfl⟩, ⟨[1048556, 1048576, 1048576, 1048576, 1048576, 1048576], rfl⟩, ⟨[(-20), 1048556, 1048556, 1048556, 1048556, 0], rfl⟩], rfl⟩
theorem t8 {v : VoiceBook} (hb : v.Boys.l ≠ []) : ∃ y, Bg (AG v (-2)) (Sl.nil : Sl Int) = some y ∧ nW y v VY := by
 have key : A5 (om zL) 58 [Enc.enc (AG v (-2)), Enc.enc (Sl.nil : Sl Int)] = some (.d (Enc.enc (AH.mk (AG v (-2)) (Mp.mk [([5, 0], (-20)), ([0, 5], 20)]) VY true))) := by
  have e1 : Enc.enc (AG v (-2)) = .agg [.int 1, .nils, .slice 3 [.agg [.int 0, .int (-20), .int 0]], v.Boys.dv, .int v.Weeks, v.Trials.dv] := rfl
  have e2 : Enc.enc (AH.mk (AG v (-2)) (Mp.mk [([5, 0], (-20)), ([0, 5], 20)]) VY true) = .agg ([.int 1, .nils, .slice 3 [.agg [.int 0, .int (-20), .int 0]], v.Boys.dv, .int v.Weeks, v.Trials.dv, (Mp.mk [([5, 0], (-20)), ([0, 5], 20)] : Mp 2 Int).dv] ++ Enc.cells VY ++ [.bool true]) := rfl
  rw [e1, e2]
  rcases JR v.Boys with ⟨_, h⟩ | ⟨xs, h⟩
  ·exact absurd h hb
  ·rw [h]
   rcases JR v.Trials with ⟨h2, _⟩ | ⟨ys, h2⟩
   ·rw [h2]; exact ud xs v.Weeks
   ·rw [h2]; exact ti xs ys v.Weeks
 obtain ⟨y, h1, h2⟩ := Rb key
 exact ⟨y, h1, Ul h2 rfl rfl⟩
theorem qn {y : AH} {v : VoiceBook} (h : nW y v VY) : A3 y = some ⟨(-2), (-2)⟩ := by
 obtain ⟨⟨p, t, f, vo⟩, d, r, i⟩ := y
 obtain ⟨h1, h2, h3, h4⟩ := h
 simp only at h1 h2 h4
 subst h1; subst h2; subst h4
 exact (CP _).of _ (by kernel_rfl)
def Wy : Ar 6 (Ar 6 Int) := ⟨[⟨[0, 1048576, 1048576, 1048576, 1048576, 10], rfl⟩, ⟨[1048566, 1048576, 1048576, 1048576, 1048576, 1048576], rfl⟩, ⟨[1048566, 1048576, 1048576, 1048576, 1048576, 1048576], rfl⟩, ⟨[1048566, 1048576, 1048576, 1048576, 1048576, 1048576], rfl⟩, ⟨[1048566, 1048576, 1048576, 1048576, 1048576, 1048576], rfl⟩, ⟨[(-10), 1048566, 1048566, 1048566, 1048566, 0], rfl⟩], rfl⟩
theorem tQ {v : VoiceBook} (hb : v.Boys.l ≠ []) : ∃ y, Bg (AG v (-1)) (Sl.nil : Sl Int) = some y ∧ nW y v Wy := by
 have key : A5 (om zL) 58 [Enc.enc (AG v (-1)), Enc.enc (Sl.nil : Sl Int)] = some (.d (Enc.enc (AH.mk (AG v (-1)) (Mp.mk [([5, 0], (-10)), ([0, 5], 10)]) Wy true))) := by
  have e1 : Enc.enc (AG v (-1)) = .agg [.int 1, .nils, .slice 3 [.agg [.int 0, .int (-10), .int 0]], v.Boys.dv, .int v.Weeks, v.Trials.dv] := rfl
  have e2 : Enc.enc (AH.mk (AG v (-1)) (Mp.mk [([5, 0], (-10)), ([0, 5], 10)]) Wy true) = .agg ([.int 1, .nils, .slice 3 [.agg [.int 0, .int (-10), .int 0]], v.Boys.dv, .int v.Weeks, v.Trials.dv, (Mp.mk [([5, 0], (-10)), ([0, 5], 10)] : Mp 2 Int).dv] ++ Enc.cells Wy ++ [.bool true]) := rfl
  rw [e1, e2]
  rcases JR v.Boys with ⟨_, h⟩ | ⟨xs, h⟩
  ·exact absurd h hb
  ·rw [h]
   rcases JR v.Trials with ⟨h2, _⟩ | ⟨ys, h2⟩
   ·rw [h2]; exact tI xs v.Weeks
   ·rw [h2]; exact uU xs ys v.Weeks
 obtain ⟨y, h1, h2⟩ := Rb key
 exact ⟨y, h1, Ul h2 rfl rfl⟩
theorem qT {y : AH} {v : VoiceBook} (h : nW y v Wy) : A3 y = some ⟨(-1), (-1)⟩ := by
 obtain ⟨⟨p, t, f, vo⟩, d, r, i⟩ := y
 obtain ⟨h1, h2, h3, h4⟩ := h
 simp only at h1 h2 h4
 subst h1; subst h2; subst h4
 exact (CP _).of _ (by kernel_rfl)
def T9 : Ar 6 (Ar 6 Int) := ⟨[⟨[0, 1048576, 1048576, 1048576, 1048576, 0], rfl⟩, ⟨[1048576, 1048576, 1048576, 1048576, 1048576, 1048576], rfl⟩, ⟨[1048576, 1048576, 1048576, 1048576, 1048576, 1048576], rfl⟩, ⟨[1048576, 1048576, 1048576, 1048576, 1048576, 1048576], rfl⟩, ⟨[1048576, 1048576, 1048576, 1048576, 1048576, 1048576], rfl⟩, ⟨[0, 1048576, 1048576, 1048576, 1048576, 0], rfl⟩], rfl⟩
theorem uI {v : VoiceBook} (hb : v.Boys.l ≠ []) : ∃ y, Bg (AG v 0) (Sl.nil : Sl Int) = some y ∧ nW y v T9 := by
 have key : A5 (om zL) 58 [Enc.enc (AG v 0), Enc.enc (Sl.nil : Sl Int)] = some (.d (Enc.enc (AH.mk (AG v 0) (Mp.mk [([5, 0], 0), ([0, 5], 0)]) T9 true))) := by
  have e1 : Enc.enc (AG v 0) = .agg [.int 1, .nils, .slice 3 [.agg [.int 0, .int 0, .int 0]], v.Boys.dv, .int v.Weeks, v.Trials.dv] := rfl
  have e2 : Enc.enc (AH.mk (AG v 0) (Mp.mk [([5, 0], 0), ([0, 5], 0)]) T9 true) = .agg ([.int 1, .nils, .slice 3 [.agg [.int 0, .int 0, .int 0]], v.Boys.dv, .int v.Weeks, v.Trials.dv, (Mp.mk [([5, 0], 0), ([0, 5], 0)] : Mp 2 Int).dv] ++ Enc.cells T9 ++ [.bool true]) := rfl
  rw [e1, e2]
  rcases JR v.Boys with ⟨_, h⟩ | ⟨xs, h⟩
  ·exact absurd h hb
  ·rw [h]
   rcases JR v.Trials with ⟨h2, _⟩ | ⟨ys, h2⟩
   ·rw [h2]; exact uD xs v.Weeks
   ·rw [h2]; exact tf xs ys v.Weeks
 obtain ⟨y, h1, h2⟩ := Rb key
 exact ⟨y, h1, Ul h2 rfl rfl⟩
theorem qD {y : AH} {v : VoiceBook} (h : nW y v T9) : A3 y = some ⟨0, 0⟩ := by
 obtain ⟨⟨p, t, f, vo⟩, d, r, i⟩ := y
 obtain ⟨h1, h2, h3, h4⟩ := h
 simp only at h1 h2 h4
 subst h1; subst h2; subst h4
 exact (CP _).of _ (by kernel_rfl)
def UR : Ar 6 (Ar 6 Int) := ⟨[⟨[0, 1048566, 1048566, 1048566, 1048566, (-10)], rfl⟩, ⟨[1048576, 1048576, 1048576, 1048576, 1048576, 1048566], rfl⟩, ⟨[1048576, 1048576, 1048576, 1048576, 1048576, 1048566], rfl⟩, ⟨[1048576, 1048576, 1048576, 1048576, 1048576, 1048566], rfl⟩, ⟨[1048576, 1048576, 1048576, 1048576, 1048576, 1048566], rfl⟩, ⟨[10, 1048576, 1048576, 1048576, 1048576, 0], rfl⟩], rfl⟩
theorem ug {v : VoiceBook} (hb : v.Boys.l ≠ []) : ∃ y, Bg (AG v 1) (Sl.nil : Sl Int) = some y ∧ nW y v UR := by
 have key : A5 (om zL) 58 [Enc.enc (AG v 1), Enc.enc (Sl.nil : Sl Int)] = some (.d (Enc.enc (AH.mk (AG v 1) (Mp.mk [([5, 0], 10), ([0, 5], (-10))]) UR true))) := by
  have e1 : Enc.enc (AG v 1) = .agg [.int 1, .nils, .slice 3 [.agg [.int 0, .int 10, .int 0]], v.Boys.dv, .int v.Weeks, v.Trials.dv] := rfl
  have e2 : Enc.enc (AH.mk (AG v 1) (Mp.mk [([5, 0], 10), ([0, 5], (-10))]) UR true) = .agg ([.int 1, .nils, .slice 3 [.agg [.int 0, .int 10, .int 0]], v.Boys.dv, .int v.Weeks, v.Trials.dv, (Mp.mk [([5, 0], 10), ([0, 5], (-10))] : Mp 2 Int).dv] ++ Enc.cells UR ++ [.bool true]) := rfl
  rw [e1, e2]
  rcases JR v.Boys with ⟨_, h⟩ | ⟨xs, h⟩
  ·exact absurd h hb
  ·rw [h]
   rcases JR v.Trials with ⟨h2, _⟩ | ⟨ys, h2⟩
   ·rw [h2]; exact tG xs v.Weeks
   ·rw [h2]; exact tC xs ys v.Weeks
 obtain ⟨y, h1, h2⟩ := Rb key
 exact ⟨y, h1, Ul h2 rfl rfl⟩
theorem rY {y : AH} {v : VoiceBook} (h : nW y v UR) : A3 y = some ⟨1, 1⟩ := by
 obtain ⟨⟨p, t, f, vo⟩, d, r, i⟩ := y
 obtain ⟨h1, h2, h3, h4⟩ := h
 simp only at h1 h2 h4
 subst h1; subst h2; subst h4
 exact (CP _).of _ (by kernel_rfl)
def Uy : Ar 6 (Ar 6 Int) := ⟨[⟨[0, 1048556, 1048556, 1048556, 1048556, (-20)], rfl⟩, ⟨[1048576, 1048576, 1048576, 1048576, 1048576, 1048556], rfl⟩, ⟨[1048576, 1048576, 1048576, 1048576, 1048576, 1048556], rfl⟩, ⟨[1048576, 1048576, 1048576, 1048576, 1048576, 1048556], rfl⟩, ⟨[1048576, 1048576, 1048576, 1048576, 1048576, 1048556], rfl⟩, ⟨[20, 1048576, 1048576, 1048576, 1048576, 0], rfl⟩], rfl⟩
theorem uG {v : VoiceBook} (hb : v.Boys.l ≠ []) : ∃ y, Bg (AG v 2) (Sl.nil : Sl Int) = some y ∧ nW y v Uy := by
 have key : A5 (om zL) 58 [Enc.enc (AG v 2), Enc.enc (Sl.nil : Sl Int)] = some (.d (Enc.enc (AH.mk (AG v 2) (Mp.mk [([5, 0], 20), ([0, 5], (-20))]) Uy true))) := by
  have e1 : Enc.enc (AG v 2) = .agg [.int 1, .nils, .slice 3 [.agg [.int 0, .int 20, .int 0]], v.Boys.dv, .int v.Weeks, v.Trials.dv] := rfl
  have e2 : Enc.enc (AH.mk (AG v 2) (Mp.mk [([5, 0], 20), ([0, 5], (-20))]) Uy true) = .agg ([.int 1, .nils, .slice 3 [.agg [.int 0, .int 20, .int 0]], v.Boys.dv, .int v.Weeks, v.Trials.dv, (Mp.mk [([5, 0], 20), ([0, 5], (-20))] : Mp 2 Int).dv] ++ Enc.cells Uy ++ [.bool true]) := rfl
  rw [e1, e2]
  rcases JR v.Boys with ⟨_, h⟩ | ⟨xs, h⟩
  ·exact absurd h hb
  ·rw [h]
   rcases JR v.Trials with ⟨h2, _⟩ | ⟨ys, h2⟩
   ·rw [h2]; exact tH xs v.Weeks
   ·rw [h2]; exact uf xs ys v.Weeks
 obtain ⟨y, h1, h2⟩ := Rb key
 exact ⟨y, h1, Ul h2 rfl rfl⟩
theorem rf {y : AH} {v : VoiceBook} (h : nW y v Uy) : A3 y = some ⟨2, 2⟩ := by
 obtain ⟨⟨p, t, f, vo⟩, d, r, i⟩ := y
 obtain ⟨h1, h2, h3, h4⟩ := h
 simp only at h1 h2 h4
 subst h1; subst h2; subst h4
 exact (CP _).of _ (by kernel_rfl)
theorem rm {v : VoiceBook} (hb : v.Boys.l ≠ []) {s : Int} (h1 : -2 ≤ s) (h2 : s ≤ 2) : ∃ y, Bg (AG v s) (Sl.nil : Sl Int) = some y ∧ y.is_ = true ∧ Qs y.OrganBook.Voice v ∧ A3 y = some ⟨s, s⟩ := by
 have hs : s = -2 ∨ s = -1 ∨ s = 0 ∨ s = 1 ∨ s = 2 := by omega
 rcases hs with rfl | rfl | rfl | rfl | rfl
 ·obtain ⟨y, h1, h2⟩ := t8 hb; exact ⟨y, h1, h2.is_, h2.voice, qn h2⟩
 ·obtain ⟨y, h1, h2⟩ := tQ hb; exact ⟨y, h1, h2.is_, h2.voice, qT h2⟩
 ·obtain ⟨y, h1, h2⟩ := uI hb; exact ⟨y, h1, h2.is_, h2.voice, qD h2⟩
 ·obtain ⟨y, h1, h2⟩ := ug hb; exact ⟨y, h1, h2.is_, h2.voice, rY h2⟩
 ·obtain ⟨y, h1, h2⟩ := uG hb; exact ⟨y, h1, h2.is_, h2.voice, rf h2⟩
end
end Go.Lf
