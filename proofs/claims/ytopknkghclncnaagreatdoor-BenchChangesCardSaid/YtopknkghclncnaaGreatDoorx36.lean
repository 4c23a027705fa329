/- A part of the proof. -/
import Derived.Test.YtopknkghclncnaaGreatDoorx35
set_option linter.all false
namespace Go.Lf.Pl
def lt3 (x y : FV) : Bool := decide (x.Piece < y.Piece) || (decide (x.Piece = y.Piece) && (decide (x.Part < y.Part) || (decide (x.Part = y.Part) && decide (x.Boy < y.Boy))))
def Bl : List FV → List FV → Bool
 | _, [] => false
 | [], _ :: _ => true
 | x :: xs, y :: ys => if x = y then Bl xs ys else lt3 x y
theorem Nl (x y : FV) : lt3 x y = true ↔ x.Piece < y.Piece ∨ (x.Piece = y.Piece ∧ (x.Part < y.Part ∨ (x.Part = y.Part ∧ x.Boy < y.Boy))) := by
 simp [lt3]
theorem PZ {x y : FV} (h1 : x.Piece = y.Piece) (h2 : x.Part = y.Part) (h3 : x.Boy = y.Boy) : x = y := by
 cases x; cases y; simp_all
theorem uS {x y z : FV} (h : lt3 x y = true) (h' : lt3 y z = true) : lt3 x z = true := by
 rw [Nl] at *; omega
theorem cO (x : FV) : lt3 x x = false := by
 cases h : lt3 x x with
 | false => rfl
 | true => rw [Nl] at h; omega
theorem S9 : ∀ x : List FV, Bl x x = false
 | [] => rfl
 | a :: x => by simp [Bl, S9 x]
theorem PV : ∀ x y z : List FV, Bl x y = true → Bl y z = true → Bl x z = true
 | _, [], _, h, _ => by simp [Bl] at h
 | _, _ :: _, [], _, h => by simp [Bl] at h
 | [], _ :: _, _ :: _, _, _ => rfl
 | a :: x, b :: y, c :: z, h, h' => by
  simp only [Bl] at *
  by_cases h1 : a = b
  ·subst h1
   simp only [if_true] at h
   by_cases h2 : a = c
   ·subst h2; simp only [if_true] at *; exact PV x y z h h'
   ·simp only [h2, if_false] at *; exact h'
  ·simp only [h1, if_false] at h
   by_cases h2 : b = c
   ·subst h2; simp only [h1, if_false]; exact h
   ·simp only [h2, if_false] at h'
    have h3 := uS h h'
    have : a ≠ c := by rintro rfl; rw [cO] at h3; simp at h3
    simp only [this, if_false]; exact h3
theorem qf (s : List FV) (x y : List FV) : Bl (s ++ x) (s ++ y) = Bl x y := by
 induction s with
 | nil => rfl
 | cons a s ih => simp [Bl, ih]
def G5 : List (List FV) → List FV → List FV
 | [], best => best
 | x :: L, best => G5 L (if Bl x best then x else best)
theorem RP : ∀ (L : List (List FV)) (b : List FV), G5 L b = b ∨ G5 L b ∈ L
 | [], b => .inl rfl
 | x :: L, b => by
  simp only [G5]
  rcases RP L (if Bl x b then x else b) with h | h
  ·by_cases hs : Bl x b = true
   ·rw [if_pos hs] at h ⊢; exact .inr (by rw [h]; exact List.mem_cons_self)
   ·rw [if_neg hs] at h ⊢; exact .inl h
  ·exact .inr (List.mem_cons_of_mem _ h)
theorem cm : ∀ (L : List (List FV)) (b : List FV), (Bl b (G5 L b) = false) ∧ ∀ x ∈ L, Bl x (G5 L b) = false
 | [], b => ⟨S9 b, by simp⟩
 | x :: L, b => by
  simp only [G5]
  have ih := cm L (if Bl x b then x else b)
  by_cases hs : Bl x b = true
  ·rw [if_pos hs] at ih ⊢
   refine ⟨?_, ?_⟩
   ·cases hb : Bl b (G5 L x) with
    | false => rfl
    | true =>
     have := PV _ _ _ hs hb
     rw [ih.1] at this; simp at this
   ·intro y hy
    rcases List.mem_cons.mp hy with rfl | hy
    ·exact ih.1
    ·exact ih.2 y hy
  ·rw [if_neg hs] at ih ⊢
   refine ⟨ih.1, ?_⟩
   intro y hy
   rcases List.mem_cons.mp hy with rfl | hy
   ·cases hb : Bl y (G5 L b) with
    | false => rfl
    | true =>
     rcases RP L b with h | h
     ·rw [h] at hb; exact absurd hb hs
     ·
      exfalso
      have h1 := ih.1
      have := total_of b (G5 L b) h1
      rcases this with h2 | h2
      ·rw [h2] at hb; exact hs hb
      ·exact hs (PV _ _ _ hb h2)
   ·exact ih.2 y hy
where
 total_of (b r : List FV) (h : Bl b r = false) : r = b ∨ Bl r b = true := by
  induction b generalizing r with
  | nil => cases r with
   | nil => exact .inl rfl
   | cons a r => simp [Bl] at h
  | cons a b ih => cases r with
   | nil => exact .inr rfl
   | cons c r =>
    simp only [Bl] at h ⊢
    by_cases hac : a = c
    ·subst hac
     simp only [if_true] at h ⊢
     rcases ih r h with h1 | h1
     ·exact .inl (by rw [h1])
     ·exact .inr h1
    ·simp only [hac, if_false] at h
     simp only [Ne.symm hac, if_false]
     right
     have h1 : ¬ lt3 a c = true := by rw [h]; simp
     rw [Nl] at h1 ⊢
     have : ¬ (a.Piece = c.Piece ∧ a.Part = c.Part ∧ a.Boy = c.Boy) := fun ⟨h1, h2, h3⟩ => hac (PZ h1 h2 h3)
     omega
theorem kf {L S : List (List FV)} {a : List FV} (hp : L.Perm (a :: S)) (hs : (a :: S).Pairwise fun x y => Bl x y = true) {b : List FV} (hb : b ∈ L) : G5 L b = a := by
 have hm : G5 L b ∈ a :: S := by
  rcases RP L b with h | h
  ·rw [h]; exact hp.mem_iff.mp hb
  ·exact hp.mem_iff.mp h
 rcases List.mem_cons.mp hm with h | h
 ·exact h
 ·have h1 := List.rel_of_pairwise_cons hs h
  have h2 := (cm L b).2 a (hp.mem_iff.mpr List.mem_cons_self)
  rw [h1] at h2; simp at h2
theorem OX (p k : Int) : ∀ (l : List Int) (m : Nat), l.Pairwise (· < ·) → (Ei m l).Pairwise fun c d => ∀ r r' : List FV, Bl (A5 p k c ++ r) (A5 p k d ++ r') = true
 | [], m, _ => by cases m <;> simp [Ei]
 | a :: l, 0, _ => by simp [Ei]
 | a :: l, m + 1, h => by
  simp only [Ei, List.pairwise_append]
  have hl := (List.pairwise_cons.mp h).2
  refine ⟨?_, OX p k l (m + 1) hl, ?_⟩
  ·rw [List.pairwise_map]
   refine (OX p k l m hl).imp ?_
   intro c d hcd r r'
   simp only [A5, List.map_cons, List.cons_append, Bl, if_true]
   exact hcd r r'
  ·intro c hc d hd r r'
   obtain ⟨c, _, rfl⟩ := List.mem_map.mp hc
   obtain ⟨hs, hlen⟩ := TI.mp hd
   cases d with
   | nil => simp at hlen
   | cons b d =>
    have hb : b ∈ l := hs.subset List.mem_cons_self
    have hab := (List.pairwise_cons.mp h).1 b hb
    simp only [A5, List.map_cons, List.cons_append, Bl]
    have : ¬ ((⟨p, k, a⟩ : FV) = ⟨p, k, b⟩) := by simp; omega
    rw [if_neg this, Nl]
    right; exact ⟨rfl, .inr ⟨rfl, hab⟩⟩
theorem Ze : ∀ W : List WZ, (∀ w ∈ W, w.able.Pairwise (· < ·)) → (Kp W).Pairwise fun x y => Bl x y = true
 | [], _ => by simp [Kp]
 | w :: W, h => by
  simp only [Kp]
  rw [List.pairwise_flatMap]
  refine ⟨?_, ?_⟩
  ·intro c _
   rw [List.pairwise_map]
   refine (Ze W fun w hw => h w (List.mem_cons_of_mem _ hw)).imp ?_
   intro x y hxy
   rw [qf]; exact hxy
  ·refine (OX w.wp w.wk w.able w.many (h w List.mem_cons_self)).imp ?_
   intro c d hcd x hx y hy
   obtain ⟨r, _, rfl⟩ := List.mem_map.mp hx
   obtain ⟨r', _, rfl⟩ := List.mem_map.mp hy
   exact hcd r r'
end Go.Lf.Pl
