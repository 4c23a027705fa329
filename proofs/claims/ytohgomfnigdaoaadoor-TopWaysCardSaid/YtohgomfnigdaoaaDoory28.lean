/- A part of the proof. -/
import Derived.Test.YtohgomfnigdaoaaDoory27
set_option linter.all false
namespace Go.Lf.Pl
def lt3 (x y : FK) : Bool := decide (x.Piece < y.Piece) || (decide (x.Piece = y.Piece) && (decide (x.Part < y.Part) || (decide (x.Part = y.Part) && decide (x.Boy < y.Boy))))
def DG : List FK → List FK → Bool
 | _, [] => false
 | [], _ :: _ => true
 | x :: xs, y :: ys => if x = y then DG xs ys else lt3 x y
theorem NE (x y : FK) : lt3 x y = true ↔ x.Piece < y.Piece ∨ (x.Piece = y.Piece ∧ (x.Part < y.Part ∨ (x.Part = y.Part ∧ x.Boy < y.Boy))) := by
 simp [lt3]
theorem TL {x y : FK} (h1 : x.Piece = y.Piece) (h2 : x.Part = y.Part) (h3 : x.Boy = y.Boy) : x = y := by
 cases x; cases y; simp_all
theorem qV {x y z : FK} (h : lt3 x y = true) (h' : lt3 y z = true) : lt3 x z = true := by
 rw [NE] at *; omega
theorem Z7 (x : FK) : lt3 x x = false := by
 cases h : lt3 x x with
 | false => rfl
 | true => rw [NE] at h; omega
theorem JL : ∀ x : List FK, DG x x = false
 | [] => rfl
 | a :: x => by simp [DG, JL x]
theorem KQ : ∀ x y z : List FK, DG x y = true → DG y z = true → DG x z = true
 | _, [], _, h, _ => by simp [DG] at h
 | _, _ :: _, [], _, h => by simp [DG] at h
 | [], _ :: _, _ :: _, _, _ => rfl
 | a :: x, b :: y, c :: z, h, h' => by
  simp only [DG] at *
  by_cases h1 : a = b
  ·subst h1
   simp only [if_true] at h
   by_cases h2 : a = c
   ·subst h2; simp only [if_true] at *; exact KQ x y z h h'
   ·simp only [h2, if_false] at *; exact h'
  ·simp only [h1, if_false] at h
   by_cases h2 : b = c
   ·subst h2; simp only [h1, if_false]; exact h
   ·simp only [h2, if_false] at h'
    have h3 := qV h h'
    have : a ≠ c := by rintro rfl; rw [Z7] at h3; simp at h3
    simp only [this, if_false]; exact h3
theorem nH (s : List FK) (x y : List FK) : DG (s ++ x) (s ++ y) = DG x y := by
 induction s with
 | nil => rfl
 | cons a s ih => simp [DG, ih]
def Iz : List (List FK) → List FK → List FK
 | [], best => best
 | x :: L, best => Iz L (if DG x best then x else best)
theorem QW : ∀ (L : List (List FK)) (b : List FK), Iz L b = b ∨ Iz L b ∈ L
 | [], b => .inl rfl
 | x :: L, b => by
  simp only [Iz]
  rcases QW L (if DG x b then x else b) with h | h
  ·by_cases hs : DG x b = true
   ·rw [if_pos hs] at h ⊢; exact .inr (by rw [h]; exact List.mem_cons_self)
   ·rw [if_neg hs] at h ⊢; exact .inl h
  ·exact .inr (List.mem_cons_of_mem _ h)
theorem ah : ∀ (L : List (List FK)) (b : List FK), (DG b (Iz L b) = false) ∧ ∀ x ∈ L, DG x (Iz L b) = false
 | [], b => ⟨JL b, by simp⟩
 | x :: L, b => by
  simp only [Iz]
  have ih := ah L (if DG x b then x else b)
  by_cases hs : DG x b = true
  ·rw [if_pos hs] at ih ⊢
   refine ⟨?_, ?_⟩
   ·cases hb : DG b (Iz L x) with
    | false => rfl
    | true =>
     have := KQ _ _ _ hs hb
     rw [ih.1] at this; simp at this
   ·intro y hy
    rcases List.mem_cons.mp hy with rfl | hy
    ·exact ih.1
    ·exact ih.2 y hy
  ·rw [if_neg hs] at ih ⊢
   refine ⟨ih.1, ?_⟩
   intro y hy
   rcases List.mem_cons.mp hy with rfl | hy
   ·cases hb : DG y (Iz L b) with
    | false => rfl
    | true =>
     rcases QW L b with h | h
     ·rw [h] at hb; exact absurd hb hs
     ·
      exfalso
      have h1 := ih.1
      have := total_of b (Iz L b) h1
      rcases this with h2 | h2
      ·rw [h2] at hb; exact hs hb
      ·exact hs (KQ _ _ _ hb h2)
   ·exact ih.2 y hy
where
 total_of (b r : List FK) (h : DG b r = false) : r = b ∨ DG r b = true := by
  induction b generalizing r with
  | nil => cases r with
   | nil => exact .inl rfl
   | cons a r => simp [DG] at h
  | cons a b ih => cases r with
   | nil => exact .inr rfl
   | cons c r =>
    simp only [DG] at h ⊢
    by_cases hac : a = c
    ·subst hac
     simp only [if_true] at h ⊢
     rcases ih r h with h1 | h1
     ·exact .inl (by rw [h1])
     ·exact .inr h1
    ·simp only [hac, if_false] at h
     simp only [Ne.symm hac, if_false]
     right
     have h1 : ¬ lt3 a c = true := by rw [h]; simp
     rw [NE] at h1 ⊢
     have : ¬ (a.Piece = c.Piece ∧ a.Part = c.Part ∧ a.Boy = c.Boy) := fun ⟨h1, h2, h3⟩ => hac (TL h1 h2 h3)
     omega
theorem tL {L S : List (List FK)} {a : List FK} (hp : L.Perm (a :: S)) (hs : (a :: S).Pairwise fun x y => DG x y = true) {b : List FK} (hb : b ∈ L) : Iz L b = a := by
 have hm : Iz L b ∈ a :: S := by
  rcases QW L b with h | h
  ·rw [h]; exact hp.mem_iff.mp hb
  ·exact hp.mem_iff.mp h
 rcases List.mem_cons.mp hm with h | h
 ·exact h
 ·have h1 := List.rel_of_pairwise_cons hs h
  have h2 := (ah L b).2 a (hp.mem_iff.mpr List.mem_cons_self)
  rw [h1] at h2; simp at h2
theorem N4 (p k : Int) : ∀ (l : List Int) (m : Nat), l.Pairwise (· < ·) → (Dh m l).Pairwise fun c d => ∀ r r' : List FK, DG (BO p k c ++ r) (BO p k d ++ r') = true
 | [], m, _ => by cases m <;> simp [Dh]
 | a :: l, 0, _ => by simp [Dh]
 | a :: l, m + 1, h => by
  simp only [Dh, List.pairwise_append]
  have hl := (List.pairwise_cons.mp h).2
  refine ⟨?_, N4 p k l (m + 1) hl, ?_⟩
  ·rw [List.pairwise_map]
   refine (N4 p k l m hl).imp ?_
   intro c d hcd r r'
   simp only [BO, List.map_cons, List.cons_append, DG, if_true]
   exact hcd r r'
  ·intro c hc d hd r r'
   obtain ⟨c, _, rfl⟩ := List.mem_map.mp hc
   obtain ⟨hs, hlen⟩ := E6.mp hd
   cases d with
   | nil => simp at hlen
   | cons b d =>
    have hb : b ∈ l := hs.subset List.mem_cons_self
    have hab := (List.pairwise_cons.mp h).1 b hb
    simp only [BO, List.map_cons, List.cons_append, DG]
    have : ¬ ((⟨p, k, a⟩ : FK) = ⟨p, k, b⟩) := by simp; omega
    rw [if_neg this, NE]
    right; exact ⟨rfl, .inr ⟨rfl, hab⟩⟩
theorem XP : ∀ W : List Jd, (∀ w ∈ W, w.able.Pairwise (· < ·)) → (Ft W).Pairwise fun x y => DG x y = true
 | [], _ => by simp [Ft]
 | w :: W, h => by
  simp only [Ft]
  rw [List.pairwise_flatMap]
  refine ⟨?_, ?_⟩
  ·intro c _
   rw [List.pairwise_map]
   refine (XP W fun w hw => h w (List.mem_cons_of_mem _ hw)).imp ?_
   intro x y hxy
   rw [nH]; exact hxy
  ·refine (N4 w.wp w.wk w.able w.many (h w List.mem_cons_self)).imp ?_
   intro c d hcd x hx y hy
   obtain ⟨r, _, rfl⟩ := List.mem_map.mp hx
   obtain ⟨r', _, rfl⟩ := List.mem_map.mp hy
   exact hcd r r'
end Go.Lf.Pl
namespace Go.Lf.Pl
def pick : List Int → Nat → List Int
 | [], _ => []
 | a :: l, s => if s % 2 = 1 then a :: pick l (s / 2) else pick l (s / 2)
def nI (l : List Int) : List (List Int) := (List.range (2 ^ l.length)).map (pick l)
theorem gy : ∀ n : Nat, (List.range (2 * n)).Perm ((List.range n).map (fun s => 2 * s + 1) ++ (List.range n).map (fun s => 2 * s))
 | 0 => by simp
 | n + 1 => by
  have e : List.range (2 * (n + 1)) = List.range (2 * n) ++ [2 * n, 2 * n + 1] := by
   rw [show 2 * (n + 1) = 2 * n + 1 + 1 by omega, List.range_succ, List.range_succ]; simp
  rw [e, List.range_succ, List.map_append, List.map_append]
  refine ((gy n).append_right _).trans ?_
  simp only [List.map_cons, List.map_nil, List.append_assoc]
  refine List.Perm.append_left _ ?_
  have h1 : ([2 * n, 2 * n + 1] : List Nat).Perm [2 * n + 1, 2 * n] := .swap ..
  refine (h1.append_left _).trans ?_
  rw [show ([2 * n + 1, 2 * n] : List Nat) = [2 * n + 1] ++ [2 * n] from rfl, ← List.append_assoc, ← List.append_assoc]
  exact (List.perm_append_comm (l₁ := List.map (fun s => 2 * s) (List.range n)) (l₂ := [2 * n + 1])).append_right _
theorem Zs : ∀ l : List Int, (nI l).Perm (m8 l)
 | [] => by simp [nI, m8, pick]
 | a :: l => by
  have h := Zs l
  simp only [nI] at h ⊢
  rw [List.length_cons, Nat.pow_succ, Nat.mul_comm]
  refine ((gy _).map _).trans ?_
  rw [List.map_append, List.map_map, List.map_map]
  have e1 : (pick (a :: l) ∘ fun s => 2 * s + 1) = (fun c => a :: c) ∘ pick l := by
   funext s
   have h1 : (2 * s + 1) % 2 = 1 := by omega
   have h2 : (2 * s + 1) / 2 = s := by omega
   simp [pick, h1, h2]
  have e2 : (pick (a :: l) ∘ fun s => 2 * s) = pick l := by
   funext s
   have h1 : (2 * s) % 2 = 0 := by omega
   have h2 : (2 * s) / 2 = s := by omega
   simp [pick, h1, h2]
  rw [e1, e2, ← List.map_map]
  simp only [m8]
  exact (h.map _).append h
theorem jP (l : List Int) (m : Nat) : ((nI l).filter fun c => c.length == m).Perm (Dh m l) := by
 rw [← PE]; exact (Zs l).filter _
def gw (pre : List FK) (b : Int) : Bool := pre.any fun y => y.Boy == b
def C6 (pre : List FK) : List FK → Bool
 | [] => true
 | x :: xs => !gw pre x.Boy && C6 (pre ++ [x]) xs
theorem NW (a b : List FK) : ∀ pre, C6 pre (a ++ b) = (C6 pre a && C6 (pre ++ a) b) := by
 induction a with
 | nil => intro pre; simp [C6]
 | cons x a ih => intro pre; simp [C6, ih, Bool.and_assoc, List.append_assoc]
def N8 (p : Int) : List (Int × Nat × List Int) → List FK → List (List FK)
 | [], sm => [sm]
 | (k, m, l) :: r, sm => (nI l).flatMap fun c => if c.length == m && c.all (fun b => !gw sm b) then N8 p r (sm ++ BO p k c) else []
def G3 (p : Int) (ps : List (Int × Nat × List Int)) : List Jd := ps.map fun x => ⟨p, x.1, x.2.1, x.2.2⟩
theorem jF (p k : Int) : ∀ (c : List Int) (pre : List FK), c.Nodup → C6 pre (BO p k c) = c.all fun b => !gw pre b := by
 intro c
 induction c with
 | nil => intro pre _; rfl
 | cons b c ih =>
  intro pre h
  have hb := (List.nodup_cons.mp h).1
  have := ih (pre ++ [⟨p, k, b⟩]) (List.nodup_cons.mp h).2
  simp only [BO, List.map_cons, C6, List.all_cons] at this ⊢
  rw [this]
  congr 1
  rw [Bool.eq_iff_iff]
  simp only [List.all_eq_true, Bool.not_eq_true', gw, List.any_append, List.any_cons, List.any_nil, Bool.or_false, Bool.or_eq_false_iff, beq_eq_false_iff_ne]
  constructor
  ·intro h1 x hx; exact (h1 x hx).1
  ·intro h1 x hx; exact ⟨h1 x hx, fun e => hb (e ▸ hx)⟩
theorem UW {α β : Type} (q : α → Bool) (f : α → List β) : ∀ l : List α, (l.flatMap fun c => if q c = true then f c else []) = (l.filter q).flatMap f
 | [] => rfl
 | a :: l => by
  simp only [List.flatMap_cons, List.filter_cons, UW q f l]
  by_cases h : q a = true
  ·simp [h]
  ·simp [h]
theorem OJ {α β : Type} {f g : α → List β} : ∀ {l : List α}, (∀ a ∈ l, (f a).Perm (g a)) → (l.flatMap f).Perm (l.flatMap g)
 | [], _ => by simp
 | a :: l, h => by
  simp only [List.flatMap_cons]
  exact (h a List.mem_cons_self).append (OJ fun b hb => h b (List.mem_cons_of_mem _ hb))
theorem KH {α β : Type} (f : α → List β) {l l' : List α} (h : l.Perm l') : (l.flatMap f).Perm (l'.flatMap f) := by
 induction h with
 | nil => exact .refl _
 | cons a _ ih => simp only [List.flatMap_cons]; exact ih.append_left _
 | swap a b l =>
  simp only [List.flatMap_cons, ← List.append_assoc]
  exact (List.perm_append_comm).append_right _
 | trans _ _ ih1 ih2 => exact ih1.trans ih2
theorem Ud (p : Int) : ∀ (ps : List (Int × Nat × List Int)) (sm : List FK), (∀ x ∈ ps, x.2.2.Nodup) →
  (N8 p ps sm).Perm (((Ft (G3 p ps)).filter (C6 sm)).map (sm ++ ·))
 | [], sm, _ => by simp [N8, G3, Ft, C6, List.filter_cons]
 | (k, m, l) :: r, sm, h => by
  have hl : l.Nodup := h (k, m, l) List.mem_cons_self
  have ih := fun sm => Ud p r sm fun x hx => h x (List.mem_cons_of_mem _ hx)
  have e1 : N8 p ((k, m, l) :: r) sm = (((nI l).filter fun c => c.length == m).flatMap fun c => if (c.all fun b => !gw sm b) = true then N8 p r (sm ++ BO p k c) else []) := by
   simp only [N8]
   rw [← UW]
   congr 1; funext c
   by_cases h1 : (c.length == m) = true <;> simp [h1]
  rw [e1]
  refine (KH _ (jP l m)).trans ?_
  simp only [G3, List.map_cons, Ft, List.filter_flatMap, List.map_flatMap]
  refine OJ ?_
  intro c hc
  have hn : c.Nodup := (E6.mp hc).1.nodup hl
  have hap := jF p k c sm hn
  rw [List.filter_map]
  by_cases hh : (c.all fun b => !gw sm b) = true
  ·rw [if_pos hh]
   refine (ih _).trans ?_
   rw [List.map_map]
   have e : (C6 sm ∘ fun r => BO p k c ++ r) = C6 (sm ++ BO p k c) := by
    funext x; simp [NW, hap, hh]
   rw [e]
   have e3 : (fun x => sm ++ BO p k c ++ x) = ((fun x => sm ++ x) ∘ fun r => BO p k c ++ r) := by funext x; simp
   rw [← e3]
   exact .refl _
  ·rw [if_neg hh]
   have e : (Ft (G3 p r)).filter (C6 sm ∘ fun r => BO p k c ++ r) = [] := by
    rw [List.filter_eq_nil_iff]; intro x _; simp [NW, hap, hh]
   rw [show (List.map (fun x : Int × Nat × List Int => (⟨p, x.1, x.2.1, x.2.2⟩ : Jd)) r) = G3 p r from rfl, e]
   exact .refl _
section
variable (wk : Int → Int) (most : Nat)
def rest (z : List FK) : Bool := z.all fun x => decide (Fe wk z (wk x.Piece) x.Boy ≤ most)
def gR : List (Int × List (Int × Nat × List Int)) → List (List FK) → List (List FK)
 | [], out => out
 | (p, ps) :: r, out => gR r (out.flatMap fun o => ((N8 p ps []).map (o ++ ·)).filter (rest wk most))
def Vw (PS : List (Int × List (Int × Nat × List Int))) : List Jd := PS.flatMap fun x => G3 x.1 x.2
theorem IY (a b : List FK) (w y : Int) : Fe wk (a ++ b) w y = Fe wk a w y + Fe wk b w y := by simp [Fe, List.countP_append]
theorem bQ (z : List FK) : rest wk most z = true ↔ ∀ x ∈ z, Fe wk z (wk x.Piece) x.Boy ≤ most := by simp [rest]
theorem gp {a b : List FK} (h : rest wk most (a ++ b) = true) : rest wk most a = true := by
 rw [bQ] at *
 intro x hx
 have := h x (List.mem_append_left _ hx)
 rw [IY] at this; omega
theorem Wa (pre : List FK) (x : FK) (h : rest wk most pre = true) : rest wk most (pre ++ [x]) = decide (Fe wk pre (wk x.Piece) x.Boy < most) := by
 rw [Bool.eq_iff_iff, bQ]
 rw [bQ] at h
 simp only [decide_eq_true_eq]
 have hx : Fe wk [x] (wk x.Piece) x.Boy = 1 := by simp [Fe]
 constructor
 ·intro h1
  have := h1 x (by simp)
  rw [IY, hx] at this; omega
 ·intro h1 y hy
  rw [IY]
  have hc : Fe wk [x] (wk y.Piece) y.Boy = if wk x.Piece = wk y.Piece ∧ x.Boy = y.Boy then 1 else 0 := by
   simp only [Fe, List.countP_cons, List.countP_nil]
   by_cases h2 : wk x.Piece = wk y.Piece ∧ x.Boy = y.Boy
   ·simp [h2.1, h2.2]
   ·rw [if_neg h2]
    have : ¬ ((wk x.Piece == wk y.Piece && x.Boy == y.Boy) = true) := by simpa using h2
    simp [this]
  rw [hc]
  rcases List.mem_append.mp hy with hy | hy
  ·by_cases h2 : wk x.Piece = wk y.Piece ∧ x.Boy = y.Boy
   ·rw [if_pos h2, ← h2.1, ← h2.2]; omega
   ·rw [if_neg h2]; have := h y hy; omega
  ·simp only [List.mem_singleton] at hy
   subst hy
   simp only [and_self, if_true]; omega
theorem fc (p : Int) (own : List FK) (hp : ∀ x ∈ own, x.Piece = p) : ∀ (o q : List FK), (∀ x ∈ o, x.Piece ≠ p) → (∀ x ∈ q, x.Piece = p) → rest wk most (o ++ q) = true →
  Bh wk most (o ++ q) own = (C6 q own && rest wk most (o ++ q ++ own)) := by
 induction own with
 | nil => intro o q _ _ h; simp [Bh, C6, h]
 | cons x own ih =>
  intro o q ho hq hr
  have hx := hp x List.mem_cons_self
  have hcl : Qq (o ++ q) x = gw q x.Boy := by
   simp only [Qq, gw, List.any_append]
   have h1 : o.any (fun y => y.Piece == x.Piece && y.Boy == x.Boy) = false := by
    rw [List.any_eq_false]
    intro y hy
    have := ho y hy
    simp [hx, this]
   rw [h1, Bool.false_or]
   rw [Bool.eq_iff_iff, List.any_eq_true, List.any_eq_true]
   constructor
   ·rintro ⟨y, hy, h⟩; exact ⟨y, hy, by simp at h ⊢; exact h.2⟩
   ·rintro ⟨y, hy, h⟩; exact ⟨y, hy, by simp at h ⊢; exact ⟨by rw [hq y hy, hx], h⟩⟩
  have hsn := Wa wk most (o ++ q) x hr
  simp only [Bh, I7, hcl, C6, ← hsn]
  by_cases h1 : rest wk most (o ++ q ++ [x]) = true
  ·have := ih (fun y hy => hp y (List.mem_cons_of_mem _ hy)) o (q ++ [x]) ho (by
    intro y hy
    rcases List.mem_append.mp hy with hy | hy
    ·exact hq y hy
    ·simp only [List.mem_singleton] at hy; rw [hy, hx]) (by rw [← List.append_assoc]; exact h1)
   rw [← List.append_assoc] at this
   rw [h1, this]
   simp [Bool.and_assoc]
  ·have h2 : rest wk most (o ++ q ++ x :: own) = false := by
    cases hh : rest wk most (o ++ q ++ x :: own) with
    | false => rfl
    | true =>
     have : o ++ q ++ x :: own = (o ++ q ++ [x]) ++ own := by simp
     rw [this] at hh
     exact absurd (gp wk most hh) h1
   have h1 : rest wk most (o ++ q ++ [x]) = false := by simpa using h1
   rw [h1, h2]; simp
theorem WI : ∀ A B : List Jd, Ft (A ++ B) = (Ft A).flatMap fun x => (Ft B).map fun y => x ++ y
 | [], B => by simp [Ft]
 | w :: A, B => by
  simp only [List.cons_append, Ft, WI A B, List.flatMap_assoc, List.map_flatMap, List.map_map, List.flatMap_map]
  congr 1; funext c
  congr 1; funext x
  congr 1; funext y
  simp
theorem Ks : ∀ {W : List Jd} {x : List FK}, x ∈ Ft W → ∀ y ∈ x, ∃ w ∈ W, y.Piece = w.wp
 | [], x, h, y, hy => by simp [Ft] at h; subst h; simp at hy
 | w :: W, x, h, y, hy => by
  simp only [Ft, List.mem_flatMap, List.mem_map] at h
  obtain ⟨c, _, r, hr, rfl⟩ := h
  rcases List.mem_append.mp hy with hy | hy
  ·simp only [BO, List.mem_map] at hy
   obtain ⟨b, _, rfl⟩ := hy
   exact ⟨w, List.mem_cons_self, rfl⟩
  ·obtain ⟨w', h1, h2⟩ := Ks hr y hy
   exact ⟨w', List.mem_cons_of_mem _ h1, h2⟩
theorem Xr : ∀ (x pre : List FK), rest wk most pre = true → Bh wk most pre x = true → rest wk most (pre ++ x) = true
 | [], pre, h, _ => by simpa using h
 | a :: x, pre, h, ho => by
  simp only [Bh, I7, Bool.and_eq_true] at ho
  have h1 : rest wk most (pre ++ [a]) = true := by rw [Wa wk most pre a h]; exact ho.1.2
  have := Xr x (pre ++ [a]) h1 ho.2
  simpa using this
theorem jz (p : Int) (ps : List (Int × Nat × List Int)) (hps : ∀ x ∈ ps, x.2.2.Nodup) (A : List Jd) (hA : ∀ w ∈ A, w.wp ≠ p) {out : List (List FK)}
  (h : out.Perm ((Ft A).filter (Bh wk most []))) :
  (out.flatMap fun o => ((N8 p ps []).map (o ++ ·)).filter (rest wk most)).Perm ((Ft (A ++ G3 p ps)).filter (Bh wk most [])) := by
 refine (KH _ h).trans ?_
 rw [WI, List.filter_flatMap]
 have e : ((Ft A).flatMap fun x => List.filter (Bh wk most []) ((Ft (G3 p ps)).map fun y => x ++ y)) =
   (((Ft A).filter (Bh wk most [])).flatMap fun x => List.filter (Bh wk most []) ((Ft (G3 p ps)).map fun y => x ++ y)) := by
  rw [← UW]
  congr 1; funext x
  by_cases hx : Bh wk most [] x = true
  ·rw [if_pos hx]
  ·rw [if_neg hx, List.filter_map]
   have : (Ft (G3 p ps)).filter (Bh wk most [] ∘ fun y => x ++ y) = [] := by
    rw [List.filter_eq_nil_iff]; intro y _; simp [JE, hx]
   rw [this]; rfl
 rw [e]
 refine OJ ?_
 intro o ho
 obtain ⟨hoA, hok⟩ := List.mem_filter.mp ho
 have hro : rest wk most o = true := by
  have := Xr wk most o [] (by simp [rest]) hok
  simpa using this
 have hp0 : ∀ x ∈ o, x.Piece ≠ p := by
  intro x hx
  obtain ⟨w, hw, he⟩ := Ks hoA x hx
  rw [he]; exact hA w hw
 have h1 := (((Ud p ps [] hps).map (o ++ ·)).filter (rest wk most))
 refine h1.trans ?_
 simp only [List.nil_append, List.map_id', List.filter_map]
 rw [List.filter_filter]
 have : List.filter (fun a => (rest wk most ∘ fun x => o ++ x) a && C6 [] a) (Ft (G3 p ps)) = List.filter (Bh wk most [] ∘ fun y => o ++ y) (Ft (G3 p ps)) := by
  apply List.filter_congr
  intro own hown
  have hpo : ∀ x ∈ own, x.Piece = p := by
   intro x hx
   obtain ⟨w, hw, he⟩ := Ks hown x hx
   simp only [G3, List.mem_map] at hw
   obtain ⟨z, _, rfl⟩ := hw
   exact he
  have := fc wk most p own hpo o [] hp0 (by simp) (by simpa using hro)
  simp only [List.append_nil] at this
  simp only [Function.comp, JE, List.nil_append, hok, Bool.true_and, this, Bool.and_comm]
 rw [this]
theorem XM : ∀ (PS : List (Int × List (Int × Nat × List Int))) (A : List Jd) (out : List (List FK)), (∀ x ∈ PS, ∀ y ∈ x.2, y.2.2.Nodup) → (PS.map (·.1)).Nodup → (∀ w ∈ A, ∀ x ∈ PS, w.wp ≠ x.1) →
  out.Perm ((Ft A).filter (Bh wk most [])) → (gR wk most PS out).Perm ((Ft (A ++ Vw PS)).filter (Bh wk most []))
 | [], A, out, _, _, _, h => by simpa [gR, Vw] using h
 | (p, ps) :: PS, A, out, h1, h2, h3, h => by
  simp only [gR]
  have := XM PS (A ++ G3 p ps) _ (fun x hx => h1 x (List.mem_cons_of_mem _ hx)) (List.nodup_cons.mp h2).2 (by
   intro w hw x hx
   rcases List.mem_append.mp hw with hw | hw
   ·exact h3 w hw x (List.mem_cons_of_mem _ hx)
   ·simp only [G3, List.mem_map] at hw
    obtain ⟨z, _, rfl⟩ := hw
    intro e
    exact (List.nodup_cons.mp h2).1 (List.mem_map.mpr ⟨x, hx, e.symm⟩))
   (jz wk most p ps (h1 (p, ps) List.mem_cons_self) A (fun w hw => h3 w hw (p, ps) List.mem_cons_self) h)
  simpa [Vw] using this
theorem vD (PS : List (Int × List (Int × Nat × List Int))) (h1 : ∀ x ∈ PS, ∀ y ∈ x.2, y.2.2.Nodup) (h2 : (PS.map (·.1)).Nodup) :
  (gR wk most PS [[]]).Perm (fill wk most (Vw PS) []) := by
 have := XM wk most PS [] [[]] h1 h2 (by simp) (by simp [Ft, Bh, List.filter_cons])
 rw [J7]
 simpa using this
theorem jJ (W : List Jd) (h : ∀ w ∈ W, w.able.Pairwise (· < ·)) : (fill wk most W []).Pairwise fun x y => DG x y = true := by
 rw [J7]
 simp only [List.nil_append, List.map_id']
 exact (XP W h).filter _
end
end Go.Lf.Pl
namespace Go.Lf.Pl
theorem IH : ∀ {l c : List Int}, l.Pairwise (· < ·) → c.Pairwise (· < ·) → (∀ x ∈ c, x ∈ l) → List.Sublist c l
 | l, [], _, _, _ => List.nil_sublist l
 | [], a :: c, _, _, h => absurd (h a List.mem_cons_self) (by simp)
 | b :: l, a :: c, hl, hc, h => by
  have hl' := List.pairwise_cons.mp hl
  have hc' := List.pairwise_cons.mp hc
  rcases List.mem_cons.mp (h a List.mem_cons_self) with rfl | ha
  ·refine List.Sublist.cons_cons a (IH hl'.2 hc'.2 ?_)
   intro x hx
   rcases List.mem_cons.mp (h x (List.mem_cons_of_mem _ hx)) with rfl | hx'
   ·have := hc'.1 x hx; omega
   ·exact hx'
  ·refine List.Sublist.cons b (IH hl'.2 hc ?_)
   intro x hx
   rcases List.mem_cons.mp (h x hx) with rfl | hx'
   ·exfalso
    have h1 := hl'.1 a ha
    rcases List.mem_cons.mp hx with rfl | hx
    ·omega
    ·have := hc'.1 x hx; omega
   ·exact hx'
def ltW (w w' : Jd) : Prop := w.wp < w'.wp ∨ (w.wp = w'.wp ∧ w.wk < w'.wk)
structure Qn (W : List Jd) : Prop where
 ord : W.Pairwise ltW
 able : ∀ w ∈ W, w.able.Pairwise (· < ·)
structure wc (W : List Jd) (x : List FK) : Prop where
 mem : ∀ s ∈ x, ∃ w ∈ W, w.wp = s.Piece ∧ w.wk = s.Part ∧ s.Boy ∈ w.able
 ord : x.Pairwise fun y z => lt3 y z = true
 cnt : ∀ w ∈ W, x.countP (fun s => s.Piece == w.wp && s.Part == w.wk) = w.many
theorem Uy : ∀ {W : List Jd} {x : List FK}, Qn W → x ∈ Ft W → wc W x
 | [], x, _, h => by
  simp only [Ft, List.mem_singleton] at h; subst h
  exact ⟨by simp, List.Pairwise.nil, by simp⟩
 | w :: W, x, ho, h => by
  have ho' : Qn W := ⟨(List.pairwise_cons.mp ho.ord).2, fun w' hw => ho.able w' (List.mem_cons_of_mem _ hw)⟩
  have hlt := (List.pairwise_cons.mp ho.ord).1
  simp only [Ft, List.mem_flatMap, List.mem_map] at h
  obtain ⟨c, hc, r, hr, rfl⟩ := h
  have ih := Uy ho' hr
  obtain ⟨hsub, hlen⟩ := E6.mp hc
  have hab := ho.able w List.mem_cons_self
  refine ⟨?_, ?_, ?_⟩
  ·intro s hs
   rcases List.mem_append.mp hs with hs | hs
   ·simp only [BO, List.mem_map] at hs
    obtain ⟨b, hb, rfl⟩ := hs
    exact ⟨w, List.mem_cons_self, rfl, rfl, hsub.subset hb⟩
   ·obtain ⟨w', h1, h2⟩ := ih.mem s hs
    exact ⟨w', List.mem_cons_of_mem _ h1, h2⟩
  ·rw [List.pairwise_append]
   refine ⟨?_, ih.ord, ?_⟩
   ·rw [BO, List.pairwise_map]
    refine (hab.sublist hsub).imp ?_
    intro a b hab
    rw [NE]; right; exact ⟨rfl, .inr ⟨rfl, hab⟩⟩
   ·intro s hs t ht
    simp only [BO, List.mem_map] at hs
    obtain ⟨b, hb, rfl⟩ := hs
    obtain ⟨w', h1, h2, h3, _⟩ := ih.mem t ht
    rw [NE]
    have := hlt w' h1
    simp only [ltW] at this
    simp only
    omega
  ·intro w' hw'
   rw [List.countP_append]
   rcases List.mem_cons.mp hw' with rfl | hw'
   ·have h1 : (BO w'.wp w'.wk c).countP (fun s => s.Piece == w'.wp && s.Part == w'.wk) = w'.many := by
     rw [List.countP_eq_length.mpr]
     ·simp [BO, hlen]
     ·intro s hs
      simp only [BO, List.mem_map] at hs
      obtain ⟨b, hb, rfl⟩ := hs
      simp
    have h2 : r.countP (fun s => s.Piece == w'.wp && s.Part == w'.wk) = 0 := by
     rw [List.countP_eq_zero]
     intro s hs
     obtain ⟨v, hv, e1, e2, _⟩ := ih.mem s hs
     have := hlt v hv
     simp only [ltW] at this
     simp only [Bool.and_eq_true, beq_iff_eq, not_and]
     intro e3 e4
     omega
    omega
   ·have h1 : (BO w.wp w.wk c).countP (fun s => s.Piece == w'.wp && s.Part == w'.wk) = 0 := by
     rw [List.countP_eq_zero]
     intro s hs
     simp only [BO, List.mem_map] at hs
     obtain ⟨b, hb, rfl⟩ := hs
     have := hlt w' hw'
     simp only [ltW] at this
     simp only [Bool.and_eq_true, beq_iff_eq, not_and]
     intro e3 e4
     omega
    have := ih.cnt w' hw'
    omega
theorem Uo (q : FK → Bool) : ∀ x : List FK, (x.Pairwise fun a b => q b = true → q a = true) → x = x.filter q ++ x.filter (fun s => !q s)
 | [], _ => rfl
 | a :: x, h => by
  have h' := List.pairwise_cons.mp h
  have ih := Uo q x h'.2
  by_cases ha : q a = true
  ·simp only [List.filter_cons, ha, if_true, Bool.not_true, Bool.false_eq_true, if_false, List.cons_append]
   rw [← ih]
  ·have hx : x.filter q = [] := by
    rw [List.filter_eq_nil_iff]
    intro b hb hq
    exact ha (h'.1 b hb hq)
   have hx2 : x.filter (fun s => !q s) = x := by rw [hx] at ih; simpa using ih.symm
   simp [List.filter_cons, ha, hx, hx2]
theorem U9 : ∀ {W : List Jd} {x : List FK}, Qn W → wc W x → x ∈ Ft W
 | [], x, _, h => by
  cases x with
  | nil => simp [Ft]
  | cons s x => obtain ⟨w, hw, _⟩ := h.mem s List.mem_cons_self; simp at hw
 | w :: W, x, ho, h => by
  have ho' : Qn W := ⟨(List.pairwise_cons.mp ho.ord).2, fun w' hw => ho.able w' (List.mem_cons_of_mem _ hw)⟩
  have hlt := (List.pairwise_cons.mp ho.ord).1
  have hab := ho.able w List.mem_cons_self
  let q : FK → Bool := fun s => s.Piece == w.wp && s.Part == w.wk
  have hq : ∀ s, q s = true ↔ s.Piece = w.wp ∧ s.Part = w.wk := by intro s; simp [q]
  have hge : ∀ s ∈ x, (s.Piece = w.wp ∧ s.Part = w.wk) ∨ (w.wp < s.Piece ∨ (w.wp = s.Piece ∧ w.wk < s.Part)) := by
   intro s hs
   obtain ⟨v, hv, e1, e2, _⟩ := h.mem s hs
   rcases List.mem_cons.mp hv with rfl | hv
   ·exact .inl ⟨e1.symm, e2.symm⟩
   ·have := hlt v hv
    simp only [ltW] at this
    right; omega
  have hsp : x = x.filter q ++ x.filter (fun s => !q s) := by
   apply Uo
   refine List.pairwise_iff_forall_sublist.mpr ?_
   intro a b hs hb
   have h1 := List.pairwise_iff_forall_sublist.mp h.ord hs
   rw [NE] at h1
   rw [hq] at hb ⊢
   have ha : a ∈ x := hs.subset (by simp)
   have := hge a ha
   omega
  have hc1 : x.filter q = BO w.wp w.wk ((x.filter q).map (·.Boy)) := by
   rw [BO, List.map_map]
   conv => lhs; rw [← List.map_id (x.filter q)]
   apply List.map_congr_left
   intro s hs
   have := (hq s).mp (List.mem_filter.mp hs).2
   exact TL this.1 this.2 rfl
  have hlen : ((x.filter q).map (·.Boy)).length = w.many := by
   rw [List.length_map, ← List.countP_eq_length_filter]
   exact h.cnt w List.mem_cons_self
  have hmem : (x.filter q).map (·.Boy) ∈ Dh w.many w.able := by
   rw [E6]
   refine ⟨IH hab ?_ ?_, hlen⟩
   ·rw [List.pairwise_map]
    have : (x.filter q).Pairwise fun y z => lt3 y z = true := h.ord.filter q
    refine List.pairwise_iff_forall_sublist.mpr ?_
    intro a b hs
    have h1 := List.pairwise_iff_forall_sublist.mp this hs
    rw [NE] at h1
    have ha := (hq a).mp (List.mem_filter.mp (hs.subset (by simp : a ∈ [a, b]))).2
    have hb := (hq b).mp (List.mem_filter.mp (hs.subset (by simp : b ∈ [a, b]))).2
    omega
   ·intro b hb
    simp only [List.mem_map] at hb
    obtain ⟨s, hs, rfl⟩ := hb
    obtain ⟨hs1, hs2⟩ := List.mem_filter.mp hs
    have hs2 := (hq s).mp hs2
    obtain ⟨v, hv, e1, e2, e3⟩ := h.mem s hs1
    rcases List.mem_cons.mp hv with rfl | hv
    ·exact e3
    ·exfalso
     have := hlt v hv
     simp only [ltW] at this
     omega
  have hr : x.filter (fun s => !q s) ∈ Ft W := by
   refine U9 ho' ⟨?_, h.ord.filter _, ?_⟩
   ·intro s hs
    obtain ⟨hs1, hs2⟩ := List.mem_filter.mp hs
    obtain ⟨v, hv, e1, e2, e3⟩ := h.mem s hs1
    rcases List.mem_cons.mp hv with rfl | hv
    ·exfalso
     have : q s = true := (hq s).mpr ⟨e1.symm, e2.symm⟩
     simp [this] at hs2
    ·exact ⟨v, hv, e1, e2, e3⟩
   ·intro w' hw'
    rw [List.countP_filter]
    rw [← h.cnt w' (List.mem_cons_of_mem _ hw')]
    apply List.countP_congr
    intro s _
    have := hlt w' hw'
    simp only [ltW] at this
    simp only [Bool.and_eq_true, beq_iff_eq, Bool.not_eq_true', q, Bool.and_eq_false_iff, beq_eq_false_iff_ne]
    constructor
    ·exact fun h => h.1
    ·intro h1; refine ⟨h1, ?_⟩; omega
  rw [hsp, hc1]
  simp only [Ft, List.mem_flatMap, List.mem_map]
  exact ⟨_, hmem, _, hr, rfl⟩
theorem sO {W : List Jd} {x : List FK} (ho : Qn W) : x ∈ Ft W ↔ wc W x := ⟨Uy ho, U9 ho⟩
section
variable (wk : Int → Int) (most : Nat)
theorem TT : ∀ (x pre : List FK), rest wk most pre = true → (Bh wk most pre x = true ↔ ((∀ y ∈ pre, ∀ z ∈ x, ¬ (y.Piece = z.Piece ∧ y.Boy = z.Boy)) ∧ x.Pairwise (fun y z => ¬ (y.Piece = z.Piece ∧ y.Boy = z.Boy)) ∧ rest wk most (pre ++ x) = true))
 | [], pre, h => by simp [Bh, h]
 | a :: x, pre, h => by
  have hcl : Qq pre a = false ↔ ∀ y ∈ pre, ¬ (y.Piece = a.Piece ∧ y.Boy = a.Boy) := by
   simp [Qq]
  simp only [Bh, I7, ← Wa wk most pre a h, Bool.and_eq_true, Bool.not_eq_true']
  constructor
  ·rintro ⟨⟨h1, h2⟩, h3⟩
   obtain ⟨g1, g2, g3⟩ := (TT x (pre ++ [a]) h2).mp h3
   rw [hcl] at h1
   refine ⟨?_, ?_, by simpa using g3⟩
   ·intro y hy z hz
    rcases List.mem_cons.mp hz with rfl | hz
    ·exact h1 y hy
    ·exact g1 y (by simp [hy]) z hz
   ·rw [List.pairwise_cons]
    exact ⟨fun z hz => g1 a (by simp) z hz, g2⟩
  ·rintro ⟨h1, h2, h3⟩
   have e : pre ++ a :: x = pre ++ [a] ++ x := by simp
   rw [e] at h3
   have h4 := gp wk most h3
   rw [List.pairwise_cons] at h2
   refine ⟨⟨hcl.mpr fun y hy => h1 y hy a (by simp), h4⟩, (TT x (pre ++ [a]) h4).mpr ⟨?_, h2.2, h3⟩⟩
   intro y hy z hz
   rcases List.mem_append.mp hy with hy | hy
   ·exact h1 y hy z (by simp [hz])
   ·simp only [List.mem_singleton] at hy; subst hy; exact h2.1 z hz
theorem lG {W : List Jd} (ho : Qn W) (x : List FK) : x ∈ fill wk most W [] ↔ wc W x ∧ x.Pairwise (fun y z => ¬ (y.Piece = z.Piece ∧ y.Boy = z.Boy)) ∧ rest wk most x = true := by
 rw [J7]
 simp only [List.nil_append, List.map_id', List.mem_filter, sO ho]
 have := TT wk most x [] (by simp [rest])
 simp only [List.nil_append, List.not_mem_nil, false_imp_iff, implies_true, true_and] at this
 rw [this]
end
end Go.Lf.Pl
