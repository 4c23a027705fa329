/- A part of the proof. -/
import Derived.Test.YtohgomfnigdaoaaDoorx27
set_option linter.all false
namespace Go.Lf.Pl
def zA (x y : E4) : Bool := decide (x.Piece < y.Piece) || (decide (x.Piece = y.Piece) && (decide (x.Part < y.Part) || (decide (x.Part = y.Part) && decide (x.Boy < y.Boy))))
def C5 : List E4 → List E4 → Bool
 | _, [] => false
 | [], _ :: _ => true
 | x :: xs, y :: ys => if x = y then C5 xs ys else zA x y
theorem M6 (x y : E4) : zA x y = true ↔ x.Piece < y.Piece ∨ (x.Piece = y.Piece ∧ (x.Part < y.Part ∨ (x.Part = y.Part ∧ x.Boy < y.Boy))) := by
 simp [zA]
theorem SO {x y : E4} (h1 : x.Piece = y.Piece) (h2 : x.Part = y.Part) (h3 : x.Boy = y.Boy) : x = y := by
 cases x; cases y; simp_all
theorem nz {x y z : E4} (h : zA x y = true) (h' : zA y z = true) : zA x z = true := by
 rw [M6] at *; omega
theorem Zv (x : E4) : zA x x = false := by
 cases h : zA x x with
 | false => rfl
 | true => rw [M6] at h; omega
theorem I3 : ∀ x : List E4, C5 x x = false
 | [] => rfl
 | a :: x => by simp [C5, I3 x]
theorem J0 : ∀ x y z : List E4, C5 x y = true → C5 y z = true → C5 x z = true
 | _, [], _, h, _ => by simp [C5] at h
 | _, _ :: _, [], _, h => by simp [C5] at h
 | [], _ :: _, _ :: _, _, _ => rfl
 | a :: x, b :: y, c :: z, h, h' => by
  simp only [C5] at *
  by_cases h1 : a = b
  ·subst h1
   simp only [if_true] at h
   by_cases h2 : a = c
   ·subst h2; simp only [if_true] at *; exact J0 x y z h h'
   ·simp only [h2, if_false] at *; exact h'
  ·simp only [h1, if_false] at h
   by_cases h2 : b = c
   ·subst h2; simp only [h1, if_false]; exact h
   ·simp only [h2, if_false] at h'
    have h3 := nz h h'
    have : a ≠ c := by rintro rfl; rw [Zv] at h3; simp at h3
    simp only [this, if_false]; exact h3
theorem mX (s : List E4) (x y : List E4) : C5 (s ++ x) (s ++ y) = C5 x y := by
 induction s with
 | nil => rfl
 | cons a s ih => simp [C5, ih]
def Ic : List (List E4) → List E4 → List E4
 | [], best => best
 | x :: L, best => Ic L (if C5 x best then x else best)
theorem QM : ∀ (L : List (List E4)) (b : List E4), Ic L b = b ∨ Ic L b ∈ L
 | [], b => .inl rfl
 | x :: L, b => by
  simp only [Ic]
  rcases QM L (if C5 x b then x else b) with h | h
  ·by_cases hs : C5 x b = true
   ·rw [if_pos hs] at h ⊢; exact .inr (by rw [h]; exact List.mem_cons_self)
   ·rw [if_neg hs] at h ⊢; exact .inl h
  ·exact .inr (List.mem_cons_of_mem _ h)
theorem Z2 : ∀ (L : List (List E4)) (b : List E4), (C5 b (Ic L b) = false) ∧ ∀ x ∈ L, C5 x (Ic L b) = false
 | [], b => ⟨I3 b, by simp⟩
 | x :: L, b => by
  simp only [Ic]
  have ih := Z2 L (if C5 x b then x else b)
  by_cases hs : C5 x b = true
  ·rw [if_pos hs] at ih ⊢
   refine ⟨?_, ?_⟩
   ·cases hb : C5 b (Ic L x) with
    | false => rfl
    | true =>
     have := J0 _ _ _ hs hb
     rw [ih.1] at this; simp at this
   ·intro y hy
    rcases List.mem_cons.mp hy with rfl | hy
    ·exact ih.1
    ·exact ih.2 y hy
  ·rw [if_neg hs] at ih ⊢
   refine ⟨ih.1, ?_⟩
   intro y hy
   rcases List.mem_cons.mp hy with rfl | hy
   ·cases hb : C5 y (Ic L b) with
    | false => rfl
    | true =>
     rcases QM L b with h | h
     ·rw [h] at hb; exact absurd hb hs
     ·
      exfalso
      have h1 := ih.1
      have := total_of b (Ic L b) h1
      rcases this with h2 | h2
      ·rw [h2] at hb; exact hs hb
      ·exact hs (J0 _ _ _ hb h2)
   ·exact ih.2 y hy
where
 total_of (b r : List E4) (h : C5 b r = false) : r = b ∨ C5 r b = true := by
  induction b generalizing r with
  | nil => cases r with
   | nil => exact .inl rfl
   | cons a r => simp [C5] at h
  | cons a b ih => cases r with
   | nil => exact .inr rfl
   | cons c r =>
    simp only [C5] at h ⊢
    by_cases hac : a = c
    ·subst hac
     simp only [if_true] at h ⊢
     rcases ih r h with h1 | h1
     ·exact .inl (by rw [h1])
     ·exact .inr h1
    ·simp only [hac, if_false] at h
     simp only [Ne.symm hac, if_false]
     right
     have h1 : ¬ zA a c = true := by rw [h]; simp
     rw [M6] at h1 ⊢
     have : ¬ (a.Piece = c.Piece ∧ a.Part = c.Part ∧ a.Boy = c.Boy) := fun ⟨h1, h2, h3⟩ => hac (SO h1 h2 h3)
     omega
theorem sO {L S : List (List E4)} {a : List E4} (hp : L.Perm (a :: S)) (hs : (a :: S).Pairwise fun x y => C5 x y = true) {b : List E4} (hb : b ∈ L) : Ic L b = a := by
 have hm : Ic L b ∈ a :: S := by
  rcases QM L b with h | h
  ·rw [h]; exact hp.mem_iff.mp hb
  ·exact hp.mem_iff.mp h
 rcases List.mem_cons.mp hm with h | h
 ·exact h
 ·have h1 := List.rel_of_pairwise_cons hs h
  have h2 := (Z2 L b).2 a (hp.mem_iff.mpr List.mem_cons_self)
  rw [h1] at h2; simp at h2
theorem OK (p k : Int) : ∀ (l : List Int) (m : Nat), l.Pairwise (· < ·) → (DW m l).Pairwise fun c d => ∀ r r' : List E4, C5 (BG p k c ++ r) (BG p k d ++ r') = true
 | [], m, _ => by cases m <;> simp [DW]
 | a :: l, 0, _ => by simp [DW]
 | a :: l, m + 1, h => by
  simp only [DW, List.pairwise_append]
  have hl := (List.pairwise_cons.mp h).2
  refine ⟨?_, OK p k l (m + 1) hl, ?_⟩
  ·rw [List.pairwise_map]
   refine (OK p k l m hl).imp ?_
   intro c d hcd r r'
   simp only [BG, List.map_cons, List.cons_append, C5, if_true]
   exact hcd r r'
  ·intro c hc d hd r r'
   obtain ⟨c, _, rfl⟩ := List.mem_map.mp hc
   obtain ⟨hs, hlen⟩ := Es.mp hd
   cases d with
   | nil => simp at hlen
   | cons b d =>
    have hb : b ∈ l := hs.subset List.mem_cons_self
    have hab := (List.pairwise_cons.mp h).1 b hb
    simp only [BG, List.map_cons, List.cons_append, C5]
    have : ¬ ((⟨p, k, a⟩ : E4) = ⟨p, k, b⟩) := by simp; omega
    rw [if_neg this, M6]
    right; exact ⟨rfl, .inr ⟨rfl, hab⟩⟩
theorem WE : ∀ W : List P4, (∀ w ∈ W, w.able.Pairwise (· < ·)) → (G3 W).Pairwise fun x y => C5 x y = true
 | [], _ => by simp [G3]
 | w :: W, h => by
  simp only [G3]
  rw [List.pairwise_flatMap]
  refine ⟨?_, ?_⟩
  ·intro c _
   rw [List.pairwise_map]
   refine (WE W fun w hw => h w (List.mem_cons_of_mem _ hw)).imp ?_
   intro x y hxy
   rw [mX]; exact hxy
  ·refine (OK w.wp w.wk w.able w.many (h w List.mem_cons_self)).imp ?_
   intro c d hcd x hx y hy
   obtain ⟨r, _, rfl⟩ := List.mem_map.mp hx
   obtain ⟨r', _, rfl⟩ := List.mem_map.mp hy
   exact hcd r r'
end Go.Lf.Pl
namespace Go.Lf.Pl
def pick : List Int → Nat → List Int
 | [], _ => []
 | a :: l, s => if s % 2 = 1 then a :: pick l (s / 2) else pick l (s / 2)
def mG (l : List Int) : List (List Int) := (List.range (2 ^ l.length)).map (pick l)
theorem fL : ∀ n : Nat, (List.range (2 * n)).Perm ((List.range n).map (fun s => 2 * s + 1) ++ (List.range n).map (fun s => 2 * s))
 | 0 => by simp
 | n + 1 => by
  have e : List.range (2 * (n + 1)) = List.range (2 * n) ++ [2 * n, 2 * n + 1] := by
   rw [show 2 * (n + 1) = 2 * n + 1 + 1 by omega, List.range_succ, List.range_succ]; simp
  rw [e, List.range_succ, List.map_append, List.map_append]
  refine ((fL n).append_right _).trans ?_
  simp only [List.map_cons, List.map_nil, List.append_assoc]
  refine List.Perm.append_left _ ?_
  have h1 : ([2 * n, 2 * n + 1] : List Nat).Perm [2 * n + 1, 2 * n] := .swap ..
  refine (h1.append_left _).trans ?_
  rw [show ([2 * n + 1, 2 * n] : List Nat) = [2 * n + 1] ++ [2 * n] from rfl, ← List.append_assoc, ← List.append_assoc]
  exact (List.perm_append_comm (l₁ := List.map (fun s => 2 * s) (List.range n)) (l₂ := [2 * n + 1])).append_right _
theorem aV : ∀ l : List Int, (mG l).Perm (mc l)
 | [] => by simp [mG, mc, pick]
 | a :: l => by
  have h := aV l
  simp only [mG] at h ⊢
  rw [List.length_cons, Nat.pow_succ, Nat.mul_comm]
  refine ((fL _).map _).trans ?_
  rw [List.map_append, List.map_map, List.map_map]
  have e1 : (pick (a :: l) ∘ fun s => 2 * s + 1) = (fun c => a :: c) ∘ pick l := by
   funext s
   have h1 : (2 * s + 1) % 2 = 1 := by omega
   have h2 : (2 * s + 1) / 2 = s := by omega
   simp [pick, h1, h2]
  have e2 : (pick (a :: l) ∘ fun s => 2 * s) = pick l := by
   funext s
   have h1 : (2 * s) % 2 = 0 := by omega
   have h2 : (2 * s) / 2 = s := by omega
   simp [pick, h1, h2]
  rw [e1, e2, ← List.map_map]
  simp only [mc]
  exact (h.map _).append h
theorem jV (l : List Int) (m : Nat) : ((mG l).filter fun c => c.length == m).Perm (DW m l) := by
 rw [← O6]; exact (aV l).filter _
def dc (pre : List E4) (b : Int) : Bool := pre.any fun y => y.Boy == b
def Cf (pre : List E4) : List E4 → Bool
 | [] => true
 | x :: xs => !dc pre x.Boy && Cf (pre ++ [x]) xs
theorem NM (a b : List E4) : ∀ pre, Cf pre (a ++ b) = (Cf pre a && Cf (pre ++ a) b) := by
 induction a with
 | nil => intro pre; simp [Cf]
 | cons x a ih => intro pre; simp [Cf, ih, Bool.and_assoc, List.append_assoc]
def Np (p : Int) : List (Int × Nat × List Int) → List E4 → List (List E4)
 | [], sm => [sm]
 | (k, m, l) :: r, sm => (mG l).flatMap fun c => if c.length == m && c.all (fun b => !dc sm b) then Np p r (sm ++ BG p k c) else []
def Gl (p : Int) (ps : List (Int × Nat × List Int)) : List P4 := ps.map fun x => ⟨p, x.1, x.2.1, x.2.2⟩
theorem jX (p k : Int) : ∀ (c : List Int) (pre : List E4), c.Nodup → Cf pre (BG p k c) = c.all fun b => !dc pre b := by
 intro c
 induction c with
 | nil => intro pre _; rfl
 | cons b c ih =>
  intro pre h
  have hb := (List.nodup_cons.mp h).1
  have := ih (pre ++ [⟨p, k, b⟩]) (List.nodup_cons.mp h).2
  simp only [BG, List.map_cons, Cf, List.all_cons] at this ⊢
  rw [this]
  congr 1
  rw [Bool.eq_iff_iff]
  simp only [List.all_eq_true, Bool.not_eq_true', dc, List.any_append, List.any_cons, List.any_nil, Bool.or_false, Bool.or_eq_false_iff, beq_eq_false_iff_ne]
  constructor
  ·intro h1 x hx; exact (h1 x hx).1
  ·intro h1 x hx; exact ⟨h1 x hx, fun e => hb (e ▸ hx)⟩
theorem TF {α β : Type} (q : α → Bool) (f : α → List β) : ∀ l : List α, (l.flatMap fun c => if q c = true then f c else []) = (l.filter q).flatMap f
 | [] => rfl
 | a :: l => by
  simp only [List.flatMap_cons, List.filter_cons, TF q f l]
  by_cases h : q a = true
  ·simp [h]
  ·simp [h]
theorem OH {α β : Type} {f g : α → List β} : ∀ {l : List α}, (∀ a ∈ l, (f a).Perm (g a)) → (l.flatMap f).Perm (l.flatMap g)
 | [], _ => by simp
 | a :: l, h => by
  simp only [List.flatMap_cons]
  exact (h a List.mem_cons_self).append (OH fun b hb => h b (List.mem_cons_of_mem _ hb))
theorem J1 {α β : Type} (f : α → List β) {l l' : List α} (h : l.Perm l') : (l.flatMap f).Perm (l'.flatMap f) := by
 induction h with
 | nil => exact .refl _
 | cons a _ ih => simp only [List.flatMap_cons]; exact ih.append_left _
 | swap a b l =>
  simp only [List.flatMap_cons, ← List.append_assoc]
  exact (List.perm_append_comm).append_right _
 | trans _ _ ih1 ih2 => exact ih1.trans ih2
theorem Uh (p : Int) : ∀ (ps : List (Int × Nat × List Int)) (sm : List E4), (∀ x ∈ ps, x.2.2.Nodup) →
  (Np p ps sm).Perm (((G3 (Gl p ps)).filter (Cf sm)).map (sm ++ ·))
 | [], sm, _ => by simp [Np, Gl, G3, Cf, List.filter_cons]
 | (k, m, l) :: r, sm, h => by
  have hl : l.Nodup := h (k, m, l) List.mem_cons_self
  have ih := fun sm => Uh p r sm fun x hx => h x (List.mem_cons_of_mem _ hx)
  have e1 : Np p ((k, m, l) :: r) sm = (((mG l).filter fun c => c.length == m).flatMap fun c => if (c.all fun b => !dc sm b) = true then Np p r (sm ++ BG p k c) else []) := by
   simp only [Np]
   rw [← TF]
   congr 1; funext c
   by_cases h1 : (c.length == m) = true <;> simp [h1]
  rw [e1]
  refine (J1 _ (jV l m)).trans ?_
  simp only [Gl, List.map_cons, G3, List.filter_flatMap, List.map_flatMap]
  refine OH ?_
  intro c hc
  have hn : c.Nodup := (Es.mp hc).1.nodup hl
  have hap := jX p k c sm hn
  rw [List.filter_map]
  by_cases hh : (c.all fun b => !dc sm b) = true
  ·rw [if_pos hh]
   refine (ih _).trans ?_
   rw [List.map_map]
   have e : (Cf sm ∘ fun r => BG p k c ++ r) = Cf (sm ++ BG p k c) := by
    funext x; simp [NM, hap, hh]
   rw [e]
   have e3 : (fun x => sm ++ BG p k c ++ x) = ((fun x => sm ++ x) ∘ fun r => BG p k c ++ r) := by funext x; simp
   rw [← e3]
   exact .refl _
  ·rw [if_neg hh]
   have e : (G3 (Gl p r)).filter (Cf sm ∘ fun r => BG p k c ++ r) = [] := by
    rw [List.filter_eq_nil_iff]; intro x _; simp [NM, hap, hh]
   rw [show (List.map (fun x : Int × Nat × List Int => (⟨p, x.1, x.2.1, x.2.2⟩ : P4)) r) = Gl p r from rfl, e]
   exact .refl _
section
variable (wk : Int → Int) (most : Nat)
def rest (z : List E4) : Bool := z.all fun x => decide (Ft wk z (wk x.Piece) x.Boy ≤ most)
def ez : List (Int × List (Int × Nat × List Int)) → List (List E4) → List (List E4)
 | [], out => out
 | (p, ps) :: r, out => ez r (out.flatMap fun o => ((Np p ps []).map (o ++ ·)).filter (rest wk most))
def Vg (PS : List (Int × List (Int × Nat × List Int))) : List P4 := PS.flatMap fun x => Gl x.1 x.2
theorem IK (a b : List E4) (w y : Int) : Ft wk (a ++ b) w y = Ft wk a w y + Ft wk b w y := by simp [Ft, List.countP_append]
theorem aj (z : List E4) : rest wk most z = true ↔ ∀ x ∈ z, Ft wk z (wk x.Piece) x.Boy ≤ most := by simp [rest]
theorem gh {a b : List E4} (h : rest wk most (a ++ b) = true) : rest wk most a = true := by
 rw [aj] at *
 intro x hx
 have := h x (List.mem_append_left _ hx)
 rw [IK] at this; omega
theorem Xf (pre : List E4) (x : E4) (h : rest wk most pre = true) : rest wk most (pre ++ [x]) = decide (Ft wk pre (wk x.Piece) x.Boy < most) := by
 rw [Bool.eq_iff_iff, aj]
 rw [aj] at h
 simp only [decide_eq_true_eq]
 have hx : Ft wk [x] (wk x.Piece) x.Boy = 1 := by simp [Ft]
 constructor
 ·intro h1
  have := h1 x (by simp)
  rw [IK, hx] at this; omega
 ·intro h1 y hy
  rw [IK]
  have hc : Ft wk [x] (wk y.Piece) y.Boy = if wk x.Piece = wk y.Piece ∧ x.Boy = y.Boy then 1 else 0 := by
   simp only [Ft, List.countP_cons, List.countP_nil]
   by_cases h2 : wk x.Piece = wk y.Piece ∧ x.Boy = y.Boy
   ·simp [h2.1, h2.2]
   ·rw [if_neg h2]
    have : ¬ ((wk x.Piece == wk y.Piece && x.Boy == y.Boy) = true) := by simpa using h2
    simp [this]
  rw [hc]
  rcases List.mem_append.mp hy with hy | hy
  ·by_cases h2 : wk x.Piece = wk y.Piece ∧ x.Boy = y.Boy
   ·rw [if_pos h2, ← h2.1, ← h2.2]; omega
   ·rw [if_neg h2]; have := h y hy; omega
  ·simp only [List.mem_singleton] at hy
   subst hy
   simp only [and_self, if_true]; omega
theorem gK (p : Int) (own : List E4) (hp : ∀ x ∈ own, x.Piece = p) : ∀ (o q : List E4), (∀ x ∈ o, x.Piece ≠ p) → (∀ x ∈ q, x.Piece = p) → rest wk most (o ++ q) = true →
  B1 wk most (o ++ q) own = (Cf q own && rest wk most (o ++ q ++ own)) := by
 induction own with
 | nil => intro o q _ _ h; simp [B1, Cf, h]
 | cons x own ih =>
  intro o q ho hq hr
  have hx := hp x List.mem_cons_self
  have hcl : Tv (o ++ q) x = dc q x.Boy := by
   simp only [Tv, dc, List.any_append]
   have h1 : o.any (fun y => y.Piece == x.Piece && y.Boy == x.Boy) = false := by
    rw [List.any_eq_false]
    intro y hy
    have := ho y hy
    simp [hx, this]
   rw [h1, Bool.false_or]
   rw [Bool.eq_iff_iff, List.any_eq_true, List.any_eq_true]
   constructor
   ·rintro ⟨y, hy, h⟩; exact ⟨y, hy, by simp at h ⊢; exact h.2⟩
   ·rintro ⟨y, hy, h⟩; exact ⟨y, hy, by simp at h ⊢; exact ⟨by rw [hq y hy, hx], h⟩⟩
  have hsn := Xf wk most (o ++ q) x hr
  simp only [B1, KB, hcl, Cf, ← hsn]
  by_cases h1 : rest wk most (o ++ q ++ [x]) = true
  ·have := ih (fun y hy => hp y (List.mem_cons_of_mem _ hy)) o (q ++ [x]) ho (by
    intro y hy
    rcases List.mem_append.mp hy with hy | hy
    ·exact hq y hy
    ·simp only [List.mem_singleton] at hy; rw [hy, hx]) (by rw [← List.append_assoc]; exact h1)
   rw [← List.append_assoc] at this
   rw [h1, this]
   simp [Bool.and_assoc]
  ·have h2 : rest wk most (o ++ q ++ x :: own) = false := by
    cases hh : rest wk most (o ++ q ++ x :: own) with
    | false => rfl
    | true =>
     have : o ++ q ++ x :: own = (o ++ q ++ [x]) ++ own := by simp
     rw [this] at hh
     exact absurd (gh wk most hh) h1
   have h1 : rest wk most (o ++ q ++ [x]) = false := by simpa using h1
   rw [h1, h2]; simp
theorem XP : ∀ A B : List P4, G3 (A ++ B) = (G3 A).flatMap fun x => (G3 B).map fun y => x ++ y
 | [], B => by simp [G3]
 | w :: A, B => by
  simp only [List.cons_append, G3, XP A B, List.flatMap_assoc, List.map_flatMap, List.map_map, List.flatMap_map]
  congr 1; funext c
  congr 1; funext x
  congr 1; funext y
  simp
theorem KT : ∀ {W : List P4} {x : List E4}, x ∈ G3 W → ∀ y ∈ x, ∃ w ∈ W, y.Piece = w.wp
 | [], x, h, y, hy => by simp [G3] at h; subst h; simp at hy
 | w :: W, x, h, y, hy => by
  simp only [G3, List.mem_flatMap, List.mem_map] at h
  obtain ⟨c, _, r, hr, rfl⟩ := h
  rcases List.mem_append.mp hy with hy | hy
  ·simp only [BG, List.mem_map] at hy
   obtain ⟨b, _, rfl⟩ := hy
   exact ⟨w, List.mem_cons_self, rfl⟩
  ·obtain ⟨w', h1, h2⟩ := KT hr y hy
   exact ⟨w', List.mem_cons_of_mem _ h1, h2⟩
theorem WJ : ∀ (x pre : List E4), rest wk most pre = true → B1 wk most pre x = true → rest wk most (pre ++ x) = true
 | [], pre, h, _ => by simpa using h
 | a :: x, pre, h, ho => by
  simp only [B1, KB, Bool.and_eq_true] at ho
  have h1 : rest wk most (pre ++ [a]) = true := by rw [Xf wk most pre a h]; exact ho.1.2
  have := WJ x (pre ++ [a]) h1 ho.2
  simpa using this
theorem iR (p : Int) (ps : List (Int × Nat × List Int)) (hps : ∀ x ∈ ps, x.2.2.Nodup) (A : List P4) (hA : ∀ w ∈ A, w.wp ≠ p) {out : List (List E4)}
  (h : out.Perm ((G3 A).filter (B1 wk most []))) :
  (out.flatMap fun o => ((Np p ps []).map (o ++ ·)).filter (rest wk most)).Perm ((G3 (A ++ Gl p ps)).filter (B1 wk most [])) := by
 refine (J1 _ h).trans ?_
 rw [XP, List.filter_flatMap]
 have e : ((G3 A).flatMap fun x => List.filter (B1 wk most []) ((G3 (Gl p ps)).map fun y => x ++ y)) =
   (((G3 A).filter (B1 wk most [])).flatMap fun x => List.filter (B1 wk most []) ((G3 (Gl p ps)).map fun y => x ++ y)) := by
  rw [← TF]
  congr 1; funext x
  by_cases hx : B1 wk most [] x = true
  ·rw [if_pos hx]
  ·rw [if_neg hx, List.filter_map]
   have : (G3 (Gl p ps)).filter (B1 wk most [] ∘ fun y => x ++ y) = [] := by
    rw [List.filter_eq_nil_iff]; intro y _; simp [Iy, hx]
   rw [this]; rfl
 rw [e]
 refine OH ?_
 intro o ho
 obtain ⟨hoA, hok⟩ := List.mem_filter.mp ho
 have hro : rest wk most o = true := by
  have := WJ wk most o [] (by simp [rest]) hok
  simpa using this
 have hp0 : ∀ x ∈ o, x.Piece ≠ p := by
  intro x hx
  obtain ⟨w, hw, he⟩ := KT hoA x hx
  rw [he]; exact hA w hw
 have h1 := (((Uh p ps [] hps).map (o ++ ·)).filter (rest wk most))
 refine h1.trans ?_
 simp only [List.nil_append, List.map_id', List.filter_map]
 rw [List.filter_filter]
 have : List.filter (fun a => (rest wk most ∘ fun x => o ++ x) a && Cf [] a) (G3 (Gl p ps)) = List.filter (B1 wk most [] ∘ fun y => o ++ y) (G3 (Gl p ps)) := by
  apply List.filter_congr
  intro own hown
  have hpo : ∀ x ∈ own, x.Piece = p := by
   intro x hx
   obtain ⟨w, hw, he⟩ := KT hown x hx
   simp only [Gl, List.mem_map] at hw
   obtain ⟨z, _, rfl⟩ := hw
   exact he
  have := gK wk most p own hpo o [] hp0 (by simp) (by simpa using hro)
  simp only [List.append_nil] at this
  simp only [Function.comp, Iy, List.nil_append, hok, Bool.true_and, this, Bool.and_comm]
 rw [this]
theorem Xp : ∀ (PS : List (Int × List (Int × Nat × List Int))) (A : List P4) (out : List (List E4)), (∀ x ∈ PS, ∀ y ∈ x.2, y.2.2.Nodup) → (PS.map (·.1)).Nodup → (∀ w ∈ A, ∀ x ∈ PS, w.wp ≠ x.1) →
  out.Perm ((G3 A).filter (B1 wk most [])) → (ez wk most PS out).Perm ((G3 (A ++ Vg PS)).filter (B1 wk most []))
 | [], A, out, _, _, _, h => by simpa [ez, Vg] using h
 | (p, ps) :: PS, A, out, h1, h2, h3, h => by
  simp only [ez]
  have := Xp PS (A ++ Gl p ps) _ (fun x hx => h1 x (List.mem_cons_of_mem _ hx)) (List.nodup_cons.mp h2).2 (by
   intro w hw x hx
   rcases List.mem_append.mp hw with hw | hw
   ·exact h3 w hw x (List.mem_cons_of_mem _ hx)
   ·simp only [Gl, List.mem_map] at hw
    obtain ⟨z, _, rfl⟩ := hw
    intro e
    exact (List.nodup_cons.mp h2).1 (List.mem_map.mpr ⟨x, hx, e.symm⟩))
   (iR wk most p ps (h1 (p, ps) List.mem_cons_self) A (fun w hw => h3 w hw (p, ps) List.mem_cons_self) h)
  simpa [Vg] using this
theorem uN (PS : List (Int × List (Int × Nat × List Int))) (h1 : ∀ x ∈ PS, ∀ y ∈ x.2, y.2.2.Nodup) (h2 : (PS.map (·.1)).Nodup) :
  (ez wk most PS [[]]).Perm (fill wk most (Vg PS) []) := by
 have := Xp wk most PS [] [[]] h1 h2 (by simp) (by simp [G3, B1, List.filter_cons])
 rw [KZ]
 simpa using this
theorem jD (W : List P4) (h : ∀ w ∈ W, w.able.Pairwise (· < ·)) : (fill wk most W []).Pairwise fun x y => C5 x y = true := by
 rw [KZ]
 simp only [List.nil_append, List.map_id']
 exact (WE W h).filter _
end
end Go.Lf.Pl
namespace Go.Lf.Pl
theorem Hu : ∀ {l c : List Int}, l.Pairwise (· < ·) → c.Pairwise (· < ·) → (∀ x ∈ c, x ∈ l) → List.Sublist c l
 | l, [], _, _, _ => List.nil_sublist l
 | [], a :: c, _, _, h => absurd (h a List.mem_cons_self) (by simp)
 | b :: l, a :: c, hl, hc, h => by
  have hl' := List.pairwise_cons.mp hl
  have hc' := List.pairwise_cons.mp hc
  rcases List.mem_cons.mp (h a List.mem_cons_self) with rfl | ha
  ·refine List.Sublist.cons_cons a (Hu hl'.2 hc'.2 ?_)
   intro x hx
   rcases List.mem_cons.mp (h x (List.mem_cons_of_mem _ hx)) with rfl | hx'
   ·have := hc'.1 x hx; omega
   ·exact hx'
  ·refine List.Sublist.cons b (Hu hl'.2 hc ?_)
   intro x hx
   rcases List.mem_cons.mp (h x hx) with rfl | hx'
   ·exfalso
    have h1 := hl'.1 a ha
    rcases List.mem_cons.mp hx with rfl | hx
    ·omega
    ·have := hc'.1 x hx; omega
   ·exact hx'
def yt (w w' : P4) : Prop := w.wp < w'.wp ∨ (w.wp = w'.wp ∧ w.wk < w'.wk)
structure Qb (W : List P4) : Prop where
 ord : W.Pairwise yt
 able : ∀ w ∈ W, w.able.Pairwise (· < ·)
structure wF (W : List P4) (x : List E4) : Prop where
 mem : ∀ s ∈ x, ∃ w ∈ W, w.wp = s.Piece ∧ w.wk = s.Part ∧ s.Boy ∈ w.able
 ord : x.Pairwise fun y z => zA y z = true
 cnt : ∀ w ∈ W, x.countP (fun s => s.Piece == w.wp && s.Part == w.wk) = w.many
theorem UT : ∀ {W : List P4} {x : List E4}, Qb W → x ∈ G3 W → wF W x
 | [], x, _, h => by
  simp only [G3, List.mem_singleton] at h; subst h
  exact ⟨by simp, List.Pairwise.nil, by simp⟩
 | w :: W, x, ho, h => by
  have ho' : Qb W := ⟨(List.pairwise_cons.mp ho.ord).2, fun w' hw => ho.able w' (List.mem_cons_of_mem _ hw)⟩
  have hlt := (List.pairwise_cons.mp ho.ord).1
  simp only [G3, List.mem_flatMap, List.mem_map] at h
  obtain ⟨c, hc, r, hr, rfl⟩ := h
  have ih := UT ho' hr
  obtain ⟨hsub, hlen⟩ := Es.mp hc
  have hab := ho.able w List.mem_cons_self
  refine ⟨?_, ?_, ?_⟩
  ·intro s hs
   rcases List.mem_append.mp hs with hs | hs
   ·simp only [BG, List.mem_map] at hs
    obtain ⟨b, hb, rfl⟩ := hs
    exact ⟨w, List.mem_cons_self, rfl, rfl, hsub.subset hb⟩
   ·obtain ⟨w', h1, h2⟩ := ih.mem s hs
    exact ⟨w', List.mem_cons_of_mem _ h1, h2⟩
  ·rw [List.pairwise_append]
   refine ⟨?_, ih.ord, ?_⟩
   ·rw [BG, List.pairwise_map]
    refine (hab.sublist hsub).imp ?_
    intro a b hab
    rw [M6]; right; exact ⟨rfl, .inr ⟨rfl, hab⟩⟩
   ·intro s hs t ht
    simp only [BG, List.mem_map] at hs
    obtain ⟨b, hb, rfl⟩ := hs
    obtain ⟨w', h1, h2, h3, _⟩ := ih.mem t ht
    rw [M6]
    have := hlt w' h1
    simp only [yt] at this
    simp only
    omega
  ·intro w' hw'
   rw [List.countP_append]
   rcases List.mem_cons.mp hw' with rfl | hw'
   ·have h1 : (BG w'.wp w'.wk c).countP (fun s => s.Piece == w'.wp && s.Part == w'.wk) = w'.many := by
     rw [List.countP_eq_length.mpr]
     ·simp [BG, hlen]
     ·intro s hs
      simp only [BG, List.mem_map] at hs
      obtain ⟨b, hb, rfl⟩ := hs
      simp
    have h2 : r.countP (fun s => s.Piece == w'.wp && s.Part == w'.wk) = 0 := by
     rw [List.countP_eq_zero]
     intro s hs
     obtain ⟨v, hv, e1, e2, _⟩ := ih.mem s hs
     have := hlt v hv
     simp only [yt] at this
     simp only [Bool.and_eq_true, beq_iff_eq, not_and]
     intro e3 e4
     omega
    omega
   ·have h1 : (BG w.wp w.wk c).countP (fun s => s.Piece == w'.wp && s.Part == w'.wk) = 0 := by
     rw [List.countP_eq_zero]
     intro s hs
     simp only [BG, List.mem_map] at hs
     obtain ⟨b, hb, rfl⟩ := hs
     have := hlt w' hw'
     simp only [yt] at this
     simp only [Bool.and_eq_true, beq_iff_eq, not_and]
     intro e3 e4
     omega
    have := ih.cnt w' hw'
    omega
theorem Ul (q : E4 → Bool) : ∀ x : List E4, (x.Pairwise fun a b => q b = true → q a = true) → x = x.filter q ++ x.filter (fun s => !q s)
 | [], _ => rfl
 | a :: x, h => by
  have h' := List.pairwise_cons.mp h
  have ih := Ul q x h'.2
  by_cases ha : q a = true
  ·simp only [List.filter_cons, ha, if_true, Bool.not_true, Bool.false_eq_true, if_false, List.cons_append]
   rw [← ih]
  ·have hx : x.filter q = [] := by
    rw [List.filter_eq_nil_iff]
    intro b hb hq
    exact ha (h'.1 b hb hq)
   have hx2 : x.filter (fun s => !q s) = x := by rw [hx] at ih; simpa using ih.symm
   simp [List.filter_cons, ha, hx, hx2]
theorem UW : ∀ {W : List P4} {x : List E4}, Qb W → wF W x → x ∈ G3 W
 | [], x, _, h => by
  cases x with
  | nil => simp [G3]
  | cons s x => obtain ⟨w, hw, _⟩ := h.mem s List.mem_cons_self; simp at hw
 | w :: W, x, ho, h => by
  have ho' : Qb W := ⟨(List.pairwise_cons.mp ho.ord).2, fun w' hw => ho.able w' (List.mem_cons_of_mem _ hw)⟩
  have hlt := (List.pairwise_cons.mp ho.ord).1
  have hab := ho.able w List.mem_cons_self
  let q : E4 → Bool := fun s => s.Piece == w.wp && s.Part == w.wk
  have hq : ∀ s, q s = true ↔ s.Piece = w.wp ∧ s.Part = w.wk := by intro s; simp [q]
  have hge : ∀ s ∈ x, (s.Piece = w.wp ∧ s.Part = w.wk) ∨ (w.wp < s.Piece ∨ (w.wp = s.Piece ∧ w.wk < s.Part)) := by
   intro s hs
   obtain ⟨v, hv, e1, e2, _⟩ := h.mem s hs
   rcases List.mem_cons.mp hv with rfl | hv
   ·exact .inl ⟨e1.symm, e2.symm⟩
   ·have := hlt v hv
    simp only [yt] at this
    right; omega
  have hsp : x = x.filter q ++ x.filter (fun s => !q s) := by
   apply Ul
   refine List.pairwise_iff_forall_sublist.mpr ?_
   intro a b hs hb
   have h1 := List.pairwise_iff_forall_sublist.mp h.ord hs
   rw [M6] at h1
   rw [hq] at hb ⊢
   have ha : a ∈ x := hs.subset (by simp)
   have := hge a ha
   omega
  have hc1 : x.filter q = BG w.wp w.wk ((x.filter q).map (·.Boy)) := by
   rw [BG, List.map_map]
   conv => lhs; rw [← List.map_id (x.filter q)]
   apply List.map_congr_left
   intro s hs
   have := (hq s).mp (List.mem_filter.mp hs).2
   exact SO this.1 this.2 rfl
  have hlen : ((x.filter q).map (·.Boy)).length = w.many := by
   rw [List.length_map, ← List.countP_eq_length_filter]
   exact h.cnt w List.mem_cons_self
  have hmem : (x.filter q).map (·.Boy) ∈ DW w.many w.able := by
   rw [Es]
   refine ⟨Hu hab ?_ ?_, hlen⟩
   ·rw [List.pairwise_map]
    have : (x.filter q).Pairwise fun y z => zA y z = true := h.ord.filter q
    refine List.pairwise_iff_forall_sublist.mpr ?_
    intro a b hs
    have h1 := List.pairwise_iff_forall_sublist.mp this hs
    rw [M6] at h1
    have ha := (hq a).mp (List.mem_filter.mp (hs.subset (by simp : a ∈ [a, b]))).2
    have hb := (hq b).mp (List.mem_filter.mp (hs.subset (by simp : b ∈ [a, b]))).2
    omega
   ·intro b hb
    simp only [List.mem_map] at hb
    obtain ⟨s, hs, rfl⟩ := hb
    obtain ⟨hs1, hs2⟩ := List.mem_filter.mp hs
    have hs2 := (hq s).mp hs2
    obtain ⟨v, hv, e1, e2, e3⟩ := h.mem s hs1
    rcases List.mem_cons.mp hv with rfl | hv
    ·exact e3
    ·exfalso
     have := hlt v hv
     simp only [yt] at this
     omega
  have hr : x.filter (fun s => !q s) ∈ G3 W := by
   refine UW ho' ⟨?_, h.ord.filter _, ?_⟩
   ·intro s hs
    obtain ⟨hs1, hs2⟩ := List.mem_filter.mp hs
    obtain ⟨v, hv, e1, e2, e3⟩ := h.mem s hs1
    rcases List.mem_cons.mp hv with rfl | hv
    ·exfalso
     have : q s = true := (hq s).mpr ⟨e1.symm, e2.symm⟩
     simp [this] at hs2
    ·exact ⟨v, hv, e1, e2, e3⟩
   ·intro w' hw'
    rw [List.countP_filter]
    rw [← h.cnt w' (List.mem_cons_of_mem _ hw')]
    apply List.countP_congr
    intro s _
    have := hlt w' hw'
    simp only [yt] at this
    simp only [Bool.and_eq_true, beq_iff_eq, Bool.not_eq_true', q, Bool.and_eq_false_iff, beq_eq_false_iff_ne]
    constructor
    ·exact fun h => h.1
    ·intro h1; refine ⟨h1, ?_⟩; omega
  rw [hsp, hc1]
  simp only [G3, List.mem_flatMap, List.mem_map]
  exact ⟨_, hmem, _, hr, rfl⟩
theorem pz {W : List P4} {x : List E4} (ho : Qb W) : x ∈ G3 W ↔ wF W x := ⟨UT ho, UW ho⟩
section
variable (wk : Int → Int) (most : Nat)
theorem Ti : ∀ (x pre : List E4), rest wk most pre = true → (B1 wk most pre x = true ↔ ((∀ y ∈ pre, ∀ z ∈ x, ¬ (y.Piece = z.Piece ∧ y.Boy = z.Boy)) ∧ x.Pairwise (fun y z => ¬ (y.Piece = z.Piece ∧ y.Boy = z.Boy)) ∧ rest wk most (pre ++ x) = true))
 | [], pre, h => by simp [B1, h]
 | a :: x, pre, h => by
  have hcl : Tv pre a = false ↔ ∀ y ∈ pre, ¬ (y.Piece = a.Piece ∧ y.Boy = a.Boy) := by
   simp [Tv]
  simp only [B1, KB, ← Xf wk most pre a h, Bool.and_eq_true, Bool.not_eq_true']
  constructor
  ·rintro ⟨⟨h1, h2⟩, h3⟩
   obtain ⟨g1, g2, g3⟩ := (Ti x (pre ++ [a]) h2).mp h3
   rw [hcl] at h1
   refine ⟨?_, ?_, by simpa using g3⟩
   ·intro y hy z hz
    rcases List.mem_cons.mp hz with rfl | hz
    ·exact h1 y hy
    ·exact g1 y (by simp [hy]) z hz
   ·rw [List.pairwise_cons]
    exact ⟨fun z hz => g1 a (by simp) z hz, g2⟩
  ·rintro ⟨h1, h2, h3⟩
   have e : pre ++ a :: x = pre ++ [a] ++ x := by simp
   rw [e] at h3
   have h4 := gh wk most h3
   rw [List.pairwise_cons] at h2
   refine ⟨⟨hcl.mpr fun y hy => h1 y hy a (by simp), h4⟩, (Ti x (pre ++ [a]) h4).mpr ⟨?_, h2.2, h3⟩⟩
   intro y hy z hz
   rcases List.mem_append.mp hy with hy | hy
   ·exact h1 y hy z (by simp [hz])
   ·simp only [List.mem_singleton] at hy; subst hy; exact h2.1 z hz
theorem lK {W : List P4} (ho : Qb W) (x : List E4) : x ∈ fill wk most W [] ↔ wF W x ∧ x.Pairwise (fun y z => ¬ (y.Piece = z.Piece ∧ y.Boy = z.Boy)) ∧ rest wk most x = true := by
 rw [KZ]
 simp only [List.nil_append, List.map_id', List.mem_filter, pz ho]
 have := Ti wk most x [] (by simp [rest])
 simp only [List.nil_append, List.not_mem_nil, false_imp_iff, implies_true, true_and] at this
 rw [this]
end
end Go.Lf.Pl
