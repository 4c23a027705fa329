/- A part of the proof. -/
import Derived.Test.YtbkliocalcihjaaDoorx3
set_option linter.all false
namespace Go.Lf
open Go
theorem LY {x : Int} (h1 : -9223372036854775808 ≤ x) (h2 : x < 9223372036854775808) : W x = x := by
 unfold W IntKind.wrap
 simp [IntKind.signed, IntKind.bits]
 omega
theorem gq {n : Nat} (h : n < 4611686018427387904) : W ((n : Int) + 1) = (n : Int) + 1 := LY (by omega) (by omega)
namespace Sl
variable {α : Type}
theorem len_l (x : Sl α) : x.len = (x.l.length : Int) := by cases x <;> rfl
theorem ix_nat (x : Sl α) (n : Nat) : x.ix n = x.l[n]? := by simp [Sl.ix]
theorem ix_at {x : Sl α} {pre post : List α} {a : α} (h : x.l = pre ++ a :: post) : x.ix pre.length = some a := by
 rw [ix_nat, h]; simp
theorem l_hot (xs : List α) : (Sl.hot xs).l = xs := rfl
theorem l_cold (xs : List α) : (Sl.cold xs).l = xs := rfl
theorem yR : (Sl.nil : Sl α).l = [] := rfl
def warm (x : Sl α) : Prop := x = .nil ∨ ∃ xs, x = .hot xs
theorem warm_nil : (Sl.nil : Sl α).warm := .inl rfl
theorem warm_hot (xs : List α) : (Sl.hot xs).warm := .inr ⟨xs, rfl⟩
theorem app_warm {q : Nat} {x : Sl α} {ys : List α} (hx : x.warm) (hy : ys ≠ []) (h : I7 (x.l.length + ys.length) q = true) : x.app q ys = some (.hot (x.l ++ ys)) := by
 rcases hx with rfl | ⟨xs, rfl⟩
 ·simp only [app, if_neg hy, yR, List.length_nil, Nat.zero_add] at h ⊢
  rw [if_pos h]; simp
 ·simp only [app, l_hot] at h ⊢
  rw [if_pos h]
theorem rk {q : Nat} {xs ys : List α} (hy : ys ≠ []) (h : I7 (xs.length + ys.length) q = true) : (Sl.full xs).app q ys = some (.hot (xs ++ ys)) := by
 simp only [app, if_neg hy, if_pos h]
theorem ye {q : Nat} {xs ys : List α} (h : I7 (xs.length + ys.length) q = true) : (Sl.hot xs).app q ys = some (.hot (xs ++ ys)) := by
 simp only [app, if_pos h]
def grow (xs : List α) : Sl α := if xs = [] then .nil else .hot xs
theorem l_grow (xs : List α) : (grow xs).l = xs := by
 unfold grow; split
 ·rename_i h; subst h; rfl
 ·rfl
theorem pd (xs : List α) : (grow xs).warm := by
 unfold grow; split
 ·exact warm_nil
 ·exact warm_hot _
theorem app_grow {q : Nat} {xs ys : List α} (hy : ys ≠ []) (h : I7 (xs.length + ys.length) q = true) : (grow xs).app q ys = some (grow (xs ++ ys)) := by
 rw [app_warm (pd xs) hy (by rw [l_grow]; exact h), l_grow]
 unfold grow
 rw [if_neg]; simp [hy]
theorem grow_unf (xs : List α) : (grow xs).unf = grow xs := by unfold grow; split <;> rfl
def filled : Sl α → Sl α
 | .nil => .nil
 | x => .full x.l
theorem sub3_all (x : Sl α) : x.sub3 none x.len = some x.filled := by
 cases x <;> simp [sub3, len, l, filled]
theorem l_filled (x : Sl α) : x.filled.l = x.l := by cases x <;> rfl
theorem u7 {q : Nat} {x : Sl α} {ys : List α} (hy : ys ≠ []) (h : I7 (x.l.length + ys.length) q = true) : x.filled.app q ys = some (.hot (x.l ++ ys)) := by
 cases x with
 | nil => simp only [l, List.length_nil, Nat.zero_add] at h; simp [filled, app, if_neg hy, h, l]
 | _ => simp only [filled, l] at h ⊢; exact rk hy h
end Sl
theorem HK {n q : Nat} (hn : n ≤ 1000000000) (hq : q ≤ 1000) : I7 n q = true := by
 unfold I7
 rw [decide_eq_true_iff]
 calc n * q ≤ 1000000000 * 1000 := Nat.mul_le_mul hn hq
  _ ≤ 70368744177664 := by omega
section
variable {σ τ ρ α : Type} {f : σ → Option (σ ⊕ ρ)}
theorem JC (mk : τ → Int → σ) (xs : List α) (S : List α → τ) {x0 : σ} {r : ρ} (hn : xs.length < 4611686018427387904) (h0 : x0 = mk (S []) 0)
  (hs : ∀ pre a post, xs = pre ++ a :: post → W ((pre.length : Int) + 1) = (pre.length : Int) + 1 → f (mk (S pre) pre.length) = some (.inl (mk (S (pre ++ [a])) ((pre.length : Int) + 1))))
  (hf : f (mk (S xs) xs.length) = some (.inr r)) : Loop f x0 = some r := by
 subst h0
 have main : ∀ post pre, xs = pre ++ post → Loop f (mk (S pre) pre.length) = some r := by
  intro post
  induction post with
  | nil =>
   intro pre h
   simp only [List.append_nil] at h
   subst h
   exact Loop.done hf
  | cons a post ih =>
   intro pre h
   have hl : pre.length < 4611686018427387904 := by rw [h] at hn; simp at hn; omega
   rw [Loop.step (hs pre a post h (gq hl))]
   have := ih (pre ++ [a]) (by rw [h]; simp)
   simpa using this
 exact main xs [] rfl
theorem Loop.find (mk : Int → σ) (xs : List α) (p : α → Option ρ) {x0 : σ} {r0 : ρ} (hn : xs.length < 4611686018427387904) (h0 : x0 = mk 0)
  (hs : ∀ pre a post, xs = pre ++ a :: post → (∀ x ∈ pre, p x = none) → W ((pre.length : Int) + 1) = (pre.length : Int) + 1 → f (mk pre.length) = some (match p a with | some r => .inr r | none => .inl (mk ((pre.length : Int) + 1))))
  (hf : (∀ x ∈ xs, p x = none) → f (mk xs.length) = some (.inr r0)) : Loop f x0 = some ((xs.findSome? p).getD r0) := by
 subst h0
 have main : ∀ post pre, xs = pre ++ post → (∀ x ∈ pre, p x = none) → Loop f (mk pre.length) = some ((post.findSome? p).getD r0) := by
  intro post
  induction post with
  | nil =>
   intro pre h hp
   simp only [List.append_nil] at h
   subst h
   exact Loop.done (hf hp)
  | cons a post ih =>
   intro pre h hp
   have hl : pre.length < 4611686018427387904 := by rw [h] at hn; simp at hn; omega
   have h1 := hs pre a post h hp (gq hl)
   cases hpa : p a with
   | some r => rw [hpa] at h1; rw [Loop.done h1]; simp [hpa]
   | none =>
    rw [hpa] at h1
    rw [Loop.step h1]
    have := ih (pre ++ [a]) (by rw [h]; simp) (by
     intro x hx
     rcases List.mem_append.mp hx with hx | hx
     ·exact hp x hx
     ·simp only [List.mem_singleton] at hx; subst hx; exact hpa)
    simp only [List.findSome?_cons, hpa]
    simpa using this
 exact main xs [] rfl (by simp)
end
section
variable {σ τ ρ α : Type} {f : σ → Option (σ ⊕ ρ)}
theorem K9 (mk : τ → Int → σ) (xs : List α) (Inv : List α → τ → Prop) (Q : ρ → Prop) {x0 : σ} {t0 : τ} (hn : xs.length < 4611686018427387904) (h0 : x0 = mk t0 0) (hi : Inv [] t0)
  (hs : ∀ pre a post t, xs = pre ++ a :: post → Inv pre t → W ((pre.length : Int) + 1) = (pre.length : Int) + 1 → ∃ t', Inv (pre ++ [a]) t' ∧ f (mk t pre.length) = some (.inl (mk t' ((pre.length : Int) + 1))))
  (hf : ∀ t, Inv xs t → ∃ r, Q r ∧ f (mk t xs.length) = some (.inr r)) : ∃ r, Q r ∧ Loop f x0 = some r := by
 subst h0
 have main : ∀ post pre t, xs = pre ++ post → Inv pre t → ∃ r, Q r ∧ Loop f (mk t pre.length) = some r := by
  intro post
  induction post with
  | nil =>
   intro pre t h hi
   simp only [List.append_nil] at h
   subst h
   obtain ⟨r, hq, he⟩ := hf t hi
   exact ⟨r, hq, Loop.done he⟩
  | cons a post ih =>
   intro pre t h hi
   have hl : pre.length < 4611686018427387904 := by rw [h] at hn; simp at hn; omega
   obtain ⟨t', hi', he⟩ := hs pre a post t h hi (gq hl)
   rw [Loop.step he]
   have := ih (pre ++ [a]) t' (by rw [h]; simp) hi'
   simpa using this
 exact main xs [] t0 rfl hi
def idx (n : Nat) : List Int := (List.range n).map fun (i : Nat) => (i : Int)
theorem FO (n : Nat) : (idx n).length = n := by simp [idx]
theorem pS {n : Nat} {pre post : List Int} {a : Int} (h : idx n = pre ++ a :: post) : a = pre.length ∧ (pre.length : Int) < n := by
 have h1 : (idx n)[pre.length]? = some a := by rw [h]; simp
 simp only [idx, List.getElem?_map, Option.map_eq_some_iff] at h1
 obtain ⟨i, h2, rfl⟩ := h1
 obtain ⟨hl, h3⟩ := List.getElem?_eq_some_iff.mp h2
 simp at h3 hl
 omega
theorem gr {n : Nat} {a : Int} : a ∈ idx n ↔ 0 ≤ a ∧ a < n := by
 simp only [idx, List.mem_map, List.mem_range]
 constructor
 ·rintro ⟨i, hi, rfl⟩; omega
 ·rintro ⟨h1, h2⟩; exact ⟨a.toNat, by omega, by omega⟩
end
section
variable {σ ρ α : Type} {f : σ → Option (σ ⊕ ρ)}
theorem Loop.all (mk : Bool → Int → σ) (xs : List α) (p : α → Bool) (fin : Bool → ρ) {x0 : σ} {b0 : Bool} (hn : xs.length < 4611686018427387904) (h0 : x0 = mk b0 0)
  (hs : ∀ pre a post, xs = pre ++ a :: post → b0 = true → (∀ x ∈ pre, p x = true) → W ((pre.length : Int) + 1) = (pre.length : Int) + 1 → f (mk true pre.length) = some (.inl (mk (p a) ((pre.length : Int) + 1))))
  (hf : f (mk true xs.length) = some (.inr (fin true))) (hb : ∀ i, f (mk false i) = some (.inr (fin false))) : Loop f x0 = some (fin (b0 && xs.all p)) := by
 subst h0
 cases b0 with
 | false => exact Loop.done (hb 0)
 | true =>
  have main : ∀ post pre, xs = pre ++ post → (∀ x ∈ pre, p x = true) → Loop f (mk true pre.length) = some (fin (post.all p)) := by
   intro post
   induction post with
   | nil =>
    intro pre h _
    simp only [List.append_nil] at h
    subst h
    exact Loop.done hf
   | cons a post ih =>
    intro pre h hp
    have hl : pre.length < 4611686018427387904 := by rw [h] at hn; simp at hn; omega
    rw [Loop.step (hs pre a post h rfl hp (gq hl))]
    cases ha : p a with
    | false => rw [Loop.done (hb _)]; simp [ha]
    | true =>
     have := ih (pre ++ [a]) (by rw [h]; simp) (by
      intro x hx
      rcases List.mem_append.mp hx with hx | hx
      ·exact hp x hx
      ·simp only [List.mem_singleton] at hx; subst hx; exact ha)
     simp only [List.all_cons, ha, Bool.true_and]
     simpa using this
  simpa using main xs [] rfl (by simp)
end
section
variable {α : Type}
theorem cY (z : α) (es : List (List Int × α)) (k k' : List Int) (v : α) : NW z (EX es k v) k' = if k' = k then v else NW z es k' := by
 have main : ∀ (es : List (List Int × α)) (b : Nat), (match AN k' (match AN k es b with | some (i, _) => es.set (i - b) (k, v) | none => es ++ [(k, v)]) b with | some (_, x) => x | none => z) = if k' = k then v else (match AN k' es b with | some (_, x) => x | none => z) := by
  intro es
  induction es with
  | nil =>
   intro b
   simp only [AN, List.nil_append]
   by_cases h : k = k'
   ·subst h; simp
   ·simp [h, Ne.symm h]
  | cons p es ih =>
   intro b
   obtain ⟨k1, x⟩ := p
   by_cases h1 : k1 = k
   ·subst h1
    simp only [AN, if_true, Nat.sub_self, List.set_cons_zero]
    by_cases h : k1 = k'
    ·subst h; simp
    ·simp [h, Ne.symm h]
   ·simp only [AN, if_neg h1]
    have ih' := ih (b + 1)
    cases hg : AN k es (b + 1) with
    | none =>
     rw [hg] at ih'
     simp only [List.cons_append, AN]
     by_cases h : k1 = k'
     ·subst h; simp [h1]
     ·simp only [if_neg h]; exact ih'
    | some q =>
     obtain ⟨i, y⟩ := q
     rw [hg] at ih'
     have hi : b + 1 ≤ i := (Kt k es (b + 1) i y hg).1
     have e : i - b = (i - (b + 1)) + 1 := by omega
     simp only [e, List.set_cons_succ, AN]
     by_cases h : k1 = k'
     ·subst h; simp [h1]
     ·simp only [if_neg h]; exact ih'
 have := main es 0
 simp only [Nat.sub_zero] at this
 exact this
theorem qN (z : α) (k : List Int) : NW z [] k = z := rfl
theorem sX {n : Nat} (z : α) (es : List (List Int × α)) (k : List Int) : ((Mp.mk es : Mp n α).get k).getD z = NW z es k := by
 simp only [Mp.get, NW]
 cases AN k es 0 with
 | none => rfl
 | some p => rfl
end
end Go.Lf
