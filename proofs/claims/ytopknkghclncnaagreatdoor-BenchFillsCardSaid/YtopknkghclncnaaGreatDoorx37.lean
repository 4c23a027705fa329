/- A part of the proof. -/
import Derived.Test.YtopknkghclncnaaGreatDoorx36
set_option linter.all false
namespace Go.Lf.Pl
def pick : List Int → Nat → List Int
 | [], _ => []
 | a :: l, s => if s % 2 = 1 then a :: pick l (s / 2) else pick l (s / 2)
def bp (l : List Int) : List (List Int) := (List.range (2 ^ l.length)).map (pick l)
theorem j5 : ∀ n : Nat, (List.range (2 * n)).Perm ((List.range n).map (fun s => 2 * s + 1) ++ (List.range n).map (fun s => 2 * s))
 | 0 => by simp
 | n + 1 => by
  have e : List.range (2 * (n + 1)) = List.range (2 * n) ++ [2 * n, 2 * n + 1] := by
   rw [show 2 * (n + 1) = 2 * n + 1 + 1 by omega, List.range_succ, List.range_succ]; simp
  rw [e, List.range_succ, List.map_append, List.map_append]
  refine ((j5 n).append_right _).trans ?_
  simp only [List.map_cons, List.map_nil, List.append_assoc]
  refine List.Perm.append_left _ ?_
  have h1 : ([2 * n, 2 * n + 1] : List Nat).Perm [2 * n + 1, 2 * n] := .swap ..
  refine (h1.append_left _).trans ?_
  rw [show ([2 * n + 1, 2 * n] : List Nat) = [2 * n + 1] ++ [2 * n] from rfl, ← List.append_assoc, ← List.append_assoc]
  exact (List.perm_append_comm (l₁ := List.map (fun s => 2 * s) (List.range n)) (l₂ := [2 * n + 1])).append_right _
theorem cq : ∀ l : List Int, (bp l).Perm (qc l)
 | [] => by simp [bp, qc, pick]
 | a :: l => by
  have h := cq l
  simp only [bp] at h ⊢
  rw [List.length_cons, Nat.pow_succ, Nat.mul_comm]
  refine ((j5 _).map _).trans ?_
  rw [List.map_append, List.map_map, List.map_map]
  have e1 : (pick (a :: l) ∘ fun s => 2 * s + 1) = (fun c => a :: c) ∘ pick l := by
   funext s
   have h1 : (2 * s + 1) % 2 = 1 := by omega
   have h2 : (2 * s + 1) / 2 = s := by omega
   simp [pick, h1, h2]
  have e2 : (pick (a :: l) ∘ fun s => 2 * s) = pick l := by
   funext s
   have h1 : (2 * s) % 2 = 0 := by omega
   have h2 : (2 * s) / 2 = s := by omega
   simp [pick, h1, h2]
  rw [e1, e2, ← List.map_map]
  simp only [qc]
  exact (h.map _).append h
theorem nN (l : List Int) (m : Nat) : ((bp l).filter fun c => c.length == m).Perm (Ei m l) := by
 rw [← Pv]; exact (cq l).filter _
def Gi (pre : List FV) (b : Int) : Bool := pre.any fun y => y.Boy == b
def B8 (pre : List FV) : List FV → Bool
 | [] => true
 | x :: xs => !Gi pre x.Boy && B8 (pre ++ [x]) xs
theorem N4 (a b : List FV) : ∀ pre, B8 pre (a ++ b) = (B8 pre a && B8 (pre ++ a) b) := by
 induction a with
 | nil => intro pre; simp [B8]
 | cons x a ih => intro pre; simp [B8, ih, Bool.and_assoc, List.append_assoc]
def DK (p : Int) : List (Int × Nat × List Int) → List FV → List (List FV)
 | [], sm => [sm]
 | (k, m, l) :: r, sm => (bp l).flatMap fun c => if c.length == m && c.all (fun b => !Gi sm b) then DK p r (sm ++ A5 p k c) else []
def FX (p : Int) (ps : List (Int × Nat × List Int)) : List WZ := ps.map fun x => ⟨p, x.1, x.2.1, x.2.2⟩
theorem l5 (p k : Int) : ∀ (c : List Int) (pre : List FV), c.Nodup → B8 pre (A5 p k c) = c.all fun b => !Gi pre b := by
 intro c
 induction c with
 | nil => intro pre _; rfl
 | cons b c ih =>
  intro pre h
  have hb := (List.nodup_cons.mp h).1
  have := ih (pre ++ [⟨p, k, b⟩]) (List.nodup_cons.mp h).2
  simp only [A5, List.map_cons, B8, List.all_cons] at this ⊢
  rw [this]
  congr 1
  rw [Bool.eq_iff_iff]
  simp only [List.all_eq_true, Bool.not_eq_true', Gi, List.any_append, List.any_cons, List.any_nil, Bool.or_false, Bool.or_eq_false_iff, beq_eq_false_iff_ne]
  constructor
  ·intro h1 x hx; exact (h1 x hx).1
  ·intro h1 x hx; exact ⟨h1 x hx, fun e => hb (e ▸ hx)⟩
theorem UU {α β : Type} (q : α → Bool) (f : α → List β) : ∀ l : List α, (l.flatMap fun c => if q c = true then f c else []) = (l.filter q).flatMap f
 | [] => rfl
 | a :: l => by
  simp only [List.flatMap_cons, List.filter_cons, UU q f l]
  by_cases h : q a = true
  ·simp [h]
  ·simp [h]
theorem Ov {α β : Type} {f g : α → List β} : ∀ {l : List α}, (∀ a ∈ l, (f a).Perm (g a)) → (l.flatMap f).Perm (l.flatMap g)
 | [], _ => by simp
 | a :: l, h => by
  simp only [List.flatMap_cons]
  exact (h a List.mem_cons_self).append (Ov fun b hb => h b (List.mem_cons_of_mem _ hb))
theorem K7 {α β : Type} (f : α → List β) {l l' : List α} (h : l.Perm l') : (l.flatMap f).Perm (l'.flatMap f) := by
 induction h with
 | nil => exact .refl _
 | cons a _ ih => simp only [List.flatMap_cons]; exact ih.append_left _
 | swap a b l =>
  simp only [List.flatMap_cons, ← List.append_assoc]
  exact (List.perm_append_comm).append_right _
 | trans _ _ ih1 ih2 => exact ih1.trans ih2
theorem Ox (p : Int) : ∀ (ps : List (Int × Nat × List Int)) (sm : List FV), (∀ x ∈ ps, x.2.2.Nodup) →
  (DK p ps sm).Perm (((Kp (FX p ps)).filter (B8 sm)).map (sm ++ ·))
 | [], sm, _ => by simp [DK, FX, Kp, B8, List.filter_cons]
 | (k, m, l) :: r, sm, h => by
  have hl : l.Nodup := h (k, m, l) List.mem_cons_self
  have ih := fun sm => Ox p r sm fun x hx => h x (List.mem_cons_of_mem _ hx)
  have e1 : DK p ((k, m, l) :: r) sm = (((bp l).filter fun c => c.length == m).flatMap fun c => if (c.all fun b => !Gi sm b) = true then DK p r (sm ++ A5 p k c) else []) := by
   simp only [DK]
   rw [← UU]
   congr 1; funext c
   by_cases h1 : (c.length == m) = true <;> simp [h1]
  rw [e1]
  refine (K7 _ (nN l m)).trans ?_
  simp only [FX, List.map_cons, Kp, List.filter_flatMap, List.map_flatMap]
  refine Ov ?_
  intro c hc
  have hn : c.Nodup := (TI.mp hc).1.nodup hl
  have hap := l5 p k c sm hn
  rw [List.filter_map]
  by_cases hh : (c.all fun b => !Gi sm b) = true
  ·rw [if_pos hh]
   refine (ih _).trans ?_
   rw [List.map_map]
   have e : (B8 sm ∘ fun r => A5 p k c ++ r) = B8 (sm ++ A5 p k c) := by
    funext x; simp [N4, hap, hh]
   rw [e]
   have e3 : (fun x => sm ++ A5 p k c ++ x) = ((fun x => sm ++ x) ∘ fun r => A5 p k c ++ r) := by funext x; simp
   rw [← e3]
   exact .refl _
  ·rw [if_neg hh]
   have e : (Kp (FX p r)).filter (B8 sm ∘ fun r => A5 p k c ++ r) = [] := by
    rw [List.filter_eq_nil_iff]; intro x _; simp [N4, hap, hh]
   rw [show (List.map (fun x : Int × Nat × List Int => (⟨p, x.1, x.2.1, x.2.2⟩ : WZ)) r) = FX p r from rfl, e]
   exact .refl _
section
variable (wk : Int → Int) (most : Nat)
def rest (z : List FV) : Bool := z.all fun x => decide (DR wk z (wk x.Piece) x.Boy ≤ most)
def JS : List (Int × List (Int × Nat × List Int)) → List (List FV) → List (List FV)
 | [], out => out
 | (p, ps) :: r, out => JS r (out.flatMap fun o => ((DK p ps []).map (o ++ ·)).filter (rest wk most))
def Ky (PS : List (Int × List (Int × Nat × List Int))) : List WZ := PS.flatMap fun x => FX x.1 x.2
theorem HE (a b : List FV) (w y : Int) : DR wk (a ++ b) w y = DR wk a w y + DR wk b w y := by simp [DR, List.countP_append]
theorem TM (z : List FV) : rest wk most z = true ↔ ∀ x ∈ z, DR wk z (wk x.Piece) x.Boy ≤ most := by simp [rest]
theorem j7 {a b : List FV} (h : rest wk most (a ++ b) = true) : rest wk most a = true := by
 rw [TM] at *
 intro x hx
 have := h x (List.mem_append_left _ hx)
 rw [HE] at this; omega
theorem YE (pre : List FV) (x : FV) (h : rest wk most pre = true) : rest wk most (pre ++ [x]) = decide (DR wk pre (wk x.Piece) x.Boy < most) := by
 rw [Bool.eq_iff_iff, TM]
 rw [TM] at h
 simp only [decide_eq_true_eq]
 have hx : DR wk [x] (wk x.Piece) x.Boy = 1 := by simp [DR]
 constructor
 ·intro h1
  have := h1 x (by simp)
  rw [HE, hx] at this; omega
 ·intro h1 y hy
  rw [HE]
  have hc : DR wk [x] (wk y.Piece) y.Boy = if wk x.Piece = wk y.Piece ∧ x.Boy = y.Boy then 1 else 0 := by
   simp only [DR, List.countP_cons, List.countP_nil]
   by_cases h2 : wk x.Piece = wk y.Piece ∧ x.Boy = y.Boy
   ·simp [h2.1, h2.2]
   ·rw [if_neg h2]
    have : ¬ ((wk x.Piece == wk y.Piece && x.Boy == y.Boy) = true) := by simpa using h2
    simp [this]
  rw [hc]
  rcases List.mem_append.mp hy with hy | hy
  ·by_cases h2 : wk x.Piece = wk y.Piece ∧ x.Boy = y.Boy
   ·rw [if_pos h2, ← h2.1, ← h2.2]; omega
   ·rw [if_neg h2]; have := h y hy; omega
  ·simp only [List.mem_singleton] at hy
   subst hy
   simp only [and_self, if_true]; omega
theorem hT (p : Int) (own : List FV) (hp : ∀ x ∈ own, x.Piece = p) : ∀ (o q : List FV), (∀ x ∈ o, x.Piece ≠ p) → (∀ x ∈ q, x.Piece = p) → rest wk most (o ++ q) = true →
  CY wk most (o ++ q) own = (B8 q own && rest wk most (o ++ q ++ own)) := by
 induction own with
 | nil => intro o q _ _ h; simp [CY, B8, h]
 | cons x own ih =>
  intro o q ho hq hr
  have hx := hp x List.mem_cons_self
  have hcl : dc (o ++ q) x = Gi q x.Boy := by
   simp only [dc, Gi, List.any_append]
   have h1 : o.any (fun y => y.Piece == x.Piece && y.Boy == x.Boy) = false := by
    rw [List.any_eq_false]
    intro y hy
    have := ho y hy
    simp [hx, this]
   rw [h1, Bool.false_or]
   rw [Bool.eq_iff_iff, List.any_eq_true, List.any_eq_true]
   constructor
   ·rintro ⟨y, hy, h⟩; exact ⟨y, hy, by simp at h ⊢; exact h.2⟩
   ·rintro ⟨y, hy, h⟩; exact ⟨y, hy, by simp at h ⊢; exact ⟨by rw [hq y hy, hx], h⟩⟩
  have hsn := YE wk most (o ++ q) x hr
  simp only [CY, PQ, hcl, B8, ← hsn]
  by_cases h1 : rest wk most (o ++ q ++ [x]) = true
  ·have := ih (fun y hy => hp y (List.mem_cons_of_mem _ hy)) o (q ++ [x]) ho (by
    intro y hy
    rcases List.mem_append.mp hy with hy | hy
    ·exact hq y hy
    ·simp only [List.mem_singleton] at hy; rw [hy, hx]) (by rw [← List.append_assoc]; exact h1)
   rw [← List.append_assoc] at this
   rw [h1, this]
   simp [Bool.and_assoc]
  ·have h2 : rest wk most (o ++ q ++ x :: own) = false := by
    cases hh : rest wk most (o ++ q ++ x :: own) with
    | false => rfl
    | true =>
     have : o ++ q ++ x :: own = (o ++ q ++ [x]) ++ own := by simp
     rw [this] at hh
     exact absurd (j7 wk most hh) h1
   have h1 : rest wk most (o ++ q ++ [x]) = false := by simpa using h1
   rw [h1, h2]; simp
theorem Xp : ∀ A B : List WZ, Kp (A ++ B) = (Kp A).flatMap fun x => (Kp B).map fun y => x ++ y
 | [], B => by simp [Kp]
 | w :: A, B => by
  simp only [List.cons_append, Kp, Xp A B, List.flatMap_assoc, List.map_flatMap, List.map_map, List.flatMap_map]
  congr 1; funext c
  congr 1; funext x
  congr 1; funext y
  simp
theorem Ix : ∀ {W : List WZ} {x : List FV}, x ∈ Kp W → ∀ y ∈ x, ∃ w ∈ W, y.Piece = w.wp
 | [], x, h, y, hy => by simp [Kp] at h; subst h; simp at hy
 | w :: W, x, h, y, hy => by
  simp only [Kp, List.mem_flatMap, List.mem_map] at h
  obtain ⟨c, _, r, hr, rfl⟩ := h
  rcases List.mem_append.mp hy with hy | hy
  ·simp only [A5, List.mem_map] at hy
   obtain ⟨b, _, rfl⟩ := hy
   exact ⟨w, List.mem_cons_self, rfl⟩
  ·obtain ⟨w', h1, h2⟩ := Ix hr y hy
   exact ⟨w', List.mem_cons_of_mem _ h1, h2⟩
theorem ZW : ∀ (x pre : List FV), rest wk most pre = true → CY wk most pre x = true → rest wk most (pre ++ x) = true
 | [], pre, h, _ => by simpa using h
 | a :: x, pre, h, ho => by
  simp only [CY, PQ, Bool.and_eq_true] at ho
  have h1 : rest wk most (pre ++ [a]) = true := by rw [YE wk most pre a h]; exact ho.1.2
  have := ZW x (pre ++ [a]) h1 ho.2
  simpa using this
theorem mC (p : Int) (ps : List (Int × Nat × List Int)) (hps : ∀ x ∈ ps, x.2.2.Nodup) (A : List WZ) (hA : ∀ w ∈ A, w.wp ≠ p) {out : List (List FV)}
  (h : out.Perm ((Kp A).filter (CY wk most []))) :
  (out.flatMap fun o => ((DK p ps []).map (o ++ ·)).filter (rest wk most)).Perm ((Kp (A ++ FX p ps)).filter (CY wk most [])) := by
 refine (K7 _ h).trans ?_
 rw [Xp, List.filter_flatMap]
 have e : ((Kp A).flatMap fun x => List.filter (CY wk most []) ((Kp (FX p ps)).map fun y => x ++ y)) =
   (((Kp A).filter (CY wk most [])).flatMap fun x => List.filter (CY wk most []) ((Kp (FX p ps)).map fun y => x ++ y)) := by
  rw [← UU]
  congr 1; funext x
  by_cases hx : CY wk most [] x = true
  ·rw [if_pos hx]
  ·rw [if_neg hx, List.filter_map]
   have : (Kp (FX p ps)).filter (CY wk most [] ∘ fun y => x ++ y) = [] := by
    rw [List.filter_eq_nil_iff]; intro y _; simp [Jc, hx]
   rw [this]; rfl
 rw [e]
 refine Ov ?_
 intro o ho
 obtain ⟨hoA, hok⟩ := List.mem_filter.mp ho
 have hro : rest wk most o = true := by
  have := ZW wk most o [] (by simp [rest]) hok
  simpa using this
 have hp0 : ∀ x ∈ o, x.Piece ≠ p := by
  intro x hx
  obtain ⟨w, hw, he⟩ := Ix hoA x hx
  rw [he]; exact hA w hw
 have h1 := (((Ox p ps [] hps).map (o ++ ·)).filter (rest wk most))
 refine h1.trans ?_
 simp only [List.nil_append, List.map_id', List.filter_map]
 rw [List.filter_filter]
 have : List.filter (fun a => (rest wk most ∘ fun x => o ++ x) a && B8 [] a) (Kp (FX p ps)) = List.filter (CY wk most [] ∘ fun y => o ++ y) (Kp (FX p ps)) := by
  apply List.filter_congr
  intro own hown
  have hpo : ∀ x ∈ own, x.Piece = p := by
   intro x hx
   obtain ⟨w, hw, he⟩ := Ix hown x hx
   simp only [FX, List.mem_map] at hw
   obtain ⟨z, _, rfl⟩ := hw
   exact he
  have := hT wk most p own hpo o [] hp0 (by simp) (by simpa using hro)
  simp only [List.append_nil] at this
  simp only [Function.comp, Jc, List.nil_append, hok, Bool.true_and, this, Bool.and_comm]
 rw [this]
theorem XX : ∀ (PS : List (Int × List (Int × Nat × List Int))) (A : List WZ) (out : List (List FV)), (∀ x ∈ PS, ∀ y ∈ x.2, y.2.2.Nodup) → (PS.map (·.1)).Nodup → (∀ w ∈ A, ∀ x ∈ PS, w.wp ≠ x.1) →
  out.Perm ((Kp A).filter (CY wk most [])) → (JS wk most PS out).Perm ((Kp (A ++ Ky PS)).filter (CY wk most []))
 | [], A, out, _, _, _, h => by simpa [JS, Ky] using h
 | (p, ps) :: PS, A, out, h1, h2, h3, h => by
  simp only [JS]
  have := XX PS (A ++ FX p ps) _ (fun x hx => h1 x (List.mem_cons_of_mem _ hx)) (List.nodup_cons.mp h2).2 (by
   intro w hw x hx
   rcases List.mem_append.mp hw with hw | hw
   ·exact h3 w hw x (List.mem_cons_of_mem _ hx)
   ·simp only [FX, List.mem_map] at hw
    obtain ⟨z, _, rfl⟩ := hw
    intro e
    exact (List.nodup_cons.mp h2).1 (List.mem_map.mpr ⟨x, hx, e.symm⟩))
   (mC wk most p ps (h1 (p, ps) List.mem_cons_self) A (fun w hw => h3 w hw (p, ps) List.mem_cons_self) h)
  simpa [Ky] using this
theorem cU (PS : List (Int × List (Int × Nat × List Int))) (h1 : ∀ x ∈ PS, ∀ y ∈ x.2, y.2.2.Nodup) (h2 : (PS.map (·.1)).Nodup) :
  (JS wk most PS [[]]).Perm (fill wk most (Ky PS) []) := by
 have := XX wk most PS [] [[]] h1 h2 (by simp) (by simp [Kp, CY, List.filter_cons])
 rw [T0]
 simpa using this
theorem mc (W : List WZ) (h : ∀ w ∈ W, w.able.Pairwise (· < ·)) : (fill wk most W []).Pairwise fun x y => Bl x y = true := by
 rw [T0]
 simp only [List.nil_append, List.map_id']
 exact (Ze W h).filter _
end
end Go.Lf.Pl
namespace Go.Lf.Pl
theorem IV : ∀ {l c : List Int}, l.Pairwise (· < ·) → c.Pairwise (· < ·) → (∀ x ∈ c, x ∈ l) → List.Sublist c l
 | l, [], _, _, _ => List.nil_sublist l
 | [], a :: c, _, _, h => absurd (h a List.mem_cons_self) (by simp)
 | b :: l, a :: c, hl, hc, h => by
  have hl' := List.pairwise_cons.mp hl
  have hc' := List.pairwise_cons.mp hc
  rcases List.mem_cons.mp (h a List.mem_cons_self) with rfl | ha
  ·refine List.Sublist.cons_cons a (IV hl'.2 hc'.2 ?_)
   intro x hx
   rcases List.mem_cons.mp (h x (List.mem_cons_of_mem _ hx)) with rfl | hx'
   ·have := hc'.1 x hx; omega
   ·exact hx'
  ·refine List.Sublist.cons b (IV hl'.2 hc ?_)
   intro x hx
   rcases List.mem_cons.mp (h x hx) with rfl | hx'
   ·exfalso
    have h1 := hl'.1 a ha
    rcases List.mem_cons.mp hx with rfl | hx
    ·omega
    ·have := hc'.1 x hx; omega
   ·exact hx'
def ltW (w w' : WZ) : Prop := w.wp < w'.wp ∨ (w.wp = w'.wp ∧ w.wk < w'.wk)
structure RL (W : List WZ) : Prop where
 ord : W.Pairwise ltW
 able : ∀ w ∈ W, w.able.Pairwise (· < ·)
structure AAW (W : List WZ) (x : List FV) : Prop where
 mem : ∀ s ∈ x, ∃ w ∈ W, w.wp = s.Piece ∧ w.wk = s.Part ∧ s.Boy ∈ w.able
 ord : x.Pairwise fun y z => lt3 y z = true
 cnt : ∀ w ∈ W, x.countP (fun s => s.Piece == w.wp && s.Part == w.wk) = w.many
theorem Vb : ∀ {W : List WZ} {x : List FV}, RL W → x ∈ Kp W → AAW W x
 | [], x, _, h => by
  simp only [Kp, List.mem_singleton] at h; subst h
  exact ⟨by simp, List.Pairwise.nil, by simp⟩
 | w :: W, x, ho, h => by
  have ho' : RL W := ⟨(List.pairwise_cons.mp ho.ord).2, fun w' hw => ho.able w' (List.mem_cons_of_mem _ hw)⟩
  have hlt := (List.pairwise_cons.mp ho.ord).1
  simp only [Kp, List.mem_flatMap, List.mem_map] at h
  obtain ⟨c, hc, r, hr, rfl⟩ := h
  have ih := Vb ho' hr
  obtain ⟨hsub, hlen⟩ := TI.mp hc
  have hab := ho.able w List.mem_cons_self
  refine ⟨?_, ?_, ?_⟩
  ·intro s hs
   rcases List.mem_append.mp hs with hs | hs
   ·simp only [A5, List.mem_map] at hs
    obtain ⟨b, hb, rfl⟩ := hs
    exact ⟨w, List.mem_cons_self, rfl, rfl, hsub.subset hb⟩
   ·obtain ⟨w', h1, h2⟩ := ih.mem s hs
    exact ⟨w', List.mem_cons_of_mem _ h1, h2⟩
  ·rw [List.pairwise_append]
   refine ⟨?_, ih.ord, ?_⟩
   ·rw [A5, List.pairwise_map]
    refine (hab.sublist hsub).imp ?_
    intro a b hab
    rw [Nl]; right; exact ⟨rfl, .inr ⟨rfl, hab⟩⟩
   ·intro s hs t ht
    simp only [A5, List.mem_map] at hs
    obtain ⟨b, hb, rfl⟩ := hs
    obtain ⟨w', h1, h2, h3, _⟩ := ih.mem t ht
    rw [Nl]
    have := hlt w' h1
    simp only [ltW] at this
    simp only
    omega
  ·intro w' hw'
   rw [List.countP_append]
   rcases List.mem_cons.mp hw' with rfl | hw'
   ·have h1 : (A5 w'.wp w'.wk c).countP (fun s => s.Piece == w'.wp && s.Part == w'.wk) = w'.many := by
     rw [List.countP_eq_length.mpr]
     ·simp [A5, hlen]
     ·intro s hs
      simp only [A5, List.mem_map] at hs
      obtain ⟨b, hb, rfl⟩ := hs
      simp
    have h2 : r.countP (fun s => s.Piece == w'.wp && s.Part == w'.wk) = 0 := by
     rw [List.countP_eq_zero]
     intro s hs
     obtain ⟨v, hv, e1, e2, _⟩ := ih.mem s hs
     have := hlt v hv
     simp only [ltW] at this
     simp only [Bool.and_eq_true, beq_iff_eq, not_and]
     intro e3 e4
     omega
    omega
   ·have h1 : (A5 w.wp w.wk c).countP (fun s => s.Piece == w'.wp && s.Part == w'.wk) = 0 := by
     rw [List.countP_eq_zero]
     intro s hs
     simp only [A5, List.mem_map] at hs
     obtain ⟨b, hb, rfl⟩ := hs
     have := hlt w' hw'
     simp only [ltW] at this
     simp only [Bool.and_eq_true, beq_iff_eq, not_and]
     intro e3 e4
     omega
    have := ih.cnt w' hw'
    omega
theorem U7 (q : FV → Bool) : ∀ x : List FV, (x.Pairwise fun a b => q b = true → q a = true) → x = x.filter q ++ x.filter (fun s => !q s)
 | [], _ => rfl
 | a :: x, h => by
  have h' := List.pairwise_cons.mp h
  have ih := U7 q x h'.2
  by_cases ha : q a = true
  ·simp only [List.filter_cons, ha, if_true, Bool.not_true, Bool.false_eq_true, if_false, List.cons_append]
   rw [← ih]
  ·have hx : x.filter q = [] := by
    rw [List.filter_eq_nil_iff]
    intro b hb hq
    exact ha (h'.1 b hb hq)
   have hx2 : x.filter (fun s => !q s) = x := by rw [hx] at ih; simpa using ih.symm
   simp [List.filter_cons, ha, hx, hx2]
theorem VQ : ∀ {W : List WZ} {x : List FV}, RL W → AAW W x → x ∈ Kp W
 | [], x, _, h => by
  cases x with
  | nil => simp [Kp]
  | cons s x => obtain ⟨w, hw, _⟩ := h.mem s List.mem_cons_self; simp at hw
 | w :: W, x, ho, h => by
  have ho' : RL W := ⟨(List.pairwise_cons.mp ho.ord).2, fun w' hw => ho.able w' (List.mem_cons_of_mem _ hw)⟩
  have hlt := (List.pairwise_cons.mp ho.ord).1
  have hab := ho.able w List.mem_cons_self
  let q : FV → Bool := fun s => s.Piece == w.wp && s.Part == w.wk
  have hq : ∀ s, q s = true ↔ s.Piece = w.wp ∧ s.Part = w.wk := by intro s; simp [q]
  have hge : ∀ s ∈ x, (s.Piece = w.wp ∧ s.Part = w.wk) ∨ (w.wp < s.Piece ∨ (w.wp = s.Piece ∧ w.wk < s.Part)) := by
   intro s hs
   obtain ⟨v, hv, e1, e2, _⟩ := h.mem s hs
   rcases List.mem_cons.mp hv with rfl | hv
   ·exact .inl ⟨e1.symm, e2.symm⟩
   ·have := hlt v hv
    simp only [ltW] at this
    right; omega
  have hsp : x = x.filter q ++ x.filter (fun s => !q s) := by
   apply U7
   refine List.pairwise_iff_forall_sublist.mpr ?_
   intro a b hs hb
   have h1 := List.pairwise_iff_forall_sublist.mp h.ord hs
   rw [Nl] at h1
   rw [hq] at hb ⊢
   have ha : a ∈ x := hs.subset (by simp)
   have := hge a ha
   omega
  have hc1 : x.filter q = A5 w.wp w.wk ((x.filter q).map (·.Boy)) := by
   rw [A5, List.map_map]
   conv => lhs; rw [← List.map_id (x.filter q)]
   apply List.map_congr_left
   intro s hs
   have := (hq s).mp (List.mem_filter.mp hs).2
   exact PZ this.1 this.2 rfl
  have hlen : ((x.filter q).map (·.Boy)).length = w.many := by
   rw [List.length_map, ← List.countP_eq_length_filter]
   exact h.cnt w List.mem_cons_self
  have hmem : (x.filter q).map (·.Boy) ∈ Ei w.many w.able := by
   rw [TI]
   refine ⟨IV hab ?_ ?_, hlen⟩
   ·rw [List.pairwise_map]
    have : (x.filter q).Pairwise fun y z => lt3 y z = true := h.ord.filter q
    refine List.pairwise_iff_forall_sublist.mpr ?_
    intro a b hs
    have h1 := List.pairwise_iff_forall_sublist.mp this hs
    rw [Nl] at h1
    have ha := (hq a).mp (List.mem_filter.mp (hs.subset (by simp : a ∈ [a, b]))).2
    have hb := (hq b).mp (List.mem_filter.mp (hs.subset (by simp : b ∈ [a, b]))).2
    omega
   ·intro b hb
    simp only [List.mem_map] at hb
    obtain ⟨s, hs, rfl⟩ := hb
    obtain ⟨hs1, hs2⟩ := List.mem_filter.mp hs
    have hs2 := (hq s).mp hs2
    obtain ⟨v, hv, e1, e2, e3⟩ := h.mem s hs1
    rcases List.mem_cons.mp hv with rfl | hv
    ·exact e3
    ·exfalso
     have := hlt v hv
     simp only [ltW] at this
     omega
  have hr : x.filter (fun s => !q s) ∈ Kp W := by
   refine VQ ho' ⟨?_, h.ord.filter _, ?_⟩
   ·intro s hs
    obtain ⟨hs1, hs2⟩ := List.mem_filter.mp hs
    obtain ⟨v, hv, e1, e2, e3⟩ := h.mem s hs1
    rcases List.mem_cons.mp hv with rfl | hv
    ·exfalso
     have : q s = true := (hq s).mpr ⟨e1.symm, e2.symm⟩
     simp [this] at hs2
    ·exact ⟨v, hv, e1, e2, e3⟩
   ·intro w' hw'
    rw [List.countP_filter]
    rw [← h.cnt w' (List.mem_cons_of_mem _ hw')]
    apply List.countP_congr
    intro s _
    have := hlt w' hw'
    simp only [ltW] at this
    simp only [Bool.and_eq_true, beq_iff_eq, Bool.not_eq_true', q, Bool.and_eq_false_iff, beq_eq_false_iff_ne]
    constructor
    ·exact fun h => h.1
    ·intro h1; refine ⟨h1, ?_⟩; omega
  rw [hsp, hc1]
  simp only [Kp, List.mem_flatMap, List.mem_map]
  exact ⟨_, hmem, _, hr, rfl⟩
theorem wX {W : List WZ} {x : List FV} (ho : RL W) : x ∈ Kp W ↔ AAW W x := ⟨Vb ho, VQ ho⟩
section
variable (wk : Int → Int) (most : Nat)
theorem UO : ∀ (x pre : List FV), rest wk most pre = true → (CY wk most pre x = true ↔ ((∀ y ∈ pre, ∀ z ∈ x, ¬ (y.Piece = z.Piece ∧ y.Boy = z.Boy)) ∧ x.Pairwise (fun y z => ¬ (y.Piece = z.Piece ∧ y.Boy = z.Boy)) ∧ rest wk most (pre ++ x) = true))
 | [], pre, h => by simp [CY, h]
 | a :: x, pre, h => by
  have hcl : dc pre a = false ↔ ∀ y ∈ pre, ¬ (y.Piece = a.Piece ∧ y.Boy = a.Boy) := by
   simp [dc]
  simp only [CY, PQ, ← YE wk most pre a h, Bool.and_eq_true, Bool.not_eq_true']
  constructor
  ·rintro ⟨⟨h1, h2⟩, h3⟩
   obtain ⟨g1, g2, g3⟩ := (UO x (pre ++ [a]) h2).mp h3
   rw [hcl] at h1
   refine ⟨?_, ?_, by simpa using g3⟩
   ·intro y hy z hz
    rcases List.mem_cons.mp hz with rfl | hz
    ·exact h1 y hy
    ·exact g1 y (by simp [hy]) z hz
   ·rw [List.pairwise_cons]
    exact ⟨fun z hz => g1 a (by simp) z hz, g2⟩
  ·rintro ⟨h1, h2, h3⟩
   have e : pre ++ a :: x = pre ++ [a] ++ x := by simp
   rw [e] at h3
   have h4 := j7 wk most h3
   rw [List.pairwise_cons] at h2
   refine ⟨⟨hcl.mpr fun y hy => h1 y hy a (by simp), h4⟩, (UO x (pre ++ [a]) h4).mpr ⟨?_, h2.2, h3⟩⟩
   intro y hy z hz
   rcases List.mem_append.mp hy with hy | hy
   ·exact h1 y hy z (by simp [hz])
   ·simp only [List.mem_singleton] at hy; subst hy; exact h2.1 z hz
theorem vH {W : List WZ} (ho : RL W) (x : List FV) : x ∈ fill wk most W [] ↔ AAW W x ∧ x.Pairwise (fun y z => ¬ (y.Piece = z.Piece ∧ y.Boy = z.Boy)) ∧ rest wk most x = true := by
 rw [T0]
 simp only [List.nil_append, List.map_id', List.mem_filter, wX ho]
 have := UO wk most x [] (by simp [rest])
 simp only [List.nil_append, List.not_mem_nil, false_imp_iff, implies_true, true_and] at this
 rw [this]
end
end Go.Lf.Pl
