/- A part of the proof. -/
import Derived.Test.YtohgomfnigdaoaaDoory32
set_option linter.all false
namespace Go.Lf
open Go Go.Lf.Pl
noncomputable section
def TQ (b : BenchBook) (ex : Int → Bool) (but : List Int) : Bool := !(Iu b ex 3 (Gn b but)).isEmpty
def Dp (n : Nat) (can : List Int → Bool) : List Int := ((idx n).findSome? fun many => (Dh many.toNat (idx n)).find? can).getD (idx n)
section
variable {b : BenchBook} (hv : GT b) {ex : Int → Bool}
include hv
theorem SL : Gn b [] = idx b.Pieces.l.length := by
 simp [Gn]
variable {es : Zy} (hes : WhI es (BD b ex))
include hes
def Ug (b : BenchBook) (ex : Int → Bool) (ls : List (List Int)) (r : T3 (Sl Int) (Sl AC) Bool) : Prop := match ls.find? (TQ b ex) with
 | some l => r.c = true ∧ r.a.l = l ∧ r.b = (JW (Iu b ex 3 (Gn b l))).1
 | none => r.c = false
theorem kZ : ∀ (r n : Nat) (sm : Sl Int) (from_ : Nat), r < n → (∃ many : Nat, r + sm.l.length = many ∧ many ≤ 3) → from_ ≤ b.Pieces.l.length →
  (sm.l = [] → from_ = 0) → (∀ (pre : List Int) (x : Int), sm.l = pre ++ [x] → x + 1 = (from_ : Int)) → sm.l.length ≤ 3 →
  ∃ o, Ae n sm ((r + sm.l.length : Nat) : Int) ⟨b, Mp.mk es⟩ = some o ∧ Ug b ex ((Dh r ((idx b.Pieces.l.length).drop from_)).map (sm.l ++ ·)) o
 | r, 0, _, _, h, _, _, _, _, _ => by omega
 | 0, n + 1, sm, from_, _, _, _, _, _, h3 => by
  have h0 : sm.len = ((0 + sm.l.length : Nat) : Int) := by rw [Sl.len_l]; omega
  have he := da hv (Mp.mk es) sm (by omega)
  have hp := cq hv sm.l
  have hw := V3 hv (Mp.mk es) (a1 := Sl.grow (Gn b sm.l)) (by rw [Sl.l_grow]; exact hp) (m := 3) (by omega)
  rw [Sl.l_grow] at hw
  have hf := ca hv hes (m := 3) hp
  refine ⟨⟨sm, (JW (Iu b ex 3 (Gn b sm.l))).1, (JW (Iu b ex 3 (Gn b sm.l))).2⟩, ?_, ?_⟩
  ·simp only [Ae, decide_eq_true h0, if_true, he, Option.bind_some, hw, show (3 : Int).toNat = 3 from rfl, hf]
  ·simp only [Dh, List.map_cons, List.map_nil, List.append_nil, Ug, List.find?_cons, List.find?_nil, TQ]
   cases hA : Iu b ex 3 (Gn b sm.l) with
   | nil => simp [JW]
   | cons x L => simp [JW, hA]
 | r + 1, n + 1, sm, from_, hn, ⟨many, hmany, hmany3⟩, hfl, hnil, hlast, h3 => by
  have h0 : ¬ sm.len = ((r + 1 + sm.l.length : Nat) : Int) := by rw [Sl.len_l]; omega
  have hpc := hv.pieces
  have hfrom : (if (decide (0 < sm.len)) then Option.bind (sm.ix (W (sm.len - 1))) fun v11 => some (W (v11 + 1)) else some (0) : Option (Int)) = some (from_ : Int) := by
   rcases List.eq_nil_or_concat sm.l with h | ⟨pre, x, h⟩
   ·have : ¬ (0 : Int) < sm.len := by rw [Sl.len_l, h]; simp
    rw [if_neg (by simpa using this), hnil h]; rfl
   ·rw [List.concat_eq_append] at h
    have : (0 : Int) < sm.len := by rw [Sl.len_l, h, List.length_append, List.length_singleton]; omega
    rw [if_pos (by simpa using this)]
    have hl : sm.len - 1 = (pre.length : Int) := by rw [Sl.len_l, h, List.length_append, List.length_singleton]; omega
    have hx := hlast pre x h
    have hpl : pre.length < 3 := by rw [h] at h3; simp at h3; omega
    rw [hl, TK (by omega) (by omega), Sl.ix_at (post := []) h, Option.bind_some, TK (by omega) (by omega), hx]
  have main : ∀ (rest : List Int) (i : Nat), (idx b.Pieces.l.length).drop i = rest → i ≤ b.Pieces.l.length → ∃ o, Loop (A3 (Ae n) sm ((r + 1 + sm.l.length : Nat) : Int) ⟨b, Mp.mk es⟩) (i : Int) = some o ∧
    Ug b ex ((Dh (r + 1) rest).map (sm.l ++ ·)) (match o with | .inl w14 => w14 | .inr _ => T3.mk Sl.nil Sl.nil false) := by
   intro rest
   induction rest with
   | nil =>
    intro i hd hi
    have hi2 : i = b.Pieces.l.length := by
     have := congrArg List.length hd
     simp [Ao] at this; omega
    have hlt : ¬ (i : Int) < b.Pieces.len := by rw [Sl.len_l]; omega
    refine ⟨.inr (), Loop.done (by simp only [A3, decide_eq_false hlt, Bool.false_eq_true, if_false]), ?_⟩
    simp [Dh, Ug]
   | cons p rest ih =>
    intro i hd hi
    have hil : i < b.Pieces.l.length := by
     have := congrArg List.length hd
     simp [Ao] at this; omega
    have hpi : p = (i : Int) := by
     have h1 : (idx b.Pieces.l.length)[i]? = some p := by
      have := congrArg (fun l => l[0]?) hd
      simpa using this
     simp only [idx, List.getElem?_map, Option.map_eq_some_iff] at h1
     obtain ⟨j, h2, rfl⟩ := h1
     rw [List.getElem?_range hil] at h2
     simp at h2; omega
    have hd1 : (idx b.Pieces.l.length).drop (i + 1) = rest := by rw [← List.drop_drop, hd]; rfl
    have hlt : (i : Int) < b.Pieces.len := by rw [Sl.len_l]; omega
    have happ : Sl.app 8 sm.filled [(i : Int)] = some (.hot (sm.l ++ [(i : Int)])) := Sl.app_filled (by simp) (Bl (by simp; omega) (by omega))
    obtain ⟨o, ho1, ho2⟩ := kZ r n (.hot (sm.l ++ [(i : Int)])) (i + 1) (by omega) ⟨many, by rw [Sl.l_hot, List.length_append]; simp; omega, hmany3⟩ (by omega) (by rw [Sl.l_hot]; simp) (by
     intro pre x hx
     rw [Sl.l_hot] at hx
     have := List.append_inj' hx rfl
     simp at this
     omega) (by rw [Sl.l_hot, List.length_append]; simp; omega)
    rw [Sl.l_hot] at ho1 ho2
    have hmeq : ((r + (sm.l ++ [(i : Int)]).length : Nat) : Int) = ((r + 1 + sm.l.length : Nat) : Int) := by rw [List.length_append]; simp; omega
    rw [hmeq] at ho1
    rw [hd1] at ho2
    have hWi : W ((i : Int) + 1) = ((i + 1 : Nat) : Int) := by rw [Q7 (by omega)]; simp
    have hcomb : (Dh (r + 1) (p :: rest)).map (sm.l ++ ·) = (Dh r rest).map ((sm.l ++ [(i : Int)]) ++ ·) ++ (Dh (r + 1) rest).map (sm.l ++ ·) := by
     rw [Dh, List.map_append, List.map_map, hpi]
     congr 1
     apply List.map_congr_left
     intro c _; simp
    rw [hcomb]
    have hf : A3 (Ae n) sm ((r + 1 + sm.l.length : Nat) : Int) ⟨b, Mp.mk es⟩ (i : Int) = some (if o.c then .inr (.inl (T3.mk o.a o.b true)) else .inl ((i + 1 : Nat) : Int)) := by
     simp only [A3, decide_eq_true hlt, if_true, Sl.sub3_all, Option.bind_some, happ, ho1, hWi]
     cases o.c <;> rfl
    unfold Ug at ho2 ⊢
    rw [List.find?_append]
    cases hfd : ((Dh r rest).map ((sm.l ++ [(i : Int)]) ++ ·)).find? (TQ b ex) with
    | some l =>
     rw [hfd] at ho2
     obtain ⟨c1, c2, c3⟩ := ho2
     rw [c1] at hf
     exact ⟨_, Loop.done hf, rfl, c2, c3⟩
    | none =>
     rw [hfd] at ho2
     rw [ho2] at hf
     simp only [Bool.false_eq_true, if_false] at hf
     rw [Loop.step hf]
     obtain ⟨o2, h1, h2⟩ := ih (i + 1) hd1 (by omega)
     exact ⟨o2, h1, by unfold Ug at h2; simpa using h2⟩
  obtain ⟨o, h1, h2⟩ := main _ from_ rfl hfl
  refine ⟨_, ?_, h2⟩
  simp only [Ae, decide_eq_false h0, Bool.false_eq_true, if_false, hfrom, Option.bind_some, h1]
  cases o <;> rfl
def K6 (b : BenchBook) (ex : Int → Bool) : List AC := (JW (Iu b ex 3 (Gn b (Dp b.Pieces.l.length (TQ b ex))))).1.l
theorem Wu : ∃ o, BR ⟨b, Mp.mk es⟩ = some o ∧ o.1.l = Dp b.Pieces.l.length (TQ b ex) ∧ o.2.l = K6 b ex := by
 have hpc := hv.pieces
 have hlv : ∀ many : Nat, many ≤ 3 → ∃ o, Ae 64 (Sl.nil : Sl Int) (many : Int) ⟨b, Mp.mk es⟩ = some o ∧ Ug b ex (Dh many (idx b.Pieces.l.length)) o := by
  intro many hm
  obtain ⟨o, h1, h2⟩ := kZ hv hes many 64 (Sl.nil : Sl Int) 0 (by omega) ⟨many, by simp [Sl.l], hm⟩ (by omega) (by simp) (by intro pre x h; simp [Sl.l] at h) (by simp [Sl.l])
  refine ⟨o, ?_, ?_⟩
  ·simpa [Sl.l] using h1
  ·simpa [Sl.l] using h2
 have main : ∀ post pre, idx b.Pieces.l.length = pre ++ post → ∃ o, Loop (A5 ⟨b, Mp.mk es⟩) (pre.length : Int) = some o ∧ (match post.findSome? fun many => (Dh many.toNat (idx b.Pieces.l.length)).find? (TQ b ex) with
   | some l => ∃ a s, o = .inl (a, s) ∧ a.l = l ∧ s = (JW (Iu b ex 3 (Gn b l))).1
   | none => o = .inr ()) := by
  intro post
  induction post with
  | nil =>
   intro pre h
   have hlen := congrArg List.length h
   rw [Ao, List.append_nil] at hlen
   have hlt : ¬ (pre.length : Int) < b.Pieces.len := by rw [Sl.len_l]; omega
   exact ⟨.inr (), Loop.done (by simp only [A5, decide_eq_false hlt, Bool.false_eq_true, if_false]), rfl⟩
  | cons many post ih =>
   intro pre h
   obtain ⟨hm, hlt0⟩ := P8 h
   have hlt : (pre.length : Int) < b.Pieces.len := by rw [Sl.len_l]; exact hlt0
   obtain ⟨o, h1, h2⟩ := hlv pre.length (by omega)
   have hW : W ((pre.length : Int) + 1) = (pre.length : Int) + 1 := Q7 (by omega)
   have hf : A5 ⟨b, Mp.mk es⟩ (pre.length : Int) = some (if o.c then .inr (.inl (o.a, o.b)) else .inl ((pre.length : Int) + 1)) := by
    simp only [A5, decide_eq_true hlt, if_true, h1, Option.bind_some, hW]
    cases o.c <;> rfl
   have hmn : many.toNat = pre.length := by omega
   rw [List.findSome?_cons, hmn]
   unfold Ug at h2
   cases hfd : (Dh pre.length (idx b.Pieces.l.length)).find? (TQ b ex) with
   | some l =>
    rw [hfd] at h2
    obtain ⟨c1, c2, c3⟩ := h2
    rw [c1] at hf
    exact ⟨_, Loop.done hf, _, _, rfl, c2, c3⟩
   | none =>
    rw [hfd] at h2
    rw [h2] at hf
    simp only [Bool.false_eq_true, if_false] at hf
    rw [Loop.step hf]
    obtain ⟨o2, g1, g2⟩ := ih (pre ++ [many]) (by rw [h]; simp)
    refine ⟨o2, by simpa using g1, g2⟩
 obtain ⟨o, h1, h2⟩ := main (idx b.Pieces.l.length) [] rfl
 have h1' : Loop (A5 ⟨b, Mp.mk es⟩) 0 = some o := h1
 have heq : Dp b.Pieces.l.length (TQ b ex) = ((idx b.Pieces.l.length).findSome? fun many => (Dh many.toNat (idx b.Pieces.l.length)).find? (TQ b ex)).getD (idx b.Pieces.l.length) := rfl
 cases hfd : (idx b.Pieces.l.length).findSome? fun many => (Dh many.toNat (idx b.Pieces.l.length)).find? (TQ b ex) with
 | some l =>
  rw [hfd] at h2 heq
  obtain ⟨a, s, rfl, rfl, rfl⟩ := h2
  refine ⟨(a, (JW (Iu b ex 3 (Gn b a.l))).1), by simp only [BR, h1', Option.bind_some], heq.symm, ?_⟩
  simp only [K6, heq, Option.getD_some]
 | none =>
  rw [hfd] at h2 heq
  subst h2
  have he := da hv (Mp.mk es) (Sl.nil : Sl Int) (by simp [Sl.l])
  rw [Sl.l_nil, SL hv] at he
  refine ⟨(Sl.grow (idx b.Pieces.l.length), Sl.nil), by simp only [BR, h1', Option.bind_some, he], ?_, ?_⟩
  ·rw [heq, Sl.l_grow]; rfl
  ·simp only [K6, heq, Option.getD_none]
   have h5 : Gn b (idx b.Pieces.l.length) = [] := by
    simp only [Gn, List.filter_eq_nil_iff]
    intro p hp
    simp [hp]
   have h6 : Iu b ex 3 [] = [[]] := rfl
   rw [h5, h6]; rfl
omit hes
end
end
end Go.Lf
