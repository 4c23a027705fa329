/- A part of the proof. -/
import Derived.Test.YtohgomfnigdaoaaDoorx32
set_option linter.all false
namespace Go.Lf
open Go Go.Lf.Pl
noncomputable section
def S9 (b : BenchBook) (ex : Int → Bool) (but : List Int) : Bool := !(Io b ex 3 (GM b but)).isEmpty
def Di (n : Nat) (can : List Int → Bool) : List Int := ((yX n).findSome? fun many => (DW many.toNat (yX n)).find? can).getD (yX n)
section
variable {b : BenchBook} (hv : F5 b) {ex : Int → Bool}
include hv
theorem RZ : GM b [] = yX b.Pieces.l.length := by
 simp [GM]
variable {es : Zo} (hes : yG es (BA b ex))
include hes
def Ub (b : BenchBook) (ex : Int → Bool) (ls : List (List Int)) (r : T3 (Sl Int) (Sl AC) Bool) : Prop := match ls.find? (S9 b ex) with
 | some l => r.c = true ∧ r.a.l = l ∧ r.b = (JX (Io b ex 3 (GM b l))).1
 | none => r.c = false
theorem lO : ∀ (r n : Nat) (sm : Sl Int) (from_ : Nat), r < n → (∃ many : Nat, r + sm.l.length = many ∧ many ≤ 3) → from_ ≤ b.Pieces.l.length →
  (sm.l = [] → from_ = 0) → (∀ (pre : List Int) (x : Int), sm.l = pre ++ [x] → x + 1 = (from_ : Int)) → sm.l.length ≤ 3 →
  ∃ o, Ac n sm ((r + sm.l.length : Nat) : Int) ⟨b, Mp.mk es⟩ = some o ∧ Ub b ex ((DW r ((yX b.Pieces.l.length).drop from_)).map (sm.l ++ ·)) o
 | r, 0, _, _, h, _, _, _, _, _ => by omega
 | 0, n + 1, sm, from_, _, _, _, _, _, h3 => by
  have h0 : sm.len = ((0 + sm.l.length : Nat) : Int) := by rw [Sl.len_l]; omega
  have he := an hv (Mp.mk es) sm (by omega)
  have hp := bG hv sm.l
  have hw := Vl hv (Mp.mk es) (a1 := Sl.grow (GM b sm.l)) (by rw [Sl.l_grow]; exact hp) (m := 3) (by omega)
  rw [Sl.l_grow] at hw
  have hf := cI hv hes (m := 3) hp
  refine ⟨⟨sm, (JX (Io b ex 3 (GM b sm.l))).1, (JX (Io b ex 3 (GM b sm.l))).2⟩, ?_, ?_⟩
  ·simp only [Ac, decide_eq_true h0, if_true, he, Option.bind_some, hw, show (3 : Int).toNat = 3 from rfl, hf]
  ·simp only [DW, List.map_cons, List.map_nil, List.append_nil, Ub, List.find?_cons, List.find?_nil, S9]
   cases hA : Io b ex 3 (GM b sm.l) with
   | nil => simp [JX]
   | cons x L => simp [JX, hA]
 | r + 1, n + 1, sm, from_, hn, ⟨many, hmany, hmany3⟩, hfl, hnil, hlast, h3 => by
  have h0 : ¬ sm.len = ((r + 1 + sm.l.length : Nat) : Int) := by rw [Sl.len_l]; omega
  have hpc := hv.pieces
  have hfrom : (if (decide (0 < sm.len)) then Option.bind (sm.ix (W (sm.len - 1))) fun v11 => some (W (v11 + 1)) else some (0) : Option (Int)) = some (from_ : Int) := by
   rcases List.eq_nil_or_concat sm.l with h | ⟨pre, x, h⟩
   ·have : ¬ (0 : Int) < sm.len := by rw [Sl.len_l, h]; simp
    rw [if_neg (by simpa using this), hnil h]; rfl
   ·rw [List.concat_eq_append] at h
    have : (0 : Int) < sm.len := by rw [Sl.len_l, h, List.length_append, List.length_singleton]; omega
    rw [if_pos (by simpa using this)]
    have hl : sm.len - 1 = (pre.length : Int) := by rw [Sl.len_l, h, List.length_append, List.length_singleton]; omega
    have hx := hlast pre x h
    have hpl : pre.length < 3 := by rw [h] at h3; simp at h3; omega
    rw [hl, VA (by omega) (by omega), Sl.ix_at (post := []) h, Option.bind_some, VA (by omega) (by omega), hx]
  have main : ∀ (rest : List Int) (i : Nat), (yX b.Pieces.l.length).drop i = rest → i ≤ b.Pieces.l.length → ∃ o, Loop (Aw (Ac n) sm ((r + 1 + sm.l.length : Nat) : Int) ⟨b, Mp.mk es⟩) (i : Int) = some o ∧
    Ub b ex ((DW (r + 1) rest).map (sm.l ++ ·)) (match o with | .inl w14 => w14 | .inr _ => T3.mk Sl.nil Sl.nil false) := by
   intro rest
   induction rest with
   | nil =>
    intro i hd hi
    have hi2 : i = b.Pieces.l.length := by
     have := congrArg List.length hd
     simp [An] at this; omega
    have hlt : ¬ (i : Int) < b.Pieces.len := by rw [Sl.len_l]; omega
    refine ⟨.inr (), Loop.done (by simp only [Aw, decide_eq_false hlt, Bool.false_eq_true, if_false]), ?_⟩
    simp [DW, Ub]
   | cons p rest ih =>
    intro i hd hi
    have hil : i < b.Pieces.l.length := by
     have := congrArg List.length hd
     simp [An] at this; omega
    have hpi : p = (i : Int) := by
     have h1 : (yX b.Pieces.l.length)[i]? = some p := by
      have := congrArg (fun l => l[0]?) hd
      simpa using this
     simp only [yX, List.getElem?_map, Option.map_eq_some_iff] at h1
     obtain ⟨j, h2, rfl⟩ := h1
     rw [List.getElem?_range hil] at h2
     simp at h2; omega
    have hd1 : (yX b.Pieces.l.length).drop (i + 1) = rest := by rw [← List.drop_drop, hd]; rfl
    have hlt : (i : Int) < b.Pieces.len := by rw [Sl.len_l]; omega
    have happ : Sl.app 8 sm.filled [(i : Int)] = some (.hot (sm.l ++ [(i : Int)])) := Sl.app_filled (by simp) (C9 (by simp; omega) (by omega))
    obtain ⟨o, ho1, ho2⟩ := lO r n (.hot (sm.l ++ [(i : Int)])) (i + 1) (by omega) ⟨many, by rw [Sl.l_hot, List.length_append]; simp; omega, hmany3⟩ (by omega) (by rw [Sl.l_hot]; simp) (by
     intro pre x hx
     rw [Sl.l_hot] at hx
     have := List.append_inj' hx rfl
     simp at this
     omega) (by rw [Sl.l_hot, List.length_append]; simp; omega)
    rw [Sl.l_hot] at ho1 ho2
    have hmeq : ((r + (sm.l ++ [(i : Int)]).length : Nat) : Int) = ((r + 1 + sm.l.length : Nat) : Int) := by rw [List.length_append]; simp; omega
    rw [hmeq] at ho1
    rw [hd1] at ho2
    have hWi : W ((i : Int) + 1) = ((i + 1 : Nat) : Int) := by rw [QB (by omega)]; simp
    have hcomb : (DW (r + 1) (p :: rest)).map (sm.l ++ ·) = (DW r rest).map ((sm.l ++ [(i : Int)]) ++ ·) ++ (DW (r + 1) rest).map (sm.l ++ ·) := by
     rw [DW, List.map_append, List.map_map, hpi]
     congr 1
     apply List.map_congr_left
     intro c _; simp
    rw [hcomb]
    have hf : Aw (Ac n) sm ((r + 1 + sm.l.length : Nat) : Int) ⟨b, Mp.mk es⟩ (i : Int) = some (if o.c then .inr (.inl (T3.mk o.a o.b true)) else .inl ((i + 1 : Nat) : Int)) := by
     simp only [Aw, decide_eq_true hlt, if_true, Sl.sub3_all, Option.bind_some, happ, ho1, hWi]
     cases o.c <;> rfl
    unfold Ub at ho2 ⊢
    rw [List.find?_append]
    cases hfd : ((DW r rest).map ((sm.l ++ [(i : Int)]) ++ ·)).find? (S9 b ex) with
    | some l =>
     rw [hfd] at ho2
     obtain ⟨c1, c2, c3⟩ := ho2
     rw [c1] at hf
     exact ⟨_, Loop.done hf, rfl, c2, c3⟩
    | none =>
     rw [hfd] at ho2
     rw [ho2] at hf
     simp only [Bool.false_eq_true, if_false] at hf
     rw [Loop.step hf]
     obtain ⟨o2, h1, h2⟩ := ih (i + 1) hd1 (by omega)
     exact ⟨o2, h1, by unfold Ub at h2; simpa using h2⟩
  obtain ⟨o, h1, h2⟩ := main _ from_ rfl hfl
  refine ⟨_, ?_, h2⟩
  simp only [Ac, decide_eq_false h0, Bool.false_eq_true, if_false, hfrom, Option.bind_some, h1]
  cases o <;> rfl
def LY (b : BenchBook) (ex : Int → Bool) : List AC := (JX (Io b ex 3 (GM b (Di b.Pieces.l.length (S9 b ex))))).1.l
theorem XS : ∃ o, BM ⟨b, Mp.mk es⟩ = some o ∧ o.1.l = Di b.Pieces.l.length (S9 b ex) ∧ o.2.l = LY b ex := by
 have hpc := hv.pieces
 have hlv : ∀ many : Nat, many ≤ 3 → ∃ o, Ac 64 (Sl.nil : Sl Int) (many : Int) ⟨b, Mp.mk es⟩ = some o ∧ Ub b ex (DW many (yX b.Pieces.l.length)) o := by
  intro many hm
  obtain ⟨o, h1, h2⟩ := lO hv hes many 64 (Sl.nil : Sl Int) 0 (by omega) ⟨many, by simp [Sl.l], hm⟩ (by omega) (by simp) (by intro pre x h; simp [Sl.l] at h) (by simp [Sl.l])
  refine ⟨o, ?_, ?_⟩
  ·simpa [Sl.l] using h1
  ·simpa [Sl.l] using h2
 have main : ∀ post pre, yX b.Pieces.l.length = pre ++ post → ∃ o, Loop (A0 ⟨b, Mp.mk es⟩) (pre.length : Int) = some o ∧ (match post.findSome? fun many => (DW many.toNat (yX b.Pieces.l.length)).find? (S9 b ex) with
   | some l => ∃ a s, o = .inl (a, s) ∧ a.l = l ∧ s = (JX (Io b ex 3 (GM b l))).1
   | none => o = .inr ()) := by
  intro post
  induction post with
  | nil =>
   intro pre h
   have hlen := congrArg List.length h
   rw [An, List.append_nil] at hlen
   have hlt : ¬ (pre.length : Int) < b.Pieces.len := by rw [Sl.len_l]; omega
   exact ⟨.inr (), Loop.done (by simp only [A0, decide_eq_false hlt, Bool.false_eq_true, if_false]), rfl⟩
  | cons many post ih =>
   intro pre h
   obtain ⟨hm, hlt0⟩ := P0 h
   have hlt : (pre.length : Int) < b.Pieces.len := by rw [Sl.len_l]; exact hlt0
   obtain ⟨o, h1, h2⟩ := hlv pre.length (by omega)
   have hW : W ((pre.length : Int) + 1) = (pre.length : Int) + 1 := QB (by omega)
   have hf : A0 ⟨b, Mp.mk es⟩ (pre.length : Int) = some (if o.c then .inr (.inl (o.a, o.b)) else .inl ((pre.length : Int) + 1)) := by
    simp only [A0, decide_eq_true hlt, if_true, h1, Option.bind_some, hW]
    cases o.c <;> rfl
   have hmn : many.toNat = pre.length := by omega
   rw [List.findSome?_cons, hmn]
   unfold Ub at h2
   cases hfd : (DW pre.length (yX b.Pieces.l.length)).find? (S9 b ex) with
   | some l =>
    rw [hfd] at h2
    obtain ⟨c1, c2, c3⟩ := h2
    rw [c1] at hf
    exact ⟨_, Loop.done hf, _, _, rfl, c2, c3⟩
   | none =>
    rw [hfd] at h2
    rw [h2] at hf
    simp only [Bool.false_eq_true, if_false] at hf
    rw [Loop.step hf]
    obtain ⟨o2, g1, g2⟩ := ih (pre ++ [many]) (by rw [h]; simp)
    refine ⟨o2, by simpa using g1, g2⟩
 obtain ⟨o, h1, h2⟩ := main (yX b.Pieces.l.length) [] rfl
 have h1' : Loop (A0 ⟨b, Mp.mk es⟩) 0 = some o := h1
 have heq : Di b.Pieces.l.length (S9 b ex) = ((yX b.Pieces.l.length).findSome? fun many => (DW many.toNat (yX b.Pieces.l.length)).find? (S9 b ex)).getD (yX b.Pieces.l.length) := rfl
 cases hfd : (yX b.Pieces.l.length).findSome? fun many => (DW many.toNat (yX b.Pieces.l.length)).find? (S9 b ex) with
 | some l =>
  rw [hfd] at h2 heq
  obtain ⟨a, s, rfl, rfl, rfl⟩ := h2
  refine ⟨(a, (JX (Io b ex 3 (GM b a.l))).1), by simp only [BM, h1', Option.bind_some], heq.symm, ?_⟩
  simp only [LY, heq, Option.getD_some]
 | none =>
  rw [hfd] at h2 heq
  subst h2
  have he := an hv (Mp.mk es) (Sl.nil : Sl Int) (by simp [Sl.l])
  rw [Sl.l_nil, RZ hv] at he
  refine ⟨(Sl.grow (yX b.Pieces.l.length), Sl.nil), by simp only [BM, h1', Option.bind_some, he], ?_, ?_⟩
  ·rw [heq, Sl.l_grow]; rfl
  ·simp only [LY, heq, Option.getD_none]
   have h5 : GM b (yX b.Pieces.l.length) = [] := by
    simp only [GM, List.filter_eq_nil_iff]
    intro p hp
    simp [hp]
   have h6 : Io b ex 3 [] = [[]] := rfl
   rw [h5, h6]; rfl
omit hes
end
end
end Go.Lf
