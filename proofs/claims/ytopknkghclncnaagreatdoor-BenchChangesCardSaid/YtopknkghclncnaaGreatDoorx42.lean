/- A part of the proof. -/
import Derived.Test.YtopknkghclncnaaGreatDoorx41
set_option linter.all false
namespace Go.Lf
open Go Go.Lf.Pl
noncomputable section
def QW (b : BenchBook) (ex : Int → Bool) (but : List Int) : Bool := !(JH b ex 3 (Gw b but)).isEmpty
def F5 (n : Nat) (can : List Int → Bool) : List Int := ((idx n).findSome? fun many => (Ei many.toNat (idx n)).find? can).getD (idx n)
def RD (n : Nat) (can : List Int → Bool) : List Int := (idx (2 ^ n)).foldl (fun best s => if P5 (E5 s n) best && can (E5 s n) then E5 s n else best) (idx n)
theorem nv (can : List Int → Bool) {n : Nat} (h1 : 1 ≤ n) (h3 : n ≤ 3) (hc : can (idx n) = true) : RD n can = F5 n can := by
 have hn : n = 1 ∨ n = 2 ∨ n = 3 := by omega
 rcases hn with rfl | rfl | rfl
 ·have e0 : idx (2 ^ 1) = [0, 1] := by decide
  have e1 : idx 1 = [0] := by decide
  have b0 : E5 0 1 = [] := by decide
  have b1 : E5 1 1 = [0] := by decide
  have c0 : Ei (0 : Int).toNat [0] = [[]] := by decide
  rw [e1] at hc
  simp only [RD, F5, e0, e1, List.foldl_cons, List.foldl_nil, b0, b1, List.findSome?_cons, List.findSome?_nil, c0, List.find?_cons, List.find?_nil]
  generalize can [] = x0 at *
  cases x0 <;> simp_all <;> decide
 ·have e0 : idx (2 ^ 2) = [0, 1, 2, 3] := by decide
  have e1 : idx 2 = [0, 1] := by decide
  have b0 : E5 0 2 = [] := by decide
  have b1 : E5 1 2 = [0] := by decide
  have b2 : E5 2 2 = [1] := by decide
  have b3 : E5 3 2 = [0, 1] := by decide
  have c0 : Ei (0 : Int).toNat [0, 1] = [[]] := by decide
  have c1 : Ei (1 : Int).toNat [0, 1] = [[0], [1]] := by decide
  rw [e1] at hc
  simp only [RD, F5, e0, e1, List.foldl_cons, List.foldl_nil, b0, b1, b2, b3, List.findSome?_cons, List.findSome?_nil, c0, c1, List.find?_cons, List.find?_nil, hc]
  generalize can [] = x0
  generalize can [0] = x1
  generalize can [1] = x2
  revert x0 x1 x2; decide
 ·have e0 : idx (2 ^ 3) = [0, 1, 2, 3, 4, 5, 6, 7] := by decide
  have e1 : idx 3 = [0, 1, 2] := by decide
  have b0 : E5 0 3 = [] := by decide
  have b1 : E5 1 3 = [0] := by decide
  have b2 : E5 2 3 = [1] := by decide
  have b3 : E5 3 3 = [0, 1] := by decide
  have b4 : E5 4 3 = [2] := by decide
  have b5 : E5 5 3 = [0, 2] := by decide
  have b6 : E5 6 3 = [1, 2] := by decide
  have b7 : E5 7 3 = [0, 1, 2] := by decide
  have c0 : Ei (0 : Int).toNat [0, 1, 2] = [[]] := by decide
  have c1 : Ei (1 : Int).toNat [0, 1, 2] = [[0], [1], [2]] := by decide
  have c2 : Ei (2 : Int).toNat [0, 1, 2] = [[0, 1], [0, 2], [1, 2]] := by decide
  rw [e1] at hc
  simp only [RD, F5, e0, e1, List.foldl_cons, List.foldl_nil, b0, b1, b2, b3, b4, b5, b6, b7, List.findSome?_cons, List.findSome?_nil, c0, c1, c2, List.find?_cons, List.find?_nil, hc]
  generalize can [] = x0
  generalize can [0] = x1
  generalize can [1] = x2
  generalize can [2] = x3
  generalize can [0, 1] = x4
  generalize can [0, 2] = x5
  generalize can [1, 2] = x6
  revert x0 x1 x2 x3 x4 x5 x6; decide
section
variable {b : BenchBook} (hv : Ek b) {ex : Int → Bool}
include hv
theorem pi : QW b ex (idx b.Pieces.l.length) = true := by
 have : Gw b (idx b.Pieces.l.length) = [] := by
  simp only [Gw, List.filter_eq_nil_iff]
  intro p hp
  simp [hp]
 simp [QW, this, JH, Hz, Gv, fill]
theorem ME : Gw b [] = idx b.Pieces.l.length := by
 simp [Gw]
variable {es : dI} (hes : WhI es (As b ex))
include hes
def Ux (b : BenchBook) (ex : Int → Bool) (ls : List (List Int)) (r : T3 (Sl Int) (Sl AA) Bool) : Prop := match ls.find? (QW b ex) with
 | some l => r.c = true ∧ r.a.l = l ∧ r.b = (JU (JH b ex 3 (Gw b l))).1
 | none => r.c = false
theorem pT : ∀ (r n : Nat) (sm : Sl Int) (from_ : Nat), r < n → (∃ many : Nat, r + sm.l.length = many ∧ many ≤ 3) → from_ ≤ b.Pieces.l.length →
  (sm.l = [] → from_ = 0) → (∀ (pre : List Int) (x : Int), sm.l = pre ++ [x] → x + 1 = (from_ : Int)) → sm.l.length ≤ 3 →
  ∃ o, An n sm ((r + sm.l.length : Nat) : Int) ⟨b, Mp.mk es⟩ = some o ∧ Ux b ex ((Ei r ((idx b.Pieces.l.length).drop from_)).map (sm.l ++ ·)) o
 | r, 0, _, _, h, _, _, _, _, _ => by omega
 | 0, n + 1, sm, from_, _, _, _, _, _, h3 => by
  have h0 : sm.len = ((0 + sm.l.length : Nat) : Int) := by rw [Sl.len_l]; omega
  have he := gf hv (Mp.mk es) sm (by omega)
  have hp := Wg hv sm.l
  have hw := SK hv (Mp.mk es) (a1 := Sl.grow (Gw b sm.l)) (by rw [Sl.l_grow]; exact hp) (m := 3) (by omega)
  rw [Sl.l_grow] at hw
  have hf := eG hv hes (m := 3) hp
  refine ⟨⟨sm, (JU (JH b ex 3 (Gw b sm.l))).1, (JU (JH b ex 3 (Gw b sm.l))).2⟩, ?_, ?_⟩
  ·simp only [An, decide_eq_true h0, if_true, he, Option.bind_some, hw, show (3 : Int).toNat = 3 from rfl, hf]
  ·simp only [Ei, List.map_cons, List.map_nil, List.append_nil, Ux, List.find?_cons, List.find?_nil, QW]
   cases hA : JH b ex 3 (Gw b sm.l) with
   | nil => simp [JU]
   | cons x L => simp [JU, hA]
 | r + 1, n + 1, sm, from_, hn, ⟨many, hmany, hmany3⟩, hfl, hnil, hlast, h3 => by
  have h0 : ¬ sm.len = ((r + 1 + sm.l.length : Nat) : Int) := by rw [Sl.len_l]; omega
  have hpc := hv.pieces
  have hfrom : (if (decide (0 < sm.len)) then Option.bind (sm.ix (W (sm.len - 1))) fun v11 => some (W (v11 + 1)) else some (0) : Option (Int)) = some (from_ : Int) := by
   rcases List.eq_nil_or_concat sm.l with h | ⟨pre, x, h⟩
   ·have : ¬ (0 : Int) < sm.len := by rw [Sl.len_l, h]; simp
    rw [if_neg (by simpa using this), hnil h]; rfl
   ·rw [List.concat_eq_append] at h
    have : (0 : Int) < sm.len := by rw [Sl.len_l, h, List.length_append, List.length_singleton]; omega
    rw [if_pos (by simpa using this)]
    have hl : sm.len - 1 = (pre.length : Int) := by rw [Sl.len_l, h, List.length_append, List.length_singleton]; omega
    have hx := hlast pre x h
    have hpl : pre.length < 3 := by rw [h] at h3; simp at h3; omega
    rw [hl, VV (by omega) (by omega), Sl.ix_at (post := []) h, Option.bind_some, VV (by omega) (by omega), hx]
  have main : ∀ (rest : List Int) (i : Nat), (idx b.Pieces.l.length).drop i = rest → i ≤ b.Pieces.l.length → ∃ o, Loop (BB (An n) sm ((r + 1 + sm.l.length : Nat) : Int) ⟨b, Mp.mk es⟩) (i : Int) = some o ∧
    Ux b ex ((Ei (r + 1) rest).map (sm.l ++ ·)) (match o with | .inl w14 => w14 | .inr _ => T3.mk Sl.nil Sl.nil false) := by
   intro rest
   induction rest with
   | nil =>
    intro i hd hi
    have hi2 : i = b.Pieces.l.length := by
     have := congrArg List.length hd
     simp [AQ] at this; omega
    have hlt : ¬ (i : Int) < b.Pieces.len := by rw [Sl.len_l]; omega
    refine ⟨.inr (), Loop.done (by simp only [BB, decide_eq_false hlt, Bool.false_eq_true, if_false]), ?_⟩
    simp [Ei, Ux]
   | cons p rest ih =>
    intro i hd hi
    have hil : i < b.Pieces.l.length := by
     have := congrArg List.length hd
     simp [AQ] at this; omega
    have hpi : p = (i : Int) := by
     have h1 : (idx b.Pieces.l.length)[i]? = some p := by
      have := congrArg (fun l => l[0]?) hd
      simpa using this
     simp only [idx, List.getElem?_map, Option.map_eq_some_iff] at h1
     obtain ⟨j, h2, rfl⟩ := h1
     rw [List.getElem?_range hil] at h2
     simp at h2; omega
    have hd1 : (idx b.Pieces.l.length).drop (i + 1) = rest := by rw [← List.drop_drop, hd]; rfl
    have hlt : (i : Int) < b.Pieces.len := by rw [Sl.len_l]; omega
    have happ : Sl.app 8 sm.filled [(i : Int)] = some (.hot (sm.l ++ [(i : Int)])) := Sl.app_filled (by simp) (A8 (by simp; omega) (by omega))
    obtain ⟨o, ho1, ho2⟩ := pT r n (.hot (sm.l ++ [(i : Int)])) (i + 1) (by omega) ⟨many, by rw [Sl.l_hot, List.length_append]; simp; omega, hmany3⟩ (by omega) (by rw [Sl.l_hot]; simp) (by
     intro pre x hx
     rw [Sl.l_hot] at hx
     have := List.append_inj' hx rfl
     simp at this
     omega) (by rw [Sl.l_hot, List.length_append]; simp; omega)
    rw [Sl.l_hot] at ho1 ho2
    have hmeq : ((r + (sm.l ++ [(i : Int)]).length : Nat) : Int) = ((r + 1 + sm.l.length : Nat) : Int) := by rw [List.length_append]; simp; omega
    rw [hmeq] at ho1
    rw [hd1] at ho2
    have hWi : W ((i : Int) + 1) = ((i + 1 : Nat) : Int) := by rw [Ig (by omega)]; simp
    have hcomb : (Ei (r + 1) (p :: rest)).map (sm.l ++ ·) = (Ei r rest).map ((sm.l ++ [(i : Int)]) ++ ·) ++ (Ei (r + 1) rest).map (sm.l ++ ·) := by
     rw [Ei, List.map_append, List.map_map, hpi]
     congr 1
     apply List.map_congr_left
     intro c _; simp
    rw [hcomb]
    have hf : BB (An n) sm ((r + 1 + sm.l.length : Nat) : Int) ⟨b, Mp.mk es⟩ (i : Int) = some (if o.c then .inr (.inl (T3.mk o.a o.b true)) else .inl ((i + 1 : Nat) : Int)) := by
     simp only [BB, decide_eq_true hlt, if_true, Sl.sub3_all, Option.bind_some, happ, ho1, hWi]
     cases o.c <;> rfl
    unfold Ux at ho2 ⊢
    rw [List.find?_append]
    cases hfd : ((Ei r rest).map ((sm.l ++ [(i : Int)]) ++ ·)).find? (QW b ex) with
    | some l =>
     rw [hfd] at ho2
     obtain ⟨c1, c2, c3⟩ := ho2
     rw [c1] at hf
     exact ⟨_, Loop.done hf, rfl, c2, c3⟩
    | none =>
     rw [hfd] at ho2
     rw [ho2] at hf
     simp only [Bool.false_eq_true, if_false] at hf
     rw [Loop.step hf]
     obtain ⟨o2, h1, h2⟩ := ih (i + 1) hd1 (by omega)
     exact ⟨o2, h1, by unfold Ux at h2; simpa using h2⟩
  obtain ⟨o, h1, h2⟩ := main _ from_ rfl hfl
  refine ⟨_, ?_, h2⟩
  simp only [An, decide_eq_false h0, Bool.false_eq_true, if_false, hfrom, Option.bind_some, h1]
  cases o <;> rfl
def VZ (b : BenchBook) (ex : Int → Bool) : List AA := (JU (JH b ex 3 (Gw b (F5 b.Pieces.l.length (QW b ex))))).1.l
theorem SU : ∃ o, Ba ⟨b, Mp.mk es⟩ = some o ∧ o.1.l = F5 b.Pieces.l.length (QW b ex) ∧ o.2.l = VZ b ex := by
 have hpc := hv.pieces
 have hlv : ∀ many : Nat, many ≤ 3 → ∃ o, An 64 (Sl.nil : Sl Int) (many : Int) ⟨b, Mp.mk es⟩ = some o ∧ Ux b ex (Ei many (idx b.Pieces.l.length)) o := by
  intro many hm
  obtain ⟨o, h1, h2⟩ := pT hv hes many 64 (Sl.nil : Sl Int) 0 (by omega) ⟨many, by simp [Sl.l], hm⟩ (by omega) (by simp) (by intro pre x h; simp [Sl.l] at h) (by simp [Sl.l])
  refine ⟨o, ?_, ?_⟩
  ·simpa [Sl.l] using h1
  ·simpa [Sl.l] using h2
 have main : ∀ post pre, idx b.Pieces.l.length = pre ++ post → ∃ o, Loop (BS ⟨b, Mp.mk es⟩) (pre.length : Int) = some o ∧ (match post.findSome? fun many => (Ei many.toNat (idx b.Pieces.l.length)).find? (QW b ex) with
   | some l => ∃ a s, o = .inl (a, s) ∧ a.l = l ∧ s = (JU (JH b ex 3 (Gw b l))).1
   | none => o = .inr ()) := by
  intro post
  induction post with
  | nil =>
   intro pre h
   have hlen := congrArg List.length h
   rw [AQ, List.append_nil] at hlen
   have hlt : ¬ (pre.length : Int) < b.Pieces.len := by rw [Sl.len_l]; omega
   exact ⟨.inr (), Loop.done (by simp only [BS, decide_eq_false hlt, Bool.false_eq_true, if_false]), rfl⟩
  | cons many post ih =>
   intro pre h
   obtain ⟨hm, hlt0⟩ := IG h
   have hlt : (pre.length : Int) < b.Pieces.len := by rw [Sl.len_l]; exact hlt0
   obtain ⟨o, h1, h2⟩ := hlv pre.length (by omega)
   have hW : W ((pre.length : Int) + 1) = (pre.length : Int) + 1 := Ig (by omega)
   have hf : BS ⟨b, Mp.mk es⟩ (pre.length : Int) = some (if o.c then .inr (.inl (o.a, o.b)) else .inl ((pre.length : Int) + 1)) := by
    simp only [BS, decide_eq_true hlt, if_true, h1, Option.bind_some, hW]
    cases o.c <;> rfl
   have hmn : many.toNat = pre.length := by omega
   rw [List.findSome?_cons, hmn]
   unfold Ux at h2
   cases hfd : (Ei pre.length (idx b.Pieces.l.length)).find? (QW b ex) with
   | some l =>
    rw [hfd] at h2
    obtain ⟨c1, c2, c3⟩ := h2
    rw [c1] at hf
    exact ⟨_, Loop.done hf, _, _, rfl, c2, c3⟩
   | none =>
    rw [hfd] at h2
    rw [h2] at hf
    simp only [Bool.false_eq_true, if_false] at hf
    rw [Loop.step hf]
    obtain ⟨o2, g1, g2⟩ := ih (pre ++ [many]) (by rw [h]; simp)
    refine ⟨o2, by simpa using g1, g2⟩
 obtain ⟨o, h1, h2⟩ := main (idx b.Pieces.l.length) [] rfl
 have h1' : Loop (BS ⟨b, Mp.mk es⟩) 0 = some o := h1
 have heq : F5 b.Pieces.l.length (QW b ex) = ((idx b.Pieces.l.length).findSome? fun many => (Ei many.toNat (idx b.Pieces.l.length)).find? (QW b ex)).getD (idx b.Pieces.l.length) := rfl
 cases hfd : (idx b.Pieces.l.length).findSome? fun many => (Ei many.toNat (idx b.Pieces.l.length)).find? (QW b ex) with
 | some l =>
  rw [hfd] at h2 heq
  obtain ⟨a, s, rfl, rfl, rfl⟩ := h2
  refine ⟨(a, (JU (JH b ex 3 (Gw b a.l))).1), by simp only [Ba, h1', Option.bind_some], heq.symm, ?_⟩
  simp only [VZ, heq, Option.getD_some]
 | none =>
  rw [hfd] at h2 heq
  subst h2
  have he := gf hv (Mp.mk es) (Sl.nil : Sl Int) (by simp [Sl.l])
  rw [Sl.l_nil, ME hv] at he
  refine ⟨(Sl.grow (idx b.Pieces.l.length), Sl.nil), by simp only [Ba, h1', Option.bind_some, he], ?_, ?_⟩
  ·rw [heq, Sl.l_grow]; rfl
  ·simp only [VZ, heq, Option.getD_none]
   have h5 : Gw b (idx b.Pieces.l.length) = [] := by
    simp only [Gw, List.filter_eq_nil_iff]
    intro p hp
    simp [hp]
   have h6 : JH b ex 3 [] = [[]] := rfl
   rw [h5, h6]; rfl
omit hes
theorem gA {but : Sl Int} (hn : but.l.length < 4611686018427387904) : ∃ out, Eg b but = some (Sl.hot (Gw b but.l)) ∧ Gt b (Jb b ex) (Sl.hot (Gw b but.l)) = some out ∧ decide (0 < out.len) = QW b ex but.l ∧ (out.l.map Sl.l).Perm (JH b ex 3 (Gw b but.l)) ∧ out.l.length ≤ 68719476736 ∧ ∀ x ∈ out.l, x.l.length ≤ 100 := by
 obtain ⟨out, h1, h2, h3, h4⟩ := yb hv ex (a2 := Sl.hot (Gw b but.l)) (by rw [Sl.l_hot]; exact Wg hv _)
 rw [Sl.l_hot] at h2
 have hp := wY hv ex (kY (b := b) but.l)
 rw [← h2] at hp
 refine ⟨out, pS hv but hn, h1, ?_, hp, h3, h4⟩
 have hl := hp.length_eq
 rw [List.length_map] at hl
 rw [Sl.len_l, hl, QW]
 cases JH b ex 3 (Gw b but.l) <;> simp
theorem Pj : ∃ o, Et b (Jb b ex) = some o ∧ o.l = RD b.Pieces.l.length (QW b ex) := by
 have hpc := hv.pieces
 have he := pS hv (Sl.nil : Sl Int) (by simp [Sl.l])
 rw [Sl.l_nil, ME hv] at he
 have hpl : b.Pieces.len = (b.Pieces.l.length : Int) := Sl.len_l _
 have hsh := Wt (n := b.Pieces.l.length) (by omega)
 have h8 : 2 ^ b.Pieces.l.length ≤ 8 := Nat.le_trans (Nat.pow_le_pow_right (by omega) hpc.2) (by decide)
 obtain ⟨r, h1, h2⟩ := Iy (f := Ef b (Jb b ex)) (fun t i => (t, i)) (idx (2 ^ b.Pieces.l.length))
  (fun pre (t : Sl Int) => t.l = pre.foldl (fun best s => if P5 (E5 s b.Pieces.l.length) best && QW b ex (E5 s b.Pieces.l.length) then E5 s b.Pieces.l.length else best) (idx b.Pieces.l.length))
  (fun t => t.l = RD b.Pieces.l.length (QW b ex)) (x0 := (Sl.hot (idx b.Pieces.l.length), 0)) (t0 := Sl.hot (idx b.Pieces.l.length)) (by rw [AQ]; omega) rfl rfl (by
  intro pre s post t hpre ht hW
  obtain ⟨hs, hlt⟩ := IG hpre
  have hltI : (pre.length : Int) < ((2 ^ b.Pieces.l.length : Nat) : Int) := hlt
  have hbits := uY (s := (pre.length : Int)) (n := b.Pieces.l.length) (by omega) (by omega)
  have hbl : (E5 (pre.length : Int) b.Pieces.l.length).length ≤ 3 := by
   have := List.length_filter_le (jP (pre.length : Int)) (idx b.Pieces.l.length)
   rw [AQ] at this
   simp only [E5]; omega
  have hsho := ru (Sl.hot (E5 (pre.length : Int) b.Pieces.l.length)) t (by rw [Sl.l_hot]; omega)
  obtain ⟨out, e1, e2, e3, _⟩ := gA hv (ex := ex) (but := Sl.hot (E5 (pre.length : Int) b.Pieces.l.length)) (by rw [Sl.l_hot]; omega)
  rw [Sl.l_hot] at hsho e1 e2 e3
  refine ⟨if P5 (E5 (pre.length : Int) b.Pieces.l.length) t.l && QW b ex (E5 (pre.length : Int) b.Pieces.l.length) then Sl.hot (E5 (pre.length : Int) b.Pieces.l.length) else t, ?_, ?_⟩
  ·rw [List.foldl_append, List.foldl_cons, List.foldl_nil, ← ht, hs]
   split <;> rfl
  ·simp only [Ef, hpl, hsh, Option.bind_some, decide_eq_true hltI, if_true, hbits, hsho, hW]
   cases hc : P5 (E5 (pre.length : Int) b.Pieces.l.length) t.l with
   | false => simp
   | true =>
    simp only [if_true, e1, e2, e3, Option.bind_some, Bool.true_and]
    cases QW b ex (E5 (pre.length : Int) b.Pieces.l.length) <;> rfl) (by
  intro t ht
  refine ⟨t, ht, ?_⟩
  have hlt : ¬ ((idx (2 ^ b.Pieces.l.length)).length : Int) < ((2 ^ b.Pieces.l.length : Nat) : Int) := by rw [AQ]; omega
  simp only [Ef, hpl, hsh, Option.bind_some, decide_eq_false hlt, Bool.false_eq_true, if_false])
 exact ⟨r, by simp only [Et, he, Option.bind_some, h2], h1⟩
end
end
end Go.Lf
