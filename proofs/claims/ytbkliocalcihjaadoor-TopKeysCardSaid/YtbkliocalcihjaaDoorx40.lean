/- A part of the proof. -/
import Derived.Test.YtbkliocalcihjaaDoorx39
set_option linter.all false
namespace Go.Lf
open Go
noncomputable section
theorem qR (a : Sl Int) (hn : a.l.length < 4611686018427387904) (n : Int) : ∃ v, ES a n = some v ∧ decide (v < 0) = !a.l.contains n := by
 have e : Loop (Bn a n) 0 = some (match a.l.findIdx? (fun y => n == y) with | some i => .inl (i : Int) | none => .inr ()) := by
  have main : ∀ post pre, a.l = pre ++ post → Loop (Bn a n) (pre.length : Int) = some (match post.findIdx? (fun y => n == y) with | some i => .inl ((pre.length + i : Nat) : Int) | none => .inr ()) := by
   intro post
   induction post with
   | nil =>
    intro pre h
    have hl : ¬ (pre.length : Int) < a.len := by rw [Sl.len_l, h]; simp
    exact Loop.done (by simp only [Bn, decide_eq_false hl, Bool.false_eq_true, if_false]; rfl)
   | cons y post ih =>
    intro pre h
    have hl : (pre.length : Int) < a.len := by rw [Sl.len_l, h]; simp; omega
    have hW : W ((pre.length : Int) + 1) = (pre.length : Int) + 1 := gq (by rw [h] at hn; simp at hn; omega)
    by_cases hc : n = y
    ·have hf : Bn a n pre.length = some (.inr (.inl (pre.length : Int))) := by
      simp only [Bn, decide_eq_true hl, if_true, Sl.ix_at h, Option.bind_some, hc, decide_true]
     rw [Loop.done hf]
     simp [List.findIdx?_cons, hc]
    ·have hf : Bn a n pre.length = some (.inl ((pre.length : Int) + 1)) := by
      have hc' : ¬ y = n := fun h => hc h.symm
      simp only [Bn, decide_eq_true hl, if_true, Sl.ix_at h, Option.bind_some, decide_eq_false hc', Bool.false_eq_true, if_false, hW]
     rw [Loop.step hf]
     have := ih (pre ++ [y]) (by rw [h]; simp)
     simp only [List.length_append, List.length_cons, List.length_nil, Nat.zero_add] at this
     rw [show ((pre.length : Int) + 1) = ((pre.length + 1 : Nat) : Int) by simp, this]
     have hb : (n == y) = false := by simpa using hc
     simp only [List.findIdx?_cons, hb, Bool.false_eq_true, if_false]
     cases post.findIdx? (fun y => n == y) with
     | none => rfl
     | some i => simp; omega
  have := main a.l [] rfl
  simpa using this
 have hany : a.l.contains n = (a.l.findIdx? (fun y => n == y)).isSome := by
  rw [List.findIdx?_isSome, List.contains_eq_any_beq]
 simp only [ES, e, Option.bind_some, hany]
 cases a.l.findIdx? (fun y => n == y) with
 | none => exact ⟨-1, rfl, by simp⟩
 | some i => exact ⟨(i : Int), rfl, by simp⟩
theorem cD {a : Sl Int} (hn : a.l.length < 4611686018427387904) (n : Int) : ∃ v, ES a n = some v ∧ decide (0 ≤ v) = a.l.contains n ∧ decide (v < 0) = !a.l.contains n := by
 obtain ⟨v, h1, h2⟩ := qR a hn n
 refine ⟨v, h1, ?_, h2⟩
 cases hc : a.l.contains n with
 | true => rw [hc] at h2; have := of_decide_eq_false h2; exact decide_eq_true (by omega)
 | false => rw [hc] at h2; have := of_decide_eq_true h2; exact decide_eq_false (by omega)
theorem vf {α : Type} {x : Sl α} {pre post : List α} {a : α} (h : x.l = pre ++ a :: post) : x.sub (some pre.length) (some ((pre.length : Int) + 1)) = some (.cold [a]) := by
 have key : ∀ xs : List α, xs = pre ++ a :: post → (if 0 ≤ (some (pre.length : Int)).getD 0 ∧ (some (pre.length : Int)).getD 0 ≤ (some ((pre.length : Int) + 1)).getD xs.length ∧ (some ((pre.length : Int) + 1)).getD xs.length ≤ xs.length then some (Sl.cold ((xs.take ((some ((pre.length : Int) + 1)).getD xs.length).toNat).drop ((some (pre.length : Int)).getD 0).toNat)) else none) = some (Sl.cold [a]) := by
  intro xs hx
  have hl : xs.length = pre.length + (post.length + 1) := by rw [hx]; simp
  simp only [Option.getD_some]
  rw [if_pos ⟨by omega, by omega, by omega⟩]
  have e1 : ((pre.length : Int) + 1).toNat = pre.length + 1 := by omega
  have e2 : ((pre.length : Int)).toNat = pre.length := by omega
  rw [e1, e2, hx, List.take_append]
  simp
 cases x with
 | nil => simp [Sl.l] at h
 | cold xs => exact key xs h
 | hot xs => exact key xs h
 | full xs => exact key xs h
section
variable {v : VoiceBook} (hf : Wz v) (hok : vOk v = true) {s : Int} (h1 : -2 ≤ s) (h2 : s ≤ 2)
include hf hok h1 h2
theorem mG (hfi : FZ v = true) : Fq (AG v s) = some (⟨s, s⟩, 0) := by
 obtain ⟨y, hy, _, hsh⟩ := ZN hf hok h1 h2 hfi
 simp only [Fq, hy, Ax, decide_true, if_true, hsh]
theorem pe (hfi : FZ v = false) : Fq (AG v s) = some (⟨0, 0⟩, 82) := by
 obtain ⟨y, hy⟩ := eI hf hok h1 h2 hfi
 simp only [Fq, hy, Ax]
 rfl
end
theorem tg {x : OrganBook} {week : Int} {ps : Sl AC} {K : Sl Int} (hk : Bw x week ps = some (K, 0)) (hn : K.l.length < 4611686018427387904) (hne : K.l ≠ []) : ∃ b, FI x week ps = some (b, 0) ∧ b ∈ K.l := by
 obtain ⟨a, r, hr⟩ : ∃ a r, K.l = a :: r := by
  cases h : K.l with
  | nil => exact absurd h hne
  | cons a r => exact ⟨a, r, rfl⟩
 have hx : K.ix 0 = some a := by
  have := Sl.ix_at (x := K) (pre := []) (post := r) (a := a) (by simpa using hr)
  simpa using this
 have hl : ¬ K.len = 0 := by rw [Sl.len_l, hr]; simp; omega
 obtain ⟨b, hb, he⟩ := K9 (f := EJ (K, 0)) (fun t i => (t, i)) K.l (fun _ t => t ∈ K.l) (fun t => t ∈ K.l) (x0 := (a, 0)) (t0 := a) hn rfl (by rw [hr]; simp)
  (by
   intro pre c post t hxs ht hW
   have hi : K.ix pre.length = some c := Sl.ix_at hxs
   have hlt : (pre.length : Int) < K.len := by rw [Sl.len_l, hxs]; simp; omega
   by_cases hc : ID c t = true
   ·exact ⟨c, by rw [hxs]; simp, by simp only [EJ, decide_eq_true hlt, if_true, hi, Ax, hc, hW]⟩
   ·exact ⟨t, ht, by simp only [EJ, decide_eq_true hlt, if_true, hi, Ax, eq_false_of_ne_true hc, Bool.false_eq_true, if_false, hW]⟩)
  (by
   intro t ht
   have hlt : ¬ (K.l.length : Int) < K.len := by rw [Sl.len_l]; omega
   exact ⟨t, ht, by simp only [EJ, decide_eq_false hlt, Bool.false_eq_true, if_false]⟩)
 refine ⟨b, ?_, hb⟩
 simp only [FI, hk, Ax, decide_true, if_true, decide_eq_false hl, Bool.false_eq_true, if_false, hx, he]
theorem nY {x : OrganBook} {week : Int} {ps : Sl AC} {K : Sl Int} (hk : Bw x week ps = some (K, 0)) (hne : K.l = []) : FI x week ps = some (0, 4) := by
 have hl : K.len = 0 := by rw [Sl.len_l, hne]; rfl
 simp only [FI, hk, Ax, decide_true, if_true, hl]
theorem qw {x : OrganBook} {week e : Int} {ps : Sl AC} (hk : Bw x week ps = some (Sl.nil, e)) (he : ¬ e = 0) : FI x week ps = some (0, e) := by
 simp only [FI, hk, Ax, decide_eq_false he, Bool.false_eq_true, if_false]
def Vq (v : VoiceBook) (week : Int) (n : BJ) : BenchBook := ⟨v, Sl.grow [⟨week, Sl.cold [⟨n, 1⟩]⟩], 1⟩
theorem oS (v : VoiceBook) (week by_ : Int) (p : AC) : Df v week (Sl.cold [p]) by_ = some (Vq v week ⟨W (p.Notes.Low + by_), W (p.Notes.High + by_)⟩) := by
 have e : Loop (Ei week (Sl.cold [p]) by_) ((BenchBook.mk v (Sl.nil : Sl AL) 1), 0) = some (Vq v week ⟨W (p.Notes.Low + by_), W (p.Notes.High + by_)⟩) := by
  have ha : Sl.app 32 (Sl.nil : Sl AL).unf [(⟨week, Sl.cold [⟨⟨W (p.Notes.Low + by_), W (p.Notes.High + by_)⟩, 1⟩]⟩ : AL)] = some (Sl.grow [⟨week, Sl.cold [⟨⟨W (p.Notes.Low + by_), W (p.Notes.High + by_)⟩, 1⟩]⟩]) := rfl
  rw [Loop.step (x' := (Vq v week ⟨W (p.Notes.Low + by_), W (p.Notes.High + by_)⟩, 1)), Loop.done]
  ·rfl
  ·have hx : (Sl.cold [p]).ix 0 = some p := rfl
   have hl : (0 : Int) < (Sl.cold [p]).len := by rw [Sl.len_l]; show (0 : Int) < ((1 : Nat) : Int); omega
   simp only [Ei, decide_eq_true hl, if_true, hx, Ax, NF, Ac, D5, ha]
   rw [LY (x := 0 + 1) (by omega) (by omega)]
   rfl
 simp only [Df, e, Ax]
section
variable {v : VoiceBook} (hf : Wz v) (hok : vOk v = true) {week : Int} (hw : 0 ≤ week ∧ week < v.Weeks) {n : BJ}
theorem nV : (Vq v week n).Pieces.l = [⟨week, Sl.cold [⟨n, 1⟩]⟩] := Sl.l_grow [(⟨week, Sl.cold [⟨n, 1⟩]⟩ : AL)]
include hf in
theorem pQ : rG (Vq v week n) := by
 refine ⟨hf, by rw [nV]; show (1 : Nat) < _; omega, ?_⟩
 intro x hx
 rw [nV, List.mem_singleton] at hx
 subst hx
 show (1 : Nat) < _
 omega
include hf hok hw
theorem s0 : bOk (Vq v week n) = (decide (0 ≤ n.Low) && decide (n.Low ≤ n.High) && decide (n.High ≤ 40)) := by
 have hv := D1 hf hok
 have hwk := hv.weeks
 have e1 : AO (Vq v week n).Pieces.len 1 3 = true := by
  simp only [AO, Sl.len_l, nV, List.length_singleton, Bool.and_eq_true, decide_eq_true_eq]; omega
 have e2 : AO week 0 (W (v.Weeks - 1)) = true := by
  simp only [AO, Bool.and_eq_true, decide_eq_true_eq]
  rw [LY (by omega) (by omega)]; omega
 have e3 : dG (Vq v week n) = true := by
  simp only [dG, Bool.and_eq_true]
  exact ⟨hok, e1, rfl⟩
 have e4 : Rj ⟨n, 1⟩ = (decide (0 ≤ n.Low) && decide (n.Low ≤ n.High) && decide (n.High ≤ 40)) := by
  simp only [Rj, AO]
  cases decide (0 ≤ n.Low) <;> cases decide (n.Low ≤ n.High) <;> cases decide (n.High ≤ 40) <;> rfl
 have e5 : RG (Vq v week n) ⟨week, Sl.cold [⟨n, 1⟩]⟩ = Rj ⟨n, 1⟩ := by
  have e6 : AO (Sl.cold [(⟨n, 1⟩ : A4)]).len 1 3 = true := rfl
  have e7 : (Vq v week n).Voice.Weeks = v.Weeks := rfl
  simp only [RG, e7, e2, e6, Bool.true_and, Bool.and_self, Sl.l_cold, List.all_cons, List.all_nil, Bool.and_true]
 simp only [bOk, e3, Bool.true_and, nV, List.all_cons, List.all_nil, Bool.and_true, e5, e4]
theorem t5 (hfi : FZ v = true) (hn : 0 ≤ n.Low ∧ n.Low ≤ n.High ∧ n.High ≤ 40) : ∃ l : Sl Int, FY (Vq v week n) 0 0 = some (l, 0) ∧ l.l = (idx v.Boys.l.length).filter fun boy => nb (Vq v week n) week n boy := by
 have hb := pQ (v := v) (week := week) (n := n) hf
 obtain ⟨l, h1, h2⟩ := dE hb 0 0
 have hbok : bOk (Vq v week n) = true := by
  rw [s0 hf hok hw]
  simp only [Bool.and_eq_true, decide_eq_true_eq]; omega
 have hx : (Vq v week n).Pieces.ix 0 = some ⟨week, Sl.cold [⟨n, 1⟩]⟩ := rfl
 have hq : qQ (Vq v week n) 0 0 = true := by
  simp only [qQ, hx, Bool.and_eq_true]
  refine ⟨(WV hb 0).mpr ⟨by omega, by rw [nV]; show (0 : Int) < ((1 : Nat) : Int); omega⟩, ?_⟩
  exact (rO hb hx).mpr ⟨by omega, by show (0 : Int) < ((1 : Nat) : Int); omega⟩
 have he : HS (Vq v week n) (qQ (Vq v week n) 0 0) = 0 := by
  rw [hq]
  have : FZ (Vq v week n).Voice = true := hfi
  simp [HS, hbok, this]
 rw [he] at h1 h2
 refine ⟨l, h1, ?_⟩
 rw [h2, if_pos rfl]
 have hy : (Sl.cold [(⟨n, 1⟩ : A4)]).ix 0 = some ⟨n, 1⟩ := rfl
 simp only [IL, hx, hy, qK, sV, Bool.not_false, Bool.true_and]
 rfl
theorem ql {p : AC} (hp : QP v p) {up : Int} (hn : 0 ≤ p.Notes.Low + up ∧ p.Notes.High + up ≤ 40) : nb (Vq v week ⟨p.Notes.Low + up, p.Notes.High + up⟩) week ⟨p.Notes.Low + up, p.Notes.High + up⟩ p.Boy = H6 v week up p := by
 unfold nb H6
 have : ∀ m ∈ rng ⟨p.Notes.Low + up, p.Notes.High + up⟩, zf v p.Boy week m = decide (Gz v p.Boy week m = 2) := by
  intro m hm
  obtain ⟨m1, m2⟩ := IC.mp hm
  simp only at m1 m2
  have : BP m = true := by
   simp only [BP, Ab, Bool.and_eq_true, decide_eq_true_eq]; omega
  simp only [zf, this, Bool.true_and]
 rw [Bool.eq_iff_iff, List.all_eq_true, List.all_eq_true]
 exact ⟨fun h m hm => by rw [this m hm]; exact h m hm, fun h m hm => by have := this m hm ▸ h m hm; exact this⟩
theorem qu {p : AC} (hp : QP v p) {up : Int} (hn : ¬ (0 ≤ p.Notes.Low + up ∧ p.Notes.High + up ≤ 40)) : H6 v week up p = false := by
 have g := hp.le
 cases h : H6 v week up p with
 | false => rfl
 | true =>
  unfold H6 at h
  rw [List.all_eq_true] at h
  have a := h (p.Notes.Low + up) (IC.mpr ⟨by show p.Notes.Low + up ≤ p.Notes.Low + up; omega, by show p.Notes.Low + up ≤ p.Notes.High + up; omega⟩)
  have b := h (p.Notes.High + up) (IC.mpr ⟨by show p.Notes.Low + up ≤ p.Notes.High + up; omega, by show p.Notes.High + up ≤ p.Notes.High + up; omega⟩)
  simp only [zf, BP, Ab, Bool.and_eq_true, decide_eq_true_eq] at a b
  omega
end
end
end Go.Lf
namespace Go.Lf
open Go
noncomputable section
theorem lQ {v : VoiceBook} (hf : Wz v) (hok : vOk v = true) (l : Sl AC) : ∃ ps : Sl AC, (ps.l.length ≤ 3 ∧ ∀ p ∈ ps.l, QP v p) ∧ Loop (Du v l) ((Sl.nil : Sl AC), 0) = some ps := by
 have hv := (D1 hf hok).boys
 have hb : v.Boys.len = v.Boys.l.length := Sl.len_l _
 refine K9 (f := Du v l) (fun t i => (t, i)) (l.l.take 3) (fun pre t => ∃ qs, t = Sl.grow qs ∧ qs.length = pre.length ∧ ∀ p ∈ qs, QP v p) (fun ps => ps.l.length ≤ 3 ∧ ∀ p ∈ ps.l, QP v p) (x0 := (Sl.nil, 0)) (t0 := Sl.nil) (by simp; omega) rfl ⟨[], rfl, rfl, by simp⟩ ?_ ?_
 ·rintro pre a post t hx ⟨qs, rfl, hq1, hq2⟩ hW
  have hlen : pre.length < 3 := by
   have := congrArg List.length hx
   simp at this; omega
  have hi : l.ix pre.length = some a := by
   rw [Sl.ix_nat]
   have : (l.l.take 3)[pre.length]? = some a := by rw [hx]; simp
   rwa [List.getElem?_take_of_lt hlen] at this
  have hlt : (pre.length : Int) < l.len := by
   have := (ME hi).2.1
   rw [Sl.len_l]; exact this
  obtain ⟨r1, e1, a1, b1⟩ := Qo (n := a.Notes.Low) (m := 41) (by omega) (by omega)
  obtain ⟨r2, e2, a2, b2⟩ := Qo (n := a.Boy) (m := v.Boys.len) (by omega) (by omega)
  obtain ⟨r3, e3, a3, b3⟩ := Qo (n := a.Notes.High) (m := 9) (by omega) (by omega)
  have hw : W (r1 + r3) = r1 + r3 := LY (by omega) (by omega)
  have hr : qs.length + ([AC.mk r2 (Ac r1 (min 40 (r1 + r3)))] : List AC).length ≤ 1000000000 := by simp; omega
  refine ⟨Sl.grow (qs ++ [AC.mk r2 (Ac r1 (min 40 (r1 + r3)))]), ⟨_, rfl, by simp [hq1], ?_⟩, ?_⟩
  ·intro p hp
   rcases List.mem_append.mp hp with hp | hp
   ·exact hq2 p hp
   ·rw [List.mem_singleton] at hp
    subst hp
    refine ⟨⟨a2, by rw [← hb]; exact b2⟩, a1, ?_, ?_⟩
    ·show r1 ≤ min 40 (r1 + r3); omega
    ·show min 40 (r1 + r3) ≤ 40; omega
  ·simp only [Du, decide_eq_true hlt, decide_eq_true (show (pre.length : Int) < 3 by omega), Bool.and_self, if_true, hi, Ax, e1, e2, e3, hw, Sl.app_grow (q := 24) (xs := qs) (ys := [AC.mk r2 (Ac r1 (min 40 (r1 + r3)))]) (List.cons_ne_nil _ _) (HK hr (by omega)), hW]
 ·rintro t ⟨qs, rfl, hq1, hq2⟩
  refine ⟨Sl.grow qs, ⟨by rw [Sl.l_grow, hq1]; simp; omega, by rw [Sl.l_grow]; exact hq2⟩, ?_⟩
  have : (decide (((l.l.take 3).length : Int) < l.len) && decide (((l.l.take 3).length : Int) < 3)) = false := by
   rw [Bool.and_eq_false_iff, decide_eq_false_iff_not, decide_eq_false_iff_not, Sl.len_l, List.length_take]; omega
  simp only [Du, this, Bool.false_eq_true, if_false]
section
variable {v : VoiceBook} (hf : Wz v) (hok : vOk v = true) (hfi : FZ v = true) {ps : Sl AC} (hp : ∀ p ∈ ps.l, QP v p) (h3 : ps.l.length ≤ 3) {week : Int} (hw : 0 ≤ week ∧ week < v.Weeks) {a b : Int} (ha : 0 ≤ a ∧ a < 5) (hb : 0 ≤ b ∧ b < 13)
include hf hok hfi hp h3 hw ha hb
theorem mM : Loop (Dm v ps a b week) (true, 0) = some (.inr (ps.l.all (H6 v week ((b - 6) + (a - 2))))) := by
 refine JC (fun t i => (t, i)) ps.l (fun pre => pre.all (H6 v week ((b - 6) + (a - 2)))) (by omega) rfl ?_ ?_
 ·intro pre p post hx hW
  have hi : ps.ix pre.length = some p := Sl.ix_at hx
  have hlt : (pre.length : Int) < ps.len := by rw [Sl.len_l, hx]; simp; omega
  have hpi := hp p (by rw [hx]; simp)
  have g1 := hpi.low
  have g2 := hpi.le
  have g3 := hpi.high
  have w1 : W (W (b - 6) + W (a - 2)) = (b - 6) + (a - 2) := by
   rw [LY (x := b - 6) (by omega) (by omega), LY (x := a - 2) (by omega) (by omega), LY (by omega) (by omega)]
  have w2 : W (p.Notes.Low + ((b - 6) + (a - 2))) = p.Notes.Low + ((b - 6) + (a - 2)) := LY (by omega) (by omega)
  have w3 : W (p.Notes.High + ((b - 6) + (a - 2))) = p.Notes.High + ((b - 6) + (a - 2)) := LY (by omega) (by omega)
  have hx1 : (Vq v week ⟨p.Notes.Low + ((b - 6) + (a - 2)), p.Notes.High + ((b - 6) + (a - 2))⟩).Pieces.ix 0 = some ⟨week, Sl.cold [⟨⟨p.Notes.Low + ((b - 6) + (a - 2)), p.Notes.High + ((b - 6) + (a - 2))⟩, 1⟩]⟩ := rfl
  have hx2 : (Sl.cold [(⟨⟨p.Notes.Low + ((b - 6) + (a - 2)), p.Notes.High + ((b - 6) + (a - 2))⟩, 1⟩ : A4)]).ix 0 = some ⟨⟨p.Notes.Low + ((b - 6) + (a - 2)), p.Notes.High + ((b - 6) + (a - 2))⟩, 1⟩ := rfl
  simp only [Dm, decide_eq_true hlt, if_true, hW, vf hx, Ax, w1, oS, w2, w3, hx1, hx2, List.all_append, List.all_cons, List.all_nil, Bool.and_true]
  by_cases hn : 0 ≤ p.Notes.Low + ((b - 6) + (a - 2)) ∧ p.Notes.High + ((b - 6) + (a - 2)) ≤ 40
  ·have hno : (decide (p.Notes.Low + ((b - 6) + (a - 2)) < 0) || decide (40 < p.Notes.High + ((b - 6) + (a - 2)))) = false := by
    rw [Bool.or_eq_false_iff, decide_eq_false_iff_not, decide_eq_false_iff_not]; omega
   obtain ⟨l, hl1, hl2⟩ := t5 (n := ⟨p.Notes.Low + ((b - 6) + (a - 2)), p.Notes.High + ((b - 6) + (a - 2))⟩) hf hok hw hfi ⟨hn.1, by show p.Notes.Low + _ ≤ p.Notes.High + _; omega, hn.2⟩
   have hv := (D1 hf hok).boys
   have hll : l.l.length < 4611686018427387904 := by
    rw [hl2]
    have := List.length_filter_le (fun boy => nb (Vq v week ⟨p.Notes.Low + ((b - 6) + (a - 2)), p.Notes.High + ((b - 6) + (a - 2))⟩) week ⟨p.Notes.Low + ((b - 6) + (a - 2)), p.Notes.High + ((b - 6) + (a - 2))⟩ boy) (idx v.Boys.l.length)
    rw [FO] at this; omega
   obtain ⟨w, hw1, hw2, _⟩ := cD hll p.Boy
   have hc : l.l.contains p.Boy = H6 v week ((b - 6) + (a - 2)) p := by
    rw [← ql hf hok hw hpi hn, Bool.eq_iff_iff, List.contains_iff_mem, hl2, List.mem_filter]
    exact ⟨fun h => h.2, fun h => ⟨gr.mpr hpi.boy, h⟩⟩
   simp only [hno, Bool.false_eq_true, if_false, hl1, Ax, decide_true, if_true, hi, hw1, hw2, hc]
   cases pre.all (H6 v week ((b - 6) + (a - 2))) <;> simp
  ·have hno : (decide (p.Notes.Low + ((b - 6) + (a - 2)) < 0) || decide (40 < p.Notes.High + ((b - 6) + (a - 2)))) = true := by
    rw [Bool.or_eq_true, decide_eq_true_eq, decide_eq_true_eq]; omega
   have hbo : bOk (Vq v week ⟨p.Notes.Low + ((b - 6) + (a - 2)), p.Notes.High + ((b - 6) + (a - 2))⟩) = false := by
    rw [s0 hf hok hw]
    cases hc : (decide (0 ≤ p.Notes.Low + ((b - 6) + (a - 2))) && decide (p.Notes.Low + ((b - 6) + (a - 2)) ≤ p.Notes.High + ((b - 6) + (a - 2))) && decide (p.Notes.High + ((b - 6) + (a - 2)) ≤ 40)) with
    | false => rfl
    | true =>
     simp only [Bool.and_eq_true, decide_eq_true_eq] at hc
     exact absurd ⟨hc.1.1, hc.2⟩ hn
   have hch : EO (Vq v week ⟨p.Notes.Low + ((b - 6) + (a - 2)), p.Notes.High + ((b - 6) + (a - 2))⟩) = some 70 := by
    rw [Nr (pQ hf), hbo]; rfl
   have hsu : H6 v week ((b - 6) + (a - 2)) p = false := qu hf hok hw hpi hn
   simp only [hno, if_true, hch, Ax, decide_true, hsu, Bool.and_false]
 ·have hlt : ¬ (ps.l.length : Int) < ps.len := by rw [Sl.len_l]; omega
  simp only [Dm, decide_eq_false hlt, Bool.false_eq_true, if_false]
end
theorem wj (n : Ar 3 Int) : ∃ a b c, n.ix 0 = some a ∧ n.ix 1 = some b ∧ n.ix 2 = some c := by
 obtain ⟨l, h⟩ := n
 match l, h with
 | [a, b, c], _ => exact ⟨a, b, c, rfl, rfl, rfl⟩
theorem kf {v : VoiceBook} (hf : Wz v) (hk : CX = some true) (l : Sl AC) (n : Ar 3 Int) : Iq v l n = some true := by
 unfold Iq
 rw [Fa hf, Ax]
 cases hok : vOk v with
 | false => simp only [Bool.false_eq_true, if_false, show decide ((20 : Int) = 0) = false from rfl, Ax, if_true, hk]
 | true =>
  have hv := D1 hf hok
  have hvb := hv.boys
  have hvw := hv.weeks
  have e1 : HB v.Boys.len 1 4 = true := by simp only [HB, Sl.len_l, Bool.and_eq_true, decide_eq_true_eq]; omega
  have e2 : HB v.Weeks 1 6 = true := by simp only [HB, Bool.and_eq_true, decide_eq_true_eq]; omega
  obtain ⟨ps, ⟨h3, hp⟩, hl⟩ := lQ hf hok l
  simp only [if_true, decide_true, e1, e2, Bool.not_true, Ax, Bool.false_eq_true, if_false, hl]
  by_cases h0 : ps.l = []
  ·have : ps.len = 0 := by rw [Sl.len_l, h0]; rfl
   simp only [this, decide_true, if_true, hk, Ax]
  ·have hne : ¬ ps.len = 0 := by
    rw [Sl.len_l]
    intro h
    exact h0 (List.length_eq_zero_iff.mp (by omega))
   have hlen : 1 ≤ ps.l.length ∧ ps.l.length ≤ 4 := by
    rw [Sl.len_l] at hne; omega
   obtain ⟨n0, n1, n2, i0, i1, i2⟩ := wj n
   obtain ⟨a, ea, a1, a2⟩ := Qo (n := n0) (m := 5) (by omega) (by omega)
   obtain ⟨b, eb, b1, b2⟩ := Qo (n := n1) (m := 13) (by omega) (by omega)
   obtain ⟨c, ec, c1, c2⟩ := Qo (n := n2) (m := v.Weeks) (by omega) (by omega)
   have wa : W (a - 2) = a - 2 := LY (by omega) (by omega)
   have wb : W (b - 6) = b - 6 := LY (by omega) (by omega)
   have s1 : -2 ≤ a - 2 := by omega
   have s2 : a - 2 ≤ 2 := by omega
   simp only [decide_eq_false hne, Bool.false_eq_true, if_false, i0, i1, i2, Ax, ea, eb, ec, wa, wb]
   cases hfi : FZ v with
   | false =>
    have hK := rR hf hok s1 s2 ⟨c1, c2⟩ hp hlen hfi
    have hB := qw hK (by omega)
    have hS := pe hf hok s1 s2 hfi
    have hR : Bt v = some (false, 0) := by rw [Ha hf, hok, hfi]; rfl
    simp only [hK, hB, hS, hR, Ax, hk]
    rfl
   | true =>
    obtain ⟨K, hK, hKl⟩ := cc hf hok s1 s2 ⟨c1, c2⟩ hp hlen hfi
    have hS := mG hf hok s1 s2 hfi
    have hKn : K.l.length < 4611686018427387904 := by
     rw [hKl]
     have := List.length_filter_le (fun key => ps.l.all (H6 v c (key + (a - 2)))) Vo
     have hk13 : Vo.length = 13 := by unfold Vo; rw [FR]; rfl
     unfold iZ
     omega
    have hloop := mM hf hok hfi hp h3 ⟨c1, c2⟩ ⟨a1, a2⟩ ⟨b1, b2⟩
    obtain ⟨w, hw1, hw2, _⟩ := cD hKn (b - 6)
    have hin : K.l.contains (b - 6) = ps.l.all (H6 v c ((b - 6) + (a - 2))) := by
     rw [Bool.eq_iff_iff, List.contains_iff_mem, hKl, rJ (by omega) (by omega)]
    have hs : decide (Bj.key (⟨a - 2, a - 2⟩ : BJ) = Bj.key (D5 (a - 2))) = true := decide_eq_true rfl
    have tail : ∀ o : Bool, o = false → (if o = true then some false else Option.bind (Loop (Dm v ps a b c) (true, 0)) (fun o => match o with | .inl w93 => some (w93) | .inr y94 => Option.bind (Option.bind (ES K (b - 6)) fun v137 => if (y94 == (decide (0 ≤ v137))) then Option.bind (CX) fun v140 => some (v140) else some (false) : Option (Bool)) fun o142 => some (o142))) = some true := by
     intro o ho
     subst ho
     simp only [Bool.false_eq_true, if_false, hloop, Ax, hw1, hw2, hin, beq_self_eq_true, if_true, hk]
    by_cases hKe : K.l = []
    ·have hB := nY hK hKe
     have hK0 : ¬ (0 : Int) < K.len := by rw [Sl.len_l, hKe]; simp
     simp only [hK, hB, hS, Ax, decide_true, if_true, hs, show decide ((4 : Int) = 0) = false from rfl, Bool.false_eq_true, if_false, decide_eq_false hK0]
     exact tail false rfl
    ·obtain ⟨t, hB, ht⟩ := tg hK hKn hKe
     have hK0 : (0 : Int) < K.len := by
      rw [Sl.len_l]
      have : K.l.length ≠ 0 := fun h => hKe (List.length_eq_zero_iff.mp h)
      omega
     obtain ⟨w2, hw3, _, hw4⟩ := cD hKn t
     have hc : K.l.contains t = true := List.contains_iff_mem.mpr ht
     rw [hc] at hw4
     simp only [hK, hB, hS, Ax, decide_true, if_true, hs, decide_eq_true hK0, hw3, hw4]
     exact tail (!true) rfl
end
end Go.Lf
