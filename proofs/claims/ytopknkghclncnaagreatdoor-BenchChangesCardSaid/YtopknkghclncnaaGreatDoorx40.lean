/- A part of the proof. -/
import Derived.Test.YtopknkghclncnaaGreatDoorx39
set_option linter.all false
namespace Go.Lf
open Go Go.Lf.Pl
noncomputable section
def jP (s i : Int) : Bool := decide (s.toNat / 2 ^ i.toNat % 2 = 1)
theorem kV {s i : Int} (hs : 0 ≤ s ∧ s < 16) (hi : 0 ≤ i ∧ i < 4) : F3 s i = some (jP s i) := by
 obtain ⟨a, rfl⟩ := Int.eq_ofNat_of_zero_le hs.1
 obtain ⟨c, rfl⟩ := Int.eq_ofNat_of_zero_le hi.1
 have key : ∀ (a : _root_.Fin 16) (c : _root_.Fin 4), (opI .shr ((a.val : Nat) : Int) ((c.val : Nat) : Int)).bind (fun v => (opI .and v 1).bind fun w => some (decide (w = 1))) = some (jP ((a.val : Nat) : Int) ((c.val : Nat) : Int)) := by decide
 have := key ⟨a, by omega⟩ ⟨c, by omega⟩
 unfold F3
 have h1 : decide ((0 : Int) ≤ (c : Int)) = true := by simp
 have h2 : decide ((c : Int) < 62) = true := by simp; omega
 simp only [h1, h2, if_true]
 simp only at this
 rw [this]; rfl
def E5 (s : Int) (n : Nat) : List Int := (idx n).filter (jP s)
theorem uY {s : Int} {n : Nat} (hs : 0 ≤ s ∧ s < 16) (hn : n ≤ 4) : Jt s n = some (Sl.hot (E5 s n)) := by
 have e : Loop (GL s n) (Sl.hot [], 0) = some (Sl.hot (E5 s n)) := by
  refine Cj (fun t i => (t, i)) (idx n) (fun pre => Sl.hot (pre.filter (jP s))) (by rw [AQ]; omega) rfl ?_ ?_
  ·intro pre a post hpre hW
   obtain ⟨ha, hlt⟩ := IG hpre
   have hle := List.length_filter_le (jP s) pre
   have hlen : (pre.filter (jP s)).length + ([(pre.length : Int)] : List Int).length ≤ 1000000000 := by rw [List.length_singleton]; omega
   rw [E4, ha]
   simp only [GL, decide_eq_true hlt, if_true, kV hs (by omega : 0 ≤ (pre.length : Int) ∧ (pre.length : Int) < 4), Option.bind_some, hW]
   cases jP s pre.length with
   | true => simp only [if_true, Sl.app_hot (q := 8) (A8 hlen (by omega)), Option.bind_some]
   | false => simp
  ·have hlt : ¬ ((idx n).length : Int) < n := by rw [AQ]; omega
   simp only [GL, decide_eq_false hlt, Bool.false_eq_true, if_false, E5]
 simp only [Jt, e, Option.bind_some]
theorem u9 (n : Nat) : idx (n + 1) = 0 :: (idx n).map (· + 1) := by
 simp only [idx, List.range_succ_eq_map, List.map_cons, List.map_map]
 congr 1
theorem jC : ∀ (l : List Int) (s : Nat), (E5 (s : Int) l.length).map (fun i => l.getD i.toNat 0) = pick l s
 | [], s => by simp [E5, idx, pick]
 | a :: l, s => by
  have ih := jC l (s / 2)
  have e0 : jP (s : Int) 0 = decide (s % 2 = 1) := by simp [jP]
  have e1 : ∀ i : Int, 0 ≤ i → jP (s : Int) (i + 1) = jP ((s / 2 : Nat) : Int) i := by
   intro i hi
   have : (i + 1).toNat = i.toNat + 1 := by omega
   simp only [jP, this, Int.toNat_natCast, Nat.pow_succ]
   rw [Nat.mul_comm, ← Nat.div_div_eq_div_mul]
  have h2 : ((idx l.length).map (· + 1)).filter (jP (s : Int)) = ((idx l.length).filter (jP ((s / 2 : Nat) : Int))).map (· + 1) := by
   rw [List.filter_map]
   congr 1
   apply List.filter_congr
   intro i hi
   exact e1 i (G7.mp hi).1
  have h3 : (((idx l.length).filter (jP ((s / 2 : Nat) : Int))).map (· + 1)).map (fun i => (a :: l).getD i.toNat 0) = pick l (s / 2) := by
   rw [← ih, List.map_map]
   apply List.map_congr_left
   intro i hi
   have := (G7.mp (List.mem_filter.mp hi).1).1
   have e : (i + 1).toNat = i.toNat + 1 := by omega
   simp [e]
  simp only [E5, List.length_cons, u9, List.filter_cons, e0, h2, pick]
  by_cases hc : s % 2 = 1
  ·simp only [hc, decide_true, if_true, List.map_cons, h3]; simp
  ·simp only [hc, decide_false, Bool.false_eq_true, if_false, h3]
def prt (b : BenchBook) (ex : Int → Bool) (p k : Int) : Int × Nat × List Int := (k, (Eq b p k).toNat, As b ex p k)
def Pq (b : BenchBook) (ex : Int → Bool) (p : Int) (m k : Nat) : List (Int × Nat × List Int) := ((idx m).drop k).map (prt b ex p)
theorem vF (b : BenchBook) (ex : Int → Bool) (p : Int) (m : Nat) : Pq b ex p m m = [] := by
 simp [Pq, AQ]
theorem sa (b : BenchBook) (ex : Int → Bool) (p : Int) {m k : Nat} (h : k < m) : Pq b ex p m k = prt b ex p k :: Pq b ex p m (k + 1) := by
 have : (idx m).drop k = (k : Int) :: (idx m).drop (k + 1) := by
  rw [List.drop_eq_getElem_cons (by rw [AQ]; exact h)]
  congr 1
  simp [idx]
 simp only [Pq, this, List.map_cons]
theorem NK (p : Int) : ∀ (ps : List (Int × Nat × List Int)) (sm : List AA), (∀ x ∈ ps, x.2.2.length ≤ 4) → (DK p ps sm).length ≤ 16 ^ ps.length
 | [], sm, _ => by simp [DK]
 | (k, m, l) :: r, sm, h => by
  have h1 := h (k, m, l) List.mem_cons_self
  simp only [DK]
  refine Nat.le_trans (Be _ (16 ^ r.length) _ fun c _ => ?_) ?_
  ·split
   ·exact NK p r _ fun x hx => h x (List.mem_cons_of_mem _ hx)
   ·simp
  ·have : (bp l).length ≤ 16 := by
    simp only [bp, List.length_map, List.length_range]
    exact Nat.le_trans (Nat.pow_le_pow_right (by omega) h1) (by decide)
   rw [List.length_cons, Nat.pow_succ, Nat.mul_comm (16 ^ r.length)]
   exact Nat.mul_le_mul_right _ this
theorem vO {l : List Int} {s : Nat} {x : Int} (h : x ∈ pick l s) : x ∈ l := by
 induction l generalizing s with
 | nil => simp [pick] at h
 | cons a l ih =>
  simp only [pick] at h
  split at h
  ·rcases List.mem_cons.mp h with rfl | h
   ·simp
   ·exact List.mem_cons_of_mem _ (ih h)
  ·exact List.mem_cons_of_mem _ (ih h)
theorem W0 (l : List Int) (s : Nat) : (pick l s).length ≤ l.length := by
 induction l generalizing s with
 | nil => simp [pick]
 | cons a l ih =>
  have := ih (s / 2)
  simp only [pick]
  split
  ·simp; exact this
  ·simp; omega
theorem yO (sm : Sl AA) (hn : sm.l.length < 4611686018427387904) (boy : Int) (t : Bool) : Loop (Dl sm boy) (t, 0) = some (t && !Gi sm.l boy) := by
 refine Cj (fun t i => (t, i)) sm.l (fun pre => t && !Gi pre boy) hn (by simp [Gi]) ?_ ?_
 ·intro pre a post hpre hW
  have hlt : (pre.length : Int) < sm.len := by rw [Sl.len_l, hpre]; simp; omega
  have e : (t && !Gi (pre ++ [a]) boy) = ((t && !Gi pre boy) && !decide (a.Boy = boy)) := by
   simp only [Gi, List.any_append, List.any_cons, List.any_nil, Bool.or_false, Bool.not_or, Bool.and_assoc]
   congr 2
  rw [e]
  simp only [Dl, decide_eq_true hlt, if_true, Sl.ix_at hpre, Option.bind_some, hW]
  cases (t && !Gi pre boy) <;> simp
 ·have hlt : ¬ (sm.l.length : Int) < sm.len := by rw [Sl.len_l]; omega
  simp only [Dl, decide_eq_false hlt, Bool.false_eq_true, if_false]
theorem wJ (p k : Int) (sm : Sl AA) (hn : sm.l.length ≤ 1000) (l : List Int) (hl : l.length ≤ 4) (own : List Int) (hown : ∀ i ∈ own, 0 ≤ i ∧ i < l.length) (ho : own.length ≤ 4) (acc : Sl (Sl AA)) (s : Int) (t : Bool) :
  ∃ seats, Loop (Bc p k sm (.hot l) (.hot own)) (acc, s, t, .hot sm.l, 0) = some (acc, s, (t && (own.map fun i => l.getD i.toNat 0).all fun b => !Gi sm.l b), seats) ∧
   ((t && (own.map fun i => l.getD i.toNat 0).all fun b => !Gi sm.l b) = true → seats = .hot (sm.l ++ A5 p k (own.map fun i => l.getD i.toNat 0))) := by
 have main : ∀ post pre (t : Bool) (x : List AA), own = pre ++ post → (t = true → x = sm.l ++ A5 p k (pre.map fun i => l.getD i.toNat 0)) → x.length ≤ 1000 + pre.length →
   ∃ seats, Loop (Bc p k sm (.hot l) (.hot own)) (acc, s, t, .hot x, (pre.length : Int)) = some (acc, s, (t && (post.map fun i => l.getD i.toNat 0).all fun b => !Gi sm.l b), seats) ∧
    ((t && (post.map fun i => l.getD i.toNat 0).all fun b => !Gi sm.l b) = true → seats = .hot (sm.l ++ A5 p k (own.map fun i => l.getD i.toNat 0))) := by
  intro post
  induction post with
  | nil =>
   intro pre t x h hx hxl
   simp only [List.append_nil] at h
   subst h
   refine ⟨.hot x, Loop.done ?_, ?_⟩
   ·have hlt : ¬ (own.length : Int) < (Sl.hot own).len := by rw [Sl.len_l, Sl.l_hot]; omega
    simp [Bc, hlt]
   ·simp only [List.map_nil, List.all_nil, Bool.and_true]
    intro ht; rw [hx ht]
  | cons i post ih =>
   intro pre t x h hx hxl
   cases t with
   | false =>
    exact ⟨.hot x, Loop.done (by simp [Bc]), by simp⟩
   | true =>
    have hlt : (pre.length : Int) < (Sl.hot own).len := by rw [Sl.len_l, Sl.l_hot, h]; simp; omega
    have hoi : (Sl.hot own).ix pre.length = some i := Sl.ix_at (by rw [Sl.l_hot]; exact h)
    have hi := hown i (by rw [h]; simp)
    have hli : (Sl.hot l).ix i = some (l.getD i.toNat 0) := by
     have : i.toNat < l.length := by omega
     simp [Sl.ix, hi.1, Sl.l, this]
    have hlp : pre.length ≤ 4 := by rw [h] at ho; simp at ho; omega
    have hW : W ((pre.length : Int) + 1) = (pre.length : Int) + 1 := Ig (by omega)
    have happ : Sl.app 24 (Sl.hot x) [⟨p, k, l.getD i.toNat 0⟩] = some (.hot (x ++ [⟨p, k, l.getD i.toNat 0⟩])) := Sl.app_hot (A8 (by simp; omega) (by omega))
    have hf : Bc p k sm (.hot l) (.hot own) (acc, s, true, .hot x, (pre.length : Int)) = some (.inl (acc, s, (true && !Gi sm.l (l.getD i.toNat 0)), .hot (x ++ [⟨p, k, l.getD i.toNat 0⟩]), (pre.length : Int) + 1)) := by
     simp only [Bc, decide_eq_true hlt, Bool.true_and, if_true, hoi, Option.bind_some, hli, yO sm (by omega), happ, hW]
    rw [Loop.step hf]
    obtain ⟨seats, h1, h2⟩ := ih (pre ++ [i]) (true && !Gi sm.l (l.getD i.toNat 0)) (x ++ [⟨p, k, l.getD i.toNat 0⟩]) (by rw [h]; simp) (by
     intro _; rw [hx rfl]; simp [A5]) (by simp; omega)
    refine ⟨seats, ?_, ?_⟩
    ·rw [List.length_append, List.length_singleton] at h1
     simp only [List.map_cons, List.all_cons, Bool.true_and] at h1 ⊢
     exact h1
    ·simpa [Bool.and_assoc] using h2
 have := main own [] t sm.l rfl (by intro _; simp [A5]) (by simp; omega)
 simpa using this
theorem Wt {n : Nat} (h : n ≤ 4) : opI .shl 1 (n : Int) = some ((2 ^ n : Nat) : Int) := by
 have key : ∀ m : _root_.Fin 5, opI .shl 1 ((m.val : Nat) : Int) = some ((2 ^ m.val : Nat) : Int) := by decide
 exact key ⟨n, by omega⟩
section
variable {b : BenchBook} (hv : Ek b) (ex : Int → Bool)
include hv
theorem Qj {p : Int} {x : AM} (hx : b.Pieces.ix p = some x) {m : Nat} (hm : m ≤ x.Parts.l.length) : ∀ (r n k : Nat) (sm : Sl AA), r + k = m → r < n → sm.l.length ≤ 4 * k →
  ∃ out, BC n b (Jb b ex) p (k : Int) (m : Int) sm = some out ∧ out.l.map Sl.l = DK p (Pq b ex p m k) sm.l
 | r, 0, _, _, _, h, _ => by omega
 | 0, n + 1, k, sm, hk, _, _ => by
  have : k = m := by omega
  subst this
  refine ⟨.hot [sm], by simp [BC], ?_⟩
  rw [vF]; simp [DK, Sl.l]
 | r + 1, n + 1, k, sm, hk, hn, hsm => by
  have h3 := hv.parts x (E6 hx).2.2
  have hkm : k < m := by omega
  obtain ⟨y, hy, hym⟩ := MF (x := x.Parts) (i := (k : Int)) (by omega) (by omega)
  obtain ⟨l1, h1, h2⟩ := gI (ex := ex) hx hy
  have hmany : Eq b p k = y.Many := by simp [Eq, hx, hy]
  have hmo := hv.part x (E6 hx).2.2 y hym
  have h4 := Oa hv ex p k
  have hne : ¬ (k : Int) = (m : Int) := by omega
  have hlen : (Sl.hot (As b ex p k)).len = ((As b ex p k).length : Int) := by rw [Sl.len_l, Sl.l_hot]
  have hsh := Wt h4
  have hf : BC (n + 1) b (Jb b ex) p (k : Int) (m : Int) sm = Option.bind (Loop (Bw (BC n) b (Jb b ex) p k m sm (Sl.hot (As b ex p k))) (Sl.nil, 0)) (fun y9 => some y9) := by
   simp only [BC, decide_eq_false hne, Bool.false_eq_true, if_false, h1, h2, Option.bind_some]
  rw [hf, sa b ex p hkm]
  have hW1 : W ((k : Int) + 1) = ((k + 1 : Nat) : Int) := by rw [Ig (by omega)]; simp
  obtain ⟨out, ⟨hw, ho⟩, he⟩ := Iy (f := Bw (BC n) b (Jb b ex) p k m sm (Sl.hot (As b ex p k))) (fun t i => (t, i)) (idx (2 ^ (As b ex p k).length))
   (fun pre (acc : Sl (Sl AA)) => acc.warm ∧ acc.l.map Sl.l = pre.flatMap fun s => (fun c : List Int => if c.length == (Eq b p k).toNat && c.all (fun b => !Gi sm.l b) then DK p (Pq b ex p m (k + 1)) (sm.l ++ A5 p k c) else []) (pick (As b ex p k) s.toNat))
   (fun acc : Sl (Sl AA) => acc.warm ∧ acc.l.map Sl.l = DK p (prt b ex p k :: Pq b ex p m (k + 1)) sm.l) (x0 := (Sl.nil, 0)) (t0 := Sl.nil) (by
    rw [AQ]; exact Nat.lt_of_le_of_lt (Nat.pow_le_pow_right (by omega) h4) (by decide)) rfl ⟨Sl.warm_nil, rfl⟩ (by
    intro pre s post acc hpre ⟨hw, ha⟩ hW
    obtain ⟨hs, hlt⟩ := IG hpre
    have h16 : 2 ^ (As b ex p k).length ≤ 16 := Nat.le_trans (Nat.pow_le_pow_right (by omega) h4) (by decide)
    have hs16 : 0 ≤ (pre.length : Int) ∧ (pre.length : Int) < 16 := by omega
    have hbits := uY (s := (pre.length : Int)) hs16 h4
    have hpick := jC (As b ex p k) pre.length
    have hbl : (E5 (pre.length : Int) (As b ex p k).length).length = (pick (As b ex p k) pre.length).length := by rw [← hpick, List.length_map]
    have hpl := W0 (As b ex p k) pre.length
    have happ0 : Sl.app 24 (Sl.hot [] : Sl AA) sm.l = some (.hot sm.l) := by
     have := Sl.app_hot (q := 24) (xs := ([] : List AA)) (ys := sm.l) (A8 (by simp; omega) (by omega))
     simpa using this
    obtain ⟨seats, hs2, hseats⟩ := wJ p k sm (by omega) (As b ex p k) h4 (E5 (pre.length : Int) (As b ex p k).length) (by
     intro i hi; exact G7.mp (List.mem_filter.mp hi).1) (by omega) acc (pre.length : Int) (decide ((Sl.hot (E5 (pre.length : Int) (As b ex p k).length)).len = y.Many))
    rw [hpick] at hs2 hseats
    have hcond : (decide ((Sl.hot (E5 (pre.length : Int) (As b ex p k).length)).len = y.Many) && (pick (As b ex p k) pre.length).all fun b => !Gi sm.l b) = ((pick (As b ex p k) pre.length).length == (Eq b p k).toNat && (pick (As b ex p k) pre.length).all fun b => !Gi sm.l b) := by
     congr 1
     rw [Bool.eq_iff_iff]
     simp only [decide_eq_true_eq, Sl.len_l, Sl.l_hot, hbl, beq_iff_eq, hmany]
     omega
    rw [hcond] at hs2 hseats
    have hltI : (pre.length : Int) < ((2 ^ (As b ex p k).length : Nat) : Int) := hlt
    have e : (pre ++ [s]).flatMap (fun s => (fun c : List Int => if c.length == (Eq b p k).toNat && c.all (fun b => !Gi sm.l b) then DK p (Pq b ex p m (k + 1)) (sm.l ++ A5 p k c) else []) (pick (As b ex p k) s.toNat)) = pre.flatMap (fun s => (fun c : List Int => if c.length == (Eq b p k).toNat && c.all (fun b => !Gi sm.l b) then DK p (Pq b ex p m (k + 1)) (sm.l ++ A5 p k c) else []) (pick (As b ex p k) s.toNat)) ++ (if (pick (As b ex p k) pre.length).length == (Eq b p k).toNat && (pick (As b ex p k) pre.length).all (fun b => !Gi sm.l b) then DK p (Pq b ex p m (k + 1)) (sm.l ++ A5 p k (pick (As b ex p k) pre.length)) else []) := by
     rw [List.flatMap_append, hs]; simp
    rw [e]
    by_cases hc : ((pick (As b ex p k) pre.length).length == (Eq b p k).toNat && (pick (As b ex p k) pre.length).all fun b => !Gi sm.l b) = true
    ·have hse := hseats hc
     subst hse
     have hpm : (pick (As b ex p k) pre.length).length ≤ 4 := by omega
     obtain ⟨out, ho1, ho2⟩ := Qj hx hm r n (k + 1) (.hot (sm.l ++ A5 p k (pick (As b ex p k) pre.length))) (by omega) (by omega) (by rw [Sl.l_hot, List.length_append, A5, List.length_map]; omega)
     rw [Sl.l_hot] at ho2
     have hlall : ∀ q ∈ Pq b ex p m (k + 1), q.2.2.length ≤ 4 := by
      intro q hq
      simp only [Pq, List.mem_map] at hq
      obtain ⟨j, _, rfl⟩ := hq
      exact Oa hv ex p j
     have hprl : (Pq b ex p m (k + 1)).length ≤ 3 := by simp [Pq, AQ]; omega
     have hol : out.l.length ≤ 4096 := by
      have h5 := congrArg List.length ho2
      rw [List.length_map] at h5
      rw [h5]
      exact Nat.le_trans (NK p _ _ hlall) (Nat.le_trans (Nat.pow_le_pow_right (by omega) hprl) (by decide))
     have hal : acc.l.length ≤ 16 * 4096 := by
      have h5 := congrArg List.length ha
      rw [List.length_map] at h5
      rw [h5]
      refine Nat.le_trans (Be _ 4096 _ fun s _ => ?_) (Nat.mul_le_mul_right _ (by omega))
      dsimp only
      split
      ·exact Nat.le_trans (NK p _ _ hlall) (Nat.le_trans (Nat.pow_le_pow_right (by omega) hprl) (by decide))
      ·simp
     have happ : ∃ acc', Sl.app 24 acc out.l = some acc' ∧ acc'.warm ∧ acc'.l = acc.l ++ out.l := by
      by_cases hol0 : out.l = []
      ·rcases hw with rfl | ⟨xs, rfl⟩
       ·exact ⟨.nil, by simp [Sl.app, hol0], Sl.warm_nil, by rw [hol0]; rfl⟩
       ·refine ⟨.hot (xs ++ out.l), Sl.app_hot (A8 (by simp only [Sl.l_hot] at hal; omega) (by omega)), Sl.warm_hot _, rfl⟩
      ·exact ⟨_, Sl.app_warm hw hol0 (A8 (by omega) (by omega)), Sl.warm_hot _, rfl⟩
     obtain ⟨acc', ha1, ha2, ha3⟩ := happ
     refine ⟨acc', ⟨ha2, ?_⟩, ?_⟩
     ·rw [if_pos hc, ha3, List.map_append, ha, ho2]
     ·simp only [Bw, hlen, hsh, Option.bind_some, decide_eq_true hltI, if_true, hbits, hx, hy, happ0, hs2, hc, hW1, ho1, ha1, hW]
    ·refine ⟨acc, ⟨hw, ?_⟩, ?_⟩
     ·rw [if_neg hc, List.append_nil, ha]
     ·have hc' : ((pick (As b ex p k) pre.length).length == (Eq b p k).toNat && (pick (As b ex p k) pre.length).all fun b => !Gi sm.l b) = false := by simpa using hc
      simp only [Bw, hlen, hsh, Option.bind_some, decide_eq_true hltI, if_true, hbits, hx, hy, happ0, hs2, hc', Bool.false_eq_true, if_false, hW]) (by
    intro acc ⟨hw, ha⟩
    refine ⟨acc, ⟨hw, ?_⟩, ?_⟩
    ·rw [ha]
     simp only [DK, prt, bp, idx, List.flatMap_map, Int.toNat_natCast]
     rfl
    ·have hlt : ¬ ((idx (2 ^ (As b ex p k).length)).length : Int) < ((2 ^ (As b ex p k).length : Nat) : Int) := by rw [AQ]; omega
     simp only [Bw, hlen, hsh, Option.bind_some, decide_eq_false hlt, Bool.false_eq_true, if_false])
  exact ⟨out, by rw [he]; rfl, ho⟩
end
end
end Go.Lf
