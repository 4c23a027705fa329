/- A part of the proof. -/
import Derived.Test.YtbkliocalcihjaaDoorx0
set_option linter.all false
namespace Go.Lf
open Go
theorem BU (t u : Nat) (s : A6) (e : Env) : (Env.set t s e).get u = if u = t then some s else e.get u := by
 induction e with
 | nil =>
  simp only [Env.set, Env.get]
  by_cases h : t = u
  ·subst h; simp
  ·rw [if_neg h, if_neg (fun h' => h h'.symm)]
 | cons p r ih =>
  obtain ⟨v, x⟩ := p
  simp only [Env.set]
  by_cases h : v = t
  ·subst h
   simp only [if_pos, Env.get]
   by_cases h : v = u
   ·subst h; simp
   ·rw [if_neg h, if_neg (fun h' => h h'.symm), if_neg h]
  ·rw [if_neg h]
   simp only [Env.get]
   by_cases h' : v = u
   ·subst h'; rw [if_pos rfl, if_neg h, if_pos rfl]
   ·rw [if_neg h', if_neg h', ih]
theorem KB (vis : List Nat) (e e' : Env) (t : Nat) :
  (Env.merge vis e e').get t = if vis.contains t then (if (e.get t).isSome then e'.get t else none) else e.get t := by
 induction e with
 | nil => simp [Env.merge, Env.get]
 | cons p r ih =>
  obtain ⟨u, x⟩ := p
  unfold Env.merge at ih ⊢
  rw [List.filterMap_cons]
  by_cases hu : u = t
  ·subst hu
   by_cases hv : vis.contains u = true
   ·simp only [hv, if_true, Env.get, Option.isSome_some] at ih ⊢
    cases he : e'.get u with
    | none => simp only [Option.map_none]; rw [ih, he]; split <;> rfl
    | some s => simp [Env.get]
   ·simp only [hv, Env.get, if_true, Bool.false_eq_true, if_false]
  ·have hg : Env.get t ((u, x) :: r) = Env.get t r := by simp [Env.get, hu]
   rw [hg, ← ih]
   by_cases hv : vis.contains u = true
   ·simp only [hv, if_true]
    cases he : e'.get u with
    | none => simp only [Option.map_none]
    | some s => simp [Env.get, hu]
   ·simp only [hv, Bool.false_eq_true, if_false, Env.get, hu]
theorem Xi {ks : List Nat} {e e' : Env} (h : ∀ t ∈ ks, e.get t = e'.get t) : e.keep ks = e'.keep ks := by
 unfold Env.keep
 induction ks with
 | nil => rfl
 | cons k ks ih =>
  rw [List.filterMap_cons, List.filterMap_cons, h k (by simp), ih fun t ht => h t (by simp [ht])]
def Opd.tmp? : Opd → List Nat
 | .tmp t => [t]
 | _ => []
def zn.opds : zn → List Opd
 | .move x _ | .box _ x | .load _ x _ | .faddr _ x | .field _ _ x | .un _ x | .len x | .extract _ x _ => [x]
 | .pick a b c | .mapset _ a b c | .mstore _ a b c => [a, b, c]
 | .build _ ps _ | .lit _ _ _ ps _ => ps.map (·.2.2)
 | .store _ x y | .iaddrS _ x y | .iaddrA _ _ x y | .index _ _ _ x y | .bin _ x y | .eqb _ x y | .eqa _ _ x y | .append _ _ x y | .lookup _ x y _ _ | .mentry _ x y _ => [x, y]
 | .call f as _ => f :: as
 | .minmax _ xs => xs
 | .slice _ x a b c => x :: (a.toList ++ b.toList ++ c.toList)
 | .mkfn _ a b => a ++ b
 | .alloc _ | .mkmap _ | .bad => []
structure GL where
 rd : List Nat
 rc : List Nat := []
 wv : List Nat := []
 wb : List Nat := []
 wc : List Nat := []
 all : Bool := false
 bar : Bool := false
 lw : Bool := false
 lr : Bool := false
def own (root : Option (Option Nat)) : List Nat := match root with
 | some (some r) => [r]
 | _ => []
def G6 (root : Option (Option Nat)) : Bool := match root with
 | some (some r) => r == Ri
 | _ => false
def AD.foot (o : AD) : GL :=
 let rd := o.op.opds.flatMap Opd.tmp? ++ (match o.guard with | some (t, _) => [t] | none => [])
 let d := o.dst.toList
 match o.op with
 | .move x true => { rd, wv := x.tmp? ++ d }
 | .append _ _ x _ => { rd, wv := x.tmp? ++ d }
 | .extract _ x true => { rd, wv := x.tmp? ++ d }
 | .extract _ x false => { rd, rc := x.tmp?, wv := d }
 | .alloc _ | .box _ _ | .mkmap _ => { rd, wb := d }
 | .load _ _ false | .lookup _ _ _ _ _ => match o.root with
  | none => { rd, wv := d, all := true }
  | some _ => { rd, rc := own o.root, wv := d, lr := G6 o.root }
 | .load _ _ true => match o.root with
  | none => { rd, bar := true }
  | some _ => { rd, wc := own o.root, wv := d, bar := G6 o.root }
 | .store _ _ x => match o.root with
  | none => { rd, bar := true }
  | some _ => { rd, wc := own o.root, wv := x.tmp? ++ d, bar := G6 o.root }
 | .mapset _ _ _ x | .mstore _ _ _ x => match o.root with
  | none => { rd, bar := true }
  | some _ => { rd, wc := own o.root, wv := x.tmp? ++ d, bar := G6 o.root }
 | .mentry _ _ _ _ => match o.root with
  | none => { rd, bar := true }
  | some _ => { rd, wc := own o.root, wv := d, bar := G6 o.root }
 | .call _ _ (some vis) => { rd, wb := vis, wv := d, lw := true }
 | _ => { rd, wv := d }
def ky (a b : List Nat) : Bool := a.all fun t => !b.contains t
def GL.apart (p q : GL) : Bool :=
 !p.bar && !q.bar && ky (p.wv ++ p.wb) (q.rd ++ q.rc ++ q.wv ++ q.wb ++ q.wc) && ky (q.wv ++ q.wb) (p.rd ++ p.rc ++ p.wv ++ p.wb ++ p.wc) &&
 ky p.wc (q.rc ++ q.wc) && ky q.wc (p.rc ++ p.wc) &&
 (!p.all || (q.wb.isEmpty && q.wc.isEmpty && !q.lw)) && (!q.all || (p.wb.isEmpty && p.wc.isEmpty && !p.lw)) && !(p.lw && (q.lw || q.lr)) && !(q.lw && p.lr)
def isV : Option A6 → Prop
 | some (.box _ _) | some (.mapo _ _ _) => False
 | _ => True
def oh : Option A6 → Option A6
 | some (.box g _) => some (.box g [])
 | some (.mapo g n _) => some (.mapo g n [])
 | x => x
def GL.D (F : GL) (t : Nat) : Prop := F.bar = true ∨ t ∈ F.wv ∨ t ∈ F.wb
def GL.W (F : GL) (t : Nat) : Prop := F.D t ∨ t ∈ F.wc
def GL.S (F : GL) (t : Nat) : Prop := F.W t ∨ t ∈ F.rc
structure GL.Agree (F : GL) (s r : St) : Prop where
 len : s.low.length = r.low.length
 here : ∀ t, F.S t → s.env.get t = r.env.get t
 ids : ∀ t, t ∈ F.rd → oh (s.env.get t) = oh (r.env.get t)
 boxes : F.all = true → ∀ t, s.env.get t = r.env.get t ∨ (isV (s.env.get t) ∧ isV (r.env.get t))
 low : F.all = true ∨ F.lw = true ∨ F.bar = true ∨ F.lr = true → s.low = r.low
 ctr : F.lw = true ∨ F.bar = true → s.ctr = r.ctr
structure GL.Turns (F : GL) (s s' : St) : Prop where
 len : s'.low.length = s.low.length
 out : ∀ t, ¬ F.W t → s'.env.get t = s.env.get t
 val : F.bar = false → ∀ t, t ∉ F.wb → t ∉ F.wc → s'.env.get t = s.env.get t ∨ (isV (s.env.get t) ∧ isV (s'.env.get t))
 ids : ∀ t, ¬ F.D t → oh (s'.env.get t) = oh (s.env.get t)
 low : F.bar = false → F.lw = false → s'.low = s.low
 ctr : F.bar = false → F.lw = false → s'.ctr = s.ctr
structure GL.Same (F : GL) (s' r' : St) : Prop where
 env : ∀ t, F.W t → s'.env.get t = r'.env.get t
 low : F.bar = true ∨ F.lw = true → s'.low = r'.low
 ctr : F.bar = true ∨ F.lw = true → s'.ctr = r'.ctr
structure C4 (f : St → Option St) (F : GL) : Prop where
 turns : ∀ s s', f s = some s' → F.Turns s s'
 same : ∀ s s' r, f s = some s' → F.Agree s r → ∃ r', f r = some r' ∧ F.Same s' r'
structure ZP (s r : St) : Prop where
 env : ∀ t, s.env.get t = r.env.get t
 low : s.low = r.low
 ctr : s.ctr = r.ctr
theorem ZP.refl (s : St) : ZP s s := ⟨fun _ => rfl, rfl, rfl⟩
theorem ZP.symm {s r : St} (h : ZP s r) : ZP r s := ⟨fun t => (h.env t).symm, h.low.symm, h.ctr.symm⟩
theorem ZP.trans {a b c : St} (h : ZP a b) (h' : ZP b c) : ZP a c := ⟨fun t => (h.env t).trans (h'.env t), h.low.trans h'.low, h.ctr.trans h'.ctr⟩
theorem ZP.agree {s r : St} (h : ZP s r) (F : GL) : F.Agree s r := ⟨by rw [h.low], fun t _ => h.env t, fun t _ => by rw [h.env t], fun _ t => .inl (h.env t), fun _ => h.low, fun _ => h.ctr⟩
theorem C4.congr {f : St → Option St} {F : GL} (h : C4 f F) {s r s' : St} (he : ZP s r) (hs : f s = some s') : ∃ r', f r = some r' ∧ ZP s' r' := by
 obtain ⟨r', hr, hsame⟩ := h.same s s' r hs (he.agree F)
 have t1 := h.turns s s' hs
 have t2 := h.turns r r' hr
 refine ⟨r', hr, fun t => ?_, ?_, ?_⟩
 ·by_cases hw : F.W t
  ·exact hsame.env t hw
  ·rw [t1.out t hw, t2.out t hw]; exact he.env t
 ·by_cases hb : F.bar = true ∨ F.lw = true
  ·exact hsame.low hb
  ·simp only [not_or, Bool.not_eq_true] at hb
   rw [t1.low hb.1 hb.2, t2.low hb.1 hb.2]; exact he.low
 ·by_cases hb : F.bar = true ∨ F.lw = true
  ·exact hsame.ctr hb
  ·simp only [not_or, Bool.not_eq_true] at hb
   rw [t1.ctr hb.1 hb.2, t2.ctr hb.1 hb.2]; exact he.ctr
theorem EY {a b : List Nat} (h : ky a b = true) : ∀ t, t ∈ a → t ∉ b := by
 intro t ht hb
 simp only [ky, List.all_eq_true, Bool.not_eq_true', List.contains_eq_mem, decide_eq_false_iff_not] at h
 exact h t ht hb
theorem wq {F : GL} (hb : F.bar = false) {t : Nat} (h : t ∉ F.wv) (h' : t ∉ F.wb) : ¬ F.D t := by
 rintro (h1 | h1 | h1)
 ·rw [hb] at h1; simp at h1
 ·exact h h1
 ·exact h' h1
theorem rN {F : GL} (hb : F.bar = false) {t : Nat} (h : t ∉ F.wv) (h' : t ∉ F.wb) (h2 : t ∉ F.wc) : ¬ F.W t := by
 rintro (h1 | h1)
 ·exact wq hb h h' h1
 ·exact h2 h1
theorem i5 {p q : GL} {s s1 : St} (hp : p.bar = false) (hq : q.bar = false) (hd : ky (p.wv ++ p.wb) (q.rd ++ q.rc ++ q.wv ++ q.wb ++ q.wc) = true) (hd2 : ky (q.wv ++ q.wb) (p.rd ++ p.rc ++ p.wv ++ p.wb ++ p.wc) = true)
  (hc : ky p.wc (q.rc ++ q.wc) = true)
  (ha : q.all = true → p.wb = [] ∧ p.wc = [] ∧ p.lw = false) (hl : ¬ (p.lw = true ∧ (q.lw = true ∨ q.lr = true))) (ht : p.Turns s s1) : q.Agree s1 s := by
 have hd' := EY hd
 have hd2' := EY hd2
 have hc' := EY hc
 refine ⟨ht.len, fun t h => ?_, fun t h => ?_, fun hqa t => ?_, fun h => ?_, fun h => ?_⟩
 ·refine ht.out t (rN hp (fun h' => ?_) (fun h' => ?_) fun h' => ?_)
  ·refine hd' t (by simp [h']) ?_
   simp only [List.mem_append]
   rcases h with ((h | h | h) | h) | h
   ·rw [hq] at h; simp at h
   ·exact .inl (.inl (.inr h))
   ·exact .inl (.inr h)
   ·exact .inr h
   ·exact .inl (.inl (.inl (.inr h)))
  ·refine hd' t (by simp [h']) ?_
   simp only [List.mem_append]
   rcases h with ((h | h | h) | h) | h
   ·rw [hq] at h; simp at h
   ·exact .inl (.inl (.inr h))
   ·exact .inl (.inr h)
   ·exact .inr h
   ·exact .inl (.inl (.inl (.inr h)))
  ·rcases h with ((h | h | h) | h) | h
   ·rw [hq] at h; simp at h
   ·exact hd2' t (by simp [h]) (by simp [h'])
   ·exact hd2' t (by simp [h]) (by simp [h'])
   ·exact hc' t h' (by simp [h])
   ·exact hc' t h' (by simp [h])
 ·exact ht.ids t (wq hp (fun h' => hd' t (by simp [h']) (by simp [h])) fun h' => hd' t (by simp [h']) (by simp [h]))
 ·obtain ⟨h1, h2, h3⟩ := ha hqa
  exact (ht.val hp t (by rw [h1]; simp) (by rw [h2]; simp)).imp id fun h => ⟨h.2, h.1⟩
 ·have hplw : p.lw = false := by
   rcases h with h | h | h | h
   ·exact (ha h).2.2
   ·cases hpl : p.lw
    ·rfl
    ·exact absurd ⟨hpl, .inl h⟩ hl
   ·rw [hq] at h; simp at h
   ·cases hpl : p.lw
    ·rfl
    ·exact absurd ⟨hpl, .inr h⟩ hl
  exact ht.low hp hplw
 ·have hplw : p.lw = false := by
   rcases h with h | h
   ·cases hpl : p.lw
    ·rfl
    ·exact absurd ⟨hpl, .inl h⟩ hl
   ·rw [hq] at h; simp at h
  exact ht.ctr hp hplw
theorem UT {p q : GL} (h : p.apart q = true) : p.bar = false ∧ q.bar = false ∧ ky (p.wv ++ p.wb) (q.rd ++ q.rc ++ q.wv ++ q.wb ++ q.wc) = true ∧
  ky (q.wv ++ q.wb) (p.rd ++ p.rc ++ p.wv ++ p.wb ++ p.wc) = true ∧ ky p.wc (q.rc ++ q.wc) = true ∧ ky q.wc (p.rc ++ p.wc) = true ∧
  (p.all = true → q.wb = [] ∧ q.wc = [] ∧ q.lw = false) ∧ (q.all = true → p.wb = [] ∧ p.wc = [] ∧ p.lw = false) ∧ ¬ (p.lw = true ∧ (q.lw = true ∨ q.lr = true)) ∧ ¬ (q.lw = true ∧ (p.lw = true ∨ p.lr = true)) := by
 unfold GL.apart at h
 simp only [Bool.and_eq_true, Bool.not_eq_true', Bool.or_eq_true, List.isEmpty_iff] at h
 obtain ⟨⟨⟨⟨⟨⟨⟨⟨⟨h1, h2⟩, h3⟩, h4⟩, h5⟩, h6⟩, h7⟩, h8⟩, h9⟩, h10⟩ := h
 refine ⟨h1, h2, h3, h4, h5, h6, fun ha => ?_, fun ha => ?_, fun hl => ?_, fun hl => ?_⟩
 ·rcases h7 with h | h
  ·rw [ha] at h; simp at h
  ·exact ⟨h.1.1, h.1.2, h.2⟩
 ·rcases h8 with h | h
  ·rw [ha] at h; simp at h
  ·exact ⟨h.1.1, h.1.2, h.2⟩
 ·rcases hl with ⟨a, b | b⟩ <;> simp [a, b] at h9
 ·rcases hl with ⟨a, b | b⟩
  ·simp [a, b] at h9
  ·simp [a, b] at h10
theorem lx {f h : St → Option St} {p q : GL} (lf : C4 f p) (lh : C4 h q) (ha : p.apart q = true) {s s1 s2 : St} (h1 : f s = some s1) (h2 : h s1 = some s2) :
  ∃ r1 r2, h s = some r1 ∧ f r1 = some r2 ∧ ZP s2 r2 := by
 obtain ⟨hp, hq, d1, d2, c1, c2, a1, a2, hl, hl'⟩ := UT ha
 have t1 := lf.turns s s1 h1
 obtain ⟨r1, hr1, same1⟩ := lh.same s1 s2 s h2 (i5 hp hq d1 d2 c1 a2 hl t1)
 have u1 := lh.turns s1 s2 h2
 have u2 := lh.turns s r1 hr1
 have hag : p.Agree r1 s := i5 hq hp d2 d1 c2 a1 hl' u2
 obtain ⟨r2, hr2, same2⟩ := lf.same s s1 r1 h1 ⟨hag.len.symm, fun t ht => (hag.here t ht).symm, fun t ht => (hag.ids t ht).symm, fun ha t => (hag.boxes ha t).imp (·.symm) (·.symm), fun h => (hag.low h).symm, fun h => (hag.ctr h).symm⟩
 have u3 := lf.turns r1 r2 hr2
 have hqp : ∀ t, q.W t → ¬ p.W t := by
  intro t hqt
  rcases hqt with (h | h | h) | h
  ·rw [hq] at h; simp at h
  ·exact rN hp (fun h' => EY d1 t (by simp [h']) (by simp [h])) (fun h' => EY d1 t (by simp [h']) (by simp [h])) fun h' => EY d2 t (by simp [h]) (by simp [h'])
  ·exact rN hp (fun h' => EY d1 t (by simp [h']) (by simp [h])) (fun h' => EY d1 t (by simp [h']) (by simp [h])) fun h' => EY d2 t (by simp [h]) (by simp [h'])
  ·exact rN hp (fun h' => EY d1 t (by simp [h']) (by simp [h])) (fun h' => EY d1 t (by simp [h']) (by simp [h])) fun h' => EY c1 t h' (by simp [h])
 refine ⟨r1, r2, hr1, hr2, fun t => ?_, ?_, ?_⟩
 ·by_cases hqt : q.W t
  ·rw [same1.env t hqt, u3.out t (hqp t hqt)]
  ·rw [u1.out t hqt]
   by_cases hpt : p.W t
   ·exact same2.env t hpt
   ·rw [t1.out t hpt, u3.out t hpt, u2.out t hqt]
 ·cases hpl : p.lw with
  | true =>
   have hql : q.lw = false := by cases hq' : q.lw; rfl; exact absurd ⟨hpl, .inl hq'⟩ hl
   rw [u1.low hq hql]; exact same2.low (.inr hpl)
  | false =>
   rw [u3.low hp hpl]
   cases hql : q.lw with
   | true => exact same1.low (.inr hql)
   | false => rw [u1.low hq hql, u2.low hq hql, t1.low hp hpl]
 ·cases hpl : p.lw with
  | true =>
   have hql : q.lw = false := by cases hq' : q.lw; rfl; exact absurd ⟨hpl, .inl hq'⟩ hl
   rw [u1.ctr hq hql]; exact same2.ctr (.inr hpl)
  | false =>
   rw [u3.ctr hp hpl]
   cases hql : q.lw with
   | true => exact same1.ctr (.inr hql)
   | false => rw [u1.ctr hq hql, u2.ctr hq hql, t1.ctr hp hpl]
end Go.Lf
namespace Go.Lf
open Go
structure Ai {α : Type} (f : St → Option (α × St)) (F : GL) : Prop where
 turns : ∀ s a s', f s = some (a, s') → F.Turns s s'
 same : ∀ s a s' r, f s = some (a, s') → F.Agree s r → ∃ r', f r = some (a, r') ∧ F.Same s' r'
def B5 {α β : Type} (f : St → Option (α × St)) (k : α → St → Option (β × St)) : St → Option (β × St) := fun s => match f s with
 | some (a, s') => k a s'
 | none => none
theorem GL.Turns.refl {F : GL} (s : St) : F.Turns s s := ⟨rfl, fun _ _ => rfl, fun _ _ _ _ => .inl rfl, fun _ _ => rfl, fun _ _ => rfl, fun _ _ => rfl⟩
theorem GL.Turns.trans {F : GL} {a b c : St} (h : F.Turns a b) (h' : F.Turns b c) : F.Turns a c where
 len := h'.len.trans h.len
 out t ht := (h'.out t ht).trans (h.out t ht)
 ids t ht := (h'.ids t ht).trans (h.ids t ht)
 val hb t ht ht2 := by
  rcases h.val hb t ht ht2 with e | ⟨e1, e2⟩
  ·rcases h'.val hb t ht ht2 with e' | ⟨e1', e2'⟩
   ·exact .inl (e'.trans e)
   ·exact .inr ⟨by rw [← e]; exact e1', e2'⟩
  ·rcases h'.val hb t ht ht2 with e' | ⟨_, e2'⟩
   ·exact .inr ⟨e1, by rw [e']; exact e2⟩
   ·exact .inr ⟨e1, e2'⟩
 low hb hl := (h'.low hb hl).trans (h.low hb hl)
 ctr hb hl := (h'.ctr hb hl).trans (h.ctr hb hl)
theorem GL.Agree.step {F : GL} {s r s' r' : St} (h : F.Agree s r) (t1 : F.Turns s s') (t2 : F.Turns r r') (hs : F.Same s' r') : F.Agree s' r' where
 len := by rw [t1.len, t2.len]; exact h.len
 here t ht := by
  by_cases hw : F.W t
  ·exact hs.env t hw
  ·rw [t1.out t hw, t2.out t hw]; exact h.here t ht
 ids t ht := by
  by_cases hw : F.W t
  ·rw [hs.env t hw]
  ·rw [t1.out t hw, t2.out t hw]; exact h.ids t ht
 boxes ha t := by
  by_cases hw : F.W t
  ·exact .inl (hs.env t hw)
  ·rw [t1.out t hw, t2.out t hw]; exact h.boxes ha t
 low hh := by
  by_cases hb : F.bar = true ∨ F.lw = true
  ·exact hs.low hb
  ·simp only [not_or, Bool.not_eq_true] at hb
   rw [t1.low hb.1 hb.2, t2.low hb.1 hb.2]; exact h.low hh
 ctr hh := by
  by_cases hb : F.bar = true ∨ F.lw = true
  ·exact hs.ctr hb
  ·rcases hh with h | h
   ·exact absurd (.inr h) hb
   ·exact absurd (.inl h) hb
theorem GL.Agree.same {F : GL} {s r : St} (h : F.Agree s r) : F.Same s r :=
 ⟨fun t ht => h.here t (.inl ht),
  fun hb => h.low (by rcases hb with h | h; exact .inr (.inr (.inl h)); exact .inr (.inl h)), fun hb => h.ctr (by rcases hb with h | h; exact .inr h; exact .inl h)⟩
theorem Ai.bind {α β : Type} {F : GL} {f : St → Option (α × St)} {k : α → St → Option (β × St)} (hf : Ai f F) (hk : ∀ a, Ai (k a) F) : Ai (B5 f k) F where
 turns s b s' h := by
  unfold B5 at h
  split at h
  ·rename_i a s1 h1
   exact (hf.turns s a s1 h1).trans ((hk a).turns s1 b s' h)
  ·simp at h
 same s b s' r h hag := by
  unfold B5 at h
  split at h
  ·rename_i a s1 h1
   obtain ⟨r1, hr1, same1⟩ := hf.same s a s1 r h1 hag
   obtain ⟨r', hr', same'⟩ := (hk a).same s1 b s' r1 h (hag.step (hf.turns s a s1 h1) (hf.turns r a r1 hr1) same1)
   exact ⟨r', by unfold B5; rw [hr1]; exact hr', same'⟩
  ·simp at h
theorem Ai.fail {α : Type} {F : GL} : Ai (fun _ => (none : Option (α × St))) F := ⟨fun _ _ _ h => by simp at h, fun _ _ _ _ h => by simp at h⟩
theorem Ai.ret {α : Type} {F : GL} (a : α) : Ai (fun s => some (a, s)) F :=
 ⟨fun s _ s' h => by simp only [Option.some.injEq, Prod.mk.injEq] at h; rw [← h.2]; exact .refl s,
  fun s _ s' r h hag => by simp only [Option.some.injEq, Prod.mk.injEq] at h; obtain ⟨rfl, rfl⟩ := h; exact ⟨r, rfl, hag.same⟩⟩
theorem EH {α : Type} {F : GL} {f : St → Option α} (h : ∀ s r, F.Agree s r → f s = f r) : Ai (fun s => (f s).map fun a => (a, s)) F :=
 ⟨fun s _ s' h => by simp only [Option.map_eq_some_iff, Prod.mk.injEq] at h; obtain ⟨_, _, _, rfl⟩ := h; exact .refl s,
  fun s _ s' r hs hag => by
   simp only [Option.map_eq_some_iff, Prod.mk.injEq] at hs
   obtain ⟨a, ha, rfl, rfl⟩ := hs
   exact ⟨r, by rw [← h s r hag, ha]; rfl, hag.same⟩⟩
theorem ng {F : GL} {f : St → Option St} (h : Ai (fun s => (f s).map fun s' => ((), s')) F) : C4 f F :=
 ⟨fun s s' hs => h.turns s () s' (by simp [hs]), fun s s' r hs hag => by
  obtain ⟨r', hr, hsame⟩ := h.same s () s' r (by simp [hs]) hag
  simp only [Option.map_eq_some_iff, Prod.mk.injEq, true_and, exists_eq_right] at hr
  exact ⟨r', hr, hsame⟩⟩
section
variable (LP : Aw) {F : GL}
theorem Kx {d : Nat} (hd : F.D d) (sl : A6) (ok : Option A6 → Bool) (hv : F.bar = false → d ∉ F.wb → (∀ x, ok x = true → isV x) ∧ isV (some sl)) :
  Ai (fun s => if ok (s.env.get d) = true then some ((), { s with env := s.env.set d sl }) else none) F where
 turns s a s' h := by
  split at h
  ·rename_i hok
   simp only [Option.some.injEq, Prod.mk.injEq, true_and] at h
   subst h
   refine ⟨rfl, fun t ht => ?_, fun hb t ht _ => ?_, fun t ht => ?_, fun _ _ => rfl, fun _ _ => rfl⟩
   ·simp only [BU]
    rw [if_neg (fun e : t = d => ht (by rw [e]; exact .inl hd))]
   rotate_left
   ·simp only [BU]
    rw [if_neg (fun e : t = d => ht (by rw [e]; exact hd))]
   ·simp only [BU]
    by_cases hdt : t = d
    ·subst hdt
     rw [if_pos rfl]
     obtain ⟨h1, h2⟩ := hv hb ht
     exact .inr ⟨h1 _ hok, h2⟩
    ·rw [if_neg hdt]; exact .inl rfl
  ·simp at h
 same s a s' r h hag := by
  split at h
  ·rename_i hok
   simp only [Option.some.injEq, Prod.mk.injEq, true_and] at h
   subst h
   have he := hag.same.env d (.inl hd)
   refine ⟨{ r with env := r.env.set d sl }, by rw [← he, if_pos hok], fun t ht => ?_, fun hb => hag.same.low hb, fun hb => hag.same.ctr hb⟩
   simp only [BU]
   by_cases hdt : t = d
   ·rw [if_pos hdt, if_pos hdt]
   ·rw [if_neg hdt, if_neg hdt]; exact hag.same.env t ht
  ·simp at h
def okV : Option A6 → Bool
 | some (.box _ _) | some (.mapo _ _ _) => false
 | _ => true
theorem ni (x : Option A6) (h : okV x = true) : isV x := by
 cases x with
 | none => trivial
 | some y => cases y <;> first | trivial | simp [okV] at h
def R7 (dst : Option Nat) (v : LV) (s : St) : Option (Unit × St) := (s.put dst v).map fun s' => ((), s')
theorem C7 {dst : Option Nat} (hd : ∀ d, dst = some d → F.D d) (v : LV) : Ai (R7 dst v) F := by
 cases dst with
 | none => exact Ai.ret ()
 | some d =>
  have := Kx (F := F) (hd d rfl) (.v v) okV (fun _ _ => ⟨ni, trivial⟩)
  have he : R7 (some d) v = fun s => if okV (s.env.get d) = true then some ((), { s with env := s.env.set d (.v v) }) else none := by
   funext s
   cases he : s.env.get d with
   | none => simp [R7, St.put, okV, he]
   | some sl => cases sl <;> simp [R7, St.put, okV, he]
  rw [he]; exact this
def GL.Sees (F : GL) (x : Opd) : Prop := ∀ t, x = .tmp t → t ∈ F.rd
theorem mR {s r : St} {t : Nat} (hl : s.low.length = r.low.length) (h : oh (s.env.get t) = oh (r.env.get t)) : s.slot t = r.slot t := by
 unfold St.slot
 rw [hl]
 generalize s.env.get t = x at h
 generalize r.env.get t = y at h
 rcases x with _ | x
 ·rcases y with _ | y
  ·rfl
  ·cases y <;> simp [oh] at h
 ·rcases y with _ | y
  ·cases x <;> simp [oh] at h
  ·cases x <;> cases y <;> simp_all [oh]
theorem GL.Agree.slot {s r : St} (h : F.Agree s r) {t : Nat} (ht : t ∈ F.rd) : s.slot t = r.slot t := mR h.len (h.ids t ht)
theorem GL.Agree.val {s r : St} (h : F.Agree s r) {x : Opd} (hx : F.Sees x) : s.val LP x = r.val LP x := by
 cases x with
 | tmp t => exact h.slot (hx t rfl)
 | _ => rfl
def rdV (x : Opd) (s : St) : Option (LV × St) := some (s.val LP x, s)
theorem Fh {x : Opd} (hx : F.Sees x) : Ai (rdV LP x) F := by
 have := EH (F := F) (f := fun s => some (s.val LP x)) fun s r h => by rw [h.val LP hx]
 exact this
def LS (x : Opd) (s : St) : Option (LV × St) := some (s.take LP x)
theorem Jy {x : Opd} (hx : ∀ t, x = .tmp t → F.D t) : Ai (LS LP x) F where
 turns s a s' h := by
  simp only [LS, Option.some.injEq] at h
  have h' := congrArg Prod.snd h
  simp only at h'
  subst h'
  unfold St.take
  cases x with
  | tmp t =>
   simp only
   split
   ·rename_i z xs he
    refine ⟨rfl, fun u hu => ?_, fun hb u hu _ => ?_, fun u hu => ?_, fun _ _ => rfl, fun _ _ => rfl⟩
    ·simp only [BU]
     rw [if_neg (fun e : u = t => hu (by rw [e]; exact .inl (hx t rfl)))]
    rotate_left
    ·simp only [BU]
     rw [if_neg (fun e : u = t => hu (by rw [e]; exact hx t rfl))]
    ·simp only [BU]
     by_cases hut : u = t
     ·subst hut; rw [if_pos rfl, he]; exact .inr ⟨trivial, trivial⟩
     ·rw [if_neg hut]; exact .inl rfl
   ·exact .refl s
  | con => exact .refl s
  | glob => exact .refl s
 same s a s' r h hag := by
  simp only [LS, Option.some.injEq] at h
  have h1 := congrArg Prod.fst h
  have h2 := congrArg Prod.snd h
  simp only at h1 h2
  subst h1; subst h2
  unfold LS St.take
  cases x with
  | tmp t =>
   have he := hag.same.env t (.inl (hx t rfl))
   have hsl : s.slot t = r.slot t := by unfold St.slot; rw [he, hag.len]
   simp only
   cases hg : s.env.get t with
   | none => rw [hg] at he; rw [← he]; simp only; rw [hsl]; exact ⟨r, rfl, hag.same⟩
   | some sl =>
    rw [hg] at he; rw [← he]
    cases sl with
    | v x =>
     cases x with
     | hot z xs =>
      refine ⟨_, rfl, fun u hu => ?_, hag.same.low, hag.same.ctr⟩
      simp only [BU]
      by_cases hut : u = t
      ·rw [if_pos hut, if_pos hut]
      ·rw [if_neg hut, if_neg hut]; exact hag.same.env u hu
     | _ => simp only; rw [hsl]; exact ⟨r, rfl, hag.same⟩
    | box => simp only; rw [hsl]; exact ⟨r, rfl, hag.same⟩
    | mapo => simp only; rw [hsl]; exact ⟨r, rfl, hag.same⟩
  | con => exact ⟨r, rfl, hag.same⟩
  | glob => exact ⟨r, rfl, hag.same⟩
def GL.Rooted (F : GL) (root : Option (Option Nat)) : Prop := match root with
 | none => F.all = true ∨ F.bar = true
 | some (some q) => F.S q ∧ (q = Ri → F.lr = true ∨ F.bar = true)
 | some none => True
theorem TO {s r : St} {j t : Nat} (h : s.at j t = r.at j t ∨ (isV (s.at j t) ∧ isV (r.at j t))) (g n : Nat) : s.cells j t g = r.cells j t g ∧ s.entries j t g n = r.entries j t g n := by
 unfold St.cells St.entries
 rcases h with h | ⟨h1, h2⟩
 ·rw [h]; exact ⟨rfl, rfl⟩
 ·generalize s.at j t = x at h1 ⊢
  generalize r.at j t = y at h2 ⊢
  cases x with
  | none =>
   cases y with
   | none => exact ⟨rfl, rfl⟩
   | some y => cases y <;> first | exact ⟨rfl, rfl⟩ | simp [isV] at h2
  | some x =>
   cases x <;> first | (simp [isV] at h1; done) | skip
   cases y with
   | none => exact ⟨rfl, rfl⟩
   | some y => cases y <;> first | exact ⟨rfl, rfl⟩ | simp [isV] at h2
def fL (root : Option (Option Nat)) (k j t : Nat) : Prop := ∀ q, root = some q → (j = k ∧ q = some t) ∨ (q = some Ri ∧ j ≠ k)
theorem GL.Agree.at {s r : St} (h : F.Agree s r) {root : Option (Option Nat)} (hr : F.Rooted root) {j t : Nat} (hk : fL root s.low.length j t) :
  s.at j t = r.at j t ∨ (isV (s.at j t) ∧ isV (r.at j t)) := by
 unfold St.at
 rw [← h.len]
 cases root with
 | none =>
  by_cases hj : j = s.low.length
  ·rw [if_pos hj, if_pos hj]
   rcases hr with ha | hb
   ·exact h.boxes ha t
   ·exact .inl (h.here t (.inl (.inl (.inl hb))))
  ·rw [if_neg hj, if_neg hj, h.low (by rcases hr with ha | hb; exact .inl ha; exact .inr (.inr (.inl hb)))]
   exact .inl rfl
 | some q =>
  rcases hk q rfl with ⟨h1, h2⟩ | ⟨h2, h1⟩
  ·subst h2
   rw [if_pos h1, if_pos h1]
   exact .inl (h.here t hr.1)
  ·subst h2
   rw [if_neg h1, if_neg h1, h.low (by rcases hr.2 rfl with ha | hb; exact .inr (.inr (.inr ha)); exact .inr (.inr (.inl hb)))]
   exact .inl rfl
def yk (j t g : Nat) (s : St) : Option (List LV × St) := (s.cells j t g).map fun cs => (cs, s)
def xM (j t g n : Nat) (s : St) : Option (List (List Int × LV) × St) := (s.entries j t g n).map fun cs => (cs, s)
def tL (root : Option (Option Nat)) (x : LV) (s : St) : Option (Unit × St) := if An s.low.length root (some x) then some ((), s) else none
theorem tz {root : Option (Option Nat)} {x : LV} : Ai (tL root x) F := by
 have := EH (F := F) (f := fun s => if An s.low.length root (some x) then some () else none) fun s r h => by rw [h.len]
 have he : tL root x = fun s => (if An s.low.length root (some x) then some () else none).map fun a => (a, s) := by
  funext s; unfold tL; split <;> rfl
 rw [he]; exact this
end
end Go.Lf
namespace Go.Lf
open Go
section
variable (LP : Aw) {F : GL}
theorem fR (s : St) (j t : Nat) (sl : A6) : (s.setAt j t sl).low.length = s.low.length := by
 unfold St.setAt; split <;> simp
def GL.Holds (F : GL) (root : Option (Option Nat)) : Prop := match root with
 | none => F.bar = true
 | some (some q) => q ∈ F.wc ∧ (q = Ri → F.bar = true)
 | some none => True
theorem GL.Holds.rooted {root : Option (Option Nat)} (h : F.Holds root) : F.Rooted root := by
 cases root with
 | none => exact .inr h
 | some q => cases q with
  | none => trivial
  | some q => exact ⟨.inl (.inr h.1), fun e => .inr (h.2 e)⟩
theorem Oc {k j t g off : Nat} {root : Option (Option Nat)} (h : An k root (some (.ptr j t g off)) = true) : fL root k j t := by
 intro q hq
 subst hq
 simpa [An] using h
theorem Oa {k j t g : Nat} {root : Option (Option Nat)} (h : An k root (some (.mref j t g)) = true) : fL root k j t := by
 intro q hq
 subst hq
 simpa [An] using h
theorem cw (hb : F.bar = true) {s s' : St} (hl : s'.low.length = s.low.length) : F.Turns s s' :=
 ⟨hl, fun u hu => absurd (.inl (.inl hb)) hu, fun h => by rw [hb] at h; simp at h, fun u hu => absurd (.inl hb) hu, fun h => by rw [hb] at h; simp at h, fun h => by rw [hb] at h; simp at h⟩
theorem UD {root : Option (Option Nat)} (hF : F.Holds root) {s : St} {j t : Nat} {sl : A6} (hi : oh (s.at j t) = oh (some sl)) (hk : fL root s.low.length j t) : F.Turns s (s.setAt j t sl) := by
 cases root with
 | none => exact cw hF (fR s j t sl)
 | some q =>
  rcases hk q rfl with ⟨rfl, rfl⟩ | ⟨rfl, _⟩
  ·unfold St.setAt
   rw [if_pos rfl]
   unfold St.at at hi
   rw [if_pos rfl] at hi
   refine ⟨rfl, fun u hu => ?_, fun hb u _ hu => .inl ?_, fun u hu => ?_, fun _ _ => rfl, fun _ _ => rfl⟩
   ·simp only [BU]
    rw [if_neg (fun e : u = t => hu (by rw [e]; exact .inr hF.1))]
   ·simp only [BU]
    rw [if_neg (fun e : u = t => hu (by rw [e]; exact hF.1))]
   ·simp only [BU]
    by_cases hut : u = t
    ·subst hut; rw [if_pos rfl]; exact hi.symm
    ·rw [if_neg hut]
  ·exact cw (hF.2 rfl) (fR s j t sl)
theorem ek (hb : F.bar = true) {s r : St} (h : F.Agree s r) {j t : Nat} {sl : A6} : F.Same (s.setAt j t sl) (r.setAt j t sl) := by
 have hl := h.low (.inr (.inr (.inl hb)))
 unfold St.setAt
 rw [hl]
 split
 ·refine ⟨fun u hu => ?_, fun _ => rfl, h.same.ctr⟩
  simp only [BU]
  rw [h.here u (.inl (.inl (.inl hb)))]
 ·exact ⟨fun u hu => h.here u (.inl (.inl (.inl hb))), fun _ => rfl, h.same.ctr⟩
theorem Yk {root : Option (Option Nat)} (hF : F.Holds root) {s r : St} (h : F.Agree s r) {j t : Nat} {sl : A6} (hk : fL root s.low.length j t) :
  F.Same (s.setAt j t sl) (r.setAt j t sl) := by
 cases root with
 | none => exact ek hF h
 | some q =>
  rcases hk q rfl with ⟨rfl, rfl⟩ | ⟨rfl, _⟩
  ·unfold St.setAt
   rw [← h.len, if_pos rfl, if_pos rfl]
   refine ⟨fun u hu => ?_, h.same.low, h.same.ctr⟩
   simp only [BU]
   by_cases hut : u = t
   ·rw [if_pos hut, if_pos hut]
   ·rw [if_neg hut, if_neg hut]; exact h.same.env u hu
  ·exact ek (hF.2 rfl) h
theorem pL {s : St} {j t g : Nat} {cs : List LV} (h : s.cells j t g = some cs) : s.at j t = some (.box g cs) := by
 unfold St.cells at h
 split at h
 ·rename_i g' cs' he
  split at h
  ·rename_i hg
   simp only [Option.some.injEq] at h
   subst h; subst hg; exact he
  ·simp at h
 ·simp at h
theorem mP {s : St} {j t g n : Nat} {es : List (List Int × LV)} (h : s.entries j t g n = some es) : s.at j t = some (.mapo g n es) := by
 unfold St.entries at h
 split at h
 ·rename_i g' n' es' he
  split at h
  ·rename_i hg
   simp only [Option.some.injEq] at h
   obtain ⟨rfl, rfl⟩ := hg
   subst h; exact he
  ·simp at h
 ·simp at h
def L1 {α : Type} (root : Option (Option Nat)) (j t g off : Nat) (k : List LV → Option (α × List LV)) (s : St) : Option (α × St) :=
 if An s.low.length root (some (.ptr j t g off)) = true then match s.cells j t g with
  | some cs => match k cs with
   | some (a, cs') => some (a, s.setAt j t (.box g cs'))
   | none => none
  | none => none
 else none
theorem SG {α : Type} {root : Option (Option Nat)} (hF : F.Holds root) (j t g off : Nat) (k : List LV → Option (α × List LV)) : Ai (L1 root j t g off k) F where
 turns s a s' h := by
  unfold L1 at h
  split at h
  ·rename_i hr
   split at h
   ·rename_i cs hcs
    split at h
    ·simp only [Option.some.injEq, Prod.mk.injEq] at h
     rw [← h.2]
     exact UD hF (by rw [pL hcs]; rfl) (Oc hr)
    ·simp at h
   ·simp at h
  ·simp at h
 same s a s' r h hag := by
  unfold L1 at h
  split at h
  ·rename_i hr
   have hk := Oc hr
   have hc := (TO (hag.at hF.rooted hk) g 0).1
   split at h
   ·rename_i cs hcs
    split at h
    ·rename_i b cs' hkc
     simp only [Option.some.injEq, Prod.mk.injEq] at h
     obtain ⟨rfl, rfl⟩ := h
     refine ⟨r.setAt j t (.box g cs'), ?_, Yk hF hag hk⟩
     unfold L1
     rw [← hag.len, if_pos hr, ← hc, hcs]
     simp only [hkc]
    ·simp at h
   ·simp at h
  ·simp at h
def LN {α : Type} (root : Option (Option Nat)) (j t g n : Nat) (k : List (List Int × LV) → Option (α × List (List Int × LV))) (s : St) : Option (α × St) :=
 if An s.low.length root (some (.mref j t g)) = true then match s.entries j t g n with
  | some es => match k es with
   | some (a, es') => some (a, s.setAt j t (.mapo g n es'))
   | none => none
  | none => none
 else none
theorem Lq {α : Type} {root : Option (Option Nat)} (hF : F.Holds root) (j t g n : Nat) (k : List (List Int × LV) → Option (α × List (List Int × LV))) : Ai (LN root j t g n k) F where
 turns s a s' h := by
  unfold LN at h
  split at h
  ·rename_i hr
   split at h
   ·rename_i cs hcs
    split at h
    ·simp only [Option.some.injEq, Prod.mk.injEq] at h
     rw [← h.2]
     exact UD hF (by rw [mP hcs]; rfl) (Oa hr)
    ·simp at h
   ·simp at h
  ·simp at h
 same s a s' r h hag := by
  unfold LN at h
  split at h
  ·rename_i hr
   have hk := Oa hr
   have hc := (TO (hag.at hF.rooted hk) g n).2
   split at h
   ·rename_i cs hcs
    split at h
    ·rename_i b cs' hkc
     simp only [Option.some.injEq, Prod.mk.injEq] at h
     obtain ⟨rfl, rfl⟩ := h
     refine ⟨r.setAt j t (.mapo g n cs'), ?_, Yk hF hag hk⟩
     unfold LN
     rw [← hag.len, if_pos hr, ← hc, hcs]
     simp only [hkc]
    ·simp at h
   ·simp at h
  ·simp at h
def rM {α : Type} (root : Option (Option Nat)) (j t g off : Nat) (k : List LV → Option α) (s : St) : Option (α × St) :=
 (if An s.low.length root (some (.ptr j t g off)) = true then (s.cells j t g).bind k else none).map fun a => (a, s)
theorem iW {α : Type} {root : Option (Option Nat)} (hF : F.Rooted root) (j t g off : Nat) (k : List LV → Option α) : Ai (rM root j t g off k) F := by
 refine EH fun s r h => ?_
 rw [← h.len]
 split
 ·rename_i hr
  rw [(TO (h.at hF (Oc hr)) g 0).1]
 ·rfl
def uX {α : Type} (root : Option (Option Nat)) (j t g n : Nat) (k : List (List Int × LV) → Option α) (s : St) : Option (α × St) :=
 (if An s.low.length root (some (.mref j t g)) = true then (s.entries j t g n).bind k else none).map fun a => (a, s)
theorem ik {α : Type} {root : Option (Option Nat)} (hF : F.Rooted root) (j t g n : Nat) (k : List (List Int × LV) → Option α) : Ai (uX root j t g n k) F := by
 refine EH fun s r h => ?_
 rw [← h.len]
 split
 ·rename_i hr
  rw [(TO (h.at hF (Oa hr)) g n).2]
 ·rfl
def Ea (C : AM) (g : Nat) (o : AD) (s : St) : Option St :=
 if An s.low.length o.root (o.op.addr.map (s.val LP)) then evalOp LP C g o.dst o.op s else none
def BE (C : AM) (o : zn) (v : Opd → LV) : Option LV := match o with
 | .move x false => some (v x)
 | .pick c a b => match EW (v c) with
  | some true => some (v a)
  | some false => some (v b)
  | none => none
 | .build zs ps raw => match Br (ps.map fun p => (p.1, p.2.1, v p.2.2)) (zs.map .d) with
  | some cs => some (aK raw cs)
  | none => none
 | .lit k zs len ps fl => match Br (ps.map fun p => (p.1, p.2.1, v p.2.2)) ((List.replicate len zs).flatten.map .d) with
  | some cs => if cs.all LV.cellOk then match AW cs with
   | some ds => match (List.range len).mapM fun i => Ak k (i * k.getD 1) ds with
    | some xs => some (rE fl (k.getD 1) xs)
    | none => none
   | none => none else none
  | none => none
 | .faddr off p => Hz off (v p)
 | .field k off x => Jr k off (v x)
 | .iaddrS sz x i => match LR (v x), E1 (v i) with
  | some (z, xs), some i => match xs[i]? with
   | some e => if z = sz then some (.d (.fptr e.cells 0)) else none
   | none => none
  | _, _ => none
 | .iaddrA sz n p i => match E1 (v i) with
  | some i => if i < n then Hz (i * sz) (v p) else none
  | none => none
 | .index k sz n x i => match E1 (v i) with
  | some i => if i < n then Jr k (i * sz) (v x) else none
  | none => none
 | .bin op x y => match NS (v x), NS (v y) with
  | some a, some b => (BZ (binOp op 0 (.int .i64 a) (.int .i64 b))).map .d
  | _, _ => none
 | .eqb neg x y => match EW (v x), EW (v y) with
  | some a, some b => some (.d (.bool (if neg then a != b else a == b)))
  | _, _ => none
 | .eqa neg n x y => match (v x).aggKey, (v y).aggKey with
  | some a, some b => if a.length = n ∧ b.length = n then some (.d (.bool (if neg then decide (a ≠ b) else decide (a = b)))) else none
  | _, _ => none
 | .un op x => match v x with
  | .d (.int a) => (BZ (Op.unary op (.int .i64 a))).map .d
  | .d (.bool a) => (BZ (Op.unary op (.bool a))).map .d
  | _ => none
 | .call f args none => match target (v f), AW (args.map v) with
  | some (f, a, b), some ds => match AW a, AW b with
   | some a, some b => match C.call f ((a ++ ds ++ b).map .d) [] 0 with
    | some (v, _, _) => v.toD.map .d
    | none => none
   | _, _ => none
  | _, _ => none
 | .len x => (fy (v x)).map fun n => .d (.int n)
 | .minmax isMax xs => (minmax isMax (xs.map v)).map fun n => .d (.int n)
 | .slice sz x lo hi mx => match optNat v lo, optNat v hi, optNat v mx with
  | some lo, some hi, some mx => Nj sz (v x) lo hi mx
  | _, _, _ => none
 | .mkfn f first cap => some (LV.norm (.fn f (first.map v) (cap.map v)))
 | _ => none
def zn.isValue : zn → Bool
 | .move _ false | .pick _ _ _ | .build _ _ _ | .lit _ _ _ _ _ | .faddr _ _ | .field _ _ _ | .iaddrS _ _ _ | .iaddrA _ _ _ _ | .index _ _ _ _ _ | .bin _ _ _ | .eqb _ _ _ | .eqa _ _ _ _ | .un _ _
 | .call _ _ none | .len _ | .minmax _ _ | .slice _ _ _ _ _ | .mkfn _ _ _ => true
 | _ => false
theorem Ru (C : AM) (g : Nat) (dst : Option Nat) {o : zn} (ho : o.isValue = true) (s : St) : evalOp LP C g dst o s = (BE C o (s.val LP)).bind (s.put dst) := by
 cases o <;> try (simp [zn.isValue] at ho; done)
 case move x t => cases t <;> first | rfl | simp [zn.isValue] at ho
 case pick =>
  simp only [evalOp, BE]; repeat' split
  all_goals simp_all
 case build zs ps raw =>
  simp only [evalOp, BE]
  cases Br (ps.map fun p => (p.1, p.2.1, s.val LP p.2.2)) (zs.map .d) <;> rfl
 case lit k zs len ps fl =>
  simp only [evalOp, BE]
  cases Br (ps.map fun p => (p.1, p.2.1, s.val LP p.2.2)) ((List.replicate len zs).flatten.map .d) with
  | none => rfl
  | some cs =>
   by_cases hc : cs.all LV.cellOk = true
   ·simp only [hc, if_true]
    cases AW cs with
    | none => rfl
    | some ds =>
     simp only
     cases (List.range len).mapM fun i => Ak k (i * k.getD 1) ds <;> rfl
   ·simp only [hc]; rfl
 case faddr => simp only [evalOp, BE]; split <;> simp_all
 case field => simp only [evalOp, BE]; split <;> simp_all
 case iaddrS =>
  simp only [evalOp, BE]; repeat' split
  all_goals simp_all
 case iaddrA sz n p i =>
  simp only [evalOp, BE]
  cases E1 (s.val LP i) with
  | none => rfl
  | some m =>
   by_cases hm : m < n
   ·simp only [hm, if_true]; cases Hz (m * sz) (s.val LP p) <;> rfl
   ·simp only [hm, if_false]; rfl
 case index k sz n x i =>
  simp only [evalOp, BE]
  cases E1 (s.val LP i) with
  | none => rfl
  | some m =>
   by_cases hm : m < n
   ·simp only [hm, if_true]; cases Jr k (m * sz) (s.val LP x) <;> rfl
   ·simp only [hm, if_false]; rfl
 case bin =>
  simp only [evalOp, BE]; repeat' split
  all_goals simp_all
 case eqb =>
  simp only [evalOp, BE]; repeat' split
  all_goals simp_all
 case eqa =>
  simp only [evalOp, BE]; repeat' split
  all_goals simp_all
 case un =>
  simp only [evalOp, BE]; repeat' split
  all_goals simp_all
 case call f as vis =>
  cases vis <;> first | (simp [zn.isValue] at ho; done) | skip
  simp only [evalOp, BE]
  cases target (s.val LP f) with
  | none => rfl
  | some fab =>
   obtain ⟨f', a, b⟩ := fab
   cases AW (as.map (s.val LP)) with
   | none => rfl
   | some ds =>
    simp only
    cases AW a with
    | none => rfl
    | some a =>
     cases AW b with
     | none => rfl
     | some b =>
      simp only
      cases C.call f' ((a ++ ds ++ b).map .d) [] 0 with
      | none => rfl
      | some r =>
       obtain ⟨v, _, _⟩ := r
       simp only
       cases v.toD <;> rfl
 case len => simp only [evalOp, BE]; split <;> simp_all
 case minmax => simp only [evalOp, BE]; split <;> simp_all
 case slice =>
  simp only [evalOp, BE]; repeat' split
  all_goals simp_all
 case mkfn => rfl
end
end Go.Lf
namespace Go.Lf
open Go
section
variable (LP : Aw) {F : GL}
theorem HL {α β : Type} {f g : α → β} : ∀ {l : List α}, (∀ x, x ∈ l → f x = g x) → l.map f = l.map g
 | [], _ => rfl
 | a :: l, h => by
  simp only [List.map_cons]
  rw [h a (by simp), HL fun x hx => h x (by simp [hx])]
theorem L2 {v v' : Opd → LV} : ∀ {x : Option Opd}, (∀ y, y ∈ x.toList → v y = v' y) → optNat v x = optNat v' x
 | none, _ => rfl
 | some x, h => by simp only [optNat]; rw [h x (by simp)]
theorem cN (C : AM) (o : zn) {v v' : Opd → LV} (h : ∀ x, x ∈ o.opds → v x = v' x) : BE C o v = BE C o v' := by
 have parts : ∀ ps : List (Nat × Nat × Opd), (∀ x, x ∈ ps.map (·.2.2) → v x = v' x) → ps.map (fun p => (p.1, p.2.1, v p.2.2)) = ps.map (fun p => (p.1, p.2.1, v' p.2.2)) := fun ps hp =>
  HL fun p hm => by rw [hp p.2.2 (List.mem_map.2 ⟨p, hm, rfl⟩)]
 cases o <;> simp only [zn.opds, List.mem_cons, List.not_mem_nil, or_false, forall_eq_or_imp, forall_eq] at h <;> try rfl
 case move x t => cases t <;> simp only [BE, h]
 case pick => simp only [BE, h.1, h.2.1, h.2.2]
 case build zs ps raw => simp only [BE]; rw [parts ps h]
 case lit k zs len ps fl => simp only [BE]; rw [parts ps h]
 case faddr => simp only [BE, h]
 case field => simp only [BE, h]
 case iaddrS => simp only [BE, h.1, h.2]
 case iaddrA => simp only [BE, h.1, h.2]
 case index => simp only [BE, h.1, h.2]
 case bin => simp only [BE, h.1, h.2]
 case eqb => simp only [BE, h.1, h.2]
 case eqa => simp only [BE, h.1, h.2]
 case un => simp only [BE, h]
 case call f as vis =>
  cases vis with
  | none => simp only [BE]; rw [h.1, HL h.2]
  | some vis => rfl
 case len => simp only [BE, h]
 case minmax b xs => simp only [BE]; rw [HL h]
 case slice sz x lo hi mx =>
  simp only [BE]
  rw [h.1, L2 fun y hy => h.2 y (by simp [hy]), L2 fun y hy => h.2 y (by simp [hy]), L2 fun y hy => h.2 y (by simp [hy])]
 case mkfn f a b =>
  simp only [BE]
  rw [HL fun x hx => h x (by simp [hx]), HL (l := b) fun x hx => h x (by simp [hx])]
def AD.rd0 (o : AD) : List Nat := o.op.opds.flatMap Opd.tmp? ++ (match o.guard with | some (t, _) => [t] | none => [])
theorem oD (o : AD) {t : Nat} (h : t ∈ o.rd0) : t ∈ o.foot.rd := by
 obtain ⟨dst, op, guard, root⟩ := o
 unfold AD.foot
 dsimp only [AD.rd0] at h
 cases op <;> first | exact h | skip
 case move x b => cases b <;> exact h
 case extract i x b => cases b <;> exact h
 case load k p b => cases b <;> cases root <;> exact h
 case lookup => cases root <;> exact h
 case store => cases root <;> exact h
 case mapset => cases root <;> exact h
 case mstore => cases root <;> exact h
 case mentry => cases root <;> exact h
 case call f as vis => cases vis <;> exact h
theorem gA (o : AD) {x : Opd} (hx : x ∈ o.op.opds) : o.foot.Sees x := fun t ht => oD o (List.mem_append_left _ (List.mem_flatMap.2 ⟨x, hx, by subst ht; simp [Opd.tmp?]⟩))
theorem A7 {f : St → Option St} {h : St → Option (Unit × St)} (he : ∀ s, f s = (h s).map (·.2)) (hl : Ai h F) : C4 f F := by
 refine ng ?_
 have : (fun s => (f s).map fun s' => ((), s')) = h := by
  funext s
  rw [he s]
  cases h s <;> rfl
 rw [this]; exact hl
theorem BS (dst : Option Nat) (v : LV) (s : St) : s.put dst v = (R7 dst v s).map (·.2) := by
 unfold R7; cases s.put dst v <;> rfl
theorem Au {C : AM} {g : Nat} {o : AD} (h : o.op.addr = none) (s : St) : Ea LP C g o s = evalOp LP C g o.dst o.op s := by
 unfold Ea
 rw [h]
 have : An s.low.length o.root (Option.map (s.val LP) none) = true := by cases o.root <;> rfl
 rw [if_pos this]
theorem Yj {o : AD} (h : o.op.isValue = true) : o.foot.wv = o.dst.toList := by
 obtain ⟨dst, op, guard, root⟩ := o
 cases op <;> try (simp [zn.isValue] at h; done)
 all_goals first
  | rfl
  | skip
 case move x b => cases b <;> first | rfl | simp [zn.isValue] at h
 case call f as vis => cases vis <;> first | rfl | simp [zn.isValue] at h
theorem nR {o : AD} {d : Nat} (h : o.dst = some d) : d ∈ o.dst.toList := by rw [h]; simp
theorem ib (C : AM) (g : Nat) {o : AD} (h : o.op.isValue = true) : C4 (Ea LP C g o) o.foot := by
 have hadd : o.op.addr = none := by
  cases ho : o.op <;> rw [ho] at h <;> first | rfl | simp [zn.isValue] at h
 refine A7 (h := B5 (fun s => (BE C o.op (s.val LP)).map fun v => (v, s)) fun v => R7 o.dst v) (fun s => ?_) (Ai.bind (EH fun s r hag => cN C o.op fun x hx => hag.val LP (gA o hx)) fun v => C7 (fun d hd => ?_) v)
 ·rw [Au LP hadd, Ru LP C g o.dst h]
  unfold B5
  cases hv : BE C o.op (s.val LP) with
  | none => simp only [hv]; rfl
  | some v => simp only [hv, Option.map_some, Option.bind_some]; exact BS _ _ _
 ·exact .inr (.inl (by rw [Yj h]; exact nR hd))
theorem lK (C : AM) (g : Nat) {x : Opd} {dst : Option Nat} {guard : Option (Nat × Bool)} {root : Option (Option Nat)} :
  C4 (Ea LP C g { dst, op := .move x true, guard, root }) (AD.foot { dst, op := .move x true, guard, root }) := by
 refine A7 (h := B5 (LS LP x) fun v => R7 dst v) (fun s => ?_) (Ai.bind (Jy LP fun t ht => ?_) fun v => C7 (fun d hd => ?_) v)
 ·rw [Au LP rfl]
  simp only [evalOp, B5, LS]
  exact BS _ _ _
 ·subst ht; exact .inr (.inl (by simp [AD.foot, Opd.tmp?]))
 ·subst hd; exact .inr (.inl (by simp [AD.foot]))
theorem eg (C : AM) (g : Nat) {sz q : Nat} {x y : Opd} {dst : Option Nat} {guard : Option (Nat × Bool)} {root : Option (Option Nat)} :
  C4 (Ea LP C g { dst, op := .append sz q x y, guard, root }) (AD.foot { dst, op := .append sz q x y, guard, root }) := by
 refine A7 (h := B5 (LS LP x) fun v => B5 (rdV LP y) fun u => match A9 sz q v u with | some r => R7 dst r | none => fun _ => none) (fun s => ?_)
  (Ai.bind (Jy LP fun t ht => ?_) fun v => Ai.bind (Fh LP (gA { dst, op := .append sz q x y, guard, root } (by simp [zn.opds]))) fun u => ?_)
 ·rw [Au LP rfl]
  simp only [evalOp, B5, LS, rdV]
  cases A9 sz q (s.take LP x).1 ((s.take LP x).2.val LP y) with
  | none => rfl
  | some r => exact BS _ _ _
 ·subst ht; exact .inr (.inl (by simp [AD.foot, Opd.tmp?]))
 ·cases A9 sz q v u with
  | none => exact Ai.fail
  | some r => exact C7 (fun d hd => by subst hd; exact .inr (.inl (by simp [AD.foot]))) r
theorem MS {d : Nat} (hd : d ∈ F.wb) (sl : A6) : Ai (fun s => some ((), { s with env := s.env.set d sl })) F := by
 have := Kx (F := F) (d := d) (.inr (.inr hd)) sl (fun _ => true) (fun _ h => absurd hd h)
 simpa using this
theorem iS (C : AM) (g : Nat) {zs : List DV} {dst : Option Nat} {guard : Option (Nat × Bool)} {root : Option (Option Nat)} :
  C4 (Ea LP C g { dst, op := .alloc zs, guard, root }) (AD.foot { dst, op := .alloc zs, guard, root }) := by
 cases dst with
 | none => exact A7 (h := fun _ => none) (fun s => by rw [Au LP rfl]; rfl) Ai.fail
 | some d => exact A7 (h := fun s => some ((), { s with env := s.env.set d (.box g (zs.map .d)) })) (fun s => by rw [Au LP rfl]; rfl) (MS (by simp [AD.foot]) _)
theorem gK (C : AM) (g : Nat) {n : Nat} {dst : Option Nat} {guard : Option (Nat × Bool)} {root : Option (Option Nat)} :
  C4 (Ea LP C g { dst, op := .mkmap n, guard, root }) (AD.foot { dst, op := .mkmap n, guard, root }) := by
 cases dst with
 | none => exact A7 (h := fun _ => none) (fun s => by rw [Au LP rfl]; rfl) Ai.fail
 | some d => exact A7 (h := fun s => some ((), { s with env := s.env.set d (.mapo g n []) })) (fun s => by rw [Au LP rfl]; rfl) (MS (by simp [AD.foot]) _)
theorem nG (C : AM) (g : Nat) {n : Nat} {x : Opd} {dst : Option Nat} {guard : Option (Nat × Bool)} {root : Option (Option Nat)} :
  C4 (Ea LP C g { dst, op := .box n x, guard, root }) (AD.foot { dst, op := .box n x, guard, root }) := by
 cases dst with
 | none => exact A7 (h := fun _ => none) (fun s => by rw [Au LP rfl]; rfl) Ai.fail
 | some d =>
  refine A7 (h := B5 (rdV LP x) fun v => match v.known with
   | some cs => if cs.length = n ∧ cs.all LV.cellOk then (fun s => some ((), { s with env := s.env.set d (.box g cs) })) else fun _ => none
   | none => fun _ => none) (fun s => ?_) (Ai.bind (Fh LP (gA { dst := some d, op := .box n x, guard, root } (by simp [zn.opds]))) fun v => ?_)
  ·rw [Au LP rfl]
   simp only [evalOp, B5, rdV]
   cases (s.val LP x).known with
   | none => rfl
   | some cs => simp only; split <;> rfl
  ·cases v.known with
   | none => exact Ai.fail
   | some cs =>
    simp only
    split
    ·exact MS (by simp [AD.foot]) _
    ·exact Ai.fail
theorem bU (C : AM) (g : Nat) {i : Nat} {x : Opd} {take : Bool} {dst : Option Nat} {guard : Option (Nat × Bool)} {root : Option (Option Nat)} :
  C4 (Ea LP C g { dst, op := .extract i x take, guard, root }) (AD.foot { dst, op := .extract i x take, guard, root }) := by
 cases x with
 | con v => exact A7 (h := fun _ => none) (fun s => by rw [Au LP rfl]; rfl) Ai.fail
 | glob v => exact A7 (h := fun _ => none) (fun s => by rw [Au LP rfl]; rfl) Ai.fail
 | tmp t =>
  let F := AD.foot { dst, op := .extract i (.tmp t) take, guard, root }
  have hs : F.Sees (.tmp t) := gA { dst, op := .extract i (.tmp t) take, guard, root } (by simp [zn.opds])
  have hd : ∀ d, dst = some d → F.D d := fun d hd => .inr (.inl (by subst hd; cases take <;> simp [F, AD.foot]))
  refine A7 (h := B5 (fun s => some (s.env.get t, s)) fun sl => match sl with
   | some (.v (.d (.tup cs))) => match cs[i]? with
    | some y => R7 dst (.d y)
    | none => fun _ => none
   | some (.v (.tup cs)) => match take, cs[i]? with
    | true, some (.hot z xs) => B5 (fun s => if okV (s.env.get t) = true then some ((), { s with env := s.env.set t (.v (.tup (cs.set i (.d (.slice z xs))))) }) else none) fun _ => R7 dst (.hot z xs)
    | _, some y => R7 dst y.copy
    | _, none => fun _ => none
   | _ => fun _ => none) (fun s => ?_) (Ai.bind ?_ fun sl => ?_)
  ·rw [Au LP rfl]
   simp only [evalOp, B5]
   cases hg : s.env.get t with
   | none => rfl
   | some sl =>
    cases sl with
    | box => rfl
    | mapo => rfl
    | v y =>
     cases y with
     | d y =>
      cases y with
      | tup cs => simp only; cases cs[i]? with
       | none => rfl
       | some y => exact BS _ _ _
      | _ => rfl
     | tup cs =>
      cases take with
      | false =>
       simp only
       cases cs[i]? with
       | none => rfl
       | some y => exact BS _ _ _
      | true =>
       simp only
       cases hc : cs[i]? with
       | none => rfl
       | some y =>
        cases y with
        | hot z xs =>
         simp only [B5, hg, okV, if_true]
         exact BS _ _ _
        | d y => exact BS _ _ _
        | full a b => exact BS _ _ _
        | ptr a b c e => exact BS _ _ _
        | mref a b c => exact BS _ _ _
        | agg a => exact BS _ _ _
        | tup a => exact BS _ _ _
        | fn a b c => exact BS _ _ _
        | fptr a b => exact BS _ _ _
        | yield a b => exact BS _ _ _
     | _ => rfl
  ·exact EH (F := F) (f := fun s => some (s.env.get t)) fun s r h => by rw [h.here t (by cases take; exact .inr (List.mem_singleton.2 rfl); exact .inl (.inl (.inr (.inl (List.mem_append_left _ (List.mem_singleton.2 rfl))))))]
  ·split
   ·split
    ·exact C7 hd _
    ·exact Ai.fail
   ·split
    ·exact Ai.bind (Kx (F := F) (d := t) (.inr (.inl (by simp [F, AD.foot, Opd.tmp?]))) _ okV (fun _ _ => ⟨ni, trivial⟩)) fun _ => C7 hd _
    ·exact C7 hd _
    ·exact Ai.fail
   ·exact Ai.fail
end
end Go.Lf
