/- A part of the proof. -/
import Derived.Test.YtohgomfnigdaoaaDoory0
set_option linter.all false
namespace Go.Lf
open Go
theorem C3 (t u : Nat) (s : BQ) (e : Env) : (Env.set t s e).get u = if u = t then some s else e.get u := by
 induction e with
 | nil =>
  simp only [Env.set, Env.get]
  by_cases h : t = u
  ·subst h; simp
  ·rw [if_neg h, if_neg (fun h' => h h'.symm)]
 | cons p r ih =>
  obtain ⟨v, x⟩ := p
  simp only [Env.set]
  by_cases h : v = t
  ·subst h
   simp only [if_pos, Env.get]
   by_cases h : v = u
   ·subst h; simp
   ·rw [if_neg h, if_neg (fun h' => h h'.symm), if_neg h]
  ·rw [if_neg h]
   simp only [Env.get]
   by_cases h' : v = u
   ·subst h'; rw [if_pos rfl, if_neg h, if_pos rfl]
   ·rw [if_neg h', if_neg h', ih]
theorem ML (vis : List Nat) (e e' : Env) (t : Nat) :
  (Env.merge vis e e').get t = if vis.contains t then (if (e.get t).isSome then e'.get t else none) else e.get t := by
 induction e with
 | nil => simp [Env.merge, Env.get]
 | cons p r ih =>
  obtain ⟨u, x⟩ := p
  unfold Env.merge at ih ⊢
  rw [List.filterMap_cons]
  by_cases hu : u = t
  ·subst hu
   by_cases hv : vis.contains u = true
   ·simp only [hv, if_true, Env.get, Option.isSome_some] at ih ⊢
    cases he : e'.get u with
    | none => simp only [Option.map_none]; rw [ih, he]; split <;> rfl
    | some s => simp [Env.get]
   ·simp only [hv, Env.get, if_true, Bool.false_eq_true, if_false]
  ·have hg : Env.get t ((u, x) :: r) = Env.get t r := by simp [Env.get, hu]
   rw [hg, ← ih]
   by_cases hv : vis.contains u = true
   ·simp only [hv, if_true]
    cases he : e'.get u with
    | none => simp only [Option.map_none]
    | some s => simp [Env.get, hu]
   ·simp only [hv, Bool.false_eq_true, if_false, Env.get, hu]
theorem Ye {ks : List Nat} {e e' : Env} (h : ∀ t ∈ ks, e.get t = e'.get t) : e.keep ks = e'.keep ks := by
 unfold Env.keep
 induction ks with
 | nil => rfl
 | cons k ks ih =>
  rw [List.filterMap_cons, List.filterMap_cons, h k (by simp), ih fun t ht => h t (by simp [ht])]
def Opd.tmp? : Opd → List Nat
 | .tmp t => [t]
 | _ => []
def LOp.opds : LOp → List Opd
 | .move x _ | .box _ x | .load _ x _ | .faddr _ x | .field _ _ x | .un _ x | .len x | .extract _ x _ => [x]
 | .pick a b c | .mapset _ a b c | .mstore _ a b c => [a, b, c]
 | .build _ ps | .lit _ _ _ ps => ps.map (·.2.2)
 | .store _ x y | .iaddrS _ x y | .iaddrA _ _ x y | .index _ _ _ x y | .bin _ x y | .eqb _ x y | .eqa _ _ x y | .append _ _ x y | .lookup _ x y _ _ | .mentry _ x y _ => [x, y]
 | .call f as _ => f :: as
 | .minmax _ xs => xs
 | .slice _ x a b c => x :: (a.toList ++ b.toList ++ c.toList)
 | .mkfn _ a b => a ++ b
 | .alloc _ | .mkmap _ | .bad => []
structure IJ where
 rd : List Nat
 wv : List Nat := []
 wb : List Nat := []
 all : Bool := false
 bar : Bool := false
 lw : Bool := false
def own (root : Option (Option Nat)) : List Nat := match root with
 | some (some r) => [r]
 | _ => []
def AH.foot (o : AH) : IJ :=
 let rd := o.op.opds.flatMap Opd.tmp? ++ (match o.guard with | some (t, _) => [t] | none => [])
 let d := o.dst.toList
 match o.op with
 | .move x true => { rd, wv := x.tmp? ++ d }
 | .append _ _ x _ => { rd, wv := x.tmp? ++ d }
 | .extract _ x true => { rd, wv := x.tmp? ++ d }
 | .alloc _ | .box _ _ | .mkmap _ => { rd, wb := d }
 | .load _ _ false | .lookup _ _ _ _ _ => match o.root with
  | none => { rd, wv := d, all := true }
  | some _ => { rd := own o.root ++ rd, wv := d }
 | .load _ _ true => match o.root with
  | none => { rd, bar := true }
  | some _ => { rd, wb := own o.root, wv := d }
 | .store _ _ x => match o.root with
  | none => { rd, bar := true }
  | some _ => { rd, wb := own o.root, wv := x.tmp? ++ d }
 | .mapset _ _ _ x | .mstore _ _ _ x => match o.root with
  | none => { rd, bar := true }
  | some _ => { rd, wb := own o.root, wv := x.tmp? ++ d }
 | .mentry _ _ _ _ => match o.root with
  | none => { rd, bar := true }
  | some _ => { rd, wb := own o.root, wv := d }
 | .call _ _ (some vis) => { rd, wb := vis, wv := d, lw := true }
 | _ => { rd, wv := d }
def uC (a b : List Nat) : Bool := a.all fun t => !b.contains t
def IJ.apart (p q : IJ) : Bool :=
 !p.bar && !q.bar && uC (p.wv ++ p.wb) (q.rd ++ q.wv ++ q.wb) && uC (q.wv ++ q.wb) (p.rd ++ p.wv ++ p.wb) &&
 (!p.all || (q.wb.isEmpty && !q.lw)) && (!q.all || (p.wb.isEmpty && !p.lw)) && !(p.lw && q.lw)
def isV : Option BQ → Prop
 | some (.box _ _) | some (.mapo _ _ _) => False
 | _ => True
def IJ.W (F : IJ) (t : Nat) : Prop := F.bar = true ∨ t ∈ F.wv ∨ t ∈ F.wb
structure IJ.Agree (F : IJ) (s r : St) : Prop where
 len : s.low.length = r.low.length
 here : ∀ t, F.bar = true ∨ t ∈ F.rd ∨ t ∈ F.wv ∨ t ∈ F.wb → s.env.get t = r.env.get t
 boxes : F.all = true → ∀ t, s.env.get t = r.env.get t ∨ (isV (s.env.get t) ∧ isV (r.env.get t))
 low : F.all = true ∨ F.lw = true ∨ F.bar = true → s.low = r.low
 ctr : F.lw = true ∨ F.bar = true → s.ctr = r.ctr
structure IJ.Turns (F : IJ) (s s' : St) : Prop where
 len : s'.low.length = s.low.length
 out : ∀ t, ¬ F.W t → s'.env.get t = s.env.get t
 val : F.bar = false → ∀ t, t ∉ F.wb → s'.env.get t = s.env.get t ∨ (isV (s.env.get t) ∧ isV (s'.env.get t))
 low : F.bar = false → F.lw = false → s'.low = s.low
 ctr : F.bar = false → F.lw = false → s'.ctr = s.ctr
structure IJ.Same (F : IJ) (s' r' : St) : Prop where
 env : ∀ t, F.W t → s'.env.get t = r'.env.get t
 low : F.bar = true ∨ F.lw = true → s'.low = r'.low
 ctr : F.bar = true ∨ F.lw = true → s'.ctr = r'.ctr
structure Dm (f : St → Option St) (F : IJ) : Prop where
 turns : ∀ s s', f s = some s' → F.Turns s s'
 same : ∀ s s' r, f s = some s' → F.Agree s r → ∃ r', f r = some r' ∧ F.Same s' r'
structure Zz (s r : St) : Prop where
 env : ∀ t, s.env.get t = r.env.get t
 low : s.low = r.low
 ctr : s.ctr = r.ctr
theorem Zz.refl (s : St) : Zz s s := ⟨fun _ => rfl, rfl, rfl⟩
theorem Zz.symm {s r : St} (h : Zz s r) : Zz r s := ⟨fun t => (h.env t).symm, h.low.symm, h.ctr.symm⟩
theorem Zz.trans {a b c : St} (h : Zz a b) (h' : Zz b c) : Zz a c := ⟨fun t => (h.env t).trans (h'.env t), h.low.trans h'.low, h.ctr.trans h'.ctr⟩
theorem Zz.agree {s r : St} (h : Zz s r) (F : IJ) : F.Agree s r := ⟨by rw [h.low], fun t _ => h.env t, fun _ t => .inl (h.env t), fun _ => h.low, fun _ => h.ctr⟩
theorem Dm.congr {f : St → Option St} {F : IJ} (h : Dm f F) {s r s' : St} (he : Zz s r) (hs : f s = some s') : ∃ r', f r = some r' ∧ Zz s' r' := by
 obtain ⟨r', hr, hsame⟩ := h.same s s' r hs (he.agree F)
 have t1 := h.turns s s' hs
 have t2 := h.turns r r' hr
 refine ⟨r', hr, fun t => ?_, ?_, ?_⟩
 ·by_cases hw : F.W t
  ·exact hsame.env t hw
  ·rw [t1.out t hw, t2.out t hw]; exact he.env t
 ·by_cases hb : F.bar = true ∨ F.lw = true
  ·exact hsame.low hb
  ·simp only [not_or, Bool.not_eq_true] at hb
   rw [t1.low hb.1 hb.2, t2.low hb.1 hb.2]; exact he.low
 ·by_cases hb : F.bar = true ∨ F.lw = true
  ·exact hsame.ctr hb
  ·simp only [not_or, Bool.not_eq_true] at hb
   rw [t1.ctr hb.1 hb.2, t2.ctr hb.1 hb.2]; exact he.ctr
theorem Oo {a b : List Nat} (h : uC a b = true) : ∀ t, t ∈ a → t ∉ b := by
 intro t ht hb
 simp only [uC, List.all_eq_true, Bool.not_eq_true', List.contains_eq_mem, decide_eq_false_iff_not] at h
 exact h t ht hb
theorem uf {F : IJ} (hb : F.bar = false) {t : Nat} (h : t ∉ F.wv) (h' : t ∉ F.wb) : ¬ F.W t := by
 rintro (h1 | h1 | h1)
 ·rw [hb] at h1; simp at h1
 ·exact h h1
 ·exact h' h1
theorem mF {p q : IJ} {s s1 : St} (hp : p.bar = false) (hq : q.bar = false) (hd : uC (p.wv ++ p.wb) (q.rd ++ q.wv ++ q.wb) = true)
  (ha : q.all = true → p.wb = [] ∧ p.lw = false) (hl : ¬ (p.lw = true ∧ q.lw = true)) (ht : p.Turns s s1) : q.Agree s1 s := by
 have hd' := Oo hd
 refine ⟨ht.len, fun t h => ?_, fun hqa t => ?_, fun h => ?_, fun h => ?_⟩
 ·have hin : t ∈ q.rd ++ q.wv ++ q.wb := by
   simp only [List.mem_append]
   rcases h with h | h | h | h
   ·rw [hq] at h; simp at h
   ·exact .inl (.inl h)
   ·exact .inl (.inr h)
   ·exact .inr h
  refine ht.out t (uf hp (fun h' => hd' t (by simp [h']) hin) fun h' => hd' t (by simp [h']) hin)
 ·obtain ⟨h1, h2⟩ := ha hqa
  exact (ht.val hp t (by rw [h1]; simp)).imp id fun h => ⟨h.2, h.1⟩
 ·have hplw : p.lw = false := by
   rcases h with h | h | h
   ·exact (ha h).2
   ·cases hpl : p.lw
    ·rfl
    ·exact absurd ⟨hpl, h⟩ hl
   ·rw [hq] at h; simp at h
  exact ht.low hp hplw
 ·have hplw : p.lw = false := by
   rcases h with h | h
   ·cases hpl : p.lw
    ·rfl
    ·exact absurd ⟨hpl, h⟩ hl
   ·rw [hq] at h; simp at h
  exact ht.ctr hp hplw
theorem XT {p q : IJ} (h : p.apart q = true) : p.bar = false ∧ q.bar = false ∧ uC (p.wv ++ p.wb) (q.rd ++ q.wv ++ q.wb) = true ∧
  uC (q.wv ++ q.wb) (p.rd ++ p.wv ++ p.wb) = true ∧ (p.all = true → q.wb = [] ∧ q.lw = false) ∧ (q.all = true → p.wb = [] ∧ p.lw = false) ∧ ¬ (p.lw = true ∧ q.lw = true) := by
 unfold IJ.apart at h
 simp only [Bool.and_eq_true, Bool.not_eq_true', Bool.or_eq_true, List.isEmpty_iff] at h
 obtain ⟨⟨⟨⟨⟨⟨h1, h2⟩, h3⟩, h4⟩, h5⟩, h6⟩, h7⟩ := h
 refine ⟨h1, h2, h3, h4, fun ha => ?_, fun ha => ?_, fun hl => ?_⟩
 ·rcases h5 with h5 | h5
  ·rw [ha] at h5; simp at h5
  ·exact h5
 ·rcases h6 with h6 | h6
  ·rw [ha] at h6; simp at h6
  ·exact h6
 ·rw [hl.1, hl.2] at h7; simp at h7
theorem Dm.swap {f h : St → Option St} {p q : IJ} (lf : Dm f p) (lh : Dm h q) (ha : p.apart q = true) {s s1 s2 : St} (h1 : f s = some s1) (h2 : h s1 = some s2) :
  ∃ r1 r2, h s = some r1 ∧ f r1 = some r2 ∧ Zz s2 r2 := by
 obtain ⟨hp, hq, d1, d2, a1, a2, hl⟩ := XT ha
 have t1 := lf.turns s s1 h1
 obtain ⟨r1, hr1, same1⟩ := lh.same s1 s2 s h2 (mF hp hq d1 a2 hl t1)
 have u1 := lh.turns s1 s2 h2
 have u2 := lh.turns s r1 hr1
 have hag : p.Agree r1 s := mF hq hp d2 a1 (fun h => hl ⟨h.2, h.1⟩) u2
 obtain ⟨r2, hr2, same2⟩ := lf.same s s1 r1 h1 ⟨hag.len.symm, fun t ht => (hag.here t ht).symm, fun ha t => (hag.boxes ha t).imp (·.symm) (·.symm), fun h => (hag.low h).symm, fun h => (hag.ctr h).symm⟩
 have u3 := lf.turns r1 r2 hr2
 refine ⟨r1, r2, hr1, hr2, fun t => ?_, ?_, ?_⟩
 ·by_cases hqt : q.W t
  ·have hpt : ¬ p.W t := by
    rcases hqt with h | h | h
    ·rw [hq] at h; simp at h
    ·exact uf hp (fun h' => Oo d1 t (by simp [h']) (by simp [h])) fun h' => Oo d1 t (by simp [h']) (by simp [h])
    ·exact uf hp (fun h' => Oo d1 t (by simp [h']) (by simp [h])) fun h' => Oo d1 t (by simp [h']) (by simp [h])
   rw [same1.env t hqt, u3.out t hpt]
  ·rw [u1.out t hqt]
   by_cases hpt : p.W t
   ·exact same2.env t hpt
   ·rw [t1.out t hpt, u3.out t hpt, u2.out t hqt]
 ·cases hpl : p.lw with
  | true =>
   have hql : q.lw = false := by cases hq' : q.lw; rfl; exact absurd ⟨hpl, hq'⟩ hl
   rw [u1.low hq hql]; exact same2.low (.inr hpl)
  | false =>
   rw [u3.low hp hpl]
   cases hql : q.lw with
   | true => exact same1.low (.inr hql)
   | false => rw [u1.low hq hql, u2.low hq hql, t1.low hp hpl]
 ·cases hpl : p.lw with
  | true =>
   have hql : q.lw = false := by cases hq' : q.lw; rfl; exact absurd ⟨hpl, hq'⟩ hl
   rw [u1.ctr hq hql]; exact same2.ctr (.inr hpl)
  | false =>
   rw [u3.ctr hp hpl]
   cases hql : q.lw with
   | true => exact same1.ctr (.inr hql)
   | false => rw [u1.ctr hq hql, u2.ctr hq hql, t1.ctr hp hpl]
end Go.Lf
namespace Go.Lf
open Go
structure Ah {α : Type} (f : St → Option (α × St)) (F : IJ) : Prop where
 turns : ∀ s a s', f s = some (a, s') → F.Turns s s'
 same : ∀ s a s' r, f s = some (a, s') → F.Agree s r → ∃ r', f r = some (a, r') ∧ F.Same s' r'
def CY {α β : Type} (f : St → Option (α × St)) (k : α → St → Option (β × St)) : St → Option (β × St) := fun s => match f s with
 | some (a, s') => k a s'
 | none => none
theorem IJ.Turns.refl {F : IJ} (s : St) : F.Turns s s := ⟨rfl, fun _ _ => rfl, fun _ _ _ => .inl rfl, fun _ _ => rfl, fun _ _ => rfl⟩
theorem IJ.Turns.trans {F : IJ} {a b c : St} (h : F.Turns a b) (h' : F.Turns b c) : F.Turns a c where
 len := h'.len.trans h.len
 out t ht := (h'.out t ht).trans (h.out t ht)
 val hb t ht := by
  rcases h.val hb t ht with e | ⟨e1, e2⟩
  ·rcases h'.val hb t ht with e' | ⟨e1', e2'⟩
   ·exact .inl (e'.trans e)
   ·exact .inr ⟨by rw [← e]; exact e1', e2'⟩
  ·rcases h'.val hb t ht with e' | ⟨_, e2'⟩
   ·exact .inr ⟨e1, by rw [e']; exact e2⟩
   ·exact .inr ⟨e1, e2'⟩
 low hb hl := (h'.low hb hl).trans (h.low hb hl)
 ctr hb hl := (h'.ctr hb hl).trans (h.ctr hb hl)
theorem IJ.Agree.step {F : IJ} {s r s' r' : St} (h : F.Agree s r) (t1 : F.Turns s s') (t2 : F.Turns r r') (hs : F.Same s' r') : F.Agree s' r' where
 len := by rw [t1.len, t2.len]; exact h.len
 here t ht := by
  by_cases hw : F.W t
  ·exact hs.env t hw
  ·rw [t1.out t hw, t2.out t hw]; exact h.here t ht
 boxes ha t := by
  by_cases hw : F.W t
  ·exact .inl (hs.env t hw)
  ·rw [t1.out t hw, t2.out t hw]; exact h.boxes ha t
 low hh := by
  by_cases hb : F.bar = true ∨ F.lw = true
  ·exact hs.low hb
  ·simp only [not_or, Bool.not_eq_true] at hb
   rw [t1.low hb.1 hb.2, t2.low hb.1 hb.2]; exact h.low hh
 ctr hh := by
  by_cases hb : F.bar = true ∨ F.lw = true
  ·exact hs.ctr hb
  ·rcases hh with h | h
   ·exact absurd (.inr h) hb
   ·exact absurd (.inl h) hb
theorem IJ.Agree.same {F : IJ} {s r : St} (h : F.Agree s r) : F.Same s r :=
 ⟨fun t ht => h.here t (by rcases ht with h | h | h; exact .inl h; exact .inr (.inr (.inl h)); exact .inr (.inr (.inr h))),
  fun hb => h.low (by rcases hb with h | h; exact .inr (.inr h); exact .inr (.inl h)), fun hb => h.ctr (by rcases hb with h | h; exact .inr h; exact .inl h)⟩
theorem Ah.bind {α β : Type} {F : IJ} {f : St → Option (α × St)} {k : α → St → Option (β × St)} (hf : Ah f F) (hk : ∀ a, Ah (k a) F) : Ah (CY f k) F where
 turns s b s' h := by
  unfold CY at h
  split at h
  ·rename_i a s1 h1
   exact (hf.turns s a s1 h1).trans ((hk a).turns s1 b s' h)
  ·simp at h
 same s b s' r h hag := by
  unfold CY at h
  split at h
  ·rename_i a s1 h1
   obtain ⟨r1, hr1, same1⟩ := hf.same s a s1 r h1 hag
   obtain ⟨r', hr', same'⟩ := (hk a).same s1 b s' r1 h (hag.step (hf.turns s a s1 h1) (hf.turns r a r1 hr1) same1)
   exact ⟨r', by unfold CY; rw [hr1]; exact hr', same'⟩
  ·simp at h
theorem Ah.fail {α : Type} {F : IJ} : Ah (fun _ => (none : Option (α × St))) F := ⟨fun _ _ _ h => by simp at h, fun _ _ _ _ h => by simp at h⟩
theorem Ah.ret {α : Type} {F : IJ} (a : α) : Ah (fun s => some (a, s)) F :=
 ⟨fun s _ s' h => by simp only [Option.some.injEq, Prod.mk.injEq] at h; rw [← h.2]; exact .refl s,
  fun s _ s' r h hag => by simp only [Option.some.injEq, Prod.mk.injEq] at h; obtain ⟨rfl, rfl⟩ := h; exact ⟨r, rfl, hag.same⟩⟩
theorem E3 {α : Type} {F : IJ} {f : St → Option α} (h : ∀ s r, F.Agree s r → f s = f r) : Ah (fun s => (f s).map fun a => (a, s)) F :=
 ⟨fun s _ s' h => by simp only [Option.map_eq_some_iff, Prod.mk.injEq] at h; obtain ⟨_, _, _, rfl⟩ := h; exact .refl s,
  fun s _ s' r hs hag => by
   simp only [Option.map_eq_some_iff, Prod.mk.injEq] at hs
   obtain ⟨a, ha, rfl, rfl⟩ := hs
   exact ⟨r, by rw [← h s r hag, ha]; rfl, hag.same⟩⟩
theorem qP {F : IJ} {f : St → Option St} (h : Ah (fun s => (f s).map fun s' => ((), s')) F) : Dm f F :=
 ⟨fun s s' hs => h.turns s () s' (by simp [hs]), fun s s' r hs hag => by
  obtain ⟨r', hr, hsame⟩ := h.same s () s' r (by simp [hs]) hag
  simp only [Option.map_eq_some_iff, Prod.mk.injEq, true_and, exists_eq_right] at hr
  exact ⟨r', hr, hsame⟩⟩
section
variable (LP : A6) {F : IJ}
theorem MF {d : Nat} (hd : F.W d) (sl : BQ) (ok : Option BQ → Bool) (hv : F.bar = false → d ∉ F.wb → (∀ x, ok x = true → isV x) ∧ isV (some sl)) :
  Ah (fun s => if ok (s.env.get d) = true then some ((), { s with env := s.env.set d sl }) else none) F where
 turns s a s' h := by
  split at h
  ·rename_i hok
   simp only [Option.some.injEq, Prod.mk.injEq, true_and] at h
   subst h
   refine ⟨rfl, fun t ht => ?_, fun hb t ht => ?_, fun _ _ => rfl, fun _ _ => rfl⟩
   ·simp only [C3]
    rw [if_neg (fun e : t = d => ht (by rw [e]; exact hd))]
   ·simp only [C3]
    by_cases hdt : t = d
    ·subst hdt
     rw [if_pos rfl]
     obtain ⟨h1, h2⟩ := hv hb ht
     exact .inr ⟨h1 _ hok, h2⟩
    ·rw [if_neg hdt]; exact .inl rfl
  ·simp at h
 same s a s' r h hag := by
  split at h
  ·rename_i hok
   simp only [Option.some.injEq, Prod.mk.injEq, true_and] at h
   subst h
   have he := hag.same.env d hd
   refine ⟨{ r with env := r.env.set d sl }, by rw [← he, if_pos hok], fun t ht => ?_, fun hb => hag.same.low hb, fun hb => hag.same.ctr hb⟩
   simp only [C3]
   by_cases hdt : t = d
   ·rw [if_pos hdt, if_pos hdt]
   ·rw [if_neg hdt, if_neg hdt]; exact hag.same.env t ht
  ·simp at h
def okV : Option BQ → Bool
 | some (.box _ _) | some (.mapo _ _ _) => false
 | _ => true
theorem qZ (x : Option BQ) (h : okV x = true) : isV x := by
 cases x with
 | none => trivial
 | some y => cases y <;> first | trivial | simp [okV] at h
def VB (dst : Option Nat) (v : LV) (s : St) : Option (Unit × St) := (s.put dst v).map fun s' => ((), s')
theorem Dq {dst : Option Nat} (hd : ∀ d, dst = some d → F.W d) (v : LV) : Ah (VB dst v) F := by
 cases dst with
 | none => exact Ah.ret ()
 | some d =>
  have := MF (F := F) (hd d rfl) (.v v) okV (fun _ _ => ⟨qZ, trivial⟩)
  have he : VB (some d) v = fun s => if okV (s.env.get d) = true then some ((), { s with env := s.env.set d (.v v) }) else none := by
   funext s
   cases he : s.env.get d with
   | none => simp [VB, St.put, okV, he]
   | some sl => cases sl <;> simp [VB, St.put, okV, he]
  rw [he]; exact this
def IJ.Sees (F : IJ) (x : Opd) : Prop := ∀ t, x = .tmp t → t ∈ F.rd ∨ t ∈ F.wv ∨ t ∈ F.wb
theorem IJ.Agree.slot {s r : St} (h : F.Agree s r) {t : Nat} (ht : t ∈ F.rd ∨ t ∈ F.wv ∨ t ∈ F.wb) : s.slot t = r.slot t := by
 unfold St.slot
 rw [h.here t (.inr ht), h.len]
theorem IJ.Agree.val {s r : St} (h : F.Agree s r) {x : Opd} (hx : F.Sees x) : s.val LP x = r.val LP x := by
 cases x with
 | tmp t => exact h.slot (hx t rfl)
 | _ => rfl
def rdV (x : Opd) (s : St) : Option (LV × St) := some (s.val LP x, s)
theorem Gu {x : Opd} (hx : F.Sees x) : Ah (rdV LP x) F := by
 have := E3 (F := F) (f := fun s => some (s.val LP x)) fun s r h => by rw [h.val LP hx]
 exact this
def Nk (x : Opd) (s : St) : Option (LV × St) := some (s.take LP x)
theorem Lu {x : Opd} (hx : ∀ t, x = .tmp t → F.W t) : Ah (Nk LP x) F where
 turns s a s' h := by
  simp only [Nk, Option.some.injEq] at h
  have h' := congrArg Prod.snd h
  simp only at h'
  subst h'
  unfold St.take
  cases x with
  | tmp t =>
   simp only
   split
   ·rename_i z xs he
    refine ⟨rfl, fun u hu => ?_, fun hb u hu => ?_, fun _ _ => rfl, fun _ _ => rfl⟩
    ·simp only [C3]
     rw [if_neg (fun e : u = t => hu (by rw [e]; exact hx t rfl))]
    ·simp only [C3]
     by_cases hut : u = t
     ·subst hut; rw [if_pos rfl, he]; exact .inr ⟨trivial, trivial⟩
     ·rw [if_neg hut]; exact .inl rfl
   ·exact .refl s
  | con => exact .refl s
  | glob => exact .refl s
 same s a s' r h hag := by
  simp only [Nk, Option.some.injEq] at h
  have h1 := congrArg Prod.fst h
  have h2 := congrArg Prod.snd h
  simp only at h1 h2
  subst h1; subst h2
  unfold Nk St.take
  cases x with
  | tmp t =>
   have he := hag.same.env t (hx t rfl)
   have hsl : s.slot t = r.slot t := by unfold St.slot; rw [he, hag.len]
   simp only
   cases hg : s.env.get t with
   | none => rw [hg] at he; rw [← he]; simp only; rw [hsl]; exact ⟨r, rfl, hag.same⟩
   | some sl =>
    rw [hg] at he; rw [← he]
    cases sl with
    | v x =>
     cases x with
     | hot z xs =>
      refine ⟨_, rfl, fun u hu => ?_, hag.same.low, hag.same.ctr⟩
      simp only [C3]
      by_cases hut : u = t
      ·rw [if_pos hut, if_pos hut]
      ·rw [if_neg hut, if_neg hut]; exact hag.same.env u hu
     | _ => simp only; rw [hsl]; exact ⟨r, rfl, hag.same⟩
    | box => simp only; rw [hsl]; exact ⟨r, rfl, hag.same⟩
    | mapo => simp only; rw [hsl]; exact ⟨r, rfl, hag.same⟩
  | con => exact ⟨r, rfl, hag.same⟩
  | glob => exact ⟨r, rfl, hag.same⟩
def IJ.Rooted (F : IJ) (root : Option (Option Nat)) : Prop := match root with
 | none => F.all = true ∨ F.bar = true
 | some (some q) => q ∈ F.rd ∨ q ∈ F.wv ∨ q ∈ F.wb
 | some none => True
theorem V7 {s r : St} {j t : Nat} (h : s.at j t = r.at j t ∨ (isV (s.at j t) ∧ isV (r.at j t))) (g n : Nat) : s.cells j t g = r.cells j t g ∧ s.entries j t g n = r.entries j t g n := by
 unfold St.cells St.entries
 rcases h with h | ⟨h1, h2⟩
 ·rw [h]; exact ⟨rfl, rfl⟩
 ·generalize s.at j t = x at h1 ⊢
  generalize r.at j t = y at h2 ⊢
  cases x with
  | none =>
   cases y with
   | none => exact ⟨rfl, rfl⟩
   | some y => cases y <;> first | exact ⟨rfl, rfl⟩ | simp [isV] at h2
  | some x =>
   cases x <;> first | (simp [isV] at h1; done) | skip
   cases y with
   | none => exact ⟨rfl, rfl⟩
   | some y => cases y <;> first | exact ⟨rfl, rfl⟩ | simp [isV] at h2
theorem IJ.Agree.at {s r : St} (h : F.Agree s r) {root : Option (Option Nat)} (hr : F.Rooted root) {j t : Nat} (hk : ∀ q, root = some q → j = s.low.length ∧ q = some t) :
  s.at j t = r.at j t ∨ (isV (s.at j t) ∧ isV (r.at j t)) := by
 unfold St.at
 rw [← h.len]
 cases root with
 | none =>
  by_cases hj : j = s.low.length
  ·rw [if_pos hj, if_pos hj]
   rcases hr with ha | hb
   ·exact h.boxes ha t
   ·exact .inl (h.here t (.inl hb))
  ·rw [if_neg hj, if_neg hj, h.low (by rcases hr with ha | hb; exact .inl ha; exact .inr (.inr hb))]
   exact .inl rfl
 | some q =>
  obtain ⟨h1, h2⟩ := hk q rfl
  subst h2
  rw [if_pos h1, if_pos h1]
  exact .inl (h.here t (.inr hr))
def zN (j t g : Nat) (s : St) : Option (List LV × St) := (s.cells j t g).map fun cs => (cs, s)
def wq (j t g n : Nat) (s : St) : Option (List (List Int × LV) × St) := (s.entries j t g n).map fun cs => (cs, s)
def uc (root : Option (Option Nat)) (x : LV) (s : St) : Option (Unit × St) := if Au s.low.length root (some x) then some ((), s) else none
theorem uM {root : Option (Option Nat)} {x : LV} : Ah (uc root x) F := by
 have := E3 (F := F) (f := fun s => if Au s.low.length root (some x) then some () else none) fun s r h => by rw [h.len]
 have he : uc root x = fun s => (if Au s.low.length root (some x) then some () else none).map fun a => (a, s) := by
  funext s; unfold uc; split <;> rfl
 rw [he]; exact this
end
end Go.Lf
namespace Go.Lf
open Go
section
variable (LP : A6) {F : IJ}
theorem qJ (s : St) (j t : Nat) (sl : BQ) : (s.setAt j t sl).low.length = s.low.length := by
 unfold St.setAt; split <;> simp
def IJ.Holds (F : IJ) (root : Option (Option Nat)) : Prop := match root with
 | none => F.bar = true
 | some (some q) => q ∈ F.wb
 | some none => True
theorem IJ.Holds.rooted {root : Option (Option Nat)} (h : F.Holds root) : F.Rooted root := by
 cases root with
 | none => exact .inr h
 | some q => cases q with
  | none => trivial
  | some q => exact .inr (.inr h)
theorem Qs {k j t g off : Nat} {root : Option (Option Nat)} (h : Au k root (some (.ptr j t g off)) = true) : ∀ q, root = some q → j = k ∧ q = some t := by
 intro q hq
 subst hq
 simpa [Au] using h
theorem Qo {k j t g : Nat} {root : Option (Option Nat)} (h : Au k root (some (.mref j t g)) = true) : ∀ q, root = some q → j = k ∧ q = some t := by
 intro q hq
 subst hq
 simpa [Au] using h
theorem W1 {root : Option (Option Nat)} (hF : F.Holds root) {s : St} {j t : Nat} {sl : BQ} (hk : ∀ q, root = some q → j = s.low.length ∧ q = some t) : F.Turns s (s.setAt j t sl) := by
 cases root with
 | none => exact ⟨qJ s j t sl, fun u hu => absurd (.inl hF) hu, fun hb => by rw [hF] at hb; simp at hb, fun hb => by rw [hF] at hb; simp at hb, fun hb => by rw [hF] at hb; simp at hb⟩
 | some q =>
  obtain ⟨rfl, rfl⟩ := hk q rfl
  unfold St.setAt
  rw [if_pos rfl]
  refine ⟨rfl, fun u hu => ?_, fun hb u hu => .inl ?_, fun _ _ => rfl, fun _ _ => rfl⟩
  ·simp only [C3]
   rw [if_neg (fun e : u = t => hu (by rw [e]; exact .inr (.inr hF)))]
  ·simp only [C3]
   rw [if_neg (fun e : u = t => hu (by rw [e]; exact hF))]
theorem ae {root : Option (Option Nat)} (hF : F.Holds root) {s r : St} (h : F.Agree s r) {j t : Nat} {sl : BQ} (hk : ∀ q, root = some q → j = s.low.length ∧ q = some t) :
  F.Same (s.setAt j t sl) (r.setAt j t sl) := by
 cases root with
 | none =>
  have hl := h.low (.inr (.inr hF))
  unfold St.setAt
  rw [hl]
  split
  ·refine ⟨fun u hu => ?_, fun _ => rfl, h.same.ctr⟩
   simp only [C3]
   rw [h.here u (.inl hF)]
  ·exact ⟨fun u hu => h.here u (.inl hF), fun _ => rfl, h.same.ctr⟩
 | some q =>
  obtain ⟨rfl, rfl⟩ := hk q rfl
  unfold St.setAt
  rw [← h.len, if_pos rfl, if_pos rfl]
  refine ⟨fun u hu => ?_, h.same.low, h.same.ctr⟩
  simp only [C3]
  by_cases hut : u = t
  ·rw [if_pos hut, if_pos hut]
  ·rw [if_neg hut, if_neg hut]; exact h.same.env u hu
def N6 {α : Type} (root : Option (Option Nat)) (j t g off : Nat) (k : List LV → Option (α × List LV)) (s : St) : Option (α × St) :=
 if Au s.low.length root (some (.ptr j t g off)) = true then match s.cells j t g with
  | some cs => match k cs with
   | some (a, cs') => some (a, s.setAt j t (.box g cs'))
   | none => none
  | none => none
 else none
theorem VD {α : Type} {root : Option (Option Nat)} (hF : F.Holds root) (j t g off : Nat) (k : List LV → Option (α × List LV)) : Ah (N6 root j t g off k) F where
 turns s a s' h := by
  unfold N6 at h
  split at h
  ·rename_i hr
   split at h
   ·split at h
    ·simp only [Option.some.injEq, Prod.mk.injEq] at h
     rw [← h.2]
     exact W1 hF (Qs hr)
    ·simp at h
   ·simp at h
  ·simp at h
 same s a s' r h hag := by
  unfold N6 at h
  split at h
  ·rename_i hr
   have hk := Qs hr
   have hc := (V7 (hag.at hF.rooted hk) g 0).1
   split at h
   ·rename_i cs hcs
    split at h
    ·rename_i b cs' hkc
     simp only [Option.some.injEq, Prod.mk.injEq] at h
     obtain ⟨rfl, rfl⟩ := h
     refine ⟨r.setAt j t (.box g cs'), ?_, ae hF hag hk⟩
     unfold N6
     rw [← hag.len, if_pos hr, ← hc, hcs]
     simp only [hkc]
    ·simp at h
   ·simp at h
  ·simp at h
def Nh {α : Type} (root : Option (Option Nat)) (j t g n : Nat) (k : List (List Int × LV) → Option (α × List (List Int × LV))) (s : St) : Option (α × St) :=
 if Au s.low.length root (some (.mref j t g)) = true then match s.entries j t g n with
  | some es => match k es with
   | some (a, es') => some (a, s.setAt j t (.mapo g n es'))
   | none => none
  | none => none
 else none
theorem OU {α : Type} {root : Option (Option Nat)} (hF : F.Holds root) (j t g n : Nat) (k : List (List Int × LV) → Option (α × List (List Int × LV))) : Ah (Nh root j t g n k) F where
 turns s a s' h := by
  unfold Nh at h
  split at h
  ·rename_i hr
   split at h
   ·split at h
    ·simp only [Option.some.injEq, Prod.mk.injEq] at h
     rw [← h.2]
     exact W1 hF (Qo hr)
    ·simp at h
   ·simp at h
  ·simp at h
 same s a s' r h hag := by
  unfold Nh at h
  split at h
  ·rename_i hr
   have hk := Qo hr
   have hc := (V7 (hag.at hF.rooted hk) g n).2
   split at h
   ·rename_i cs hcs
    split at h
    ·rename_i b cs' hkc
     simp only [Option.some.injEq, Prod.mk.injEq] at h
     obtain ⟨rfl, rfl⟩ := h
     refine ⟨r.setAt j t (.mapo g n cs'), ?_, ae hF hag hk⟩
     unfold Nh
     rw [← hag.len, if_pos hr, ← hc, hcs]
     simp only [hkc]
    ·simp at h
   ·simp at h
  ·simp at h
def rI {α : Type} (root : Option (Option Nat)) (j t g off : Nat) (k : List LV → Option α) (s : St) : Option (α × St) :=
 (if Au s.low.length root (some (.ptr j t g off)) = true then (s.cells j t g).bind k else none).map fun a => (a, s)
theorem ja {α : Type} {root : Option (Option Nat)} (hF : F.Rooted root) (j t g off : Nat) (k : List LV → Option α) : Ah (rI root j t g off k) F := by
 refine E3 fun s r h => ?_
 rw [← h.len]
 split
 ·rename_i hr
  rw [(V7 (h.at hF (Qs hr)) g 0).1]
 ·rfl
def ud {α : Type} (root : Option (Option Nat)) (j t g n : Nat) (k : List (List Int × LV) → Option α) (s : St) : Option (α × St) :=
 (if Au s.low.length root (some (.mref j t g)) = true then (s.entries j t g n).bind k else none).map fun a => (a, s)
theorem j0 {α : Type} {root : Option (Option Nat)} (hF : F.Rooted root) (j t g n : Nat) (k : List (List Int × LV) → Option α) : Ah (ud root j t g n k) F := by
 refine E3 fun s r h => ?_
 rw [← h.len]
 split
 ·rename_i hr
  rw [(V7 (h.at hF (Qo hr)) g n).2]
 ·rfl
def E9 (C : AS) (g : Nat) (o : AH) (s : St) : Option St :=
 if Au s.low.length o.root (o.op.addr.map (s.val LP)) then evalOp LP C g o.dst o.op s else none
def BP (C : AS) (o : LOp) (v : Opd → LV) : Option LV := match o with
 | .move x false => some (v x)
 | .pick c a b => match GU (v c) with
  | some true => some (v a)
  | some false => some (v b)
  | none => none
 | .build zs ps => match C4 (ps.map fun p => (p.1, p.2.1, v p.2.2)) (zs.map .d) with
  | some cs => some (LV.norm (.agg cs))
  | none => none
 | .lit k zs len ps => match C4 (ps.map fun p => (p.1, p.2.1, v p.2.2)) ((List.replicate len zs).flatten.map .d) with
  | some cs => if cs.all LV.cellOk then match AZ cs with
   | some ds => match (List.range len).mapM fun i => A0 k (i * k.getD 1) ds with
    | some xs => some (.hot (k.getD 1) xs)
    | none => none
   | none => none else none
  | none => none
 | .faddr off p => Jb off (v p)
 | .field k off x => K5 k off (v x)
 | .iaddrS sz x i => match Og (v x), Gp (v i) with
  | some (z, xs), some i => match xs[i]? with
   | some e => if z = sz then some (.d (.fptr e.cells 0)) else none
   | none => none
  | _, _ => none
 | .iaddrA sz n p i => match Gp (v i) with
  | some i => if i < n then Jb (i * sz) (v p) else none
  | none => none
 | .index k sz n x i => match Gp (v i) with
  | some i => if i < n then K5 k (i * sz) (v x) else none
  | none => none
 | .bin op x y => match TI (v x), TI (v y) with
  | some a, some b => (CO (binOp op 0 (.int .i64 a) (.int .i64 b))).map .d
  | _, _ => none
 | .eqb neg x y => match GU (v x), GU (v y) with
  | some a, some b => some (.d (.bool (if neg then a != b else a == b)))
  | _, _ => none
 | .eqa neg n x y => match (v x).aggKey, (v y).aggKey with
  | some a, some b => if a.length = n ∧ b.length = n then some (.d (.bool (if neg then decide (a ≠ b) else decide (a = b)))) else none
  | _, _ => none
 | .un op x => match v x with
  | .d (.int a) => (CO (Op.unary op (.int .i64 a))).map .d
  | .d (.bool a) => (CO (Op.unary op (.bool a))).map .d
  | _ => none
 | .call f args none => match target (v f), AZ (args.map v) with
  | some (f, a, b), some ds => match AZ a, AZ b with
   | some a, some b => match C.call f ((a ++ ds ++ b).map .d) [] 0 with
    | some (v, _, _) => v.toD.map .d
    | none => none
   | _, _ => none
  | _, _ => none
 | .len x => (jb (v x)).map fun n => .d (.int n)
 | .minmax isMax xs => (minmax isMax (xs.map v)).map fun n => .d (.int n)
 | .slice sz x lo hi mx => match optNat v lo, optNat v hi, optNat v mx with
  | some lo, some hi, some mx => QH sz (v x) lo hi mx
  | _, _, _ => none
 | .mkfn f first cap => some (LV.norm (.fn f (first.map v) (cap.map v)))
 | _ => none
def LOp.isValue : LOp → Bool
 | .move _ false | .pick _ _ _ | .build _ _ | .lit _ _ _ _ | .faddr _ _ | .field _ _ _ | .iaddrS _ _ _ | .iaddrA _ _ _ _ | .index _ _ _ _ _ | .bin _ _ _ | .eqb _ _ _ | .eqa _ _ _ _ | .un _ _
 | .call _ _ none | .len _ | .minmax _ _ | .slice _ _ _ _ _ | .mkfn _ _ _ => true
 | _ => false
theorem Up (C : AS) (g : Nat) (dst : Option Nat) {o : LOp} (ho : o.isValue = true) (s : St) : evalOp LP C g dst o s = (BP C o (s.val LP)).bind (s.put dst) := by
 cases o <;> try (simp [LOp.isValue] at ho; done)
 case move x t => cases t <;> first | rfl | simp [LOp.isValue] at ho
 case pick =>
  simp only [evalOp, BP]; repeat' split
  all_goals simp_all
 case build zs ps =>
  simp only [evalOp, BP]
  cases C4 (ps.map fun p => (p.1, p.2.1, s.val LP p.2.2)) (zs.map .d) <;> rfl
 case lit k zs len ps =>
  simp only [evalOp, BP]
  cases C4 (ps.map fun p => (p.1, p.2.1, s.val LP p.2.2)) ((List.replicate len zs).flatten.map .d) with
  | none => rfl
  | some cs =>
   by_cases hc : cs.all LV.cellOk = true
   ·simp only [hc, if_true]
    cases AZ cs with
    | none => rfl
    | some ds =>
     simp only
     cases (List.range len).mapM fun i => A0 k (i * k.getD 1) ds <;> rfl
   ·simp only [hc]; rfl
 case faddr => simp only [evalOp, BP]; split <;> simp_all
 case field => simp only [evalOp, BP]; split <;> simp_all
 case iaddrS =>
  simp only [evalOp, BP]; repeat' split
  all_goals simp_all
 case iaddrA sz n p i =>
  simp only [evalOp, BP]
  cases Gp (s.val LP i) with
  | none => rfl
  | some m =>
   by_cases hm : m < n
   ·simp only [hm, if_true]; cases Jb (m * sz) (s.val LP p) <;> rfl
   ·simp only [hm, if_false]; rfl
 case index k sz n x i =>
  simp only [evalOp, BP]
  cases Gp (s.val LP i) with
  | none => rfl
  | some m =>
   by_cases hm : m < n
   ·simp only [hm, if_true]; cases K5 k (m * sz) (s.val LP x) <;> rfl
   ·simp only [hm, if_false]; rfl
 case bin =>
  simp only [evalOp, BP]; repeat' split
  all_goals simp_all
 case eqb =>
  simp only [evalOp, BP]; repeat' split
  all_goals simp_all
 case eqa =>
  simp only [evalOp, BP]; repeat' split
  all_goals simp_all
 case un =>
  simp only [evalOp, BP]; repeat' split
  all_goals simp_all
 case call f as vis =>
  cases vis <;> first | (simp [LOp.isValue] at ho; done) | skip
  simp only [evalOp, BP]
  cases target (s.val LP f) with
  | none => rfl
  | some fab =>
   obtain ⟨f', a, b⟩ := fab
   cases AZ (as.map (s.val LP)) with
   | none => rfl
   | some ds =>
    simp only
    cases AZ a with
    | none => rfl
    | some a =>
     cases AZ b with
     | none => rfl
     | some b =>
      simp only
      cases C.call f' ((a ++ ds ++ b).map .d) [] 0 with
      | none => rfl
      | some r =>
       obtain ⟨v, _, _⟩ := r
       simp only
       cases v.toD <;> rfl
 case len => simp only [evalOp, BP]; split <;> simp_all
 case minmax => simp only [evalOp, BP]; split <;> simp_all
 case slice =>
  simp only [evalOp, BP]; repeat' split
  all_goals simp_all
 case mkfn => rfl
end
end Go.Lf
namespace Go.Lf
open Go
section
variable (LP : A6) {F : IJ}
theorem IK {α β : Type} {f g : α → β} : ∀ {l : List α}, (∀ x, x ∈ l → f x = g x) → l.map f = l.map g
 | [], _ => rfl
 | a :: l, h => by
  simp only [List.map_cons]
  rw [h a (by simp), IK fun x hx => h x (by simp [hx])]
theorem OX {v v' : Opd → LV} : ∀ {x : Option Opd}, (∀ y, y ∈ x.toList → v y = v' y) → optNat v x = optNat v' x
 | none, _ => rfl
 | some x, h => by simp only [optNat]; rw [h x (by simp)]
theorem dp (C : AS) (o : LOp) {v v' : Opd → LV} (h : ∀ x, x ∈ o.opds → v x = v' x) : BP C o v = BP C o v' := by
 have parts : ∀ ps : List (Nat × Nat × Opd), (∀ x, x ∈ ps.map (·.2.2) → v x = v' x) → ps.map (fun p => (p.1, p.2.1, v p.2.2)) = ps.map (fun p => (p.1, p.2.1, v' p.2.2)) := fun ps hp =>
  IK fun p hm => by rw [hp p.2.2 (List.mem_map.2 ⟨p, hm, rfl⟩)]
 cases o <;> simp only [LOp.opds, List.mem_cons, List.not_mem_nil, or_false, forall_eq_or_imp, forall_eq] at h <;> try rfl
 case move x t => cases t <;> simp only [BP, h]
 case pick => simp only [BP, h.1, h.2.1, h.2.2]
 case build zs ps => simp only [BP]; rw [parts ps h]
 case lit k zs len ps => simp only [BP]; rw [parts ps h]
 case faddr => simp only [BP, h]
 case field => simp only [BP, h]
 case iaddrS => simp only [BP, h.1, h.2]
 case iaddrA => simp only [BP, h.1, h.2]
 case index => simp only [BP, h.1, h.2]
 case bin => simp only [BP, h.1, h.2]
 case eqb => simp only [BP, h.1, h.2]
 case eqa => simp only [BP, h.1, h.2]
 case un => simp only [BP, h]
 case call f as vis =>
  cases vis with
  | none => simp only [BP]; rw [h.1, IK h.2]
  | some vis => rfl
 case len => simp only [BP, h]
 case minmax b xs => simp only [BP]; rw [IK h]
 case slice sz x lo hi mx =>
  simp only [BP]
  rw [h.1, OX fun y hy => h.2 y (by simp [hy]), OX fun y hy => h.2 y (by simp [hy]), OX fun y hy => h.2 y (by simp [hy])]
 case mkfn f a b =>
  simp only [BP]
  rw [IK fun x hx => h x (by simp [hx]), IK (l := b) fun x hx => h x (by simp [hx])]
def AH.rd0 (o : AH) : List Nat := o.op.opds.flatMap Opd.tmp? ++ (match o.guard with | some (t, _) => [t] | none => [])
theorem pX (o : AH) {t : Nat} (h : t ∈ o.rd0) : t ∈ o.foot.rd := by
 obtain ⟨dst, op, guard, root⟩ := o
 unfold AH.foot
 dsimp only [AH.rd0] at h
 cases op <;> first | exact h | skip
 case move x b => cases b <;> exact h
 case extract i x b => cases b <;> exact h
 case load k p b => cases b <;> cases root <;> first | exact h | exact List.mem_append_right _ h
 case lookup => cases root <;> first | exact h | exact List.mem_append_right _ h
 case store => cases root <;> exact h
 case mapset => cases root <;> exact h
 case mstore => cases root <;> exact h
 case mentry => cases root <;> exact h
 case call f as vis => cases vis <;> exact h
theorem ib (o : AH) {x : Opd} (hx : x ∈ o.op.opds) : o.foot.Sees x := fun t ht => .inl (pX o (List.mem_append_left _ (List.mem_flatMap.2 ⟨x, hx, by subst ht; simp [Opd.tmp?]⟩)))
theorem A9 {f : St → Option St} {h : St → Option (Unit × St)} (he : ∀ s, f s = (h s).map (·.2)) (hl : Ah h F) : Dm f F := by
 refine qP ?_
 have : (fun s => (f s).map fun s' => ((), s')) = h := by
  funext s
  rw [he s]
  cases h s <;> rfl
 rw [this]; exact hl
theorem Bg (dst : Option Nat) (v : LV) (s : St) : s.put dst v = (VB dst v s).map (·.2) := by
 unfold VB; cases s.put dst v <;> rfl
theorem Aw {C : AS} {g : Nat} {o : AH} (h : o.op.addr = none) (s : St) : E9 LP C g o s = evalOp LP C g o.dst o.op s := by
 unfold E9
 rw [h]
 have : Au s.low.length o.root (Option.map (s.val LP) none) = true := by cases o.root <;> rfl
 rw [if_pos this]
theorem Zx {o : AH} (h : o.op.isValue = true) : o.foot.wv = o.dst.toList := by
 obtain ⟨dst, op, guard, root⟩ := o
 cases op <;> try (simp [LOp.isValue] at h; done)
 all_goals first
  | rfl
  | skip
 case move x b => cases b <;> first | rfl | simp [LOp.isValue] at h
 case call f as vis => cases vis <;> first | rfl | simp [LOp.isValue] at h
theorem pR {o : AH} {d : Nat} (h : o.dst = some d) : d ∈ o.dst.toList := by rw [h]; simp
theorem j3 (C : AS) (g : Nat) {o : AH} (h : o.op.isValue = true) : Dm (E9 LP C g o) o.foot := by
 have hadd : o.op.addr = none := by
  cases ho : o.op <;> rw [ho] at h <;> first | rfl | simp [LOp.isValue] at h
 refine A9 (h := CY (fun s => (BP C o.op (s.val LP)).map fun v => (v, s)) fun v => VB o.dst v) (fun s => ?_) (Ah.bind (E3 fun s r hag => dp C o.op fun x hx => hag.val LP (ib o hx)) fun v => Dq (fun d hd => ?_) v)
 ·rw [Aw LP hadd, Up LP C g o.dst h]
  unfold CY
  cases hv : BP C o.op (s.val LP) with
  | none => simp only [hv]; rfl
  | some v => simp only [hv, Option.map_some, Option.bind_some]; exact Bg _ _ _
 ·exact .inr (.inl (by rw [Zx h]; exact pR hd))
theorem mr (C : AS) (g : Nat) {x : Opd} {dst : Option Nat} {guard : Option (Nat × Bool)} {root : Option (Option Nat)} :
  Dm (E9 LP C g { dst, op := .move x true, guard, root }) (AH.foot { dst, op := .move x true, guard, root }) := by
 refine A9 (h := CY (Nk LP x) fun v => VB dst v) (fun s => ?_) (Ah.bind (Lu LP fun t ht => ?_) fun v => Dq (fun d hd => ?_) v)
 ·rw [Aw LP rfl]
  simp only [evalOp, CY, Nk]
  exact Bg _ _ _
 ·subst ht; exact .inr (.inl (by simp [AH.foot, Opd.tmp?]))
 ·subst hd; exact .inr (.inl (by simp [AH.foot]))
theorem gW (C : AS) (g : Nat) {sz q : Nat} {x y : Opd} {dst : Option Nat} {guard : Option (Nat × Bool)} {root : Option (Option Nat)} :
  Dm (E9 LP C g { dst, op := .append sz q x y, guard, root }) (AH.foot { dst, op := .append sz q x y, guard, root }) := by
 refine A9 (h := CY (Nk LP x) fun v => CY (rdV LP y) fun u => match BH sz q v u with | some r => VB dst r | none => fun _ => none) (fun s => ?_)
  (Ah.bind (Lu LP fun t ht => ?_) fun v => Ah.bind (Gu LP (ib { dst, op := .append sz q x y, guard, root } (by simp [LOp.opds]))) fun u => ?_)
 ·rw [Aw LP rfl]
  simp only [evalOp, CY, Nk, rdV]
  cases BH sz q (s.take LP x).1 ((s.take LP x).2.val LP y) with
  | none => rfl
  | some r => exact Bg _ _ _
 ·subst ht; exact .inr (.inl (by simp [AH.foot, Opd.tmp?]))
 ·cases BH sz q v u with
  | none => exact Ah.fail
  | some r => exact Dq (fun d hd => by subst hd; exact .inr (.inl (by simp [AH.foot]))) r
theorem Oi {d : Nat} (hd : d ∈ F.wb) (sl : BQ) : Ah (fun s => some ((), { s with env := s.env.set d sl })) F := by
 have := MF (F := F) (d := d) (.inr (.inr hd)) sl (fun _ => true) (fun _ h => absurd hd h)
 simpa using this
theorem il (C : AS) (g : Nat) {zs : List DV} {dst : Option Nat} {guard : Option (Nat × Bool)} {root : Option (Option Nat)} :
  Dm (E9 LP C g { dst, op := .alloc zs, guard, root }) (AH.foot { dst, op := .alloc zs, guard, root }) := by
 cases dst with
 | none => exact A9 (h := fun _ => none) (fun s => by rw [Aw LP rfl]; rfl) Ah.fail
 | some d => exact A9 (h := fun s => some ((), { s with env := s.env.set d (.box g (zs.map .d)) })) (fun s => by rw [Aw LP rfl]; rfl) (Oi (by simp [AH.foot]) _)
theorem jX (C : AS) (g : Nat) {n : Nat} {dst : Option Nat} {guard : Option (Nat × Bool)} {root : Option (Option Nat)} :
  Dm (E9 LP C g { dst, op := .mkmap n, guard, root }) (AH.foot { dst, op := .mkmap n, guard, root }) := by
 cases dst with
 | none => exact A9 (h := fun _ => none) (fun s => by rw [Aw LP rfl]; rfl) Ah.fail
 | some d => exact A9 (h := fun s => some ((), { s with env := s.env.set d (.mapo g n []) })) (fun s => by rw [Aw LP rfl]; rfl) (Oi (by simp [AH.foot]) _)
theorem pI (C : AS) (g : Nat) {n : Nat} {x : Opd} {dst : Option Nat} {guard : Option (Nat × Bool)} {root : Option (Option Nat)} :
  Dm (E9 LP C g { dst, op := .box n x, guard, root }) (AH.foot { dst, op := .box n x, guard, root }) := by
 cases dst with
 | none => exact A9 (h := fun _ => none) (fun s => by rw [Aw LP rfl]; rfl) Ah.fail
 | some d =>
  refine A9 (h := CY (rdV LP x) fun v => match v.known with
   | some cs => if cs.length = n ∧ cs.all LV.cellOk then (fun s => some ((), { s with env := s.env.set d (.box g cs) })) else fun _ => none
   | none => fun _ => none) (fun s => ?_) (Ah.bind (Gu LP (ib { dst := some d, op := .box n x, guard, root } (by simp [LOp.opds]))) fun v => ?_)
  ·rw [Aw LP rfl]
   simp only [evalOp, CY, rdV]
   cases (s.val LP x).known with
   | none => rfl
   | some cs => simp only; split <;> rfl
  ·cases v.known with
   | none => exact Ah.fail
   | some cs =>
    simp only
    split
    ·exact Oi (by simp [AH.foot]) _
    ·exact Ah.fail
theorem b8 (C : AS) (g : Nat) {i : Nat} {x : Opd} {take : Bool} {dst : Option Nat} {guard : Option (Nat × Bool)} {root : Option (Option Nat)} :
  Dm (E9 LP C g { dst, op := .extract i x take, guard, root }) (AH.foot { dst, op := .extract i x take, guard, root }) := by
 cases x with
 | con v => exact A9 (h := fun _ => none) (fun s => by rw [Aw LP rfl]; rfl) Ah.fail
 | glob v => exact A9 (h := fun _ => none) (fun s => by rw [Aw LP rfl]; rfl) Ah.fail
 | tmp t =>
  let F := AH.foot { dst, op := .extract i (.tmp t) take, guard, root }
  have hs : F.Sees (.tmp t) := ib { dst, op := .extract i (.tmp t) take, guard, root } (by simp [LOp.opds])
  have hd : ∀ d, dst = some d → F.W d := fun d hd => .inr (.inl (by subst hd; cases take <;> simp [F, AH.foot]))
  refine A9 (h := CY (fun s => some (s.env.get t, s)) fun sl => match sl with
   | some (.v (.d (.tup cs))) => match cs[i]? with
    | some y => VB dst (.d y)
    | none => fun _ => none
   | some (.v (.tup cs)) => match take, cs[i]? with
    | true, some (.hot z xs) => CY (fun s => if okV (s.env.get t) = true then some ((), { s with env := s.env.set t (.v (.tup (cs.set i (.d (.slice z xs))))) }) else none) fun _ => VB dst (.hot z xs)
    | _, some y => VB dst y.copy
    | _, none => fun _ => none
   | _ => fun _ => none) (fun s => ?_) (Ah.bind ?_ fun sl => ?_)
  ·rw [Aw LP rfl]
   simp only [evalOp, CY]
   cases hg : s.env.get t with
   | none => rfl
   | some sl =>
    cases sl with
    | box => rfl
    | mapo => rfl
    | v y =>
     cases y with
     | d y =>
      cases y with
      | tup cs => simp only; cases cs[i]? with
       | none => rfl
       | some y => exact Bg _ _ _
      | _ => rfl
     | tup cs =>
      cases take with
      | false =>
       simp only
       cases cs[i]? with
       | none => rfl
       | some y => exact Bg _ _ _
      | true =>
       simp only
       cases hc : cs[i]? with
       | none => rfl
       | some y =>
        cases y with
        | hot z xs =>
         simp only [CY, hg, okV, if_true]
         exact Bg _ _ _
        | d y => exact Bg _ _ _
        | full a b => exact Bg _ _ _
        | ptr a b c e => exact Bg _ _ _
        | mref a b c => exact Bg _ _ _
        | agg a => exact Bg _ _ _
        | tup a => exact Bg _ _ _
        | fn a b c => exact Bg _ _ _
        | fptr a b => exact Bg _ _ _
        | yield a b => exact Bg _ _ _
     | _ => rfl
  ·exact E3 (F := F) (f := fun s => some (s.env.get t)) fun s r h => by rw [h.here t (.inr (hs t rfl))]
  ·split
   ·split
    ·exact Dq hd _
    ·exact Ah.fail
   ·split
    ·exact Ah.bind (MF (F := F) (d := t) (.inr (.inl (by simp [F, AH.foot, Opd.tmp?]))) _ okV (fun _ _ => ⟨qZ, trivial⟩)) fun _ => Dq hd _
    ·exact Dq hd _
    ·exact Ah.fail
   ·exact Ah.fail
end
end Go.Lf
