/- A part of the proof. -/
import Derived.Test.YtpkbckdhkaggbaaDoorx0
set_option linter.all false
namespace Go.Lf
open Go
theorem CE (t u : Nat) (s : BE) (e : uI) : (uI.set t s e).get u = if u = t then some s else e.get u := by
 induction e with
 | nil =>
  simp only [uI.set, uI.get]
  by_cases h : t = u
  ·subst h; simp
  ·rw [if_neg h, if_neg (fun h' => h h'.symm)]
 | cons p r ih =>
  obtain ⟨v, x⟩ := p
  simp only [uI.set]
  by_cases h : v = t
  ·subst h
   simp only [if_pos, uI.get]
   by_cases h : v = u
   ·subst h; simp
   ·rw [if_neg h, if_neg (fun h' => h h'.symm), if_neg h]
  ·rw [if_neg h]
   simp only [uI.get]
   by_cases h' : v = u
   ·subst h'; rw [if_pos rfl, if_neg h, if_pos rfl]
   ·rw [if_neg h', if_neg h', ih]
theorem KE (vis : List Nat) (e e' : uI) (t : Nat) :
  (uI.merge vis e e').get t = if vis.contains t then (if (e.get t).isSome then e'.get t else none) else e.get t := by
 induction e with
 | nil => simp [uI.merge, uI.get]
 | cons p r ih =>
  obtain ⟨u, x⟩ := p
  unfold uI.merge at ih ⊢
  rw [List.filterMap_cons]
  by_cases hu : u = t
  ·subst hu
   by_cases hv : vis.contains u = true
   ·simp only [hv, if_true, uI.get, Option.isSome_some] at ih ⊢
    cases he : e'.get u with
    | none => simp only [Option.map_none]; rw [ih, he]; split <;> rfl
    | some s => simp [uI.get]
   ·simp only [hv, uI.get, if_true, Bool.false_eq_true, if_false]
  ·have hg : uI.get t ((u, x) :: r) = uI.get t r := by simp [uI.get, hu]
   rw [hg, ← ih]
   by_cases hv : vis.contains u = true
   ·simp only [hv, if_true]
    cases he : e'.get u with
    | none => simp only [Option.map_none]
    | some s => simp [uI.get, hu]
   ·simp only [hv, Bool.false_eq_true, if_false, uI.get, hu]
theorem Wt {ks : List Nat} {e e' : uI} (h : ∀ t ∈ ks, e.get t = e'.get t) : e.keep ks = e'.keep ks := by
 unfold uI.keep
 induction ks with
 | nil => rfl
 | cons k ks ih =>
  rw [List.filterMap_cons, List.filterMap_cons, h k (by simp), ih fun t ht => h t (by simp [ht])]
def vD.tmp? : vD → List Nat
 | .tmp t => [t]
 | _ => []
def u5.opds : u5 → List vD
 | .move x _ | .box _ x | .load _ x _ | .faddr _ x | .field _ _ x | .un _ x | .len x | .extract _ x _ => [x]
 | .pick a b c | .mapset _ a b c | .mstore _ a b c => [a, b, c]
 | .build _ ps | .lit _ _ _ ps => ps.map (·.2.2)
 | .store _ x y | .iaddrS _ x y | .iaddrA _ _ x y | .index _ _ _ x y | .bin _ x y | .eqb _ x y | .eqa _ _ x y | .append _ _ x y | .lookup _ x y _ _ | .mentry _ x y _ => [x, y]
 | .call f as _ => f :: as
 | .minmax _ xs => xs
 | .slice _ x a b c => x :: (a.toList ++ b.toList ++ c.toList)
 | .mkfn _ a b => a ++ b
 | .alloc _ | .mkmap _ | .bad => []
structure Gg where
 rd : List Nat
 wv : List Nat := []
 wb : List Nat := []
 all : Bool := false
 bar : Bool := false
 lw : Bool := false
def own (root : Option (Option Nat)) : List Nat := match root with
 | some (some r) => [r]
 | _ => []
def AG.foot (o : AG) : Gg :=
 let rd := o.op.opds.flatMap vD.tmp? ++ (match o.guard with | some (t, _) => [t] | none => [])
 let d := o.dst.toList
 match o.op with
 | .move x true => { rd, wv := x.tmp? ++ d }
 | .append _ _ x _ => { rd, wv := x.tmp? ++ d }
 | .extract _ x true => { rd, wv := x.tmp? ++ d }
 | .alloc _ | .box _ _ | .mkmap _ => { rd, wb := d }
 | .load _ _ false | .lookup _ _ _ _ _ => match o.root with
  | none => { rd, wv := d, all := true }
  | some _ => { rd := own o.root ++ rd, wv := d }
 | .load _ _ true => match o.root with
  | none => { rd, bar := true }
  | some _ => { rd, wb := own o.root, wv := d }
 | .store _ _ x => match o.root with
  | none => { rd, bar := true }
  | some _ => { rd, wb := own o.root, wv := x.tmp? ++ d }
 | .mapset _ _ _ x | .mstore _ _ _ x => match o.root with
  | none => { rd, bar := true }
  | some _ => { rd, wb := own o.root, wv := x.tmp? ++ d }
 | .mentry _ _ _ _ => match o.root with
  | none => { rd, bar := true }
  | some _ => { rd, wb := own o.root, wv := d }
 | .call _ _ (some vis) => { rd, wb := vis, wv := d, lw := true }
 | _ => { rd, wv := d }
def pp (a b : List Nat) : Bool := a.all fun t => !b.contains t
def Gg.apart (p q : Gg) : Bool :=
 !p.bar && !q.bar && pp (p.wv ++ p.wb) (q.rd ++ q.wv ++ q.wb) && pp (q.wv ++ q.wb) (p.rd ++ p.wv ++ p.wb) &&
 (!p.all || (q.wb.isEmpty && !q.lw)) && (!q.all || (p.wb.isEmpty && !p.lw)) && !(p.lw && q.lw)
def isV : Option BE → Prop
 | some (.box _ _) | some (.mapo _ _ _) => False
 | _ => True
def Gg.W (F : Gg) (t : Nat) : Prop := F.bar = true ∨ t ∈ F.wv ∨ t ∈ F.wb
structure Gg.Agree (F : Gg) (s r : St) : Prop where
 len : s.low.length = r.low.length
 here : ∀ t, F.bar = true ∨ t ∈ F.rd ∨ t ∈ F.wv ∨ t ∈ F.wb → s.env.get t = r.env.get t
 boxes : F.all = true → ∀ t, s.env.get t = r.env.get t ∨ (isV (s.env.get t) ∧ isV (r.env.get t))
 low : F.all = true ∨ F.lw = true ∨ F.bar = true → s.low = r.low
 ctr : F.lw = true ∨ F.bar = true → s.ctr = r.ctr
structure Gg.Turns (F : Gg) (s s' : St) : Prop where
 len : s'.low.length = s.low.length
 out : ∀ t, ¬ F.W t → s'.env.get t = s.env.get t
 val : F.bar = false → ∀ t, t ∉ F.wb → s'.env.get t = s.env.get t ∨ (isV (s.env.get t) ∧ isV (s'.env.get t))
 low : F.bar = false → F.lw = false → s'.low = s.low
 ctr : F.bar = false → F.lw = false → s'.ctr = s.ctr
structure Gg.Same (F : Gg) (s' r' : St) : Prop where
 env : ∀ t, F.W t → s'.env.get t = r'.env.get t
 low : F.bar = true ∨ F.lw = true → s'.low = r'.low
 ctr : F.bar = true ∨ F.lw = true → s'.ctr = r'.ctr
structure C5 (f : St → Option St) (F : Gg) : Prop where
 turns : ∀ s s', f s = some s' → F.Turns s s'
 same : ∀ s s' r, f s = some s' → F.Agree s r → ∃ r', f r = some r' ∧ F.Same s' r'
structure XK (s r : St) : Prop where
 env : ∀ t, s.env.get t = r.env.get t
 low : s.low = r.low
 ctr : s.ctr = r.ctr
theorem XK.refl (s : St) : XK s s := ⟨fun _ => rfl, rfl, rfl⟩
theorem XK.symm {s r : St} (h : XK s r) : XK r s := ⟨fun t => (h.env t).symm, h.low.symm, h.ctr.symm⟩
theorem XK.trans {a b c : St} (h : XK a b) (h' : XK b c) : XK a c := ⟨fun t => (h.env t).trans (h'.env t), h.low.trans h'.low, h.ctr.trans h'.ctr⟩
theorem XK.agree {s r : St} (h : XK s r) (F : Gg) : F.Agree s r := ⟨by rw [h.low], fun t _ => h.env t, fun _ t => .inl (h.env t), fun _ => h.low, fun _ => h.ctr⟩
theorem C5.congr {f : St → Option St} {F : Gg} (h : C5 f F) {s r s' : St} (he : XK s r) (hs : f s = some s') : ∃ r', f r = some r' ∧ XK s' r' := by
 obtain ⟨r', hr, hsame⟩ := h.same s s' r hs (he.agree F)
 have t1 := h.turns s s' hs
 have t2 := h.turns r r' hr
 refine ⟨r', hr, fun t => ?_, ?_, ?_⟩
 ·by_cases hw : F.W t
  ·exact hsame.env t hw
  ·rw [t1.out t hw, t2.out t hw]; exact he.env t
 ·by_cases hb : F.bar = true ∨ F.lw = true
  ·exact hsame.low hb
  ·simp only [not_or, Bool.not_eq_true] at hb
   rw [t1.low hb.1 hb.2, t2.low hb.1 hb.2]; exact he.low
 ·by_cases hb : F.bar = true ∨ F.lw = true
  ·exact hsame.ctr hb
  ·simp only [not_or, Bool.not_eq_true] at hb
   rw [t1.ctr hb.1 hb.2, t2.ctr hb.1 hb.2]; exact he.ctr
theorem Lu {a b : List Nat} (h : pp a b = true) : ∀ t, t ∈ a → t ∉ b := by
 intro t ht hb
 simp only [pp, List.all_eq_true, Bool.not_eq_true', List.contains_eq_mem, decide_eq_false_iff_not] at h
 exact h t ht hb
theorem pe {F : Gg} (hb : F.bar = false) {t : Nat} (h : t ∉ F.wv) (h' : t ∉ F.wb) : ¬ F.W t := by
 rintro (h1 | h1 | h1)
 ·rw [hb] at h1; simp at h1
 ·exact h h1
 ·exact h' h1
theorem fQ {p q : Gg} {s s1 : St} (hp : p.bar = false) (hq : q.bar = false) (hd : pp (p.wv ++ p.wb) (q.rd ++ q.wv ++ q.wb) = true)
  (ha : q.all = true → p.wb = [] ∧ p.lw = false) (hl : ¬ (p.lw = true ∧ q.lw = true)) (ht : p.Turns s s1) : q.Agree s1 s := by
 have hd' := Lu hd
 refine ⟨ht.len, fun t h => ?_, fun hqa t => ?_, fun h => ?_, fun h => ?_⟩
 ·have hin : t ∈ q.rd ++ q.wv ++ q.wb := by
   simp only [List.mem_append]
   rcases h with h | h | h | h
   ·rw [hq] at h; simp at h
   ·exact .inl (.inl h)
   ·exact .inl (.inr h)
   ·exact .inr h
  refine ht.out t (pe hp (fun h' => hd' t (by simp [h']) hin) fun h' => hd' t (by simp [h']) hin)
 ·obtain ⟨h1, h2⟩ := ha hqa
  exact (ht.val hp t (by rw [h1]; simp)).imp id fun h => ⟨h.2, h.1⟩
 ·have hplw : p.lw = false := by
   rcases h with h | h | h
   ·exact (ha h).2
   ·cases hpl : p.lw
    ·rfl
    ·exact absurd ⟨hpl, h⟩ hl
   ·rw [hq] at h; simp at h
  exact ht.low hp hplw
 ·have hplw : p.lw = false := by
   rcases h with h | h
   ·cases hpl : p.lw
    ·rfl
    ·exact absurd ⟨hpl, h⟩ hl
   ·rw [hq] at h; simp at h
  exact ht.ctr hp hplw
theorem Us {p q : Gg} (h : p.apart q = true) : p.bar = false ∧ q.bar = false ∧ pp (p.wv ++ p.wb) (q.rd ++ q.wv ++ q.wb) = true ∧
  pp (q.wv ++ q.wb) (p.rd ++ p.wv ++ p.wb) = true ∧ (p.all = true → q.wb = [] ∧ q.lw = false) ∧ (q.all = true → p.wb = [] ∧ p.lw = false) ∧ ¬ (p.lw = true ∧ q.lw = true) := by
 unfold Gg.apart at h
 simp only [Bool.and_eq_true, Bool.not_eq_true', Bool.or_eq_true, List.isEmpty_iff] at h
 obtain ⟨⟨⟨⟨⟨⟨h1, h2⟩, h3⟩, h4⟩, h5⟩, h6⟩, h7⟩ := h
 refine ⟨h1, h2, h3, h4, fun ha => ?_, fun ha => ?_, fun hl => ?_⟩
 ·rcases h5 with h5 | h5
  ·rw [ha] at h5; simp at h5
  ·exact h5
 ·rcases h6 with h6 | h6
  ·rw [ha] at h6; simp at h6
  ·exact h6
 ·rw [hl.1, hl.2] at h7; simp at h7
theorem jD {f h : St → Option St} {p q : Gg} (lf : C5 f p) (lh : C5 h q) (ha : p.apart q = true) {s s1 s2 : St} (h1 : f s = some s1) (h2 : h s1 = some s2) :
  ∃ r1 r2, h s = some r1 ∧ f r1 = some r2 ∧ XK s2 r2 := by
 obtain ⟨hp, hq, d1, d2, a1, a2, hl⟩ := Us ha
 have t1 := lf.turns s s1 h1
 obtain ⟨r1, hr1, same1⟩ := lh.same s1 s2 s h2 (fQ hp hq d1 a2 hl t1)
 have u1 := lh.turns s1 s2 h2
 have u2 := lh.turns s r1 hr1
 have hag : p.Agree r1 s := fQ hq hp d2 a1 (fun h => hl ⟨h.2, h.1⟩) u2
 obtain ⟨r2, hr2, same2⟩ := lf.same s s1 r1 h1 ⟨hag.len.symm, fun t ht => (hag.here t ht).symm, fun ha t => (hag.boxes ha t).imp (·.symm) (·.symm), fun h => (hag.low h).symm, fun h => (hag.ctr h).symm⟩
 have u3 := lf.turns r1 r2 hr2
 refine ⟨r1, r2, hr1, hr2, fun t => ?_, ?_, ?_⟩
 ·by_cases hqt : q.W t
  ·have hpt : ¬ p.W t := by
    rcases hqt with h | h | h
    ·rw [hq] at h; simp at h
    ·exact pe hp (fun h' => Lu d1 t (by simp [h']) (by simp [h])) fun h' => Lu d1 t (by simp [h']) (by simp [h])
    ·exact pe hp (fun h' => Lu d1 t (by simp [h']) (by simp [h])) fun h' => Lu d1 t (by simp [h']) (by simp [h])
   rw [same1.env t hqt, u3.out t hpt]
  ·rw [u1.out t hqt]
   by_cases hpt : p.W t
   ·exact same2.env t hpt
   ·rw [t1.out t hpt, u3.out t hpt, u2.out t hqt]
 ·cases hpl : p.lw with
  | true =>
   have hql : q.lw = false := by cases hq' : q.lw; rfl; exact absurd ⟨hpl, hq'⟩ hl
   rw [u1.low hq hql]; exact same2.low (.inr hpl)
  | false =>
   rw [u3.low hp hpl]
   cases hql : q.lw with
   | true => exact same1.low (.inr hql)
   | false => rw [u1.low hq hql, u2.low hq hql, t1.low hp hpl]
 ·cases hpl : p.lw with
  | true =>
   have hql : q.lw = false := by cases hq' : q.lw; rfl; exact absurd ⟨hpl, hq'⟩ hl
   rw [u1.ctr hq hql]; exact same2.ctr (.inr hpl)
  | false =>
   rw [u3.ctr hp hpl]
   cases hql : q.lw with
   | true => exact same1.ctr (.inr hql)
   | false => rw [u1.ctr hq hql, u2.ctr hq hql, t1.ctr hp hpl]
end Go.Lf
namespace Go.Lf
open Go
structure Ac {α : Type} (f : St → Option (α × St)) (F : Gg) : Prop where
 turns : ∀ s a s', f s = some (a, s') → F.Turns s s'
 same : ∀ s a s' r, f s = some (a, s') → F.Agree s r → ∃ r', f r = some (a, r') ∧ F.Same s' r'
def Bw {α β : Type} (f : St → Option (α × St)) (k : α → St → Option (β × St)) : St → Option (β × St) := fun s => match f s with
 | some (a, s') => k a s'
 | none => none
theorem Gg.Turns.refl {F : Gg} (s : St) : F.Turns s s := ⟨rfl, fun _ _ => rfl, fun _ _ _ => .inl rfl, fun _ _ => rfl, fun _ _ => rfl⟩
theorem Gg.Turns.trans {F : Gg} {a b c : St} (h : F.Turns a b) (h' : F.Turns b c) : F.Turns a c where
 len := h'.len.trans h.len
 out t ht := (h'.out t ht).trans (h.out t ht)
 val hb t ht := by
  rcases h.val hb t ht with e | ⟨e1, e2⟩
  ·rcases h'.val hb t ht with e' | ⟨e1', e2'⟩
   ·exact .inl (e'.trans e)
   ·exact .inr ⟨by rw [← e]; exact e1', e2'⟩
  ·rcases h'.val hb t ht with e' | ⟨_, e2'⟩
   ·exact .inr ⟨e1, by rw [e']; exact e2⟩
   ·exact .inr ⟨e1, e2'⟩
 low hb hl := (h'.low hb hl).trans (h.low hb hl)
 ctr hb hl := (h'.ctr hb hl).trans (h.ctr hb hl)
theorem Gg.Agree.step {F : Gg} {s r s' r' : St} (h : F.Agree s r) (t1 : F.Turns s s') (t2 : F.Turns r r') (hs : F.Same s' r') : F.Agree s' r' where
 len := by rw [t1.len, t2.len]; exact h.len
 here t ht := by
  by_cases hw : F.W t
  ·exact hs.env t hw
  ·rw [t1.out t hw, t2.out t hw]; exact h.here t ht
 boxes ha t := by
  by_cases hw : F.W t
  ·exact .inl (hs.env t hw)
  ·rw [t1.out t hw, t2.out t hw]; exact h.boxes ha t
 low hh := by
  by_cases hb : F.bar = true ∨ F.lw = true
  ·exact hs.low hb
  ·simp only [not_or, Bool.not_eq_true] at hb
   rw [t1.low hb.1 hb.2, t2.low hb.1 hb.2]; exact h.low hh
 ctr hh := by
  by_cases hb : F.bar = true ∨ F.lw = true
  ·exact hs.ctr hb
  ·rcases hh with h | h
   ·exact absurd (.inr h) hb
   ·exact absurd (.inl h) hb
theorem Gg.Agree.same {F : Gg} {s r : St} (h : F.Agree s r) : F.Same s r :=
 ⟨fun t ht => h.here t (by rcases ht with h | h | h; exact .inl h; exact .inr (.inr (.inl h)); exact .inr (.inr (.inr h))),
  fun hb => h.low (by rcases hb with h | h; exact .inr (.inr h); exact .inr (.inl h)), fun hb => h.ctr (by rcases hb with h | h; exact .inr h; exact .inl h)⟩
theorem Ac.bind {α β : Type} {F : Gg} {f : St → Option (α × St)} {k : α → St → Option (β × St)} (hf : Ac f F) (hk : ∀ a, Ac (k a) F) : Ac (Bw f k) F where
 turns s b s' h := by
  unfold Bw at h
  split at h
  ·rename_i a s1 h1
   exact (hf.turns s a s1 h1).trans ((hk a).turns s1 b s' h)
  ·simp at h
 same s b s' r h hag := by
  unfold Bw at h
  split at h
  ·rename_i a s1 h1
   obtain ⟨r1, hr1, same1⟩ := hf.same s a s1 r h1 hag
   obtain ⟨r', hr', same'⟩ := (hk a).same s1 b s' r1 h (hag.step (hf.turns s a s1 h1) (hf.turns r a r1 hr1) same1)
   exact ⟨r', by unfold Bw; rw [hr1]; exact hr', same'⟩
  ·simp at h
theorem Ac.fail {α : Type} {F : Gg} : Ac (fun _ => (none : Option (α × St))) F := ⟨fun _ _ _ h => by simp at h, fun _ _ _ _ h => by simp at h⟩
theorem Ac.ret {α : Type} {F : Gg} (a : α) : Ac (fun s => some (a, s)) F :=
 ⟨fun s _ s' h => by simp only [Option.some.injEq, Prod.mk.injEq] at h; rw [← h.2]; exact .refl s,
  fun s _ s' r h hag => by simp only [Option.some.injEq, Prod.mk.injEq] at h; obtain ⟨rfl, rfl⟩ := h; exact ⟨r, rfl, hag.same⟩⟩
theorem EA {α : Type} {F : Gg} {f : St → Option α} (h : ∀ s r, F.Agree s r → f s = f r) : Ac (fun s => (f s).map fun a => (a, s)) F :=
 ⟨fun s _ s' h => by simp only [Option.map_eq_some_iff, Prod.mk.injEq] at h; obtain ⟨_, _, _, rfl⟩ := h; exact .refl s,
  fun s _ s' r hs hag => by
   simp only [Option.map_eq_some_iff, Prod.mk.injEq] at hs
   obtain ⟨a, ha, rfl, rfl⟩ := hs
   exact ⟨r, by rw [← h s r hag, ha]; rfl, hag.same⟩⟩
theorem lx {F : Gg} {f : St → Option St} (h : Ac (fun s => (f s).map fun s' => ((), s')) F) : C5 f F :=
 ⟨fun s s' hs => h.turns s () s' (by simp [hs]), fun s s' r hs hag => by
  obtain ⟨r', hr, hsame⟩ := h.same s () s' r (by simp [hs]) hag
  simp only [Option.map_eq_some_iff, Prod.mk.injEq, true_and, exists_eq_right] at hr
  exact ⟨r', hr, hsame⟩⟩
section
variable (LP : A2) {F : Gg}
theorem KV {d : Nat} (hd : F.W d) (sl : BE) (ok : Option BE → Bool) (hv : F.bar = false → d ∉ F.wb → (∀ x, ok x = true → isV x) ∧ isV (some sl)) :
  Ac (fun s => if ok (s.env.get d) = true then some ((), { s with env := s.env.set d sl }) else none) F where
 turns s a s' h := by
  split at h
  ·rename_i hok
   simp only [Option.some.injEq, Prod.mk.injEq, true_and] at h
   subst h
   refine ⟨rfl, fun t ht => ?_, fun hb t ht => ?_, fun _ _ => rfl, fun _ _ => rfl⟩
   ·simp only [CE]
    rw [if_neg (fun e : t = d => ht (by rw [e]; exact hd))]
   ·simp only [CE]
    by_cases hdt : t = d
    ·subst hdt
     rw [if_pos rfl]
     obtain ⟨h1, h2⟩ := hv hb ht
     exact .inr ⟨h1 _ hok, h2⟩
    ·rw [if_neg hdt]; exact .inl rfl
  ·simp at h
 same s a s' r h hag := by
  split at h
  ·rename_i hok
   simp only [Option.some.injEq, Prod.mk.injEq, true_and] at h
   subst h
   have he := hag.same.env d hd
   refine ⟨{ r with env := r.env.set d sl }, by rw [← he, if_pos hok], fun t ht => ?_, fun hb => hag.same.low hb, fun hb => hag.same.ctr hb⟩
   simp only [CE]
   by_cases hdt : t = d
   ·rw [if_pos hdt, if_pos hdt]
   ·rw [if_neg hdt, if_neg hdt]; exact hag.same.env t ht
  ·simp at h
def uq : Option BE → Bool
 | some (.box _ _) | some (.mapo _ _ _) => false
 | _ => true
theorem kw (x : Option BE) (h : uq x = true) : isV x := by
 cases x with
 | none => trivial
 | some y => cases y <;> first | trivial | simp [uq] at h
def RP (dst : Option Nat) (v : LV) (s : St) : Option (Unit × St) := (s.put dst v).map fun s' => ((), s')
theorem DI {dst : Option Nat} (hd : ∀ d, dst = some d → F.W d) (v : LV) : Ac (RP dst v) F := by
 cases dst with
 | none => exact Ac.ret ()
 | some d =>
  have := KV (F := F) (hd d rfl) (.v v) uq (fun _ _ => ⟨kw, trivial⟩)
  have he : RP (some d) v = fun s => if uq (s.env.get d) = true then some ((), { s with env := s.env.set d (.v v) }) else none := by
   funext s
   cases he : s.env.get d with
   | none => simp [RP, St.put, uq, he]
   | some sl => cases sl <;> simp [RP, St.put, uq, he]
  rw [he]; exact this
def Gg.Sees (F : Gg) (x : vD) : Prop := ∀ t, x = .tmp t → t ∈ F.rd ∨ t ∈ F.wv ∨ t ∈ F.wb
theorem Gg.Agree.slot {s r : St} (h : F.Agree s r) {t : Nat} (ht : t ∈ F.rd ∨ t ∈ F.wv ∨ t ∈ F.wb) : s.slot t = r.slot t := by
 unfold St.slot
 rw [h.here t (.inr ht), h.len]
theorem Gg.Agree.val {s r : St} (h : F.Agree s r) {x : vD} (hx : F.Sees x) : s.val LP x = r.val LP x := by
 cases x with
 | tmp t => exact h.slot (hx t rfl)
 | _ => rfl
def t4 (x : vD) (s : St) : Option (LV × St) := some (s.val LP x, s)
theorem FH {x : vD} (hx : F.Sees x) : Ac (t4 LP x) F := by
 have := EA (F := F) (f := fun s => some (s.val LP x)) fun s r h => by rw [h.val LP hx]
 exact this
def LD (x : vD) (s : St) : Option (LV × St) := some (s.take LP x)
theorem JP {x : vD} (hx : ∀ t, x = .tmp t → F.W t) : Ac (LD LP x) F where
 turns s a s' h := by
  simp only [LD, Option.some.injEq] at h
  have h' := congrArg Prod.snd h
  simp only at h'
  subst h'
  unfold St.take
  cases x with
  | tmp t =>
   simp only
   split
   ·rename_i z xs he
    refine ⟨rfl, fun u hu => ?_, fun hb u hu => ?_, fun _ _ => rfl, fun _ _ => rfl⟩
    ·simp only [CE]
     rw [if_neg (fun e : u = t => hu (by rw [e]; exact hx t rfl))]
    ·simp only [CE]
     by_cases hut : u = t
     ·subst hut; rw [if_pos rfl, he]; exact .inr ⟨trivial, trivial⟩
     ·rw [if_neg hut]; exact .inl rfl
   ·exact .refl s
  | con => exact .refl s
  | glob => exact .refl s
 same s a s' r h hag := by
  simp only [LD, Option.some.injEq] at h
  have h1 := congrArg Prod.fst h
  have h2 := congrArg Prod.snd h
  simp only at h1 h2
  subst h1; subst h2
  unfold LD St.take
  cases x with
  | tmp t =>
   have he := hag.same.env t (hx t rfl)
   have hsl : s.slot t = r.slot t := by unfold St.slot; rw [he, hag.len]
   simp only
   cases hg : s.env.get t with
   | none => rw [hg] at he; rw [← he]; simp only; rw [hsl]; exact ⟨r, rfl, hag.same⟩
   | some sl =>
    rw [hg] at he; rw [← he]
    cases sl with
    | v x =>
     cases x with
     | hot z xs =>
      refine ⟨_, rfl, fun u hu => ?_, hag.same.low, hag.same.ctr⟩
      simp only [CE]
      by_cases hut : u = t
      ·rw [if_pos hut, if_pos hut]
      ·rw [if_neg hut, if_neg hut]; exact hag.same.env u hu
     | _ => simp only; rw [hsl]; exact ⟨r, rfl, hag.same⟩
    | box => simp only; rw [hsl]; exact ⟨r, rfl, hag.same⟩
    | mapo => simp only; rw [hsl]; exact ⟨r, rfl, hag.same⟩
  | con => exact ⟨r, rfl, hag.same⟩
  | glob => exact ⟨r, rfl, hag.same⟩
def Gg.Rooted (F : Gg) (root : Option (Option Nat)) : Prop := match root with
 | none => F.all = true ∨ F.bar = true
 | some (some q) => q ∈ F.rd ∨ q ∈ F.wv ∨ q ∈ F.wb
 | some none => True
theorem S7 {s r : St} {j t : Nat} (h : s.at j t = r.at j t ∨ (isV (s.at j t) ∧ isV (r.at j t))) (g n : Nat) : s.cells j t g = r.cells j t g ∧ s.entries j t g n = r.entries j t g n := by
 unfold St.cells St.entries
 rcases h with h | ⟨h1, h2⟩
 ·rw [h]; exact ⟨rfl, rfl⟩
 ·generalize s.at j t = x at h1 ⊢
  generalize r.at j t = y at h2 ⊢
  cases x with
  | none =>
   cases y with
   | none => exact ⟨rfl, rfl⟩
   | some y => cases y <;> first | exact ⟨rfl, rfl⟩ | simp [isV] at h2
  | some x =>
   cases x <;> first | (simp [isV] at h1; done) | skip
   cases y with
   | none => exact ⟨rfl, rfl⟩
   | some y => cases y <;> first | exact ⟨rfl, rfl⟩ | simp [isV] at h2
theorem Gg.Agree.at {s r : St} (h : F.Agree s r) {root : Option (Option Nat)} (hr : F.Rooted root) {j t : Nat} (hk : ∀ q, root = some q → j = s.low.length ∧ q = some t) :
  s.at j t = r.at j t ∨ (isV (s.at j t) ∧ isV (r.at j t)) := by
 unfold St.at
 rw [← h.len]
 cases root with
 | none =>
  by_cases hj : j = s.low.length
  ·rw [if_pos hj, if_pos hj]
   rcases hr with ha | hb
   ·exact h.boxes ha t
   ·exact .inl (h.here t (.inl hb))
  ·rw [if_neg hj, if_neg hj, h.low (by rcases hr with ha | hb; exact .inl ha; exact .inr (.inr hb))]
   exact .inl rfl
 | some q =>
  obtain ⟨h1, h2⟩ := hk q rfl
  subst h2
  rw [if_pos h1, if_pos h1]
  exact .inl (h.here t (.inr hr))
def tO (j t g : Nat) (s : St) : Option (List LV × St) := (s.cells j t g).map fun cs => (cs, s)
def sB (j t g n : Nat) (s : St) : Option (List (List Int × LV) × St) := (s.entries j t g n).map fun cs => (cs, s)
def pP (root : Option (Option Nat)) (x : LV) (s : St) : Option (Unit × St) := if Ak s.low.length root (some x) then some ((), s) else none
theorem qO {root : Option (Option Nat)} {x : LV} : Ac (pP root x) F := by
 have := EA (F := F) (f := fun s => if Ak s.low.length root (some x) then some () else none) fun s r h => by rw [h.len]
 have he : pP root x = fun s => (if Ak s.low.length root (some x) then some () else none).map fun a => (a, s) := by
  funext s; unfold pP; split <;> rfl
 rw [he]; exact this
end
end Go.Lf
