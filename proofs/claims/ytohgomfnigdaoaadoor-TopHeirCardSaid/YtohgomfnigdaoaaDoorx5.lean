/- A part of the proof. -/
import Derived.Test.YtohgomfnigdaoaaDoorx0
set_option linter.all false
namespace Go.Lf
open Go
theorem Cb (t u : Nat) (s : BL) (e : xl) : (xl.set t s e).get u = if u = t then some s else e.get u := by
 induction e with
 | nil =>
  simp only [xl.set, xl.get]
  by_cases h : t = u
  ·subst h; simp
  ·rw [if_neg h, if_neg (fun h' => h h'.symm)]
 | cons p r ih =>
  obtain ⟨v, x⟩ := p
  simp only [xl.set]
  by_cases h : v = t
  ·subst h
   simp only [if_pos, xl.get]
   by_cases h : v = u
   ·subst h; simp
   ·rw [if_neg h, if_neg (fun h' => h h'.symm), if_neg h]
  ·rw [if_neg h]
   simp only [xl.get]
   by_cases h' : v = u
   ·subst h'; rw [if_pos rfl, if_neg h, if_pos rfl]
   ·rw [if_neg h', if_neg h', ih]
theorem Lj (vis : List Nat) (e e' : xl) (t : Nat) :
  (xl.merge vis e e').get t = if vis.contains t then (if (e.get t).isSome then e'.get t else none) else e.get t := by
 induction e with
 | nil => simp [xl.merge, xl.get]
 | cons p r ih =>
  obtain ⟨u, x⟩ := p
  unfold xl.merge at ih ⊢
  rw [List.filterMap_cons]
  by_cases hu : u = t
  ·subst hu
   by_cases hv : vis.contains u = true
   ·simp only [hv, if_true, xl.get, Option.isSome_some] at ih ⊢
    cases he : e'.get u with
    | none => simp only [Option.map_none]; rw [ih, he]; split <;> rfl
    | some s => simp [xl.get]
   ·simp only [hv, xl.get, if_true, Bool.false_eq_true, if_false]
  ·have hg : xl.get t ((u, x) :: r) = xl.get t r := by simp [xl.get, hu]
   rw [hg, ← ih]
   by_cases hv : vis.contains u = true
   ·simp only [hv, if_true]
    cases he : e'.get u with
    | none => simp only [Option.map_none]
    | some s => simp [xl.get, hu]
   ·simp only [hv, Bool.false_eq_true, if_false, xl.get, hu]
theorem YT {ks : List Nat} {e e' : xl} (h : ∀ t ∈ ks, e.get t = e'.get t) : e.keep ks = e'.keep ks := by
 unfold xl.keep
 induction ks with
 | nil => rfl
 | cons k ks ih =>
  rw [List.filterMap_cons, List.filterMap_cons, h k (by simp), ih fun t ht => h t (by simp [ht])]
def yV.tmp? : yV → List Nat
 | .tmp t => [t]
 | _ => []
def yE.opds : yE → List yV
 | .move x _ | .box _ x | .load _ x _ | .faddr _ x | .field _ _ x | .un _ x | .len x | .extract _ x _ => [x]
 | .pick a b c | .mapset _ a b c | .mstore _ a b c => [a, b, c]
 | .build _ ps | .lit _ _ _ ps => ps.map (·.2.2)
 | .store _ x y | .iaddrS _ x y | .iaddrA _ _ x y | .index _ _ _ x y | .bin _ x y | .eqb _ x y | .eqa _ _ x y | .append _ _ x y | .lookup _ x y _ _ | .mentry _ x y _ => [x, y]
 | .call f as _ => f :: as
 | .minmax _ xs => xs
 | .slice _ x a b c => x :: (a.toList ++ b.toList ++ c.toList)
 | .mkfn _ a b => a ++ b
 | .alloc _ | .mkmap _ | .bad => []
structure Hf where
 rd : List Nat
 wv : List Nat := []
 wb : List Nat := []
 all : Bool := false
 bar : Bool := false
 lw : Bool := false
def own (root : Option (Option Nat)) : List Nat := match root with
 | some (some r) => [r]
 | _ => []
def AH.foot (o : AH) : Hf :=
 let rd := o.op.opds.flatMap yV.tmp? ++ (match o.guard with | some (t, _) => [t] | none => [])
 let d := o.dst.toList
 match o.op with
 | .move x true => { rd, wv := x.tmp? ++ d }
 | .append _ _ x _ => { rd, wv := x.tmp? ++ d }
 | .extract _ x true => { rd, wv := x.tmp? ++ d }
 | .alloc _ | .box _ _ | .mkmap _ => { rd, wb := d }
 | .load _ _ false | .lookup _ _ _ _ _ => match o.root with
  | none => { rd, wv := d, all := true }
  | some _ => { rd := own o.root ++ rd, wv := d }
 | .load _ _ true => match o.root with
  | none => { rd, bar := true }
  | some _ => { rd, wb := own o.root, wv := d }
 | .store _ _ x => match o.root with
  | none => { rd, bar := true }
  | some _ => { rd, wb := own o.root, wv := x.tmp? ++ d }
 | .mapset _ _ _ x | .mstore _ _ _ x => match o.root with
  | none => { rd, bar := true }
  | some _ => { rd, wb := own o.root, wv := x.tmp? ++ d }
 | .mentry _ _ _ _ => match o.root with
  | none => { rd, bar := true }
  | some _ => { rd, wb := own o.root, wv := d }
 | .call _ _ (some vis) => { rd, wb := vis, wv := d, lw := true }
 | _ => { rd, wv := d }
def td (a b : List Nat) : Bool := a.all fun t => !b.contains t
def Hf.apart (p q : Hf) : Bool :=
 !p.bar && !q.bar && td (p.wv ++ p.wb) (q.rd ++ q.wv ++ q.wb) && td (q.wv ++ q.wb) (p.rd ++ p.wv ++ p.wb) &&
 (!p.all || (q.wb.isEmpty && !q.lw)) && (!q.all || (p.wb.isEmpty && !p.lw)) && !(p.lw && q.lw)
def isV : Option BL → Prop
 | some (.box _ _) | some (.mapo _ _ _) => False
 | _ => True
def Hf.W (F : Hf) (t : Nat) : Prop := F.bar = true ∨ t ∈ F.wv ∨ t ∈ F.wb
structure Hf.Agree (F : Hf) (s r : St) : Prop where
 len : s.low.length = r.low.length
 here : ∀ t, F.bar = true ∨ t ∈ F.rd ∨ t ∈ F.wv ∨ t ∈ F.wb → s.env.get t = r.env.get t
 boxes : F.all = true → ∀ t, s.env.get t = r.env.get t ∨ (isV (s.env.get t) ∧ isV (r.env.get t))
 low : F.all = true ∨ F.lw = true ∨ F.bar = true → s.low = r.low
 ctr : F.lw = true ∨ F.bar = true → s.ctr = r.ctr
structure Hf.Turns (F : Hf) (s s' : St) : Prop where
 len : s'.low.length = s.low.length
 out : ∀ t, ¬ F.W t → s'.env.get t = s.env.get t
 val : F.bar = false → ∀ t, t ∉ F.wb → s'.env.get t = s.env.get t ∨ (isV (s.env.get t) ∧ isV (s'.env.get t))
 low : F.bar = false → F.lw = false → s'.low = s.low
 ctr : F.bar = false → F.lw = false → s'.ctr = s.ctr
structure Hf.Same (F : Hf) (s' r' : St) : Prop where
 env : ∀ t, F.W t → s'.env.get t = r'.env.get t
 low : F.bar = true ∨ F.lw = true → s'.low = r'.low
 ctr : F.bar = true ∨ F.lw = true → s'.ctr = r'.ctr
structure Db (f : St → Option St) (F : Hf) : Prop where
 turns : ∀ s s', f s = some s' → F.Turns s s'
 same : ∀ s s' r, f s = some s' → F.Agree s r → ∃ r', f r = some r' ∧ F.Same s' r'
structure ZW (s r : St) : Prop where
 env : ∀ t, s.env.get t = r.env.get t
 low : s.low = r.low
 ctr : s.ctr = r.ctr
theorem ZW.refl (s : St) : ZW s s := ⟨fun _ => rfl, rfl, rfl⟩
theorem ZW.symm {s r : St} (h : ZW s r) : ZW r s := ⟨fun t => (h.env t).symm, h.low.symm, h.ctr.symm⟩
theorem ZW.trans {a b c : St} (h : ZW a b) (h' : ZW b c) : ZW a c := ⟨fun t => (h.env t).trans (h'.env t), h.low.trans h'.low, h.ctr.trans h'.ctr⟩
theorem ZW.agree {s r : St} (h : ZW s r) (F : Hf) : F.Agree s r := ⟨by rw [h.low], fun t _ => h.env t, fun _ t => .inl (h.env t), fun _ => h.low, fun _ => h.ctr⟩
theorem Db.congr {f : St → Option St} {F : Hf} (h : Db f F) {s r s' : St} (he : ZW s r) (hs : f s = some s') : ∃ r', f r = some r' ∧ ZW s' r' := by
 obtain ⟨r', hr, hsame⟩ := h.same s s' r hs (he.agree F)
 have t1 := h.turns s s' hs
 have t2 := h.turns r r' hr
 refine ⟨r', hr, fun t => ?_, ?_, ?_⟩
 ·by_cases hw : F.W t
  ·exact hsame.env t hw
  ·rw [t1.out t hw, t2.out t hw]; exact he.env t
 ·by_cases hb : F.bar = true ∨ F.lw = true
  ·exact hsame.low hb
  ·simp only [not_or, Bool.not_eq_true] at hb
   rw [t1.low hb.1 hb.2, t2.low hb.1 hb.2]; exact he.low
 ·by_cases hb : F.bar = true ∨ F.lw = true
  ·exact hsame.ctr hb
  ·simp only [not_or, Bool.not_eq_true] at hb
   rw [t1.ctr hb.1 hb.2, t2.ctr hb.1 hb.2]; exact he.ctr
theorem Nk {a b : List Nat} (h : td a b = true) : ∀ t, t ∈ a → t ∉ b := by
 intro t ht hb
 simp only [td, List.all_eq_true, Bool.not_eq_true', List.contains_eq_mem, decide_eq_false_iff_not] at h
 exact h t ht hb
theorem sq {F : Hf} (hb : F.bar = false) {t : Nat} (h : t ∉ F.wv) (h' : t ∉ F.wb) : ¬ F.W t := by
 rintro (h1 | h1 | h1)
 ·rw [hb] at h1; simp at h1
 ·exact h h1
 ·exact h' h1
theorem kR {p q : Hf} {s s1 : St} (hp : p.bar = false) (hq : q.bar = false) (hd : td (p.wv ++ p.wb) (q.rd ++ q.wv ++ q.wb) = true)
  (ha : q.all = true → p.wb = [] ∧ p.lw = false) (hl : ¬ (p.lw = true ∧ q.lw = true)) (ht : p.Turns s s1) : q.Agree s1 s := by
 have hd' := Nk hd
 refine ⟨ht.len, fun t h => ?_, fun hqa t => ?_, fun h => ?_, fun h => ?_⟩
 ·have hin : t ∈ q.rd ++ q.wv ++ q.wb := by
   simp only [List.mem_append]
   rcases h with h | h | h | h
   ·rw [hq] at h; simp at h
   ·exact .inl (.inl h)
   ·exact .inl (.inr h)
   ·exact .inr h
  refine ht.out t (sq hp (fun h' => hd' t (by simp [h']) hin) fun h' => hd' t (by simp [h']) hin)
 ·obtain ⟨h1, h2⟩ := ha hqa
  exact (ht.val hp t (by rw [h1]; simp)).imp id fun h => ⟨h.2, h.1⟩
 ·have hplw : p.lw = false := by
   rcases h with h | h | h
   ·exact (ha h).2
   ·cases hpl : p.lw
    ·rfl
    ·exact absurd ⟨hpl, h⟩ hl
   ·rw [hq] at h; simp at h
  exact ht.low hp hplw
 ·have hplw : p.lw = false := by
   rcases h with h | h
   ·cases hpl : p.lw
    ·rfl
    ·exact absurd ⟨hpl, h⟩ hl
   ·rw [hq] at h; simp at h
  exact ht.ctr hp hplw
theorem Xa {p q : Hf} (h : p.apart q = true) : p.bar = false ∧ q.bar = false ∧ td (p.wv ++ p.wb) (q.rd ++ q.wv ++ q.wb) = true ∧
  td (q.wv ++ q.wb) (p.rd ++ p.wv ++ p.wb) = true ∧ (p.all = true → q.wb = [] ∧ q.lw = false) ∧ (q.all = true → p.wb = [] ∧ p.lw = false) ∧ ¬ (p.lw = true ∧ q.lw = true) := by
 unfold Hf.apart at h
 simp only [Bool.and_eq_true, Bool.not_eq_true', Bool.or_eq_true, List.isEmpty_iff] at h
 obtain ⟨⟨⟨⟨⟨⟨h1, h2⟩, h3⟩, h4⟩, h5⟩, h6⟩, h7⟩ := h
 refine ⟨h1, h2, h3, h4, fun ha => ?_, fun ha => ?_, fun hl => ?_⟩
 ·rcases h5 with h5 | h5
  ·rw [ha] at h5; simp at h5
  ·exact h5
 ·rcases h6 with h6 | h6
  ·rw [ha] at h6; simp at h6
  ·exact h6
 ·rw [hl.1, hl.2] at h7; simp at h7
theorem Db.swap {f h : St → Option St} {p q : Hf} (lf : Db f p) (lh : Db h q) (ha : p.apart q = true) {s s1 s2 : St} (h1 : f s = some s1) (h2 : h s1 = some s2) :
  ∃ r1 r2, h s = some r1 ∧ f r1 = some r2 ∧ ZW s2 r2 := by
 obtain ⟨hp, hq, d1, d2, a1, a2, hl⟩ := Xa ha
 have t1 := lf.turns s s1 h1
 obtain ⟨r1, hr1, same1⟩ := lh.same s1 s2 s h2 (kR hp hq d1 a2 hl t1)
 have u1 := lh.turns s1 s2 h2
 have u2 := lh.turns s r1 hr1
 have hag : p.Agree r1 s := kR hq hp d2 a1 (fun h => hl ⟨h.2, h.1⟩) u2
 obtain ⟨r2, hr2, same2⟩ := lf.same s s1 r1 h1 ⟨hag.len.symm, fun t ht => (hag.here t ht).symm, fun ha t => (hag.boxes ha t).imp (·.symm) (·.symm), fun h => (hag.low h).symm, fun h => (hag.ctr h).symm⟩
 have u3 := lf.turns r1 r2 hr2
 refine ⟨r1, r2, hr1, hr2, fun t => ?_, ?_, ?_⟩
 ·by_cases hqt : q.W t
  ·have hpt : ¬ p.W t := by
    rcases hqt with h | h | h
    ·rw [hq] at h; simp at h
    ·exact sq hp (fun h' => Nk d1 t (by simp [h']) (by simp [h])) fun h' => Nk d1 t (by simp [h']) (by simp [h])
    ·exact sq hp (fun h' => Nk d1 t (by simp [h']) (by simp [h])) fun h' => Nk d1 t (by simp [h']) (by simp [h])
   rw [same1.env t hqt, u3.out t hpt]
  ·rw [u1.out t hqt]
   by_cases hpt : p.W t
   ·exact same2.env t hpt
   ·rw [t1.out t hpt, u3.out t hpt, u2.out t hqt]
 ·cases hpl : p.lw with
  | true =>
   have hql : q.lw = false := by cases hq' : q.lw; rfl; exact absurd ⟨hpl, hq'⟩ hl
   rw [u1.low hq hql]; exact same2.low (.inr hpl)
  | false =>
   rw [u3.low hp hpl]
   cases hql : q.lw with
   | true => exact same1.low (.inr hql)
   | false => rw [u1.low hq hql, u2.low hq hql, t1.low hp hpl]
 ·cases hpl : p.lw with
  | true =>
   have hql : q.lw = false := by cases hq' : q.lw; rfl; exact absurd ⟨hpl, hq'⟩ hl
   rw [u1.ctr hq hql]; exact same2.ctr (.inr hpl)
  | false =>
   rw [u3.ctr hp hpl]
   cases hql : q.lw with
   | true => exact same1.ctr (.inr hql)
   | false => rw [u1.ctr hq hql, u2.ctr hq hql, t1.ctr hp hpl]
end Go.Lf
namespace Go.Lf
open Go
structure Af {α : Type} (f : St → Option (α × St)) (F : Hf) : Prop where
 turns : ∀ s a s', f s = some (a, s') → F.Turns s s'
 same : ∀ s a s' r, f s = some (a, s') → F.Agree s r → ∃ r', f r = some (a, r') ∧ F.Same s' r'
def CO {α β : Type} (f : St → Option (α × St)) (k : α → St → Option (β × St)) : St → Option (β × St) := fun s => match f s with
 | some (a, s') => k a s'
 | none => none
theorem Hf.Turns.refl {F : Hf} (s : St) : F.Turns s s := ⟨rfl, fun _ _ => rfl, fun _ _ _ => .inl rfl, fun _ _ => rfl, fun _ _ => rfl⟩
theorem Hf.Turns.trans {F : Hf} {a b c : St} (h : F.Turns a b) (h' : F.Turns b c) : F.Turns a c where
 len := h'.len.trans h.len
 out t ht := (h'.out t ht).trans (h.out t ht)
 val hb t ht := by
  rcases h.val hb t ht with e | ⟨e1, e2⟩
  ·rcases h'.val hb t ht with e' | ⟨e1', e2'⟩
   ·exact .inl (e'.trans e)
   ·exact .inr ⟨by rw [← e]; exact e1', e2'⟩
  ·rcases h'.val hb t ht with e' | ⟨_, e2'⟩
   ·exact .inr ⟨e1, by rw [e']; exact e2⟩
   ·exact .inr ⟨e1, e2'⟩
 low hb hl := (h'.low hb hl).trans (h.low hb hl)
 ctr hb hl := (h'.ctr hb hl).trans (h.ctr hb hl)
theorem Hf.Agree.step {F : Hf} {s r s' r' : St} (h : F.Agree s r) (t1 : F.Turns s s') (t2 : F.Turns r r') (hs : F.Same s' r') : F.Agree s' r' where
 len := by rw [t1.len, t2.len]; exact h.len
 here t ht := by
  by_cases hw : F.W t
  ·exact hs.env t hw
  ·rw [t1.out t hw, t2.out t hw]; exact h.here t ht
 boxes ha t := by
  by_cases hw : F.W t
  ·exact .inl (hs.env t hw)
  ·rw [t1.out t hw, t2.out t hw]; exact h.boxes ha t
 low hh := by
  by_cases hb : F.bar = true ∨ F.lw = true
  ·exact hs.low hb
  ·simp only [not_or, Bool.not_eq_true] at hb
   rw [t1.low hb.1 hb.2, t2.low hb.1 hb.2]; exact h.low hh
 ctr hh := by
  by_cases hb : F.bar = true ∨ F.lw = true
  ·exact hs.ctr hb
  ·rcases hh with h | h
   ·exact absurd (.inr h) hb
   ·exact absurd (.inl h) hb
theorem Hf.Agree.same {F : Hf} {s r : St} (h : F.Agree s r) : F.Same s r :=
 ⟨fun t ht => h.here t (by rcases ht with h | h | h; exact .inl h; exact .inr (.inr (.inl h)); exact .inr (.inr (.inr h))),
  fun hb => h.low (by rcases hb with h | h; exact .inr (.inr h); exact .inr (.inl h)), fun hb => h.ctr (by rcases hb with h | h; exact .inr h; exact .inl h)⟩
theorem Af.bind {α β : Type} {F : Hf} {f : St → Option (α × St)} {k : α → St → Option (β × St)} (hf : Af f F) (hk : ∀ a, Af (k a) F) : Af (CO f k) F where
 turns s b s' h := by
  unfold CO at h
  split at h
  ·rename_i a s1 h1
   exact (hf.turns s a s1 h1).trans ((hk a).turns s1 b s' h)
  ·simp at h
 same s b s' r h hag := by
  unfold CO at h
  split at h
  ·rename_i a s1 h1
   obtain ⟨r1, hr1, same1⟩ := hf.same s a s1 r h1 hag
   obtain ⟨r', hr', same'⟩ := (hk a).same s1 b s' r1 h (hag.step (hf.turns s a s1 h1) (hf.turns r a r1 hr1) same1)
   exact ⟨r', by unfold CO; rw [hr1]; exact hr', same'⟩
  ·simp at h
theorem Af.fail {α : Type} {F : Hf} : Af (fun _ => (none : Option (α × St))) F := ⟨fun _ _ _ h => by simp at h, fun _ _ _ _ h => by simp at h⟩
theorem Af.ret {α : Type} {F : Hf} (a : α) : Af (fun s => some (a, s)) F :=
 ⟨fun s _ s' h => by simp only [Option.some.injEq, Prod.mk.injEq] at h; rw [← h.2]; exact .refl s,
  fun s _ s' r h hag => by simp only [Option.some.injEq, Prod.mk.injEq] at h; obtain ⟨rfl, rfl⟩ := h; exact ⟨r, rfl, hag.same⟩⟩
theorem Ee {α : Type} {F : Hf} {f : St → Option α} (h : ∀ s r, F.Agree s r → f s = f r) : Af (fun s => (f s).map fun a => (a, s)) F :=
 ⟨fun s _ s' h => by simp only [Option.map_eq_some_iff, Prod.mk.injEq] at h; obtain ⟨_, _, _, rfl⟩ := h; exact .refl s,
  fun s _ s' r hs hag => by
   simp only [Option.map_eq_some_iff, Prod.mk.injEq] at hs
   obtain ⟨a, ha, rfl, rfl⟩ := hs
   exact ⟨r, by rw [← h s r hag, ha]; rfl, hag.same⟩⟩
theorem nV {F : Hf} {f : St → Option St} (h : Af (fun s => (f s).map fun s' => ((), s')) F) : Db f F :=
 ⟨fun s s' hs => h.turns s () s' (by simp [hs]), fun s s' r hs hag => by
  obtain ⟨r', hr, hsame⟩ := h.same s () s' r (by simp [hs]) hag
  simp only [Option.map_eq_some_iff, Prod.mk.injEq, true_and, exists_eq_right] at hr
  exact ⟨r', hr, hsame⟩⟩
section
variable (LP : A2) {F : Hf}
theorem Ll {d : Nat} (hd : F.W d) (sl : BL) (ok : Option BL → Bool) (hv : F.bar = false → d ∉ F.wb → (∀ x, ok x = true → isV x) ∧ isV (some sl)) :
  Af (fun s => if ok (s.env.get d) = true then some ((), { s with env := s.env.set d sl }) else none) F where
 turns s a s' h := by
  split at h
  ·rename_i hok
   simp only [Option.some.injEq, Prod.mk.injEq, true_and] at h
   subst h
   refine ⟨rfl, fun t ht => ?_, fun hb t ht => ?_, fun _ _ => rfl, fun _ _ => rfl⟩
   ·simp only [Cb]
    rw [if_neg (fun e : t = d => ht (by rw [e]; exact hd))]
   ·simp only [Cb]
    by_cases hdt : t = d
    ·subst hdt
     rw [if_pos rfl]
     obtain ⟨h1, h2⟩ := hv hb ht
     exact .inr ⟨h1 _ hok, h2⟩
    ·rw [if_neg hdt]; exact .inl rfl
  ·simp at h
 same s a s' r h hag := by
  split at h
  ·rename_i hok
   simp only [Option.some.injEq, Prod.mk.injEq, true_and] at h
   subst h
   have he := hag.same.env d hd
   refine ⟨{ r with env := r.env.set d sl }, by rw [← he, if_pos hok], fun t ht => ?_, fun hb => hag.same.low hb, fun hb => hag.same.ctr hb⟩
   simp only [Cb]
   by_cases hdt : t = d
   ·rw [if_pos hdt, if_pos hdt]
   ·rw [if_neg hdt, if_neg hdt]; exact hag.same.env t ht
  ·simp at h
def yS : Option BL → Bool
 | some (.box _ _) | some (.mapo _ _ _) => false
 | _ => true
theorem ou (x : Option BL) (h : yS x = true) : isV x := by
 cases x with
 | none => trivial
 | some y => cases y <;> first | trivial | simp [yS] at h
def UZ (dst : Option Nat) (v : LV) (s : St) : Option (Unit × St) := (s.put dst v).map fun s' => ((), s')
theorem Dp {dst : Option Nat} (hd : ∀ d, dst = some d → F.W d) (v : LV) : Af (UZ dst v) F := by
 cases dst with
 | none => exact Af.ret ()
 | some d =>
  have := Ll (F := F) (hd d rfl) (.v v) yS (fun _ _ => ⟨ou, trivial⟩)
  have he : UZ (some d) v = fun s => if yS (s.env.get d) = true then some ((), { s with env := s.env.set d (.v v) }) else none := by
   funext s
   cases he : s.env.get d with
   | none => simp [UZ, St.put, yS, he]
   | some sl => cases sl <;> simp [UZ, St.put, yS, he]
  rw [he]; exact this
def Hf.Sees (F : Hf) (x : yV) : Prop := ∀ t, x = .tmp t → t ∈ F.rd ∨ t ∈ F.wv ∨ t ∈ F.wb
theorem Hf.Agree.slot {s r : St} (h : F.Agree s r) {t : Nat} (ht : t ∈ F.rd ∨ t ∈ F.wv ∨ t ∈ F.wb) : s.slot t = r.slot t := by
 unfold St.slot
 rw [h.here t (.inr ht), h.len]
theorem Hf.Agree.val {s r : St} (h : F.Agree s r) {x : yV} (hx : F.Sees x) : s.val LP x = r.val LP x := by
 cases x with
 | tmp t => exact h.slot (hx t rfl)
 | _ => rfl
def yW (x : yV) (s : St) : Option (LV × St) := some (s.val LP x, s)
theorem GV {x : yV} (hx : F.Sees x) : Af (yW LP x) F := by
 have := Ee (F := F) (f := fun s => some (s.val LP x)) fun s r h => by rw [h.val LP hx]
 exact this
def NY (x : yV) (s : St) : Option (LV × St) := some (s.take LP x)
theorem K1 {x : yV} (hx : ∀ t, x = .tmp t → F.W t) : Af (NY LP x) F where
 turns s a s' h := by
  simp only [NY, Option.some.injEq] at h
  have h' := congrArg Prod.snd h
  simp only at h'
  subst h'
  unfold St.take
  cases x with
  | tmp t =>
   simp only
   split
   ·rename_i z xs he
    refine ⟨rfl, fun u hu => ?_, fun hb u hu => ?_, fun _ _ => rfl, fun _ _ => rfl⟩
    ·simp only [Cb]
     rw [if_neg (fun e : u = t => hu (by rw [e]; exact hx t rfl))]
    ·simp only [Cb]
     by_cases hut : u = t
     ·subst hut; rw [if_pos rfl, he]; exact .inr ⟨trivial, trivial⟩
     ·rw [if_neg hut]; exact .inl rfl
   ·exact .refl s
  | con => exact .refl s
  | glob => exact .refl s
 same s a s' r h hag := by
  simp only [NY, Option.some.injEq] at h
  have h1 := congrArg Prod.fst h
  have h2 := congrArg Prod.snd h
  simp only at h1 h2
  subst h1; subst h2
  unfold NY St.take
  cases x with
  | tmp t =>
   have he := hag.same.env t (hx t rfl)
   have hsl : s.slot t = r.slot t := by unfold St.slot; rw [he, hag.len]
   simp only
   cases hg : s.env.get t with
   | none => rw [hg] at he; rw [← he]; simp only; rw [hsl]; exact ⟨r, rfl, hag.same⟩
   | some sl =>
    rw [hg] at he; rw [← he]
    cases sl with
    | v x =>
     cases x with
     | hot z xs =>
      refine ⟨_, rfl, fun u hu => ?_, hag.same.low, hag.same.ctr⟩
      simp only [Cb]
      by_cases hut : u = t
      ·rw [if_pos hut, if_pos hut]
      ·rw [if_neg hut, if_neg hut]; exact hag.same.env u hu
     | _ => simp only; rw [hsl]; exact ⟨r, rfl, hag.same⟩
    | box => simp only; rw [hsl]; exact ⟨r, rfl, hag.same⟩
    | mapo => simp only; rw [hsl]; exact ⟨r, rfl, hag.same⟩
  | con => exact ⟨r, rfl, hag.same⟩
  | glob => exact ⟨r, rfl, hag.same⟩
def Hf.Rooted (F : Hf) (root : Option (Option Nat)) : Prop := match root with
 | none => F.all = true ∨ F.bar = true
 | some (some q) => q ∈ F.rd ∨ q ∈ F.wv ∨ q ∈ F.wb
 | some none => True
theorem Vn {s r : St} {j t : Nat} (h : s.at j t = r.at j t ∨ (isV (s.at j t) ∧ isV (r.at j t))) (g n : Nat) : s.cells j t g = r.cells j t g ∧ s.entries j t g n = r.entries j t g n := by
 unfold St.cells St.entries
 rcases h with h | ⟨h1, h2⟩
 ·rw [h]; exact ⟨rfl, rfl⟩
 ·generalize s.at j t = x at h1 ⊢
  generalize r.at j t = y at h2 ⊢
  cases x with
  | none =>
   cases y with
   | none => exact ⟨rfl, rfl⟩
   | some y => cases y <;> first | exact ⟨rfl, rfl⟩ | simp [isV] at h2
  | some x =>
   cases x <;> first | (simp [isV] at h1; done) | skip
   cases y with
   | none => exact ⟨rfl, rfl⟩
   | some y => cases y <;> first | exact ⟨rfl, rfl⟩ | simp [isV] at h2
theorem Hf.Agree.at {s r : St} (h : F.Agree s r) {root : Option (Option Nat)} (hr : F.Rooted root) {j t : Nat} (hk : ∀ q, root = some q → j = s.low.length ∧ q = some t) :
  s.at j t = r.at j t ∨ (isV (s.at j t) ∧ isV (r.at j t)) := by
 unfold St.at
 rw [← h.len]
 cases root with
 | none =>
  by_cases hj : j = s.low.length
  ·rw [if_pos hj, if_pos hj]
   rcases hr with ha | hb
   ·exact h.boxes ha t
   ·exact .inl (h.here t (.inl hb))
  ·rw [if_neg hj, if_neg hj, h.low (by rcases hr with ha | hb; exact .inl ha; exact .inr (.inr hb))]
   exact .inl rfl
 | some q =>
  obtain ⟨h1, h2⟩ := hk q rfl
  subst h2
  rw [if_pos h1, if_pos h1]
  exact .inl (h.here t (.inr hr))
def ww (j t g : Nat) (s : St) : Option (List LV × St) := (s.cells j t g).map fun cs => (cs, s)
def vj (j t g n : Nat) (s : St) : Option (List (List Int × LV) × St) := (s.entries j t g n).map fun cs => (cs, s)
def t9 (root : Option (Option Nat)) (x : LV) (s : St) : Option (Unit × St) := if Ao s.low.length root (some x) then some ((), s) else none
theorem to {root : Option (Option Nat)} {x : LV} : Af (t9 root x) F := by
 have := Ee (F := F) (f := fun s => if Ao s.low.length root (some x) then some () else none) fun s r h => by rw [h.len]
 have he : t9 root x = fun s => (if Ao s.low.length root (some x) then some () else none).map fun a => (a, s) := by
  funext s; unfold t9; split <;> rfl
 rw [he]; exact this
end
end Go.Lf
namespace Go.Lf
open Go
section
variable (LP : A2) {F : Hf}
theorem np (s : St) (j t : Nat) (sl : BL) : (s.setAt j t sl).low.length = s.low.length := by
 unfold St.setAt; split <;> simp
def Hf.Holds (F : Hf) (root : Option (Option Nat)) : Prop := match root with
 | none => F.bar = true
 | some (some q) => q ∈ F.wb
 | some none => True
theorem Hf.Holds.rooted {root : Option (Option Nat)} (h : F.Holds root) : F.Rooted root := by
 cases root with
 | none => exact .inr h
 | some q => cases q with
  | none => trivial
  | some q => exact .inr (.inr h)
theorem QX {k j t g off : Nat} {root : Option (Option Nat)} (h : Ao k root (some (.ptr j t g off)) = true) : ∀ q, root = some q → j = k ∧ q = some t := by
 intro q hq
 subst hq
 simpa [Ao] using h
theorem Qq {k j t g : Nat} {root : Option (Option Nat)} (h : Ao k root (some (.mref j t g)) = true) : ∀ q, root = some q → j = k ∧ q = some t := by
 intro q hq
 subst hq
 simpa [Ao] using h
theorem XB {root : Option (Option Nat)} (hF : F.Holds root) {s : St} {j t : Nat} {sl : BL} (hk : ∀ q, root = some q → j = s.low.length ∧ q = some t) : F.Turns s (s.setAt j t sl) := by
 cases root with
 | none => exact ⟨np s j t sl, fun u hu => absurd (.inl hF) hu, fun hb => by rw [hF] at hb; simp at hb, fun hb => by rw [hF] at hb; simp at hb, fun hb => by rw [hF] at hb; simp at hb⟩
 | some q =>
  obtain ⟨rfl, rfl⟩ := hk q rfl
  unfold St.setAt
  rw [if_pos rfl]
  refine ⟨rfl, fun u hu => ?_, fun hb u hu => .inl ?_, fun _ _ => rfl, fun _ _ => rfl⟩
  ·simp only [Cb]
   rw [if_neg (fun e : u = t => hu (by rw [e]; exact .inr (.inr hF)))]
  ·simp only [Cb]
   rw [if_neg (fun e : u = t => hu (by rw [e]; exact hF))]
theorem Zs {root : Option (Option Nat)} (hF : F.Holds root) {s r : St} (h : F.Agree s r) {j t : Nat} {sl : BL} (hk : ∀ q, root = some q → j = s.low.length ∧ q = some t) :
  F.Same (s.setAt j t sl) (r.setAt j t sl) := by
 cases root with
 | none =>
  have hl := h.low (.inr (.inr hF))
  unfold St.setAt
  rw [hl]
  split
  ·refine ⟨fun u hu => ?_, fun _ => rfl, h.same.ctr⟩
   simp only [Cb]
   rw [h.here u (.inl hF)]
  ·exact ⟨fun u hu => h.here u (.inl hF), fun _ => rfl, h.same.ctr⟩
 | some q =>
  obtain ⟨rfl, rfl⟩ := hk q rfl
  unfold St.setAt
  rw [← h.len, if_pos rfl, if_pos rfl]
  refine ⟨fun u hu => ?_, h.same.low, h.same.ctr⟩
  simp only [Cb]
  by_cases hut : u = t
  ·rw [if_pos hut, if_pos hut]
  ·rw [if_neg hut, if_neg hut]; exact h.same.env u hu
def N5 {α : Type} (root : Option (Option Nat)) (j t g off : Nat) (k : List LV → Option (α × List LV)) (s : St) : Option (α × St) :=
 if Ao s.low.length root (some (.ptr j t g off)) = true then match s.cells j t g with
  | some cs => match k cs with
   | some (a, cs') => some (a, s.setAt j t (.box g cs'))
   | none => none
  | none => none
 else none
theorem UL {α : Type} {root : Option (Option Nat)} (hF : F.Holds root) (j t g off : Nat) (k : List LV → Option (α × List LV)) : Af (N5 root j t g off k) F where
 turns s a s' h := by
  unfold N5 at h
  split at h
  ·rename_i hr
   split at h
   ·split at h
    ·simp only [Option.some.injEq, Prod.mk.injEq] at h
     rw [← h.2]
     exact XB hF (QX hr)
    ·simp at h
   ·simp at h
  ·simp at h
 same s a s' r h hag := by
  unfold N5 at h
  split at h
  ·rename_i hr
   have hk := QX hr
   have hc := (Vn (hag.at hF.rooted hk) g 0).1
   split at h
   ·rename_i cs hcs
    split at h
    ·rename_i b cs' hkc
     simp only [Option.some.injEq, Prod.mk.injEq] at h
     obtain ⟨rfl, rfl⟩ := h
     refine ⟨r.setAt j t (.box g cs'), ?_, Zs hF hag hk⟩
     unfold N5
     rw [← hag.len, if_pos hr, ← hc, hcs]
     simp only [hkc]
    ·simp at h
   ·simp at h
  ·simp at h
def NK {α : Type} (root : Option (Option Nat)) (j t g n : Nat) (k : List (List Int × LV) → Option (α × List (List Int × LV))) (s : St) : Option (α × St) :=
 if Ao s.low.length root (some (.mref j t g)) = true then match s.entries j t g n with
  | some es => match k es with
   | some (a, es') => some (a, s.setAt j t (.mapo g n es'))
   | none => none
  | none => none
 else none
theorem OZ {α : Type} {root : Option (Option Nat)} (hF : F.Holds root) (j t g n : Nat) (k : List (List Int × LV) → Option (α × List (List Int × LV))) : Af (NK root j t g n k) F where
 turns s a s' h := by
  unfold NK at h
  split at h
  ·rename_i hr
   split at h
   ·split at h
    ·simp only [Option.some.injEq, Prod.mk.injEq] at h
     rw [← h.2]
     exact XB hF (Qq hr)
    ·simp at h
   ·simp at h
  ·simp at h
 same s a s' r h hag := by
  unfold NK at h
  split at h
  ·rename_i hr
   have hk := Qq hr
   have hc := (Vn (hag.at hF.rooted hk) g n).2
   split at h
   ·rename_i cs hcs
    split at h
    ·rename_i b cs' hkc
     simp only [Option.some.injEq, Prod.mk.injEq] at h
     obtain ⟨rfl, rfl⟩ := h
     refine ⟨r.setAt j t (.mapo g n cs'), ?_, Zs hF hag hk⟩
     unfold NK
     rw [← hag.len, if_pos hr, ← hc, hcs]
     simp only [hkc]
    ·simp at h
   ·simp at h
  ·simp at h
def qx {α : Type} (root : Option (Option Nat)) (j t g off : Nat) (k : List LV → Option α) (s : St) : Option (α × St) :=
 (if Ao s.low.length root (some (.ptr j t g off)) = true then (s.cells j t g).bind k else none).map fun a => (a, s)
theorem iw {α : Type} {root : Option (Option Nat)} (hF : F.Rooted root) (j t g off : Nat) (k : List LV → Option α) : Af (qx root j t g off k) F := by
 refine Ee fun s r h => ?_
 rw [← h.len]
 split
 ·rename_i hr
  rw [(Vn (h.at hF (QX hr)) g 0).1]
 ·rfl
def sr {α : Type} (root : Option (Option Nat)) (j t g n : Nat) (k : List (List Int × LV) → Option α) (s : St) : Option (α × St) :=
 (if Ao s.low.length root (some (.mref j t g)) = true then (s.entries j t g n).bind k else none).map fun a => (a, s)
theorem jN {α : Type} {root : Option (Option Nat)} (hF : F.Rooted root) (j t g n : Nat) (k : List (List Int × LV) → Option α) : Af (sr root j t g n k) F := by
 refine Ee fun s r h => ?_
 rw [← h.len]
 split
 ·rename_i hr
  rw [(Vn (h.at hF (Qq hr)) g n).2]
 ·rfl
def Ew (C : AP) (g : Nat) (o : AH) (s : St) : Option St :=
 if Ao s.low.length o.root (o.op.addr.map (s.val LP)) then evalOp LP C g o.dst o.op s else none
def BK (C : AP) (o : yE) (v : yV → LV) : Option LV := match o with
 | .move x false => some (v x)
 | .pick c a b => match F4 (v c) with
  | some true => some (v a)
  | some false => some (v b)
  | none => none
 | .build zs ps => match Cm (ps.map fun p => (p.1, p.2.1, v p.2.2)) (zs.map .d) with
  | some cs => some (LV.norm (.agg cs))
  | none => none
 | .lit k zs len ps => match Cm (ps.map fun p => (p.1, p.2.1, v p.2.2)) ((List.replicate len zs).flatten.map .d) with
  | some cs => if cs.all LV.cellOk then match AX cs with
   | some ds => match (List.range len).mapM fun i => Av k (i * k.getD 1) ds with
    | some xs => some (.hot (k.getD 1) xs)
    | none => none
   | none => none else none
  | none => none
 | .faddr off p => Ja off (v p)
 | .field k off x => K6 k off (v x)
 | .iaddrS sz x i => match OV (v x), GQ (v i) with
  | some (z, xs), some i => match xs[i]? with
   | some e => if z = sz then some (.d (.fptr e.cells 0)) else none
   | none => none
  | _, _ => none
 | .iaddrA sz n p i => match GQ (v i) with
  | some i => if i < n then Ja (i * sz) (v p) else none
  | none => none
 | .index k sz n x i => match GQ (v i) with
  | some i => if i < n then K6 k (i * sz) (v x) else none
  | none => none
 | .bin op x y => match Q8 (v x), Q8 (v y) with
  | some a, some b => (CC (binOp op 0 (.int .i64 a) (.int .i64 b))).map .d
  | _, _ => none
 | .eqb neg x y => match F4 (v x), F4 (v y) with
  | some a, some b => some (.d (.bool (if neg then a != b else a == b)))
  | _, _ => none
 | .eqa neg n x y => match (v x).aggKey, (v y).aggKey with
  | some a, some b => if a.length = n ∧ b.length = n then some (.d (.bool (if neg then decide (a ≠ b) else decide (a = b)))) else none
  | _, _ => none
 | .un op x => match v x with
  | .d (.int a) => (CC (Op.unary op (.int .i64 a))).map .d
  | .d (.bool a) => (CC (Op.unary op (.bool a))).map .d
  | _ => none
 | .call f args none => match target (v f), AX (args.map v) with
  | some (f, a, b), some ds => match AX a, AX b with
   | some a, some b => match C.call f ((a ++ ds ++ b).map .d) [] 0 with
    | some (v, _, _) => v.toD.map .d
    | none => none
   | _, _ => none
  | _, _ => none
 | .len x => (iP (v x)).map fun n => .d (.int n)
 | .minmax isMax xs => (minmax isMax (xs.map v)).map fun n => .d (.int n)
 | .slice sz x lo hi mx => match optNat v lo, optNat v hi, optNat v mx with
  | some lo, some hi, some mx => P2 sz (v x) lo hi mx
  | _, _, _ => none
 | .mkfn f first cap => some (LV.norm (.fn f (first.map v) (cap.map v)))
 | _ => none
def yE.isValue : yE → Bool
 | .move _ false | .pick _ _ _ | .build _ _ | .lit _ _ _ _ | .faddr _ _ | .field _ _ _ | .iaddrS _ _ _ | .iaddrA _ _ _ _ | .index _ _ _ _ _ | .bin _ _ _ | .eqb _ _ _ | .eqa _ _ _ _ | .un _ _
 | .call _ _ none | .len _ | .minmax _ _ | .slice _ _ _ _ _ | .mkfn _ _ _ => true
 | _ => false
theorem UV (C : AP) (g : Nat) (dst : Option Nat) {o : yE} (ho : o.isValue = true) (s : St) : evalOp LP C g dst o s = (BK C o (s.val LP)).bind (s.put dst) := by
 cases o <;> try (simp [yE.isValue] at ho; done)
 case move x t => cases t <;> first | rfl | simp [yE.isValue] at ho
 case pick =>
  simp only [evalOp, BK]; repeat' split
  all_goals simp_all
 case build zs ps =>
  simp only [evalOp, BK]
  cases Cm (ps.map fun p => (p.1, p.2.1, s.val LP p.2.2)) (zs.map .d) <;> rfl
 case lit k zs len ps =>
  simp only [evalOp, BK]
  cases Cm (ps.map fun p => (p.1, p.2.1, s.val LP p.2.2)) ((List.replicate len zs).flatten.map .d) with
  | none => rfl
  | some cs =>
   by_cases hc : cs.all LV.cellOk = true
   ·simp only [hc, if_true]
    cases AX cs with
    | none => rfl
    | some ds =>
     simp only
     cases (List.range len).mapM fun i => Av k (i * k.getD 1) ds <;> rfl
   ·simp only [hc]; rfl
 case faddr => simp only [evalOp, BK]; split <;> simp_all
 case field => simp only [evalOp, BK]; split <;> simp_all
 case iaddrS =>
  simp only [evalOp, BK]; repeat' split
  all_goals simp_all
 case iaddrA sz n p i =>
  simp only [evalOp, BK]
  cases GQ (s.val LP i) with
  | none => rfl
  | some m =>
   by_cases hm : m < n
   ·simp only [hm, if_true]; cases Ja (m * sz) (s.val LP p) <;> rfl
   ·simp only [hm, if_false]; rfl
 case index k sz n x i =>
  simp only [evalOp, BK]
  cases GQ (s.val LP i) with
  | none => rfl
  | some m =>
   by_cases hm : m < n
   ·simp only [hm, if_true]; cases K6 k (m * sz) (s.val LP x) <;> rfl
   ·simp only [hm, if_false]; rfl
 case bin =>
  simp only [evalOp, BK]; repeat' split
  all_goals simp_all
 case eqb =>
  simp only [evalOp, BK]; repeat' split
  all_goals simp_all
 case eqa =>
  simp only [evalOp, BK]; repeat' split
  all_goals simp_all
 case un =>
  simp only [evalOp, BK]; repeat' split
  all_goals simp_all
 case call f as vis =>
  cases vis <;> first | (simp [yE.isValue] at ho; done) | skip
  simp only [evalOp, BK]
  cases target (s.val LP f) with
  | none => rfl
  | some fab =>
   obtain ⟨f', a, b⟩ := fab
   cases AX (as.map (s.val LP)) with
   | none => rfl
   | some ds =>
    simp only
    cases AX a with
    | none => rfl
    | some a =>
     cases AX b with
     | none => rfl
     | some b =>
      simp only
      cases C.call f' ((a ++ ds ++ b).map .d) [] 0 with
      | none => rfl
      | some r =>
       obtain ⟨v, _, _⟩ := r
       simp only
       cases v.toD <;> rfl
 case len => simp only [evalOp, BK]; split <;> simp_all
 case minmax => simp only [evalOp, BK]; split <;> simp_all
 case slice =>
  simp only [evalOp, BK]; repeat' split
  all_goals simp_all
 case mkfn => rfl
end
end Go.Lf
namespace Go.Lf
open Go
section
variable (LP : A2) {F : Hf}
theorem Hr {α β : Type} {f g : α → β} : ∀ {l : List α}, (∀ x, x ∈ l → f x = g x) → l.map f = l.map g
 | [], _ => rfl
 | a :: l, h => by
  simp only [List.map_cons]
  rw [h a (by simp), Hr fun x hx => h x (by simp [hx])]
theorem OP {v v' : yV → LV} : ∀ {x : Option yV}, (∀ y, y ∈ x.toList → v y = v' y) → optNat v x = optNat v' x
 | none, _ => rfl
 | some x, h => by simp only [optNat]; rw [h x (by simp)]
theorem cJ (C : AP) (o : yE) {v v' : yV → LV} (h : ∀ x, x ∈ o.opds → v x = v' x) : BK C o v = BK C o v' := by
 have parts : ∀ ps : List (Nat × Nat × yV), (∀ x, x ∈ ps.map (·.2.2) → v x = v' x) → ps.map (fun p => (p.1, p.2.1, v p.2.2)) = ps.map (fun p => (p.1, p.2.1, v' p.2.2)) := fun ps hp =>
  Hr fun p hm => by rw [hp p.2.2 (List.mem_map.2 ⟨p, hm, rfl⟩)]
 cases o <;> simp only [yE.opds, List.mem_cons, List.not_mem_nil, or_false, forall_eq_or_imp, forall_eq] at h <;> try rfl
 case move x t => cases t <;> simp only [BK, h]
 case pick => simp only [BK, h.1, h.2.1, h.2.2]
 case build zs ps => simp only [BK]; rw [parts ps h]
 case lit k zs len ps => simp only [BK]; rw [parts ps h]
 case faddr => simp only [BK, h]
 case field => simp only [BK, h]
 case iaddrS => simp only [BK, h.1, h.2]
 case iaddrA => simp only [BK, h.1, h.2]
 case index => simp only [BK, h.1, h.2]
 case bin => simp only [BK, h.1, h.2]
 case eqb => simp only [BK, h.1, h.2]
 case eqa => simp only [BK, h.1, h.2]
 case un => simp only [BK, h]
 case call f as vis =>
  cases vis with
  | none => simp only [BK]; rw [h.1, Hr h.2]
  | some vis => rfl
 case len => simp only [BK, h]
 case minmax b xs => simp only [BK]; rw [Hr h]
 case slice sz x lo hi mx =>
  simp only [BK]
  rw [h.1, OP fun y hy => h.2 y (by simp [hy]), OP fun y hy => h.2 y (by simp [hy]), OP fun y hy => h.2 y (by simp [hy])]
 case mkfn f a b =>
  simp only [BK]
  rw [Hr fun x hx => h x (by simp [hx]), Hr (l := b) fun x hx => h x (by simp [hx])]
def AH.rd0 (o : AH) : List Nat := o.op.opds.flatMap yV.tmp? ++ (match o.guard with | some (t, _) => [t] | none => [])
theorem oM (o : AH) {t : Nat} (h : t ∈ o.rd0) : t ∈ o.foot.rd := by
 obtain ⟨dst, op, guard, root⟩ := o
 unfold AH.foot
 dsimp only [AH.rd0] at h
 cases op <;> first | exact h | skip
 case move x b => cases b <;> exact h
 case extract i x b => cases b <;> exact h
 case load k p b => cases b <;> cases root <;> first | exact h | exact List.mem_append_right _ h
 case lookup => cases root <;> first | exact h | exact List.mem_append_right _ h
 case store => cases root <;> exact h
 case mapset => cases root <;> exact h
 case mstore => cases root <;> exact h
 case mentry => cases root <;> exact h
 case call f as vis => cases vis <;> exact h
theorem hH (o : AH) {x : yV} (hx : x ∈ o.op.opds) : o.foot.Sees x := fun t ht => .inl (oM o (List.mem_append_left _ (List.mem_flatMap.2 ⟨x, hx, by subst ht; simp [yV.tmp?]⟩)))
theorem A5 {f : St → Option St} {h : St → Option (Unit × St)} (he : ∀ s, f s = (h s).map (·.2)) (hl : Af h F) : Db f F := by
 refine nV ?_
 have : (fun s => (f s).map fun s' => ((), s')) = h := by
  funext s
  rw [he s]
  cases h s <;> rfl
 rw [this]; exact hl
theorem BZ (dst : Option Nat) (v : LV) (s : St) : s.put dst v = (UZ dst v s).map (·.2) := by
 unfold UZ; cases s.put dst v <;> rfl
theorem As {C : AP} {g : Nat} {o : AH} (h : o.op.addr = none) (s : St) : Ew LP C g o s = evalOp LP C g o.dst o.op s := by
 unfold Ew
 rw [h]
 have : Ao s.low.length o.root (Option.map (s.val LP) none) = true := by cases o.root <;> rfl
 rw [if_pos this]
theorem aB {o : AH} (h : o.op.isValue = true) : o.foot.wv = o.dst.toList := by
 obtain ⟨dst, op, guard, root⟩ := o
 cases op <;> try (simp [yE.isValue] at h; done)
 all_goals first
  | rfl
  | skip
 case move x b => cases b <;> first | rfl | simp [yE.isValue] at h
 case call f as vis => cases vis <;> first | rfl | simp [yE.isValue] at h
theorem nU {o : AH} {d : Nat} (h : o.dst = some d) : d ∈ o.dst.toList := by rw [h]; simp
theorem iq (C : AP) (g : Nat) {o : AH} (h : o.op.isValue = true) : Db (Ew LP C g o) o.foot := by
 have hadd : o.op.addr = none := by
  cases ho : o.op <;> rw [ho] at h <;> first | rfl | simp [yE.isValue] at h
 refine A5 (h := CO (fun s => (BK C o.op (s.val LP)).map fun v => (v, s)) fun v => UZ o.dst v) (fun s => ?_) (Af.bind (Ee fun s r hag => cJ C o.op fun x hx => hag.val LP (hH o hx)) fun v => Dp (fun d hd => ?_) v)
 ·rw [As LP hadd, UV LP C g o.dst h]
  unfold CO
  cases hv : BK C o.op (s.val LP) with
  | none => simp only [hv]; rfl
  | some v => simp only [hv, Option.map_some, Option.bind_some]; exact BZ _ _ _
 ·exact .inr (.inl (by rw [aB h]; exact nU hd))
theorem me (C : AP) (g : Nat) {x : yV} {dst : Option Nat} {guard : Option (Nat × Bool)} {root : Option (Option Nat)} :
  Db (Ew LP C g { dst, op := .move x true, guard, root }) (AH.foot { dst, op := .move x true, guard, root }) := by
 refine A5 (h := CO (NY LP x) fun v => UZ dst v) (fun s => ?_) (Af.bind (K1 LP fun t ht => ?_) fun v => Dp (fun d hd => ?_) v)
 ·rw [As LP rfl]
  simp only [evalOp, CO, NY]
  exact BZ _ _ _
 ·subst ht; exact .inr (.inl (by simp [AH.foot, yV.tmp?]))
 ·subst hd; exact .inr (.inl (by simp [AH.foot]))
theorem eE (C : AP) (g : Nat) {sz q : Nat} {x y : yV} {dst : Option Nat} {guard : Option (Nat × Bool)} {root : Option (Option Nat)} :
  Db (Ew LP C g { dst, op := .append sz q x y, guard, root }) (AH.foot { dst, op := .append sz q x y, guard, root }) := by
 refine A5 (h := CO (NY LP x) fun v => CO (yW LP y) fun u => match BD sz q v u with | some r => UZ dst r | none => fun _ => none) (fun s => ?_)
  (Af.bind (K1 LP fun t ht => ?_) fun v => Af.bind (GV LP (hH { dst, op := .append sz q x y, guard, root } (by simp [yE.opds]))) fun u => ?_)
 ·rw [As LP rfl]
  simp only [evalOp, CO, NY, yW]
  cases BD sz q (s.take LP x).1 ((s.take LP x).2.val LP y) with
  | none => rfl
  | some r => exact BZ _ _ _
 ·subst ht; exact .inr (.inl (by simp [AH.foot, yV.tmp?]))
 ·cases BD sz q v u with
  | none => exact Af.fail
  | some r => exact Dp (fun d hd => by subst hd; exact .inr (.inl (by simp [AH.foot]))) r
theorem Nr {d : Nat} (hd : d ∈ F.wb) (sl : BL) : Af (fun s => some ((), { s with env := s.env.set d sl })) F := by
 have := Ll (F := F) (d := d) (.inr (.inr hd)) sl (fun _ => true) (fun _ h => absurd hd h)
 simpa using this
theorem iC (C : AP) (g : Nat) {zs : List DV} {dst : Option Nat} {guard : Option (Nat × Bool)} {root : Option (Option Nat)} :
  Db (Ew LP C g { dst, op := .alloc zs, guard, root }) (AH.foot { dst, op := .alloc zs, guard, root }) := by
 cases dst with
 | none => exact A5 (h := fun _ => none) (fun s => by rw [As LP rfl]; rfl) Af.fail
 | some d => exact A5 (h := fun s => some ((), { s with env := s.env.set d (.box g (zs.map .d)) })) (fun s => by rw [As LP rfl]; rfl) (Nr (by simp [AH.foot]) _)
theorem ir (C : AP) (g : Nat) {n : Nat} {dst : Option Nat} {guard : Option (Nat × Bool)} {root : Option (Option Nat)} :
  Db (Ew LP C g { dst, op := .mkmap n, guard, root }) (AH.foot { dst, op := .mkmap n, guard, root }) := by
 cases dst with
 | none => exact A5 (h := fun _ => none) (fun s => by rw [As LP rfl]; rfl) Af.fail
 | some d => exact A5 (h := fun s => some ((), { s with env := s.env.set d (.mapo g n []) })) (fun s => by rw [As LP rfl]; rfl) (Nr (by simp [AH.foot]) _)
theorem nY (C : AP) (g : Nat) {n : Nat} {x : yV} {dst : Option Nat} {guard : Option (Nat × Bool)} {root : Option (Option Nat)} :
  Db (Ew LP C g { dst, op := .box n x, guard, root }) (AH.foot { dst, op := .box n x, guard, root }) := by
 cases dst with
 | none => exact A5 (h := fun _ => none) (fun s => by rw [As LP rfl]; rfl) Af.fail
 | some d =>
  refine A5 (h := CO (yW LP x) fun v => match v.known with
   | some cs => if cs.length = n ∧ cs.all LV.cellOk then (fun s => some ((), { s with env := s.env.set d (.box g cs) })) else fun _ => none
   | none => fun _ => none) (fun s => ?_) (Af.bind (GV LP (hH { dst := some d, op := .box n x, guard, root } (by simp [yE.opds]))) fun v => ?_)
  ·rw [As LP rfl]
   simp only [evalOp, CO, yW]
   cases (s.val LP x).known with
   | none => rfl
   | some cs => simp only; split <;> rfl
  ·cases v.known with
   | none => exact Af.fail
   | some cs =>
    simp only
    split
    ·exact Nr (by simp [AH.foot]) _
    ·exact Af.fail
theorem cZ (C : AP) (g : Nat) {i : Nat} {x : yV} {take : Bool} {dst : Option Nat} {guard : Option (Nat × Bool)} {root : Option (Option Nat)} :
  Db (Ew LP C g { dst, op := .extract i x take, guard, root }) (AH.foot { dst, op := .extract i x take, guard, root }) := by
 cases x with
 | con v => exact A5 (h := fun _ => none) (fun s => by rw [As LP rfl]; rfl) Af.fail
 | glob v => exact A5 (h := fun _ => none) (fun s => by rw [As LP rfl]; rfl) Af.fail
 | tmp t =>
  let F := AH.foot { dst, op := .extract i (.tmp t) take, guard, root }
  have hs : F.Sees (.tmp t) := hH { dst, op := .extract i (.tmp t) take, guard, root } (by simp [yE.opds])
  have hd : ∀ d, dst = some d → F.W d := fun d hd => .inr (.inl (by subst hd; cases take <;> simp [F, AH.foot]))
  refine A5 (h := CO (fun s => some (s.env.get t, s)) fun sl => match sl with
   | some (.v (.d (.tup cs))) => match cs[i]? with
    | some y => UZ dst (.d y)
    | none => fun _ => none
   | some (.v (.tup cs)) => match take, cs[i]? with
    | true, some (.hot z xs) => CO (fun s => if yS (s.env.get t) = true then some ((), { s with env := s.env.set t (.v (.tup (cs.set i (.d (.slice z xs))))) }) else none) fun _ => UZ dst (.hot z xs)
    | _, some y => UZ dst y.copy
    | _, none => fun _ => none
   | _ => fun _ => none) (fun s => ?_) (Af.bind ?_ fun sl => ?_)
  ·rw [As LP rfl]
   simp only [evalOp, CO]
   cases hg : s.env.get t with
   | none => rfl
   | some sl =>
    cases sl with
    | box => rfl
    | mapo => rfl
    | v y =>
     cases y with
     | d y =>
      cases y with
      | tup cs => simp only; cases cs[i]? with
       | none => rfl
       | some y => exact BZ _ _ _
      | _ => rfl
     | tup cs =>
      cases take with
      | false =>
       simp only
       cases cs[i]? with
       | none => rfl
       | some y => exact BZ _ _ _
      | true =>
       simp only
       cases hc : cs[i]? with
       | none => rfl
       | some y =>
        cases y with
        | hot z xs =>
         simp only [CO, hg, yS, if_true]
         exact BZ _ _ _
        | d y => exact BZ _ _ _
        | full a b => exact BZ _ _ _
        | ptr a b c e => exact BZ _ _ _
        | mref a b c => exact BZ _ _ _
        | agg a => exact BZ _ _ _
        | tup a => exact BZ _ _ _
        | fn a b c => exact BZ _ _ _
        | fptr a b => exact BZ _ _ _
        | yield a b => exact BZ _ _ _
     | _ => rfl
  ·exact Ee (F := F) (f := fun s => some (s.env.get t)) fun s r h => by rw [h.here t (.inr (hs t rfl))]
  ·split
   ·split
    ·exact Dp hd _
    ·exact Af.fail
   ·split
    ·exact Af.bind (Ll (F := F) (d := t) (.inr (.inl (by simp [F, AH.foot, yV.tmp?]))) _ yS (fun _ _ => ⟨ou, trivial⟩)) fun _ => Dp hd _
    ·exact Dp hd _
    ·exact Af.fail
   ·exact Af.fail
end
end Go.Lf
