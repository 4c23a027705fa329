/- A part of the proof. -/
import Derived.Test.YtohgomfnigdaoaaDoory2
set_option linter.all false
namespace Go.Lf
open Go
def Sl.unf {α : Type} : Sl α → Sl α
 | .full xs => .cold xs
 | x => x
section
variable {α : Type} [Enc α]
theorem we (x : Sl α) : x.unf.lv.copy = .d (Enc.enc x) := by cases x <;> rfl
theorem cg {q : Nat} {x v : Sl α} {ys : List α} (h : x.app q ys = some v) (hy : ys ≠ []) : v.lv = v.unf.lv := by
 cases x with
 | nil => simp only [Sl.app, if_neg hy] at h; split at h <;> cases h; rfl
 | cold xs => simp only [Sl.app] at h; cases h
 | hot xs => simp only [Sl.app] at h; split at h <;> cases h; rfl
 | full xs => simp only [Sl.app, if_neg hy] at h; split at h <;> cases h; rfl
theorem rC {s : St} {t g : Nat} {cs cs' : List LV} (h : s.raw t = some (.box g cs)) (e : cs = cs') : s.raw t = some (.box g cs') := e ▸ h
variable {LP : A6} {C : AS}
theorem E0 {β : Type} : ∀ (l : List β) (i : Nat) (x : β), l[i]? = some x → l.set i x = l
 | [], i, x, h => by simp at h
 | a :: l, 0, x, h => by simp at h; simp [h]
 | a :: l, i + 1, x, h => by
  simp only [List.getElem?_cons_succ] at h
  simp [E0 l i x h]
theorem KX (g : Nat) (r : List AH) (s : St) (d : Nat) (ro : Option (Option Nat)) (p : Opd) (j t gb off : Nat) (cs cs' : List LV) (x : Sl α) (hx : cs[off]? = some x.unf.lv) (hc : cs.set off (.d (Enc.enc x)) = cs')
  (hp : s.val LP p = .ptr j t gb off) (hj : j = s.low.length) (hr : Au s.low.length ro (some (LV.ptr j t gb off)) = true) (hb : s.raw t = some (.box gb cs)) (hd : s.free d = true) (hdt : ¬ t = d) :
  evalOps LP C g (⟨some d, .load none p true, none, ro⟩ :: r) s = evalOps LP C (g + 1) r ((s.upd t (.box gb cs')).upd d (.v x.unf.lv)) := by
 subst hj hc
 have hcl : s.cells s.low.length t gb = some cs := by rw [JG, hb]; simp
 have hd2 : ∀ y, (s.upd t y).free d = true := fun y => by rw [KG, if_neg hdt]; exact hd
 have hs : ∀ y, s.setAt s.low.length t y = s.upd t y := fun y => Ri s t y
 simp only [evalOps, Am, LOp.addr, Option.map_some, hp, hr, if_true, evalOp, hcl, hx]
 cases x with
 | hot xs =>
  have e2 : Enc.enc (Sl.hot xs) = .slice (Enc.n α) (xs.map Enc.enc) := rfl
  simp only [Sl.unf, Sl.lv, hs, e2, F7 _ (hd2 _)]
 | nil =>
  have e3 : cs.set off (.d (Enc.enc (Sl.nil : Sl α))) = cs := E0 _ _ _ hx
  rw [e3, EX s t _ hb]
  simp only [Sl.unf, Sl.lv, part, hx, Option.map_some, LV.copy, F7 _ hd]
 | cold xs =>
  have e3 : cs.set off (.d (Enc.enc (Sl.cold xs))) = cs := E0 _ _ _ hx
  rw [e3, EX s t _ hb]
  simp only [Sl.unf, Sl.lv, part, hx, Option.map_some, LV.copy, F7 _ hd]
 | full xs =>
  have e3 : cs.set off (.d (Enc.enc (Sl.full xs))) = cs := E0 _ _ _ hx
  rw [e3, EX s t _ hb]
  simp only [Sl.unf, Sl.lv, part, hx, Option.map_some, LV.copy, F7 _ hd]
theorem sE (g : Nat) (r : List AH) (s : St) (d : Nat) (p : Opd) (j t gb off : Nat) (cs cs' : List LV) (x : Sl α) (hx : cs[off]? = some x.unf.lv) (hc : cs.set off (.d (Enc.enc x)) = cs')
  (hp : s.val LP p = .ptr j t gb off) (hj : j < s.low.length) (hb : Im s.low j t = some (.box gb cs)) (hd : s.free d = true) :
  evalOps LP C g (⟨some d, .load none p true, none, none⟩ :: r) s = evalOps LP C (g + 1) r ((s.setL j t (.box gb cs')).upd d (.v x.unf.lv)) := by
 subst hc
 have hcl : s.cells j t gb = some cs := by rw [LG hj, hb]; simp
 have hr : Au s.low.length none (some (LV.ptr j t gb off)) = true := rfl
 have hd2 : ∀ y, (s.setL j t y).free d = true := fun y => hd
 simp only [evalOps, Am, LOp.addr, Option.map_some, hp, hr, if_true, evalOp, hcl, hx]
 cases x with
 | hot xs =>
  have e2 : Enc.enc (Sl.hot xs) = .slice (Enc.n α) (xs.map Enc.enc) := rfl
  simp only [Sl.unf, Sl.lv, LQ s j t _ hj, e2, F7 _ (hd2 _)]
 | nil =>
  have e3 : cs.set off (.d (Enc.enc (Sl.nil : Sl α))) = cs := E0 _ _ _ hx
  have e4 : s.setL j t (.box gb cs) = s := by simp only [St.setL, II hb]
  rw [e3, e4]
  simp only [Sl.unf, Sl.lv, part, hx, Option.map_some, LV.copy, F7 _ hd]
 | cold xs =>
  have e3 : cs.set off (.d (Enc.enc (Sl.cold xs))) = cs := E0 _ _ _ hx
  have e4 : s.setL j t (.box gb cs) = s := by simp only [St.setL, II hb]
  rw [e3, e4]
  simp only [Sl.unf, Sl.lv, part, hx, Option.map_some, LV.copy, F7 _ hd]
 | full xs =>
  have e3 : cs.set off (.d (Enc.enc (Sl.full xs))) = cs := E0 _ _ _ hx
  have e4 : s.setL j t (.box gb cs) = s := by simp only [St.setL, II hb]
  rw [e3, e4]
  simp only [Sl.unf, Sl.lv, part, hx, Option.map_some, LV.copy, F7 _ hd]
end
section
variable {LP : A6} {C : AS}
theorem vC (g : Nat) (r : List AH) (s : St) (d : Nat) (ro : Option (Option Nat)) (p : Opd) (j t gb off : Nat) (cs : List LV) (v : DV) (hx : cs[off]? = some (.d v))
  (hp : s.val LP p = .ptr j t gb off) (hj : j = s.low.length) (hr : Au s.low.length ro (some (LV.ptr j t gb off)) = true) (hb : s.raw t = some (.box gb cs)) :
  evalOps LP C g (⟨some d, .load none p true, none, ro⟩ :: r) s = HF LP C (g + 1) r s (some d) (some (.d v)) := by
 subst hj
 have hcl : s.cells s.low.length t gb = some cs := by rw [JG, hb]; simp
 simp only [evalOps, Am, LOp.addr, Option.map_some, hp, hr, if_true, evalOp, hcl, hx, part, LV.copy, HF, Option.map_some]
 cases s.put (some d) (.d v) <;> rfl
theorem rV (g : Nat) (r : List AH) (s : St) (d : Nat) (p : Opd) (j t gb off : Nat) (cs : List LV) (v : DV) (hx : cs[off]? = some (.d v))
  (hp : s.val LP p = .ptr j t gb off) (hj : j < s.low.length) (hb : Im s.low j t = some (.box gb cs)) :
  evalOps LP C g (⟨some d, .load none p true, none, none⟩ :: r) s = HF LP C (g + 1) r s (some d) (some (.d v)) := by
 have hcl : s.cells j t gb = some cs := by rw [LG hj, hb]; simp
 have hr : Au s.low.length none (some (LV.ptr j t gb off)) = true := rfl
 simp only [evalOps, Am, LOp.addr, Option.map_some, hp, hr, if_true, evalOp, hcl, hx, part, LV.copy, HF, Option.map_some]
 cases s.put (some d) (.d v) <;> rfl
end
section
variable {LP : A6} {C : AS} {β : Type} [Enc β]
theorem Yv (g : Nat) (r : List AH) (s : St) (n j t gm u : Nat) (m i : Opd) (key : List Int) (es : List (List Int × Sl β)) (z a : Sl β)
  (hm : s.val LP m = .mref j t gm) (hj : j < s.low.length) (hi : s.val LP i = .d (.int (HG es key))) (hv : s.raw u = some (.v a.lv)) (he : Im s.low j t = some (.mapo gm n (D1 (FU z Gk.coolE es key)))) :
  evalOps LP C g (⟨none, .mstore n m i (.tmp u), none, none⟩ :: r) s = evalOps LP C (g + 1) r ((s.upd u (.v a.spent.lv)).setL j t (.mapo gm n (D1 (EW es key a)))) :=
 dY g r s n j t gm u m i key es z a hm hj hi hv he
theorem TG (g : Nat) (r : List AH) (s : St) (tt : Option Nat) (ro : Option (Option Nat)) (n t gm u : Nat) (m i : Opd) (key : List Int) (es : List (List Int × Sl β)) (z a : Sl β)
  (hm : s.val LP m = .mref s.low.length t gm) (hr : Au s.low.length ro (some (.mref s.low.length t gm)) = true) (hi : s.val LP i = .d (.int (HG es key))) (hv : s.raw u = some (.v a.lv)) (hut : u ≠ t) (he : s.raw t = some (.mapo gm n (D1 (FU z Gk.coolE es key)))) :
  evalOps LP C g (⟨tt, .mstore n m i (.tmp u), none, ro⟩ :: r) s = evalOps LP C (g + 1) r ((s.upd u (.v a.spent.lv)).upd t (.mapo gm n (D1 (EW es key a)))) :=
 gh g r s tt ro n t gm u m i key es z a hm hr hi hv hut he
end
theorem oj {α : Type} [Enc α] (sz : Nat) (x : Sl α) (lo hi mx : Option LV) : JC sz x.lv lo hi mx = JC sz (.d (Enc.enc x)) lo hi mx := by cases x <;> rfl
theorem J1 (j k t g : Nat) (h : j = k) : Au k (some (some t)) (some (.mref j t g)) = true := by simp [Au, h]
theorem eu (f : Nat) (a b : List DV) : an 1 (.d (.agg [.fn f a b])) = some [.d (.fn f a b)] := rfl
theorem lQ (f : Nat) (a b : List LV) : an 1 (.agg [.fn f a b]) = some [.fn f a b] := rfl
section
variable {LP : A6} {C : AS} {β : Type} [Enc β]
theorem tH (g : Nat) (r : List AH) (s : St) (tt : Option Nat) (ro : Option (Option Nat)) (n t gm : Nat) (m k v : Opd) (key : List Int) (es : List (List Int × Sl β)) (a : Sl β) (vd : DV) (hav : a.lv = .d vd)
  (hm : s.val LP m = .mref s.low.length t gm) (hr : Au s.low.length ro (some (.mref s.low.length t gm)) = true) (hk : (s.val LP k).key n = some key) (hv : nF s v = some (.v (.d vd))) (he : s.raw t = some (.mapo gm n (D1 es))) :
  evalOps LP C g (⟨tt, .mapset n m k v, none, ro⟩ :: r) s = evalOps LP C (g + 1) r (s.upd t (.mapo gm n (D1 (EW es key a)))) :=
 XG g r s tt ro n t gm m k v key es a vd hav hm hr hk hv he
theorem RV (g : Nat) (r : List AH) (s : St) (tt : Option Nat) (ro : Option (Option Nat)) (n t gm : Nat) (m k v : Opd) (key : List Int) (a : Sl β) (vd : DV) (hav : a.lv = .d vd)
  (hm : s.val LP m = .mref s.low.length t gm) (hr : Au s.low.length ro (some (.mref s.low.length t gm)) = true) (hk : (s.val LP k).key n = some key) (hv : nF s v = some (.v (.d vd))) (he : s.raw t = some (.mapo gm n [])) :
  evalOps LP C g (⟨tt, .mapset n m k v, none, ro⟩ :: r) s = evalOps LP C (g + 1) r (s.upd t (.mapo gm n (D1 (EW [] key a)))) :=
 XG g r s tt ro n t gm m k v key [] a vd hav hm hr hk hv he
end
theorem wO (f : Nat) (a b : List DV) : part (some 1) 0 [.d (.fn f a b)] = some (.d (.agg [.fn f a b])) := rfl
def jk (f : Nat) (a b : List LV) : Option (List DV) → Option (List DV) → LV
 | some x, some y => .d (.agg [.fn f x y])
 | _, _ => .agg [.fn f a b]
theorem w8 (f : Nat) (a b : List LV) : part (some 1) 0 [.fn f a b] = some (jk f a b (AZ a) (AZ b)) := by
 have : part (some 1) 0 [.fn f a b] = some (LV.norm (.agg [.fn f a b])) := rfl
 rw [this]
 simp only [LV.norm, LV.toD, AZ, jk]
 cases AZ a <;> cases AZ b <;> rfl
theorem sh (f : Nat) (a b : List LV) (x y : List DV) : jk f a b (some x) (some y) = .d (.agg [.fn f x y]) := rfl
theorem sS (f : Nat) (a b : List LV) (y : Option (List DV)) : jk f a b none y = .agg [.fn f a b] := by cases y <;> rfl
theorem ri (f : Nat) (a b : List LV) (x : Option (List DV)) : jk f a b x none = .agg [.fn f a b] := by cases x <;> rfl
theorem j9 {α : Type} [Enc α] {s : St} {t : Nat} {x : Sl α} (h : s.raw t = some (.v x.spent.lv)) : U4 s (t, none) = some (.d (Enc.enc x)) := by
 rw [cF h, Ru]
theorem sq {α : Type} [Enc α] {s : St} {t g : Nat} {x : Sl α} (h : s.raw t = some (.box g [x.spent.lv])) : U4 s (t, some none) = some (.d (Enc.enc x)) := by
 rw [XO h, Ru]
theorem jd (c : LV) : DD 1 0 [.d .nils] [c] = some [.d .nils] := GQ c rfl
theorem sj (c : LV) : DD 1 0 [.d .nilmap] [c] = some [.d .nilmap] := GQ c rfl
theorem nS (f : Nat) (a b : List LV) : Ej [.nilfn] [(0, 1, .fn f a b)] = some (jk f a b (AZ a) (AZ b)) := by
 have : Ej [.nilfn] [(0, 1, .fn f a b)] = some (LV.norm (.agg [.fn f a b])) := rfl
 rw [this]
 simp only [LV.norm, LV.toD, AZ, jk]
 cases AZ a <;> cases AZ b <;> rfl
def xT (b : Bool) (x y : DV) : DV := match b with
 | true => y
 | false => x
theorem td (x y : DV) : xT true x y = y := rfl
theorem ta (x y : DV) : xT false x y = x := rfl
def wL (i : Int) : Option Bool := if i = 0 then some false else if i = 1 then some true else none
theorem t9 {i : Int} {b : Bool} {x y : DV} (h : wL i = some b) : U8 none 1 2 (.d (.agg [x, y])) (.d (.int i)) = some (.d (xT b x y)) := by
 unfold wL at h
 split at h
 ·rename_i hi; subst hi; cases h; rfl
 ·split at h
  ·rename_i hi; subst hi; cases h; rfl
  ·cases h
abbrev t_ (t : Nat) : Opd := .tmp t
abbrev i_ (n : Int) : Opd := .con (.int n)
abbrev m_ (d t : Nat) : AH := ⟨some d, .move (.tmp t) false, none, none⟩
abbrev M_ (d t : Nat) : AH := ⟨some d, .move (.tmp t) true, none, none⟩
abbrev n_ (d t g : Nat) (b : Bool) : AH := ⟨some d, .move (.tmp t) false, some (g, b), none⟩
abbrev c_ (d : Nat) (n : Int) : AH := ⟨some d, .move (.con (.int n)) false, none, none⟩
abbrev q_ (d : Nat) (b : Bool) : AH := ⟨some d, .move (.con (.bool b)) false, none, none⟩
abbrev f_ (d n t : Nat) : AH := ⟨some d, .faddr n (.tmp t), none, none⟩
abbrev F_ (d n t g : Nat) : AH := ⟨some d, .faddr n (.tmp t), some (g, true), none⟩
abbrev l_ (d t : Nat) : AH := ⟨some d, .load none (.tmp t) false, none, none⟩
abbrev L_ (d n t : Nat) : AH := ⟨some d, .load (some n) (.tmp t) false, none, none⟩
abbrev p_ (d a b : Nat) (c : Bool) : AH := ⟨some d, .pick (.tmp a) (.tmp b) (.con (.bool c)), none, none⟩
abbrev P_ (d a b : Nat) (c : Bool) : AH := ⟨some d, .pick (.tmp a) (.con (.bool c)) (.tmp b), none, none⟩
abbrev o_ (d : Nat) (p : LOp) : AH := ⟨some d, p, none, none⟩
abbrev g_ (d : Nat) (p : LOp) (g : Nat) : AH := ⟨some d, p, some (g, true), none⟩
abbrev r_ (d : Nat) (p : LOp) (r : Option Nat) : AH := ⟨some d, p, none, some r⟩
abbrev s_ (n a b : Nat) : AH := ⟨none, .store n (.tmp a) (.tmp b), none, none⟩
abbrev x_ (d n t : Nat) : AH := ⟨some d, .extract n (.tmp t) false, none, none⟩
abbrev a_ (d n s i : Nat) : AH := ⟨some d, .iaddrS n (.tmp s) (.tmp i), none, none⟩
abbrev e_ (d t : Nat) : AH := ⟨some d, .len (.tmp t), none, none⟩
abbrev b_ (d n t : Nat) : AH := ⟨some d, .box n (.tmp t), none, none⟩
abbrev k_ (d f : Nat) (xs : List Opd) : AH := ⟨some d, .call (.con (.fn f [] [])) xs none, none, none⟩
abbrev E_ {α : Type} [Enc α] (t : Nat) (x : α) : Nat × BQ := (t, .v (.d (Enc.enc x)))
abbrev I_ (t : Nat) (x : Int) : Nat × BQ := (t, .v (.d (.int x)))
abbrev B_ (t : Nat) (x : Bool) : Nat × BQ := (t, .v (.d (.bool x)))
abbrev C_ {α : Type} [Enc α] (t g : Nat) (x : α) : Nat × BQ := (t, .box g ((Enc.cells x).map LV.d))
abbrev N_ (t g : Nat) (x : Int) : Nat × BQ := (t, .box g [.d (.int x)])
theorem bnd {α β : Type} {o : Option α} {f : α → Option β} {b : β} (h : o.bind f = some b) : ∃ a, o = some a ∧ f a = some b := Option.bind_eq_some_iff.mp h
theorem Run.ite {LP : A6} {ks : List ia} {J : Jmp → St → Prop} {s : St} {t : Nat} {c : Bool} {a b : DC} {α : Type} {A B : Option α} {x : α} (r : s.raw t = some (.v (.d (.bool c)))) (k : (if c = true then A else B) = some x)
  (h1 : c = true → A = some x → Run LP ks a s J) (h2 : c = false → B = some x → Run LP ks b s J) : Run LP ks (.cond (.tmp t) a b) s J := by
 cases c with
 | true => exact jL r rfl (h1 rfl (by simpa using k))
 | false => exact jh r rfl (h2 rfl (by simpa using k))
def rs := And.intro xi <| And.intro @Option.map_none.{0, 0} <| And.intro @Option.map_some.{0, 0} <| And.intro @List.map_cons.{0, 0} <| And.intro @List.map_nil.{0, 0} <| And.intro @if_true.{1} <| And.intro @if_false.{1} <| And.intro @and_true <| And.intro @true_and <|
 And.intro Bool.not_true <| And.intro Bool.not_false <| And.intro @Bool.true_and <| And.intro @Bool.false_and <| And.intro @Bool.true_or <| And.intro @Bool.false_or <| And.intro @List.nil_append.{0} <| And.intro @List.append_nil.{0} @List.cons_append.{0}
theorem Rg {LP : A6} {ks : List ia} {J : Jmp → St → Prop} {s : St} {B : List Nat} {ops : List AH} {keep : List Nat} {low : List Fr} (l : List (Nat × BQ)) (hl : s.low = low) (hf : NoB B s)
  (h' : ∀ s', Dn l s' → s'.low = low → NoB B s' → E4 LP ks .normal s' J) (hB : ops.all (opB B) = true := by rfl) (hk : l.all (fun p => keep.contains p.1) = true := by rfl)
  (h : ∃ s1, Lf.evalOps LP (om LP) s.ctr ops (s.tick ops.length) = some s1 ∧ Cj l s1 ∧ s1.low = low := by simp only [rs, hl, nob hf, r, reduceCtorEq, Nat.reduceEqDiff, Nat.reduceAdd]) : Run LP ks (.ops ops keep) s J :=
 jx l hl hf hB hk h h'
end Go.Lf
namespace Go.Lf
open Go
def Nx (LP : A6) (J : Jmp → St → Prop) (s : St) : Nat → List ia → Jmp ⊕ DC → Prop
 | 0, ks, .inr c => Run LP ks c s J
 | 0, ks, .inl j => E4 LP ks j s J
 | n + 1, ks, .inr (.seq a b) => Nx LP J s n (.seq b :: ks) (.inr a)
 | n + 1, ks, .inr (.scope a) => Nx LP J s n ks (.inr a)
 | n + 1, ks, .inr .skip => Nx LP J s n ks (.inl .normal)
 | n + 1, ks, .inr (.exit i) => Nx LP J s n ks (.inl (.exit i))
 | n + 1, ks, .inr .ret => Nx LP J s n ks (.inl .ret)
 | _ + 1, ks, .inr c => Run LP ks c s J
 | _ + 1, [], .inl j => J j s
 | n + 1, .seq c :: ks, .inl .normal => Nx LP J s n ks (.inr c)
 | n + 1, .seq _ :: ks, .inl j => Nx LP J s n ks (.inl j)
 | n + 1, .loop c :: ks, .inl .normal => Nx LP J s n ks (.inr (.loop c))
 | n + 1, .loop _ :: ks, .inl j => Nx LP J s n ks (.inl j)
 | n + 1, .block i :: ks, .inl (.exit k) => match Nat.beq k i with
  | true => Nx LP J s n ks (.inl .normal)
  | false => Nx LP J s n ks (.inl (.exit k))
 | n + 1, .block _ :: ks, .inl j => Nx LP J s n ks (.inl j)
theorem F4 {LP : A6} {J : Jmp → St → Prop} {s : St} : ∀ (n : Nat) (ks : List ia) (x : Jmp ⊕ DC), Nx LP J s n ks x → match x with | .inr c => Run LP ks c s J | .inl j => E4 LP ks j s J
 | 0, ks, .inr c, h => h
 | 0, ks, .inl j, h => h
 | n + 1, ks, .inr c, h => by
  cases c with
  | seq a b => exact Run.seq (F4 n _ _ h)
  | scope a => exact Run.scope (F4 n _ _ h)
  | skip => exact Run.skip (F4 n _ _ h)
  | exit i => exact Run.exit (F4 n _ _ h)
  | ret => exact Run.ret (F4 n _ _ h)
  | _ => exact h
 | n + 1, ks, .inl j, h => by
  cases ks with
  | nil => exact h
  | cons k ks =>
   cases k with
   | seq c => cases j with
    | normal => exact E4.seq (F4 n _ _ h)
    | exit i => exact cS (F4 n _ _ h)
    | ret => exact ek (F4 n _ _ h)
   | loop c => cases j with
    | normal => exact E4.loop (F4 n _ _ h)
    | exit i => exact Yl (F4 n _ _ h)
    | ret => exact bI (F4 n _ _ h)
   | block i => cases j with
    | normal => exact E4.block (F4 n _ _ h)
    | exit k =>
     simp only [Nx] at h
     by_cases e : k = i
     ·subst e
      simp only [Nat.beq_refl] at h
      exact E4.block_exit (F4 n _ _ h)
     ·have : Nat.beq k i = false := by
       cases hb : Nat.beq k i with
       | false => rfl
       | true => exact absurd (Nat.eq_of_beq_eq_true hb) e
      rw [this] at h
      exact E4.block_pass e (F4 n _ _ h)
    | ret => exact E4.block_ret (F4 n _ _ h)
def St.atc (s : St) (c n : Nat) : St := { s with ctr := c + n }
theorem uZ (s : St) (c n t : Nat) : (s.atc c n).raw t = s.raw t := rfl
theorem rA (s : St) (c n t : Nat) : (s.atc c n).free t = s.free t := rfl
theorem uG (s : St) (c n : Nat) : (s.atc c n).low = s.low := rfl
theorem uQ (s : St) (c n : Nat) : (s.atc c n).ctr = c + n := rfl
abbrev Ip := List (Nat × BQ)
def klc (t : Nat) : Option BQ → Option Ip → Option Ip
 | some x, some l => some ((t, x) :: l)
 | _, _ => none
def kl : List Nat → St → Option Ip
 | [], _ => some []
 | t :: ts, s => klc t (s.raw t) (kl ts s)
def knp : Option Ip → List Fr → Option (Ip × List Fr)
 | some l, low => some (l, low)
 | none, _ => none
def kn (keep : List Nat) : Option St → Option (Ip × List Fr)
 | some s => knp (kl keep s) s.low
 | none => none
theorem vz (s : St) : kl [] s = some [] := rfl
theorem uL (t : Nat) (ts : List Nat) (s : St) : kl (t :: ts) s = klc t (s.raw t) (kl ts s) := rfl
theorem Sv (t : Nat) (x : BQ) (l : Ip) : klc t (some x) (some l) = some ((t, x) :: l) := rfl
theorem sP (l : Ip) (low : List Fr) : knp (some l) low = some (l, low) := rfl
theorem uV (keep : List Nat) (s : St) : kn keep (some s) = knp (kl keep s) s.low := rfl
def lkd (s : St) (t : Nat) : Ip → Option BQ
 | [] => s.raw t
 | (u, x) :: l => if u = t then some x else lkd s t l
def lk (d : Ip) : List Nat → St → Option Ip
 | [], _ => some []
 | t :: ts, s => klc t (lkd s t d) (lk d ts s)
theorem iD (d : Ip) (s : St) : lk d [] s = some [] := rfl
theorem Xq (d : Ip) (t : Nat) (ts : List Nat) (s : St) : lk d (t :: ts) s = klc t (lkd s t d) (lk d ts s) := rfl
theorem WN (s : St) (t : Nat) : lkd s t [] = s.raw t := rfl
theorem SS (s : St) (t u : Nat) (x : BQ) (l : Ip) : lkd s t ((u, x) :: l) = if u = t then some x else lkd s t l := rfl
theorem t4 : ∀ {ks : List Nat} {s : St} {l : Ip}, kl ks s = some l → Cj l s ∧ l.all (fun p => ks.contains p.1) = true
 | [], s, l, h => by cases h; exact ⟨trivial, rfl⟩
 | t :: ts, s, l, h => by
  simp only [kl] at h
  cases hx : s.raw t with
  | none => rw [hx] at h; cases h
  | some x =>
   rw [hx] at h
   cases hl : kl ts s with
   | none => rw [hl] at h; cases h
   | some l' =>
    rw [hl] at h; cases h
    obtain ⟨h1, h2⟩ := t4 hl
    refine ⟨⟨hx, h1⟩, ?_⟩
    simp only [List.all_cons, List.contains_cons, beq_self_eq_true, Bool.true_or, Bool.true_and]
    rw [List.all_eq_true] at h2 ⊢
    intro p hp
    rw [h2 p hp, Bool.or_true]
theorem gd {keep : List Nat} {LP : A6} {C : AS} {g : Nat} {o : AH} {r : List AH} {s : St} {w b : Bool} {X : Option (Ip × List Fr)} (h1 : b = true → kn keep (Tn LP C g o r s w (.d (.bool true))) = X)
  (h0 : b = false → kn keep (Tn LP C g o r s w (.d (.bool false))) = X) : kn keep (Tn LP C g o r s w (.d (.bool b))) = X := by
 cases b
 ·exact h0 rfl
 ·exact h1 rfl
theorem gdN {keep : List Nat} {LP : A6} {C : AS} {g : Nat} {o : AH} {r : List AH} {s : St} {w b : Bool} {X : Option (Ip × List Fr)} (h1 : b = true → kn keep (Tn LP C g o r s w (.d (.bool (!b)))) = X)
  (h0 : b = false → kn keep (Tn LP C g o r s w (.d (.bool (!b)))) = X) : kn keep (Tn LP C g o r s w (.d (.bool (!b)))) = X := by
 cases b
 ·exact h0 rfl
 ·exact h1 rfl
theorem AAG (a b : Bool) : (a != b) = !(a == b) := rfl
theorem uq {α : Type} [Enc α] (x : Sl α) : x.lv.copy = x.spent.lv := by cases x <;> rfl
def Kq {α : Type} (o : Option α) (x : α) : Prop := o = some x
theorem kq {α : Type} {o : Option α} {x : α} (h : o = some x) : Kq o x := h
theorem bnk {α β : Type} {o : Option α} {f : α → Option β} {b : β} (h : Kq (o.bind f) b) : ∃ a, o = some a ∧ Kq (f a) b := bnd h
theorem oK {α : Type} {a b : α} (h : Kq (some a) b) : a = b := Option.some.inj h
theorem AAB {α : Type} {c : Bool} {A B : Option α} {x : α} (k : (if c = true then A else B) = some x) : (c = true ∧ A = some x) ∨ (c = false ∧ B = some x) := by
 cases c
 ·exact .inr ⟨rfl, by simpa using k⟩
 ·exact .inl ⟨rfl, by simpa using k⟩
theorem gb {α β : Type} {A : Option α} {f : α → Option β} {b : β} {G : Prop} (h : ∀ v, A = some v → f v = some b → G) (q : A.bind f = some b) : G := by
 obtain ⟨v, h1, h2⟩ := bnd q
 exact h v h1 h2
theorem gi {β : Type} {c : Bool} {A B : Option β} {b : β} {G : Prop} (h1 : c = true → A = some b → G) (h0 : c = false → B = some b → G) (q : (if c = true then A else B) = some b) : G := by
 rcases AAB q with ⟨a, q⟩ | ⟨a, q⟩
 ·exact h1 a q
 ·exact h0 a q
theorem oI {α : Type} {a b : α} (h : some a = some b) : a = b := Option.some.inj h
def ofO {α β : Type} (o : Option α) (F : α → β) (d : Option β) : Option β := match o with
 | some x => some (F x)
 | none => d
theorem rS {α β : Type} (x : α) (F : α → β) (d : Option β) : ofO (some x) F d = some (F x) := rfl
theorem kK {α β : Type} {o : Option α} {F : α → β} {d : Option β} (h : ∀ x, o = some x → d = some (F x)) : d = ofO o F d := by
 cases o with
 | none => rfl
 | some x => exact h x rfl
def vS (sz : Nat) (x i : LV) : Option LV := oV sz x i
theorem vf {α : Type} [Enc α] (x : Sl α) (i : Int) (sz : Nat) (hz : Enc.n α = sz) : oV sz (.d (Enc.enc x)) (.d (.int i)) = ofO (x.ix i) (fun a => .d (.fptr (Enc.cells a) 0)) (vS sz (.d (Enc.enc x)) (.d (.int i))) :=
 kK (d := oV sz (.d (Enc.enc x)) (.d (.int i))) fun _ h => qn x h hz
theorem ub {α : Type} [Enc α] (x : Sl α) (i : Int) (sz : Nat) (hz : Enc.n α = sz) : oV sz x.lv (.d (.int i)) = ofO (x.ix i) (fun a => .d (.fptr (Enc.cells a) 0)) (vS sz x.lv (.d (.int i))) :=
 kK (d := oV sz x.lv (.d (.int i))) fun _ h => uk x h hz
noncomputable def vV (LP : A6) (n : Nat) (ds : List DV) : Option LV := JB (om LP) n ds
@[reducible] def Cq {α : Type} (LP : A6) (n : Nat) (ds : List DV) (o : Option α) (E : α → LV) : Prop := JB (om LP) n ds = ofO o E (vV LP n ds)
theorem Cq.mk {α : Type} {LP : A6} {n : Nat} {ds : List DV} {o : Option α} {E : α → DV} (h : ∀ {r}, o = some r → Fin LP n ds (E r)) : Cq LP n ds o fun x => .d (E x) :=
 kK (d := JB (om LP) n ds) fun _ k => (h k).call
theorem yK : Enc.n Int = 1 := rfl
theorem wV : Enc.n Bool = 1 := rfl
theorem AAK {α : Type} [Enc α] : Enc.n (Sl α) = 1 := rfl
theorem zp : Enc.n Fv = 1 := rfl
theorem AAE {α : Type} [Enc α] {n : Nat} : Enc.n (Mp n α) = 1 := rfl
theorem zk {α : Type} [Enc α] {n : Nat} : Enc.n (Ar n α) = n * Enc.n α := rfl
def rt := And.intro @rs <| And.intro yK <| And.intro wV <| And.intro @AAK <| And.intro zp <| And.intro @AAE <| And.intro @zk <| And.intro @uZ <| And.intro @rA <| And.intro @uG <| And.intro @uQ <| And.intro @vz <| And.intro @uL <| And.intro @Sv <| And.intro @sP <| And.intro @uV <| And.intro @iD <| And.intro @Xq <| And.intro @WN <|
 And.intro @SS <| And.intro @vf <| And.intro @ub <| And.intro @rS <| And.intro @List.length_cons.{0} <| And.intro @List.length_nil.{0} <| And.intro @aW <| And.intro @gx <| And.intro @ne_eq.{1} <| And.intro not_false_eq_true <| And.intro @sQ <| And.intro @eH <| And.intro @He <| And.intro @uq <| And.intro AAG <| And.intro @Dc <| And.intro @Br <| And.intro @TN <| And.intro @JY <| And.intro @J3 @rz
section
variable {LP : A6} {ks : List ia} {J : Jmp → St → Prop} {s : St} {B : List Nat} {ops : List AH} {keep : List Nat} {low : List Fr} {l : Nat → Ip}
theorem yA (hl : s.low = low) (hf : NoB B s) (hB : ops.all (opB B) = true) (h : ∀ c, kn keep (Lf.evalOps LP (om LP) c ops (s.atc c ops.length)) = some (l c, low))
  (h' : ∀ c s', Dn (l c) s' → s'.low = low → NoB B s' → Nx LP J s' 60 ks (.inl .normal)) : Run LP ks (.ops ops keep) s J := by
 have h0 := h s.ctr
 cases he : Lf.evalOps LP (om LP) s.ctr ops (s.atc s.ctr ops.length) with
 | none => rw [he] at h0; cases h0
 | some s1 =>
  rw [he] at h0
  simp only [kn] at h0
  cases hk : kl keep s1 with
  | none => rw [hk] at h0; cases h0
  | some l1 =>
   rw [hk] at h0
   simp only [knp, Option.some.injEq, Prod.mk.injEq] at h0
   obtain ⟨rfl, h2⟩ := h0
   obtain ⟨h3, h4⟩ := t4 hk
   exact jx (B := B) (l s.ctr) hl hf hB h4 ⟨s1, he, h3, h2⟩ fun s' a b c => F4 60 ks (.inl .normal) (h' s.ctr s' a b c)
theorem nE (l : Ip) (hl : s.low = low) (hf : NoB B s) (h : ∃ s1, Lf.evalOps LP (om LP) s.ctr ops (s.tick ops.length) = some s1 ∧ Cj l s1 ∧ s1.low = low)
  (h' : ∀ s', Dn l s' → s'.low = low → NoB B s' → Nx LP J s' 60 ks (.inl .normal)) (hB : ops.all (opB B) = true := by rfl) (hk : l.all (fun p => keep.contains p.1) = true := by rfl) : Run LP ks (.ops ops keep) s J :=
 jx l hl hf hB hk h fun s' a b c => F4 60 ks (.inl .normal) (h' s' a b c)
theorem regS {Q : List Fr → Prop} (l : Ip) (hl : s.low = low) (hf : NoB B s) (h : ∃ s1, Lf.evalOps LP (om LP) s.ctr ops (s.tick ops.length) = some s1 ∧ Cj l s1 ∧ Q s1.low)
  (h' : ∀ s', Dn l s' → Q s'.low → NoB B s' → Nx LP J s' 60 ks (.inl .normal)) (hB : ops.all (opB B) = true := by rfl) (hk : l.all (fun p => keep.contains p.1) = true := by rfl) : Run LP ks (.ops ops keep) s J :=
 rr l hl hf hB hk h fun s' a b c => F4 60 ks (.inl .normal) (h' s' a b c)
theorem AAO {t : Nat} {c : Bool} {a b : DC} (hr : s.raw t = some (.v (.d (.bool c)))) (hc : c = true) (h : Nx LP J s 60 ks (.inr a)) : Run LP ks (.cond (.tmp t) a b) s J := jL hr hc (F4 60 ks (.inr a) h)
theorem AAP {t : Nat} {c : Bool} {a b : DC} (hr : s.raw t = some (.v (.d (.bool c)))) (hc : c = false) (h : Nx LP J s 60 ks (.inr b)) : Run LP ks (.cond (.tmp t) a b) s J := jh hr hc (F4 60 ks (.inr b) h)
theorem Fg {t : Nat} {c : Bool} {a b : DC} {α : Type} {A B : Option α} {x : α} (r : s.raw t = some (.v (.d (.bool c)))) (k : Kq (if c = true then A else B) x)
  (h1 : c = true → Kq A x → Nx LP J s 60 ks (.inr a)) (h2 : c = false → Kq B x → Nx LP J s 60 ks (.inr b)) : Run LP ks (.cond (.tmp t) a b) s J :=
 Run.ite r k (fun c k => F4 60 ks (.inr a) (h1 c k)) fun c k => F4 60 ks (.inr b) (h2 c k)
theorem RG {t : Nat} {c : Bool} {a b : DC} {α : Type} {A B : Option α} {x : α} (r : s.raw t = some (.v (.d (.bool (!c))))) (k : Kq (if c = true then A else B) x)
  (h1 : c = true → Kq A x → Nx LP J s 60 ks (.inr b)) (h2 : c = false → Kq B x → Nx LP J s 60 ks (.inr a)) : Run LP ks (.cond (.tmp t) a b) s J := by
 cases c with
 | true => exact jh r rfl (F4 60 ks (.inr b) (h1 rfl (by simpa [Kq] using k)))
 | false => exact jL r rfl (F4 60 ks (.inr a) (h2 rfl (by simpa [Kq] using k)))
theorem zj {c : DC} {Q : Jmp → St → Prop} (h : Nx LP Q s 60 [] (.inr c)) (h' : ∀ j s', Q j s' → Nx LP J s' 60 ks (.inl j)) : Run LP ks c s J :=
 Run.sub (F4 60 [] (.inr c) h) fun j s' q => F4 60 ks (.inl j) (h' j s' q)
theorem blk {i : Nat} {c : DC} (h : Nx LP J s 60 (.block i :: ks) (.inr c)) : Run LP ks (.block i c) s J := Run.block (F4 60 (.block i :: ks) (.inr c) h)
theorem Nx.run {c : DC} (h : Nx LP J s 60 [] (.inr c)) : Run LP [] c s J := F4 60 [] (.inr c) h
theorem BG {c : DC} {σ ρ : Type} {f : σ → Option (σ ⊕ ρ)} {E : σ → St → Prop} {Q : ρ → Jmp → St → Prop} {r : ρ} {x : σ}
  (hl : Loop f x = some r) (hs : ∀ x s out, E x s → Kq (f x) out → Nx LP (vt E Q out) s 60 [] (.inr c)) (he : E x s) (h' : ∀ j s', Q r j s' → Nx LP J s' 60 ks (.inl j)) : Run LP ks (.loop c) s J :=
 mi (fun x s out a b => F4 60 [] (.inr c) (hs x s out a b)) he hl fun j s' q => F4 60 ks (.inl j) (h' j s' q)
end
theorem sX {LP : A6} {ks : List ia} {J : Jmp → St → Prop} {s : St} {j : Jmp} (h : Nx LP J s 60 ks (.inl j)) : E4 LP ks j s J := F4 60 ks (.inl j) h
end Go.Lf
namespace Go.Lf
open Go
section
variable {n m : Nat} {x : Ar n (Ar m Int)} {v : Ar m Int} {i k w : Int}
theorem X0 (v : Ar m Int) : Enc.cells v = v.l.map DV.int := Rh v.l
theorem py (v : Ar m Int) : (Enc.cells v).length = m := by rw [X0, List.length_map, v.h]
theorem wz (h : x.ix i = some v) (h2 : v.ix k = some w) : A0 none (0 + i.toNat * m + k.toNat * 1) (Enc.cells x) = some (.int w) := by
 obtain ⟨_, hk⟩ := jE h2
 have e := jU h
 have en : Enc.n (Ar m Int) = m := Nat.mul_one m
 rw [en] at e
 have e2 := C0 h2 rfl rfl
 simp only [A0, Nat.zero_add, Nat.mul_one] at e2 ⊢
 rw [← e, List.getElem?_take_of_lt hk, List.getElem?_drop] at e2
 exact e2
theorem ez : ∀ (l : List (Ar m Int)) (a b : Nat) (v v' : Ar m Int) (y : DV), l[a]? = some v → b < m → Enc.cells v' = (Enc.cells v).set b y → (l.set a v').flatMap Enc.cells = (l.flatMap Enc.cells).set (a * m + b) y
 | [], a, b, v, v', y, h, _, _ => by simp at h
 | r :: l, 0, b, v, v', y, h, hb, hc => by
  simp only [List.getElem?_cons_zero, Option.some.injEq] at h
  subst h
  have := py r
  simp only [List.set_cons_zero, List.flatMap_cons, Nat.zero_mul, Nat.zero_add]
  rw [List.set_append_left _ _ (by omega), hc]
 | r :: l, a + 1, b, v, v', y, h, hb, hc => by
  simp only [List.getElem?_cons_succ] at h
  have := py r
  simp only [List.set_cons_succ, List.flatMap_cons]
  rw [List.set_append_right _ _ (by rw [this, Nat.succ_mul]; omega), ez l a b v v' y h hb hc, this]
  congr 2
  rw [Nat.succ_mul]; omega
theorem xh (h : x.ix i = some v) (h2 : v.ix k = some w) (y : Int) : DD 1 (0 + i.toNat * m + k.toNat * 1) [.d (.int y)] ((Enc.cells x).map LV.d) = some ((Enc.cells (x.put i (v.put k y))).map LV.d) := by
 obtain ⟨h1, h1'⟩ := jE h
 obtain ⟨h3, h3'⟩ := jE h2
 have hl : ((Enc.cells x).map LV.d).length = n * m := by
  rw [List.length_map, HH.len]; show n * (m * 1) = _; rw [Nat.mul_one]
 have hlt : i.toNat * m + k.toNat < n * m := by
  have : (i.toNat + 1) * m ≤ n * m := Nat.mul_le_mul_right m h1'
  rw [Nat.succ_mul] at this; omega
 have hc : Enc.cells (v.put k y) = (Enc.cells v).set k.toNat (.int y) := by
  rw [X0, X0]
  show (v.l.set k.toNat y).map DV.int = _
  rw [List.map_set]
 have hx : Enc.cells (x.put i (v.put k y)) = (Enc.cells x).set (i.toNat * m + k.toNat) (.int y) := ez x.l i.toNat k.toNat v _ _ (tG h) h3' hc
 simp only [DD, hl, List.length_cons, List.length_nil, Nat.zero_add, Nat.mul_one]
 rw [if_pos ⟨trivial, by omega, rfl⟩, hx, List.map_set]
 congr 1
 have hlt2 : i.toNat * m + k.toNat < ((Enc.cells x).map LV.d).length := by rw [hl]; exact hlt
 rw [setCells, List.set_eq_take_append_cons_drop, if_pos hlt2]
 simp
end
open Classical in
noncomputable def opq {α : Type} [Enc α] (v : Option LV) : Option α := if h : ∃ x : α, v = some (.d (Enc.enc x)) then some h.choose else none
theorem ye {α : Type} [Enc α] {LP : A6} {n : Nat} {ds : List DV} : Cq LP n ds (opq (α := α) (JB (om LP) n ds)) fun x => .d (Enc.enc x) :=
 kK (d := JB (om LP) n ds) fun x k => by
  unfold opq at k
  split at k
  ·rename_i h
   cases k
   exact h.choose_spec
  ·cases k
theorem rm {v : Option LV} {a b : Int} (h : v = some (.d (Enc.enc ((a, b) : Int × Int)))) : opq (α := Int × Int) v = some (a, b) := by
 have hx : ∃ x : Int × Int, v = some (.d (Enc.enc x)) := ⟨_, h⟩
 unfold opq
 rw [dif_pos hx]
 have e := h.symm.trans hx.choose_spec
 revert e
 generalize hx.choose = y
 intro e
 obtain ⟨c, d⟩ := y
 have e2 : DV.tup [.int a, .int b] = DV.tup [.int c, .int d] := LV.d.inj (Option.some.inj e)
 simp only [DV.tup.injEq, List.cons.injEq, DV.int.injEq, and_true] at e2
 rw [e2.1, e2.2]
def okP (a b : Int) : Option (LV × List Fr × Nat) → Bool
 | some (.d (.tup [.int c, .int d]), [], _) => a == c && b == d
 | _ => false
theorem Ax {LP : A6} {m n : Nat} {ds : List DV} {a b : Int} (h : okP a b ((Gm LP m).call n (ds.map .d) [] 0) = true) : opq (α := Int × Int) (JB (om LP) n ds) = some (a, b) := by
 refine rm ?_
 cases he : (Gm LP m).call n (ds.map .d) [] 0 with
 | none => rw [he] at h; cases h
 | some r =>
  rw [he] at h
  unfold okP at h
  split at h
  ·rename_i c d k hr
   cases hr
   simp only [Bool.and_eq_true, beq_iff_eq] at h
   obtain ⟨rfl, rfl⟩ := h
   have := Oe.mpr ⟨m, he⟩
   simp only [JB, this]
   rfl
  ·cases h
end Go.Lf
