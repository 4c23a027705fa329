/- A part of the proof. -/
import Derived.Test.YtpkbckdhkaggbaaDoorx2
set_option linter.all false
namespace Go.Lf
open Go
def Sl.unf {α : Type} : Sl α → Sl α
 | .full xs => .cold xs
 | x => x
section
variable {α : Type} [vG α]
theorem ru (x : Sl α) : x.unf.lv.copy = .d (vG.enc x) := by cases x <;> rfl
theorem eM {q : Nat} {x v : Sl α} {ys : List α} (h : x.app q ys = some v) (hy : ys ≠ []) : v.lv = v.unf.lv := by
 cases x with
 | nil => simp only [Sl.app, if_neg hy] at h; split at h <;> cases h; rfl
 | cold xs => simp only [Sl.app] at h; cases h
 | hot xs => simp only [Sl.app] at h; split at h <;> cases h; rfl
 | full xs => simp only [Sl.app, if_neg hy] at h; split at h <;> cases h; rfl
theorem sx {s : St} {t g : Nat} {cs cs' : List LV} (h : s.raw t = some (.box g cs)) (e : cs = cs') : s.raw t = some (.box g cs') := e ▸ h
variable {LP : A2} {C : AP}
theorem D8 {β : Type} : ∀ (l : List β) (i : Nat) (x : β), l[i]? = some x → l.set i x = l
 | [], i, x, h => by simp at h
 | a :: l, 0, x, h => by simp at h; simp [h]
 | a :: l, i + 1, x, h => by
  simp only [List.getElem?_cons_succ] at h
  simp [D8 l i x h]
theorem cO (g : Nat) (r : List AG) (s : St) (d : Nat) (ro : Option (Option Nat)) (p : vD) (j t gb off : Nat) (cs cs' : List LV) (x : Sl α) (hx : cs[off]? = some x.unf.lv) (hc : cs.set off (.d (vG.enc x)) = cs')
  (hp : s.val LP p = .ptr j t gb off) (hj : j = s.low.length) (hr : Ak s.low.length ro (some (LV.ptr j t gb off)) = true) (hb : s.raw t = some (.box gb cs)) (hd : s.free d = true) (hdt : ¬ t = d) :
  evalOps LP C g (⟨some d, .load none p true, none, ro⟩ :: r) s = evalOps LP C (g + 1) r ((s.upd t (.box gb cs')).upd d (.v x.unf.lv)) := by
 subst hj hc
 have hcl : s.cells s.low.length t gb = some cs := by rw [Hm, hb]; simp
 have hd2 : ∀ y, (s.upd t y).free d = true := fun y => by rw [Ir, if_neg hdt]; exact hd
 have hs : ∀ y, s.setAt s.low.length t y = s.upd t y := fun y => PK s t y
 simp only [evalOps, Ah, u5.addr, Option.map_some, hp, hr, if_true, evalOp, hcl, hx]
 cases x with
 | hot xs =>
  have e2 : vG.enc (Sl.hot xs) = .slice (vG.n α) (xs.map vG.enc) := rfl
  simp only [Sl.unf, Sl.lv, hs, e2, En _ (hd2 _)]
 | nil =>
  have e3 : cs.set off (.d (vG.enc (Sl.nil : Sl α))) = cs := D8 _ _ _ hx
  rw [e3, Du s t _ hb]
  simp only [Sl.unf, Sl.lv, part, hx, Option.map_some, LV.copy, En _ hd]
 | cold xs =>
  have e3 : cs.set off (.d (vG.enc (Sl.cold xs))) = cs := D8 _ _ _ hx
  rw [e3, Du s t _ hb]
  simp only [Sl.unf, Sl.lv, part, hx, Option.map_some, LV.copy, En _ hd]
 | full xs =>
  have e3 : cs.set off (.d (vG.enc (Sl.full xs))) = cs := D8 _ _ _ hx
  rw [e3, Du s t _ hb]
  simp only [Sl.unf, Sl.lv, part, hx, Option.map_some, LV.copy, En _ hd]
theorem nO (g : Nat) (r : List AG) (s : St) (d : Nat) (p : vD) (j t gb off : Nat) (cs cs' : List LV) (x : Sl α) (hx : cs[off]? = some x.unf.lv) (hc : cs.set off (.d (vG.enc x)) = cs')
  (hp : s.val LP p = .ptr j t gb off) (hj : j < s.low.length) (hb : HD s.low j t = some (.box gb cs)) (hd : s.free d = true) :
  evalOps LP C g (⟨some d, .load none p true, none, none⟩ :: r) s = evalOps LP C (g + 1) r ((s.setL j t (.box gb cs')).upd d (.v x.unf.lv)) := by
 subst hc
 have hcl : s.cells j t gb = some cs := by rw [Jb hj, hb]; simp
 have hr : Ak s.low.length none (some (LV.ptr j t gb off)) = true := rfl
 have hd2 : ∀ y, (s.setL j t y).free d = true := fun y => hd
 simp only [evalOps, Ah, u5.addr, Option.map_some, hp, hr, if_true, evalOp, hcl, hx]
 cases x with
 | hot xs =>
  have e2 : vG.enc (Sl.hot xs) = .slice (vG.n α) (xs.map vG.enc) := rfl
  simp only [Sl.unf, Sl.lv, JU s j t _ hj, e2, En _ (hd2 _)]
 | nil =>
  have e3 : cs.set off (.d (vG.enc (Sl.nil : Sl α))) = cs := D8 _ _ _ hx
  have e4 : s.setL j t (.box gb cs) = s := by simp only [St.setL, Gl hb]
  rw [e3, e4]
  simp only [Sl.unf, Sl.lv, part, hx, Option.map_some, LV.copy, En _ hd]
 | cold xs =>
  have e3 : cs.set off (.d (vG.enc (Sl.cold xs))) = cs := D8 _ _ _ hx
  have e4 : s.setL j t (.box gb cs) = s := by simp only [St.setL, Gl hb]
  rw [e3, e4]
  simp only [Sl.unf, Sl.lv, part, hx, Option.map_some, LV.copy, En _ hd]
 | full xs =>
  have e3 : cs.set off (.d (vG.enc (Sl.full xs))) = cs := D8 _ _ _ hx
  have e4 : s.setL j t (.box gb cs) = s := by simp only [St.setL, Gl hb]
  rw [e3, e4]
  simp only [Sl.unf, Sl.lv, part, hx, Option.map_some, LV.copy, En _ hd]
end
section
variable {LP : A2} {C : AP}
theorem qQ (g : Nat) (r : List AG) (s : St) (d : Nat) (ro : Option (Option Nat)) (p : vD) (j t gb off : Nat) (cs : List LV) (v : DV) (hx : cs[off]? = some (.d v))
  (hp : s.val LP p = .ptr j t gb off) (hj : j = s.low.length) (hr : Ak s.low.length ro (some (LV.ptr j t gb off)) = true) (hb : s.raw t = some (.box gb cs)) :
  evalOps LP C g (⟨some d, .load none p true, none, ro⟩ :: r) s = Fh LP C (g + 1) r s (some d) (some (.d v)) := by
 subst hj
 have hcl : s.cells s.low.length t gb = some cs := by rw [Hm, hb]; simp
 simp only [evalOps, Ah, u5.addr, Option.map_some, hp, hr, if_true, evalOp, hcl, hx, part, LV.copy, Fh, Option.map_some]
 cases s.put (some d) (.d v) <;> rfl
theorem ns (g : Nat) (r : List AG) (s : St) (d : Nat) (p : vD) (j t gb off : Nat) (cs : List LV) (v : DV) (hx : cs[off]? = some (.d v))
  (hp : s.val LP p = .ptr j t gb off) (hj : j < s.low.length) (hb : HD s.low j t = some (.box gb cs)) :
  evalOps LP C g (⟨some d, .load none p true, none, none⟩ :: r) s = Fh LP C (g + 1) r s (some d) (some (.d v)) := by
 have hcl : s.cells j t gb = some cs := by rw [Jb hj, hb]; simp
 have hr : Ak s.low.length none (some (LV.ptr j t gb off)) = true := rfl
 simp only [evalOps, Ah, u5.addr, Option.map_some, hp, hr, if_true, evalOp, hcl, hx, part, LV.copy, Fh, Option.map_some]
 cases s.put (some d) (.d v) <;> rfl
end
section
variable {LP : A2} {C : AP} {β : Type} [vG β]
theorem Vj (g : Nat) (r : List AG) (s : St) (n j t gm u : Nat) (m i : vD) (key : List Int) (es : List (List Int × Sl β)) (z a : Sl β)
  (hm : s.val LP m = .mref j t gm) (hj : j < s.low.length) (hi : s.val LP i = .d (.int (Fg es key))) (hv : s.raw u = some (.v a.lv)) (he : HD s.low j t = some (.mapo gm n (DK (EY z E5.coolE es key)))) :
  evalOps LP C g (⟨none, .mstore n m i (.tmp u), none, none⟩ :: r) s = evalOps LP C (g + 1) r ((s.upd u (.v a.spent.lv)).setL j t (.mapo gm n (DK (EI es key a)))) :=
 YO g r s n j t gm u m i key es z a hm hj hi hv he
theorem O9 (g : Nat) (r : List AG) (s : St) (tt : Option Nat) (ro : Option (Option Nat)) (n t gm u : Nat) (m i : vD) (key : List Int) (es : List (List Int × Sl β)) (z a : Sl β)
  (hm : s.val LP m = .mref s.low.length t gm) (hr : Ak s.low.length ro (some (.mref s.low.length t gm)) = true) (hi : s.val LP i = .d (.int (Fg es key))) (hv : s.raw u = some (.v a.lv)) (hut : u ≠ t) (he : s.raw t = some (.mapo gm n (DK (EY z E5.coolE es key)))) :
  evalOps LP C g (⟨tt, .mstore n m i (.tmp u), none, ro⟩ :: r) s = evalOps LP C (g + 1) r ((s.upd u (.v a.spent.lv)).upd t (.mapo gm n (DK (EI es key a)))) :=
 aI g r s tt ro n t gm u m i key es z a hm hr hi hv hut he
end
theorem kK {α : Type} [vG α] (sz : Nat) (x : Sl α) (lo hi mx : Option LV) : Hj sz x.lv lo hi mx = Hj sz (.d (vG.enc x)) lo hi mx := by cases x <;> rfl
theorem IH (j k t g : Nat) (h : j = k) : Ak k (some (some t)) (some (.mref j t g)) = true := by simp [Ak, h]
theorem bG (f : Nat) (a b : List DV) : XL 1 (.d (.agg [.fn f a b])) = some [.d (.fn f a b)] := rfl
theorem fa (f : Nat) (a b : List LV) : XL 1 (.agg [.fn f a b]) = some [.fn f a b] := rfl
section
variable {LP : A2} {C : AP} {β : Type} [vG β]
theorem oP (g : Nat) (r : List AG) (s : St) (tt : Option Nat) (ro : Option (Option Nat)) (n t gm : Nat) (m k v : vD) (key : List Int) (es : List (List Int × Sl β)) (a : Sl β) (vd : DV) (hav : a.lv = .d vd)
  (hm : s.val LP m = .mref s.low.length t gm) (hr : Ak s.low.length ro (some (.mref s.low.length t gm)) = true) (hk : (s.val LP k).key n = some key) (hv : jP s v = some (.v (.d vd))) (he : s.raw t = some (.mapo gm n (DK es))) :
  evalOps LP C g (⟨tt, .mapset n m k v, none, ro⟩ :: r) s = evalOps LP C (g + 1) r (s.upd t (.mapo gm n (DK (EI es key a)))) :=
 UU g r s tt ro n t gm m k v key es a vd hav hm hr hk hv he
theorem QK (g : Nat) (r : List AG) (s : St) (tt : Option Nat) (ro : Option (Option Nat)) (n t gm : Nat) (m k v : vD) (key : List Int) (a : Sl β) (vd : DV) (hav : a.lv = .d vd)
  (hm : s.val LP m = .mref s.low.length t gm) (hr : Ak s.low.length ro (some (.mref s.low.length t gm)) = true) (hk : (s.val LP k).key n = some key) (hv : jP s v = some (.v (.d vd))) (he : s.raw t = some (.mapo gm n [])) :
  evalOps LP C g (⟨tt, .mapset n m k v, none, ro⟩ :: r) s = evalOps LP C (g + 1) r (s.upd t (.mapo gm n (DK (EI [] key a)))) :=
 UU g r s tt ro n t gm m k v key [] a vd hav hm hr hk hv he
end
theorem rB (f : Nat) (a b : List DV) : part (some 1) 0 [.d (.fn f a b)] = some (.d (.agg [.fn f a b])) := rfl
def fA (f : Nat) (a b : List LV) : Option (List DV) → Option (List DV) → LV
 | some x, some y => .d (.agg [.fn f x y])
 | _, _ => .agg [.fn f a b]
theorem sD (f : Nat) (a b : List LV) : part (some 1) 0 [.fn f a b] = some (fA f a b (AU a) (AU b)) := by
 have : part (some 1) 0 [.fn f a b] = some (LV.norm (.agg [.fn f a b])) := rfl
 rw [this]
 simp only [LV.norm, LV.toD, AU, fA]
 cases AU a <;> cases AU b <;> rfl
theorem nL (f : Nat) (a b : List LV) (x y : List DV) : fA f a b (some x) (some y) = .d (.agg [.fn f x y]) := rfl
theorem mq (f : Nat) (a b : List LV) (y : Option (List DV)) : fA f a b none y = .agg [.fn f a b] := by cases y <;> rfl
theorem nf (f : Nat) (a b : List LV) (x : Option (List DV)) : fA f a b x none = .agg [.fn f a b] := by cases x <;> rfl
theorem Zu {α : Type} [vG α] {s : St} {t : Nat} {x : Sl α} (h : s.raw t = some (.v x.spent.lv)) : Rh s (t, none) = some (.d (vG.enc x)) := by
 rw [Zm h, Pg]
theorem pG {α : Type} [vG α] {s : St} {t g : Nat} {x : Sl α} (h : s.raw t = some (.box g [x.spent.lv])) : Rh s (t, some none) = some (.d (vG.enc x)) := by
 rw [Ue h, Pg]
theorem eh (c : LV) : D5 1 0 [.d .nils] [c] = some [.d .nils] := Em c rfl
theorem mj (c : LV) : D5 1 0 [.d .nilmap] [c] = some [.d .nilmap] := Em c rfl
theorem ja (f : Nat) (a b : List LV) : EL [.nilfn] [(0, 1, .fn f a b)] = some (fA f a b (AU a) (AU b)) := by
 have : EL [.nilfn] [(0, 1, .fn f a b)] = some (LV.norm (.agg [.fn f a b])) := rfl
 rw [this]
 simp only [LV.norm, LV.toD, AU, fA]
 cases AU a <;> cases AU b <;> rfl
def sX (b : Bool) (x y : DV) : DV := match b with
 | true => y
 | false => x
theorem oU (x y : DV) : sX true x y = y := rfl
theorem oc (x y : DV) : sX false x y = x := rfl
def rR (i : Int) : Option Bool := if i = 0 then some false else if i = 1 then some true else none
theorem qE {i : Int} {b : Bool} {x y : DV} (h : rR i = some b) : RJ none 1 2 (.d (.agg [x, y])) (.d (.int i)) = some (.d (sX b x y)) := by
 unfold rR at h
 split at h
 ·rename_i hi; subst hi; cases h; rfl
 ·split at h
  ·rename_i hi; subst hi; cases h; rfl
  ·cases h
abbrev t_ (t : Nat) : vD := .tmp t
abbrev i_ (n : Int) : vD := .con (.int n)
abbrev m_ (d t : Nat) : AG := ⟨some d, .move (.tmp t) false, none, none⟩
abbrev M_ (d t : Nat) : AG := ⟨some d, .move (.tmp t) true, none, none⟩
abbrev n_ (d t g : Nat) (b : Bool) : AG := ⟨some d, .move (.tmp t) false, some (g, b), none⟩
abbrev c_ (d : Nat) (n : Int) : AG := ⟨some d, .move (.con (.int n)) false, none, none⟩
abbrev q_ (d : Nat) (b : Bool) : AG := ⟨some d, .move (.con (.bool b)) false, none, none⟩
abbrev f_ (d n t : Nat) : AG := ⟨some d, .faddr n (.tmp t), none, none⟩
abbrev F_ (d n t g : Nat) : AG := ⟨some d, .faddr n (.tmp t), some (g, true), none⟩
abbrev l_ (d t : Nat) : AG := ⟨some d, .load none (.tmp t) false, none, none⟩
abbrev L_ (d n t : Nat) : AG := ⟨some d, .load (some n) (.tmp t) false, none, none⟩
abbrev p_ (d a b : Nat) (c : Bool) : AG := ⟨some d, .pick (.tmp a) (.tmp b) (.con (.bool c)), none, none⟩
abbrev P_ (d a b : Nat) (c : Bool) : AG := ⟨some d, .pick (.tmp a) (.con (.bool c)) (.tmp b), none, none⟩
abbrev o_ (d : Nat) (p : u5) : AG := ⟨some d, p, none, none⟩
abbrev g_ (d : Nat) (p : u5) (g : Nat) : AG := ⟨some d, p, some (g, true), none⟩
abbrev r_ (d : Nat) (p : u5) (r : Option Nat) : AG := ⟨some d, p, none, some r⟩
abbrev s_ (n a b : Nat) : AG := ⟨none, .store n (.tmp a) (.tmp b), none, none⟩
abbrev x_ (d n t : Nat) : AG := ⟨some d, .extract n (.tmp t) false, none, none⟩
abbrev a_ (d n s i : Nat) : AG := ⟨some d, .iaddrS n (.tmp s) (.tmp i), none, none⟩
abbrev e_ (d t : Nat) : AG := ⟨some d, .len (.tmp t), none, none⟩
abbrev b_ (d n t : Nat) : AG := ⟨some d, .box n (.tmp t), none, none⟩
abbrev k_ (d f : Nat) (xs : List vD) : AG := ⟨some d, .call (.con (.fn f [] [])) xs none, none, none⟩
abbrev E_ {α : Type} [vG α] (t : Nat) (x : α) : Nat × BE := (t, .v (.d (vG.enc x)))
abbrev I_ (t : Nat) (x : Int) : Nat × BE := (t, .v (.d (.int x)))
abbrev B_ (t : Nat) (x : Bool) : Nat × BE := (t, .v (.d (.bool x)))
abbrev C_ {α : Type} [vG α] (t g : Nat) (x : α) : Nat × BE := (t, .box g ((vG.cells x).map LV.d))
abbrev N_ (t g : Nat) (x : Int) : Nat × BE := (t, .box g [.d (.int x)])
theorem t3 {α β : Type} {o : Option α} {f : α → Option β} {b : β} (h : o.bind f = some b) : ∃ a, o = some a ∧ f a = some b := Option.bind_eq_some_iff.mp h
theorem pu {LP : A2} {ks : List dX} {J : vI → St → Prop} {s : St} {t : Nat} {c : Bool} {a b : CN} {α : Type} {A B : Option α} {x : α} (r : s.raw t = some (.v (.d (.bool c)))) (k : (if c = true then A else B) = some x)
  (h1 : c = true → A = some x → Run LP ks a s J) (h2 : c = false → B = some x → Run LP ks b s J) : Run LP ks (.cond (.tmp t) a b) s J := by
 cases c with
 | true => exact ew r rfl (h1 rfl (by simpa using k))
 | false => exact ep r rfl (h2 rfl (by simpa using k))
def rs := And.intro sP <| And.intro @Option.map_none.{0, 0} <| And.intro @Option.map_some.{0, 0} <| And.intro @List.map_cons.{0, 0} <| And.intro @List.map_nil.{0, 0} <| And.intro @if_true.{1} <| And.intro @if_false.{1} <| And.intro @and_true <| And.intro @true_and <|
 And.intro Bool.not_true <| And.intro Bool.not_false <| And.intro @Bool.true_and <| And.intro @Bool.false_and <| And.intro @Bool.true_or <| And.intro @Bool.false_or <| And.intro @List.nil_append.{0} <| And.intro @List.append_nil.{0} @List.cons_append.{0}
theorem Rg {LP : A2} {ks : List dX} {J : vI → St → Prop} {s : St} {B : List Nat} {ops : List AG} {keep : List Nat} {low : List Fr} (l : List (Nat × BE)) (hl : s.low = low) (hf : uY B s)
  (h' : ∀ s', DW l s' → s'.low = low → uY B s' → EF LP ks .normal s' J) (hB : ops.all (vM B) = true := by rfl) (hk : l.all (fun p => keep.contains p.1) = true := by rfl)
  (h : ∃ s1, Lf.evalOps LP (om LP) s.ctr ops (s.tick ops.length) = some s1 ∧ Br l s1 ∧ s1.low = low := by simp only [rs, hl, uD hf, r, reduceCtorEq, Nat.reduceEqDiff, Nat.reduceAdd]) : Run LP ks (.ops ops keep) s J :=
 dw l hl hf hB hk h h'
end Go.Lf
namespace Go.Lf
open Go
def Nx (LP : A2) (J : vI → St → Prop) (s : St) : Nat → List dX → vI ⊕ CN → Prop
 | 0, ks, .inr c => Run LP ks c s J
 | 0, ks, .inl j => EF LP ks j s J
 | n + 1, ks, .inr (.seq a b) => Nx LP J s n (.seq b :: ks) (.inr a)
 | n + 1, ks, .inr (.scope a) => Nx LP J s n ks (.inr a)
 | n + 1, ks, .inr .skip => Nx LP J s n ks (.inl .normal)
 | n + 1, ks, .inr (.exit i) => Nx LP J s n ks (.inl (.exit i))
 | n + 1, ks, .inr .ret => Nx LP J s n ks (.inl .ret)
 | _ + 1, ks, .inr c => Run LP ks c s J
 | _ + 1, [], .inl j => J j s
 | n + 1, .seq c :: ks, .inl .normal => Nx LP J s n ks (.inr c)
 | n + 1, .seq _ :: ks, .inl j => Nx LP J s n ks (.inl j)
 | n + 1, .loop c :: ks, .inl .normal => Nx LP J s n ks (.inr (.loop c))
 | n + 1, .loop _ :: ks, .inl j => Nx LP J s n ks (.inl j)
 | n + 1, .block i :: ks, .inl (.exit k) => match Nat.beq k i with
  | true => Nx LP J s n ks (.inl .normal)
  | false => Nx LP J s n ks (.inl (.exit k))
 | n + 1, .block _ :: ks, .inl j => Nx LP J s n ks (.inl j)
theorem Eu {LP : A2} {J : vI → St → Prop} {s : St} : ∀ (n : Nat) (ks : List dX) (x : vI ⊕ CN), Nx LP J s n ks x → match x with | .inr c => Run LP ks c s J | .inl j => EF LP ks j s J
 | 0, ks, .inr c, h => h
 | 0, ks, .inl j, h => h
 | n + 1, ks, .inr c, h => by
  cases c with
  | seq a b => exact Run.seq (Eu n _ _ h)
  | scope a => exact Run.scope (Eu n _ _ h)
  | skip => exact Run.skip (Eu n _ _ h)
  | exit i => exact Run.exit (Eu n _ _ h)
  | ret => exact Run.ret (Eu n _ _ h)
  | _ => exact h
 | n + 1, ks, .inl j, h => by
  cases ks with
  | nil => exact h
  | cons k ks =>
   cases k with
   | seq c => cases j with
    | normal => exact EF.seq (Eu n _ _ h)
    | exit i => exact Yq (Eu n _ _ h)
    | ret => exact a8 (Eu n _ _ h)
   | loop c => cases j with
    | normal => exact EF.loop (Eu n _ _ h)
    | exit i => exact Vp (Eu n _ _ h)
    | ret => exact Y2 (Eu n _ _ h)
   | block i => cases j with
    | normal => exact EF.block (Eu n _ _ h)
    | exit k =>
     simp only [Nx] at h
     by_cases e : k = i
     ·subst e
      simp only [Nat.beq_refl] at h
      exact EF.block_exit (Eu n _ _ h)
     ·have : Nat.beq k i = false := by
       cases hb : Nat.beq k i with
       | false => rfl
       | true => exact absurd (Nat.eq_of_beq_eq_true hb) e
      rw [this] at h
      exact EF.block_pass e (Eu n _ _ h)
    | ret => exact EF.block_ret (Eu n _ _ h)
def St.atc (s : St) (c n : Nat) : St := { s with ctr := c + n }
theorem pz (s : St) (c n t : Nat) : (s.atc c n).raw t = s.raw t := rfl
theorem nA (s : St) (c n t : Nat) : (s.atc c n).free t = s.free t := rfl
theorem pY (s : St) (c n : Nat) : (s.atc c n).low = s.low := rfl
theorem pU (s : St) (c n : Nat) : (s.atc c n).ctr = c + n := rfl
abbrev HN := List (Nat × BE)
def uF (t : Nat) : Option BE → Option HN → Option HN
 | some x, some l => some ((t, x) :: l)
 | _, _ => none
def kl : List Nat → St → Option HN
 | [], _ => some []
 | t :: ts, s => uF t (s.raw t) (kl ts s)
def tz : Option HN → List Fr → Option (HN × List Fr)
 | some l, low => some (l, low)
 | none, _ => none
def kn (keep : List Nat) : Option St → Option (HN × List Fr)
 | some s => tz (kl keep s) s.low
 | none => none
theorem rN (s : St) : kl [] s = some [] := rfl
theorem pO (t : Nat) (ts : List Nat) (s : St) : kl (t :: ts) s = uF t (s.raw t) (kl ts s) := rfl
theorem Py (t : Nat) (x : BE) (l : HN) : uF t (some x) (some l) = some ((t, x) :: l) := rfl
theorem nb (l : HN) (low : List Fr) : tz (some l) low = some (l, low) := rfl
theorem pQ (keep : List Nat) (s : St) : kn keep (some s) = tz (kl keep s) s.low := rfl
def uN (s : St) (t : Nat) : HN → Option BE
 | [] => s.raw t
 | (u, x) :: l => if u = t then some x else uN s t l
def lk (d : HN) : List Nat → St → Option HN
 | [], _ => some []
 | t :: ts, s => uF t (uN s t d) (lk d ts s)
theorem dR (d : HN) (s : St) : lk d [] s = some [] := rfl
theorem VC (d : HN) (t : Nat) (ts : List Nat) (s : St) : lk d (t :: ts) s = uF t (uN s t d) (lk d ts s) := rfl
theorem VD (s : St) (t : Nat) : uN s t [] = s.raw t := rfl
theorem QA (s : St) (t u : Nat) (x : BE) (l : HN) : uN s t ((u, x) :: l) = if u = t then some x else uN s t l := rfl
theorem oN : ∀ {ks : List Nat} {s : St} {l : HN}, kl ks s = some l → Br l s ∧ l.all (fun p => ks.contains p.1) = true
 | [], s, l, h => by cases h; exact ⟨trivial, rfl⟩
 | t :: ts, s, l, h => by
  simp only [kl] at h
  cases hx : s.raw t with
  | none => rw [hx] at h; cases h
  | some x =>
   rw [hx] at h
   cases hl : kl ts s with
   | none => rw [hl] at h; cases h
   | some l' =>
    rw [hl] at h; cases h
    obtain ⟨h1, h2⟩ := oN hl
    refine ⟨⟨hx, h1⟩, ?_⟩
    simp only [List.all_cons, List.contains_cons, beq_self_eq_true, Bool.true_or, Bool.true_and]
    rw [List.all_eq_true] at h2 ⊢
    intro p hp
    rw [h2 p hp, Bool.or_true]
theorem gd {keep : List Nat} {LP : A2} {C : AP} {g : Nat} {o : AG} {r : List AG} {s : St} {w b : Bool} {X : Option (HN × List Fr)} (h1 : b = true → kn keep (Qh LP C g o r s w (.d (.bool true))) = X)
  (h0 : b = false → kn keep (Qh LP C g o r s w (.d (.bool false))) = X) : kn keep (Qh LP C g o r s w (.d (.bool b))) = X := by
 cases b
 ·exact h0 rfl
 ·exact h1 rfl
theorem uz {keep : List Nat} {LP : A2} {C : AP} {g : Nat} {o : AG} {r : List AG} {s : St} {w b : Bool} {X : Option (HN × List Fr)} (h1 : b = true → kn keep (Qh LP C g o r s w (.d (.bool (!b)))) = X)
  (h0 : b = false → kn keep (Qh LP C g o r s w (.d (.bool (!b)))) = X) : kn keep (Qh LP C g o r s w (.d (.bool (!b)))) = X := by
 cases b
 ·exact h0 rfl
 ·exact h1 rfl
theorem tX (a b : Bool) : (a != b) = !(a == b) := rfl
theorem pW {α : Type} [vG α] (x : Sl α) : x.lv.copy = x.spent.lv := by cases x <;> rfl
def Kq {α : Type} (o : Option α) (x : α) : Prop := o = some x
theorem kq {α : Type} {o : Option α} {x : α} (h : o = some x) : Kq o x := h
theorem uT {α β : Type} {o : Option α} {f : α → Option β} {b : β} (h : Kq (o.bind f) b) : ∃ a, o = some a ∧ Kq (f a) b := t3 h
theorem oK {α : Type} {a b : α} (h : Kq (some a) b) : a = b := Option.some.inj h
theorem te {α : Type} {c : Bool} {A B : Option α} {x : α} (k : (if c = true then A else B) = some x) : (c = true ∧ A = some x) ∨ (c = false ∧ B = some x) := by
 cases c
 ·exact .inr ⟨rfl, by simpa using k⟩
 ·exact .inl ⟨rfl, by simpa using k⟩
theorem gb {α β : Type} {A : Option α} {f : α → Option β} {b : β} {G : Prop} (h : ∀ v, A = some v → f v = some b → G) (q : A.bind f = some b) : G := by
 obtain ⟨v, h1, h2⟩ := t3 q
 exact h v h1 h2
theorem gi {β : Type} {c : Bool} {A B : Option β} {b : β} {G : Prop} (h1 : c = true → A = some b → G) (h0 : c = false → B = some b → G) (q : (if c = true then A else B) = some b) : G := by
 rcases te q with ⟨a, q⟩ | ⟨a, q⟩
 ·exact h1 a q
 ·exact h0 a q
theorem oI {α : Type} {a b : α} (h : some a = some b) : a = b := Option.some.inj h
def uQ {α β : Type} (o : Option α) (F : α → β) (d : Option β) : Option β := match o with
 | some x => some (F x)
 | none => d
theorem m0 {α β : Type} (x : α) (F : α → β) (d : Option β) : uQ (some x) F d = some (F x) := rfl
theorem kA {α β : Type} {o : Option α} {F : α → β} {d : Option β} (h : ∀ x, o = some x → d = some (F x)) : d = uQ o F d := by
 cases o with
 | none => rfl
 | some x => exact h x rfl
def qi (sz : Nat) (x i : LV) : Option LV := kj sz x i
theorem qy {α : Type} [vG α] (x : Sl α) (i : Int) (sz : Nat) (hz : vG.n α = sz) : kj sz (.d (vG.enc x)) (.d (.int i)) = uQ (x.ix i) (fun a => .d (.fptr (vG.cells a) 0)) (qi sz (.d (vG.enc x)) (.d (.int i))) :=
 kA (d := kj sz (.d (vG.enc x)) (.d (.int i))) fun _ h => kR x h hz
theorem qI {α : Type} [vG α] (x : Sl α) (i : Int) (sz : Nat) (hz : vG.n α = sz) : kj sz x.lv (.d (.int i)) = uQ (x.ix i) (fun a => .d (.fptr (vG.cells a) 0)) (qi sz x.lv (.d (.int i))) :=
 kA (d := kj sz x.lv (.d (.int i))) fun _ h => pX x h hz
noncomputable def qb (LP : A2) (n : Nat) (ds : List DV) : Option LV := Ld (om LP) n ds
@[reducible] def Cq {α : Type} (LP : A2) (n : Nat) (ds : List DV) (o : Option α) (E : α → LV) : Prop := Ld (om LP) n ds = uQ o E (qb LP n ds)
theorem Cq.mk {α : Type} {LP : A2} {n : Nat} {ds : List DV} {o : Option α} {E : α → DV} (h : ∀ {r}, o = some r → Fin LP n ds (E r)) : Cq LP n ds o fun x => .d (E x) :=
 kA (d := Ld (om LP) n ds) fun _ k => (h k).call
theorem sr : vG.n Int = 1 := rfl
theorem rY : vG.n Bool = 1 := rfl
theorem tZ {α : Type} [vG α] : vG.n (Sl α) = 1 := rfl
theorem tU : vG.n Fv = 1 := rfl
theorem tW {α : Type} [vG α] {n : Nat} : vG.n (Mp n α) = 1 := rfl
theorem tg {α : Type} [vG α] {n : Nat} : vG.n (Ar n α) = n * vG.n α := rfl
def rt := And.intro @rs <| And.intro sr <| And.intro rY <| And.intro @tZ <| And.intro tU <| And.intro @tW <| And.intro @tg <| And.intro @pz <| And.intro @nA <| And.intro @pY <| And.intro @pU <| And.intro @rN <| And.intro @pO <| And.intro @Py <| And.intro @nb <| And.intro @pQ <| And.intro @dR <| And.intro @VC <| And.intro @VD <|
 And.intro @QA <| And.intro @qy <| And.intro @qI <| And.intro @m0 <| And.intro @List.length_cons.{0} <| And.intro @List.length_nil.{0} <| And.intro @Xd <| And.intro @cC <| And.intro @ne_eq.{1} <| And.intro not_false_eq_true <| And.intro @I3 <| And.intro @aR <| And.intro @GR <| And.intro @pW <| And.intro tX <| And.intro @Cj <| And.intro @BQ <| And.intro @Ov <| And.intro @IX <| And.intro @IQ @nN
section
variable {LP : A2} {ks : List dX} {J : vI → St → Prop} {s : St} {B : List Nat} {ops : List AG} {keep : List Nat} {low : List Fr} {l : Nat → HN}
theorem sj (hl : s.low = low) (hf : uY B s) (hB : ops.all (vM B) = true) (h : ∀ c, kn keep (Lf.evalOps LP (om LP) c ops (s.atc c ops.length)) = some (l c, low))
  (h' : ∀ c s', DW (l c) s' → s'.low = low → uY B s' → Nx LP J s' 60 ks (.inl .normal)) : Run LP ks (.ops ops keep) s J := by
 have h0 := h s.ctr
 cases he : Lf.evalOps LP (om LP) s.ctr ops (s.atc s.ctr ops.length) with
 | none => rw [he] at h0; cases h0
 | some s1 =>
  rw [he] at h0
  simp only [kn] at h0
  cases hk : kl keep s1 with
  | none => rw [hk] at h0; cases h0
  | some l1 =>
   rw [hk] at h0
   simp only [tz, Option.some.injEq, Prod.mk.injEq] at h0
   obtain ⟨rfl, h2⟩ := h0
   obtain ⟨h3, h4⟩ := oN hk
   exact dw (B := B) (l s.ctr) hl hf hB h4 ⟨s1, he, h3, h2⟩ fun s' a b c => Eu 60 ks (.inl .normal) (h' s.ctr s' a b c)
theorem gY (l : HN) (hl : s.low = low) (hf : uY B s) (h : ∃ s1, Lf.evalOps LP (om LP) s.ctr ops (s.tick ops.length) = some s1 ∧ Br l s1 ∧ s1.low = low)
  (h' : ∀ s', DW l s' → s'.low = low → uY B s' → Nx LP J s' 60 ks (.inl .normal)) (hB : ops.all (vM B) = true := by rfl) (hk : l.all (fun p => keep.contains p.1) = true := by rfl) : Run LP ks (.ops ops keep) s J :=
 dw l hl hf hB hk h fun s' a b c => Eu 60 ks (.inl .normal) (h' s' a b c)
theorem regS {Q : List Fr → Prop} (l : HN) (hl : s.low = low) (hf : uY B s) (h : ∃ s1, Lf.evalOps LP (om LP) s.ctr ops (s.tick ops.length) = some s1 ∧ Br l s1 ∧ Q s1.low)
  (h' : ∀ s', DW l s' → Q s'.low → uY B s' → Nx LP J s' 60 ks (.inl .normal)) (hB : ops.all (vM B) = true := by rfl) (hk : l.all (fun p => keep.contains p.1) = true := by rfl) : Run LP ks (.ops ops keep) s J :=
 nv l hl hf hB hk h fun s' a b c => Eu 60 ks (.inl .normal) (h' s' a b c)
theorem tp {t : Nat} {c : Bool} {a b : CN} (hr : s.raw t = some (.v (.d (.bool c)))) (hc : c = true) (h : Nx LP J s 60 ks (.inr a)) : Run LP ks (.cond (.tmp t) a b) s J := ew hr hc (Eu 60 ks (.inr a) h)
theorem tq {t : Nat} {c : Bool} {a b : CN} (hr : s.raw t = some (.v (.d (.bool c)))) (hc : c = false) (h : Nx LP J s 60 ks (.inr b)) : Run LP ks (.cond (.tmp t) a b) s J := ep hr hc (Eu 60 ks (.inr b) h)
theorem E2 {t : Nat} {c : Bool} {a b : CN} {α : Type} {A B : Option α} {x : α} (r : s.raw t = some (.v (.d (.bool c)))) (k : Kq (if c = true then A else B) x)
  (h1 : c = true → Kq A x → Nx LP J s 60 ks (.inr a)) (h2 : c = false → Kq B x → Nx LP J s 60 ks (.inr b)) : Run LP ks (.cond (.tmp t) a b) s J :=
 pu r k (fun c k => Eu 60 ks (.inr a) (h1 c k)) fun c k => Eu 60 ks (.inr b) (h2 c k)
theorem NF {t : Nat} {c : Bool} {a b : CN} {α : Type} {A B : Option α} {x : α} (r : s.raw t = some (.v (.d (.bool (!c))))) (k : Kq (if c = true then A else B) x)
  (h1 : c = true → Kq A x → Nx LP J s 60 ks (.inr b)) (h2 : c = false → Kq B x → Nx LP J s 60 ks (.inr a)) : Run LP ks (.cond (.tmp t) a b) s J := by
 cases c with
 | true => exact ep r rfl (Eu 60 ks (.inr b) (h1 rfl (by simpa [Kq] using k)))
 | false => exact ew r rfl (Eu 60 ks (.inr a) (h2 rfl (by simpa [Kq] using k)))
theorem tY {c : CN} {Q : vI → St → Prop} (h : Nx LP Q s 60 [] (.inr c)) (h' : ∀ j s', Q j s' → Nx LP J s' 60 ks (.inl j)) : Run LP ks c s J :=
 Run.sub (Eu 60 [] (.inr c) h) fun j s' q => Eu 60 ks (.inl j) (h' j s' q)
theorem uh {i : Nat} {c : CN} (h : Nx LP J s 60 (.block i :: ks) (.inr c)) : Run LP ks (.block i c) s J := Run.block (Eu 60 (.block i :: ks) (.inr c) h)
theorem Nx.run {c : CN} (h : Nx LP J s 60 [] (.inr c)) : Run LP [] c s J := Eu 60 [] (.inr c) h
theorem A9 {c : CN} {σ ρ : Type} {f : σ → Option (σ ⊕ ρ)} {E : σ → St → Prop} {Q : ρ → vI → St → Prop} {r : ρ} {x : σ}
  (hl : Loop f x = some r) (hs : ∀ x s out, E x s → Kq (f x) out → Nx LP (qu E Q out) s 60 [] (.inr c)) (he : E x s) (h' : ∀ j s', Q r j s' → Nx LP J s' 60 ks (.inl j)) : Run LP ks (.loop c) s J :=
 i6 (fun x s out a b => Eu 60 [] (.inr c) (hs x s out a b)) he hl fun j s' q => Eu 60 ks (.inl j) (h' j s' q)
end
theorem jp {LP : A2} {ks : List dX} {J : vI → St → Prop} {s : St} {j : vI} (h : Nx LP J s 60 ks (.inl j)) : EF LP ks j s J := Eu 60 ks (.inl j) h
end Go.Lf
