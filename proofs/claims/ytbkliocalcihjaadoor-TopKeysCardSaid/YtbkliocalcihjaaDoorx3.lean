/- A part of the proof. -/
import Derived.Test.YtbkliocalcihjaaDoorx2
set_option linter.all false
namespace Go.Lf
open Go
def Sl.unf {α : Type} : Sl α → Sl α
 | .full xs => .cold xs
 | x => x
section
variable {α : Type} [Enc α]
theorem xY (x : Sl α) : x.unf.lv.copy = .d (Enc.enc x) := by cases x <;> rfl
theorem oe {q : Nat} {x v : Sl α} {ys : List α} (h : x.app q ys = some v) (hy : ys ≠ []) : v.lv = v.unf.lv := by
 cases x with
 | nil => simp only [Sl.app, if_neg hy] at h; split at h <;> cases h; rfl
 | cold xs => simp only [Sl.app] at h; cases h
 | hot xs => simp only [Sl.app] at h; split at h <;> cases h; rfl
 | full xs => simp only [Sl.app, if_neg hy] at h; split at h <;> cases h; rfl
theorem wW {s : St} {t g : Nat} {cs cs' : List LV} (h : s.raw t = some (.box g cs)) (e : cs = cs') : s.raw t = some (.box g cs') := e ▸ h
variable {LP : Aw} {C : AM}
theorem EP {β : Type} : ∀ (l : List β) (i : Nat) (x : β), l[i]? = some x → l.set i x = l
 | [], i, x, h => by simp at h
 | a :: l, 0, x, h => by simp at h; simp [h]
 | a :: l, i + 1, x, h => by
  simp only [List.getElem?_cons_succ] at h
  simp [EP l i x h]
theorem SK (g : Nat) (r : List AD) (s : St) (d : Nat) (ro : Option (Option Nat)) (p : Opd) (j t gb off : Nat) (cs cs' : List LV) (x : Sl α) (hx : cs[off]? = some x.unf.lv) (hc : cs.set off (.d (Enc.enc x)) = cs')
  (hp : s.val LP p = .ptr j t gb off) (hj : j = s.low.length) (hr : An s.low.length ro (some (LV.ptr j t gb off)) = true) (hb : s.raw t = some (.box gb cs)) (hd : s.free d = true) (hdt : ¬ t = d) :
  evalOps LP C g (⟨some d, .load none p true, none, ro⟩ :: r) s = evalOps LP C (g + 1) r ((s.upd t (.box gb cs')).upd d (.v x.unf.lv)) := by
 subst hj hc
 have hcl : s.cells s.low.length t gb = some cs := by rw [IR, hb]; simp
 have hd2 : ∀ y, (s.upd t y).free d = true := fun y => by rw [JE, if_neg hdt]; exact hd
 have hs : ∀ y, s.setAt s.low.length t y = s.upd t y := fun y => PT s t y
 simp only [evalOps, Ag, zn.addr, Option.map_some, hp, hr, if_true, evalOp, hcl, hx]
 cases x with
 | hot xs =>
  have e2 : Enc.enc (Sl.hot xs) = .slice (Enc.n α) (xs.map Enc.enc) := rfl
  simp only [Sl.unf, Sl.lv, hs, e2, FQ _ (hd2 _)]
 | nil =>
  have e3 : cs.set off (.d (Enc.enc (Sl.nil : Sl α))) = cs := EP _ _ _ hx
  rw [e3, Dz s t _ hb]
  simp only [Sl.unf, Sl.lv, part, hx, Option.map_some, LV.copy, FQ _ hd]
 | cold xs =>
  have e3 : cs.set off (.d (Enc.enc (Sl.cold xs))) = cs := EP _ _ _ hx
  rw [e3, Dz s t _ hb]
  simp only [Sl.unf, Sl.lv, part, hx, Option.map_some, LV.copy, FQ _ hd]
 | full xs =>
  have e3 : cs.set off (.d (Enc.enc (Sl.full xs))) = cs := EP _ _ _ hx
  rw [e3, Dz s t _ hb]
  simp only [Sl.unf, Sl.lv, part, hx, Option.map_some, LV.copy, FQ _ hd]
theorem qj (g : Nat) (r : List AD) (s : St) (d : Nat) (p : Opd) (j t gb off : Nat) (cs cs' : List LV) (x : Sl α) (hx : cs[off]? = some x.unf.lv) (hc : cs.set off (.d (Enc.enc x)) = cs')
  (hp : s.val LP p = .ptr j t gb off) (hj : j < s.low.length) (hb : JH s.low j t = some (.box gb cs)) (hd : s.free d = true) :
  evalOps LP C g (⟨some d, .load none p true, none, none⟩ :: r) s = evalOps LP C (g + 1) r ((s.setL j t (.box gb cs')).upd d (.v x.unf.lv)) := by
 subst hc
 have hcl : s.cells j t gb = some cs := by rw [J1 hj, hb]; simp
 have hr : An s.low.length none (some (LV.ptr j t gb off)) = true := rfl
 have hd2 : ∀ y, (s.setL j t y).free d = true := fun y => hd
 simp only [evalOps, Ag, zn.addr, Option.map_some, hp, hr, if_true, evalOp, hcl, hx]
 cases x with
 | hot xs =>
  have e2 : Enc.enc (Sl.hot xs) = .slice (Enc.n α) (xs.map Enc.enc) := rfl
  simp only [Sl.unf, Sl.lv, Jz s j t _ hj, e2, FQ _ (hd2 _)]
 | nil =>
  have e3 : cs.set off (.d (Enc.enc (Sl.nil : Sl α))) = cs := EP _ _ _ hx
  have e4 : s.setL j t (.box gb cs) = s := by simp only [St.setL, G8 hb]
  rw [e3, e4]
  simp only [Sl.unf, Sl.lv, part, hx, Option.map_some, LV.copy, FQ _ hd]
 | cold xs =>
  have e3 : cs.set off (.d (Enc.enc (Sl.cold xs))) = cs := EP _ _ _ hx
  have e4 : s.setL j t (.box gb cs) = s := by simp only [St.setL, G8 hb]
  rw [e3, e4]
  simp only [Sl.unf, Sl.lv, part, hx, Option.map_some, LV.copy, FQ _ hd]
 | full xs =>
  have e3 : cs.set off (.d (Enc.enc (Sl.full xs))) = cs := EP _ _ _ hx
  have e4 : s.setL j t (.box gb cs) = s := by simp only [St.setL, G8 hb]
  rw [e3, e4]
  simp only [Sl.unf, Sl.lv, part, hx, Option.map_some, LV.copy, FQ _ hd]
end
section
variable {LP : Aw} {C : AM}
theorem u0 (g : Nat) (r : List AD) (s : St) (d : Nat) (ro : Option (Option Nat)) (p : Opd) (j t gb off : Nat) (cs : List LV) (v : DV) (hx : cs[off]? = some (.d v))
  (hp : s.val LP p = .ptr j t gb off) (hj : j = s.low.length) (hr : An s.low.length ro (some (LV.ptr j t gb off)) = true) (hb : s.raw t = some (.box gb cs)) :
  evalOps LP C g (⟨some d, .load none p true, none, ro⟩ :: r) s = Hj LP C (g + 1) r s (some d) (some (.d v)) := by
 subst hj
 have hcl : s.cells s.low.length t gb = some cs := by rw [IR, hb]; simp
 simp only [evalOps, Ag, zn.addr, Option.map_some, hp, hr, if_true, evalOp, hcl, hx, part, LV.copy, Hj, Option.map_some]
 cases s.put (some d) (.d v) <;> rfl
theorem qf (g : Nat) (r : List AD) (s : St) (d : Nat) (p : Opd) (j t gb off : Nat) (cs : List LV) (v : DV) (hx : cs[off]? = some (.d v))
  (hp : s.val LP p = .ptr j t gb off) (hj : j < s.low.length) (hb : JH s.low j t = some (.box gb cs)) :
  evalOps LP C g (⟨some d, .load none p true, none, none⟩ :: r) s = Hj LP C (g + 1) r s (some d) (some (.d v)) := by
 have hcl : s.cells j t gb = some cs := by rw [J1 hj, hb]; simp
 have hr : An s.low.length none (some (LV.ptr j t gb off)) = true := rfl
 simp only [evalOps, Ag, zn.addr, Option.map_some, hp, hr, if_true, evalOp, hcl, hx, part, LV.copy, Hj, Option.map_some]
 cases s.put (some d) (.d v) <;> rfl
end
section
variable {LP : Aw} {C : AM} {β : Type} [Enc β]
theorem Xd (g : Nat) (r : List AD) (s : St) (n j t gm u : Nat) (m i : Opd) (key : List Int) (es : List (List Int × Sl β)) (z a : Sl β)
  (hm : s.val LP m = .mref j t gm) (hj : j < s.low.length) (hi : s.val LP i = .d (.int (Gy es key))) (hv : s.raw u = some (.v a.lv)) (he : JH s.low j t = some (.mapo gm n (Dx (Eu z FX.coolE es key)))) :
  evalOps LP C g (⟨none, .mstore n m i (.tmp u), none, none⟩ :: r) s = evalOps LP C (g + 1) r ((s.upd u (.v a.spent.lv)).setL j t (.mapo gm n (Dx (EX es key a)))) :=
 Z3 g r s n j t gm u m i key es z a hm hj hi hv he
theorem bE (g : Nat) (r : List AD) (s : St) (tt : Option Nat) (ro : Option (Option Nat)) (n t gm u : Nat) (m i : Opd) (key : List Int) (es : List (List Int × Sl β)) (z a : Sl β)
  (hm : s.val LP m = .mref s.low.length t gm) (hr : An s.low.length ro (some (.mref s.low.length t gm)) = true) (hi : s.val LP i = .d (.int (Gy es key))) (hv : s.raw u = some (.v a.lv)) (hut : u ≠ t) (he : s.raw t = some (.mapo gm n (Dx (Eu z FX.coolE es key)))) :
  evalOps LP C g (⟨tt, .mstore n m i (.tmp u), none, ro⟩ :: r) s = evalOps LP C (g + 1) r ((s.upd u (.v a.spent.lv)).upd t (.mapo gm n (Dx (EX es key a)))) :=
 eX g r s tt ro n t gm u m i key es z a hm hr hi hv hut he
end
theorem dV {α : Type} [Enc α] (sz : Nat) (x : Sl α) (lo hi mx : Option LV) : II sz x.lv lo hi mx = II sz (.d (Enc.enc x)) lo hi mx := by cases x <;> rfl
theorem OM (j k t g : Nat) (h : j = k) : An k (some (some t)) (some (.mref j t g)) = true := by simp [An, h]
theorem oU (f : Nat) (a b : List DV) : ZK 1 (.d (.agg [.fn f a b])) = some [.d (.fn f a b)] := rfl
theorem qJ (f : Nat) (a b : List LV) : ZK 1 (.agg [.fn f a b]) = some [.fn f a b] := rfl
section
variable {LP : Aw} {C : AM} {β : Type} [Enc β]
theorem sw (g : Nat) (r : List AD) (s : St) (tt : Option Nat) (ro : Option (Option Nat)) (n t gm : Nat) (m k v : Opd) (key : List Int) (es : List (List Int × Sl β)) (a : Sl β) (vd : DV) (hav : a.lv = .d vd)
  (hm : s.val LP m = .mref s.low.length t gm) (hr : An s.low.length ro (some (.mref s.low.length t gm)) = true) (hk : (s.val LP k).key n = some key) (hv : lE s v = some (.v (.d vd))) (he : s.raw t = some (.mapo gm n (Dx es))) :
  evalOps LP C g (⟨tt, .mapset n m k v, none, ro⟩ :: r) s = evalOps LP C (g + 1) r (s.upd t (.mapo gm n (Dx (EX es key a)))) :=
 VX g r s tt ro n t gm m k v key es a vd hav hm hr hk hv he
theorem bL (g : Nat) (r : List AD) (s : St) (tt : Option Nat) (ro : Option (Option Nat)) (n t gm : Nat) (m k v : Opd) (key : List Int) (a : Sl β) (vd : DV) (hav : a.lv = .d vd)
  (hm : s.val LP m = .mref s.low.length t gm) (hr : An s.low.length ro (some (.mref s.low.length t gm)) = true) (hk : (s.val LP k).key n = some key) (hv : lE s v = some (.v (.d vd))) (he : s.raw t = some (.mapo gm n [])) :
  evalOps LP C g (⟨tt, .mapset n m k v, none, ro⟩ :: r) s = evalOps LP C (g + 1) r (s.upd t (.mapo gm n (Dx (EX [] key a)))) :=
 VX g r s tt ro n t gm m k v key [] a vd hav hm hr hk hv he
end
theorem vW (f : Nat) (a b : List DV) : part (some 1) 0 [.d (.fn f a b)] = some (.d (.agg [.fn f a b])) := rfl
def gZ (f : Nat) (a b : List LV) : Option (List DV) → Option (List DV) → LV
 | some x, some y => .d (.agg [.fn f x y])
 | _, _ => .agg [.fn f a b]
theorem xg (f : Nat) (a b : List LV) : part (some 1) 0 [.fn f a b] = some (gZ f a b (AW a) (AW b)) := by
 have : part (some 1) 0 [.fn f a b] = some (LV.norm (.agg [.fn f a b])) := rfl
 rw [this]
 simp only [LV.norm, LV.toD, AW, gZ]
 cases AW a <;> cases AW b <;> rfl
theorem xQ (f : Nat) (a b : List LV) (x y : List DV) : gZ f a b (some x) (some y) = .d (.agg [.fn f x y]) := rfl
theorem xk (f : Nat) (a b : List LV) (y : Option (List DV)) : gZ f a b none y = .agg [.fn f a b] := by cases y <;> rfl
theorem xN (f : Nat) (a b : List LV) (x : Option (List DV)) : gZ f a b x none = .agg [.fn f a b] := by cases x <;> rfl
theorem jx {α : Type} [Enc α] {s : St} {t : Nat} {x : Sl α} (h : s.raw t = some (.v x.spent.lv)) : Rm s (t, none) = some (.d (Enc.enc x)) := by
 rw [ut h, PQ]
theorem sM {α : Type} [Enc α] {s : St} {t g : Nat} {x : Sl α} (h : s.raw t = some (.box g [x.spent.lv])) : Rm s (t, some none) = some (.d (Enc.enc x)) := by
 rw [gy h, PQ]
theorem tp (c : LV) : Da 1 0 [.d .nils] [c] = some [.d .nils] := FP c rfl
theorem rL (c : LV) : Da 1 0 [.d .nilmap] [c] = some [.d .nilmap] := FP c rfl
theorem uw (f : Nat) (a b : List LV) : Cj [.nilfn] [(0, 1, .fn f a b)] = some (gZ f a b (AW a) (AW b)) := by
 have : Cj [.nilfn] [(0, 1, .fn f a b)] = some (LV.norm (.agg [.fn f a b])) := rfl
 rw [this]
 simp only [LV.norm, LV.toD, AW, gZ]
 cases AW a <;> cases AW b <;> rfl
def yA (b : Bool) (x y : DV) : DV := match b with
 | true => y
 | false => x
theorem sj (x y : DV) : yA true x y = y := rfl
theorem sh (x y : DV) : yA false x y = x := rfl
def wT (i : Int) : Option Bool := if i = 0 then some false else if i = 1 then some true else none
theorem uh {i : Int} {b : Bool} {x y : DV} (h : wT i = some b) : Ro none 1 2 (.d (.agg [x, y])) (.d (.int i)) = some (.d (yA b x y)) := by
 unfold wT at h
 split at h
 ·rename_i hi; subst hi; cases h; rfl
 ·split at h
  ·rename_i hi; subst hi; cases h; rfl
  ·cases h
abbrev t_ (t : Nat) : Opd := .tmp t
abbrev i_ (n : Int) : Opd := .con (.int n)
abbrev m_ (d t : Nat) : AD := ⟨some d, .move (.tmp t) false, none, none⟩
abbrev M_ (d t : Nat) : AD := ⟨some d, .move (.tmp t) true, none, none⟩
abbrev n_ (d t g : Nat) (b : Bool) : AD := ⟨some d, .move (.tmp t) false, some (g, b), none⟩
abbrev c_ (d : Nat) (n : Int) : AD := ⟨some d, .move (.con (.int n)) false, none, none⟩
abbrev q_ (d : Nat) (b : Bool) : AD := ⟨some d, .move (.con (.bool b)) false, none, none⟩
abbrev f_ (d n t : Nat) : AD := ⟨some d, .faddr n (.tmp t), none, none⟩
abbrev F_ (d n t g : Nat) : AD := ⟨some d, .faddr n (.tmp t), some (g, true), none⟩
abbrev l_ (d t : Nat) : AD := ⟨some d, .load none (.tmp t) false, none, none⟩
abbrev L_ (d n t : Nat) : AD := ⟨some d, .load (some n) (.tmp t) false, none, none⟩
abbrev p_ (d a b : Nat) (c : Bool) : AD := ⟨some d, .pick (.tmp a) (.tmp b) (.con (.bool c)), none, none⟩
abbrev P_ (d a b : Nat) (c : Bool) : AD := ⟨some d, .pick (.tmp a) (.con (.bool c)) (.tmp b), none, none⟩
abbrev o_ (d : Nat) (p : zn) : AD := ⟨some d, p, none, none⟩
abbrev g_ (d : Nat) (p : zn) (g : Nat) : AD := ⟨some d, p, some (g, true), none⟩
abbrev r_ (d : Nat) (p : zn) (r : Option Nat) : AD := ⟨some d, p, none, some r⟩
abbrev s_ (n a b : Nat) : AD := ⟨none, .store n (.tmp a) (.tmp b), none, none⟩
abbrev x_ (d n t : Nat) : AD := ⟨some d, .extract n (.tmp t) false, none, none⟩
abbrev a_ (d n s i : Nat) : AD := ⟨some d, .iaddrS n (.tmp s) (.tmp i), none, none⟩
abbrev e_ (d t : Nat) : AD := ⟨some d, .len (.tmp t), none, none⟩
abbrev b_ (d n t : Nat) : AD := ⟨some d, .box n (.tmp t), none, none⟩
abbrev k_ (d f : Nat) (xs : List Opd) : AD := ⟨some d, .call (.con (.fn f [] [])) xs none, none, none⟩
abbrev E_ {α : Type} [Enc α] (t : Nat) (x : α) : Nat × A6 := (t, .v (.d (Enc.enc x)))
abbrev I_ (t : Nat) (x : Int) : Nat × A6 := (t, .v (.d (.int x)))
abbrev B_ (t : Nat) (x : Bool) : Nat × A6 := (t, .v (.d (.bool x)))
abbrev C_ {α : Type} [Enc α] (t g : Nat) (x : α) : Nat × A6 := (t, .box g ((Enc.cells x).map LV.d))
abbrev N_ (t g : Nat) (x : Int) : Nat × A6 := (t, .box g [.d (.int x)])
theorem bnd {α β : Type} {o : Option α} {f : α → Option β} {b : β} (h : o.bind f = some b) : ∃ a, o = some a ∧ f a = some b := Option.bind_eq_some_iff.mp h
theorem Run.ite {LP : Aw} {ks : List gG} {J : zk → St → Prop} {s : St} {t : Nat} {c : Bool} {a b : B6} {α : Type} {A B : Option α} {x : α} (r : s.raw t = some (.v (.d (.bool c)))) (k : (if c = true then A else B) = some x)
  (h1 : c = true → A = some x → Run LP ks a s J) (h2 : c = false → B = some x → Run LP ks b s J) : Run LP ks (.cond (.tmp t) a b) s J := by
 cases c with
 | true => exact iH r rfl (h1 rfl (by simpa using k))
 | false => exact hG r rfl (h2 rfl (by simpa using k))
def rs := And.intro yW <| And.intro @Option.map_none.{0, 0} <| And.intro @Option.map_some.{0, 0} <| And.intro @List.map_cons.{0, 0} <| And.intro @List.map_nil.{0, 0} <| And.intro @if_true.{1} <| And.intro @if_false.{1} <| And.intro @and_true <| And.intro @true_and <|
 And.intro Bool.not_true <| And.intro Bool.not_false <| And.intro @Bool.true_and <| And.intro @Bool.false_and <| And.intro @Bool.true_or <| And.intro @Bool.false_or <| And.intro @List.nil_append.{0} <| And.intro @List.append_nil.{0} @List.cons_append.{0}
theorem Rg {LP : Aw} {ks : List gG} {J : zk → St → Prop} {s : St} {B : List Nat} {ops : List AD} {keep : List Nat} {low : List Fr} (l : List (Nat × A6)) (hl : s.low = low) (hf : NoB B s)
  (h' : ∀ s', Em l s' → s'.low = low → NoB B s' → ET LP ks .normal s' J) (hB : ops.all (opB B) = true := by rfl) (hk : l.all (fun p => keep.contains p.1) = true := by rfl)
  (h : ∃ s1, Lf.evalOps LP (om LP) s.ctr ops (s.tick ops.length) = some s1 ∧ CB l s1 ∧ s1.low = low := by simp only [rs, hl, nob hf, r, reduceCtorEq, Nat.reduceEqDiff, Nat.reduceAdd]) : Run LP ks (.ops ops keep) s J :=
 iQ l hl hf hB hk h h'
end Go.Lf
namespace Go.Lf
open Go
def Nx (LP : Aw) (J : zk → St → Prop) (s : St) : Nat → List gG → zk ⊕ B6 → Prop
 | 0, ks, .inr c => Run LP ks c s J
 | 0, ks, .inl j => ET LP ks j s J
 | n + 1, ks, .inr (.seq a b) => Nx LP J s n (.seq b :: ks) (.inr a)
 | n + 1, ks, .inr (.scope a) => Nx LP J s n ks (.inr a)
 | n + 1, ks, .inr .skip => Nx LP J s n ks (.inl .normal)
 | n + 1, ks, .inr (.exit i) => Nx LP J s n ks (.inl (.exit i))
 | n + 1, ks, .inr .ret => Nx LP J s n ks (.inl .ret)
 | _ + 1, ks, .inr c => Run LP ks c s J
 | _ + 1, [], .inl j => J j s
 | n + 1, .seq c :: ks, .inl .normal => Nx LP J s n ks (.inr c)
 | n + 1, .seq _ :: ks, .inl j => Nx LP J s n ks (.inl j)
 | n + 1, .loop c :: ks, .inl .normal => Nx LP J s n ks (.inr (.loop c))
 | n + 1, .loop _ :: ks, .inl j => Nx LP J s n ks (.inl j)
 | n + 1, .block i :: ks, .inl (.exit k) => match Nat.beq k i with
  | true => Nx LP J s n ks (.inl .normal)
  | false => Nx LP J s n ks (.inl (.exit k))
 | n + 1, .block _ :: ks, .inl j => Nx LP J s n ks (.inl j)
theorem FK {LP : Aw} {J : zk → St → Prop} {s : St} : ∀ (n : Nat) (ks : List gG) (x : zk ⊕ B6), Nx LP J s n ks x → match x with | .inr c => Run LP ks c s J | .inl j => ET LP ks j s J
 | 0, ks, .inr c, h => h
 | 0, ks, .inl j, h => h
 | n + 1, ks, .inr c, h => by
  cases c with
  | seq a b => exact Run.seq (FK n _ _ h)
  | scope a => exact Run.scope (FK n _ _ h)
  | skip => exact Run.skip (FK n _ _ h)
  | exit i => exact Run.exit (FK n _ _ h)
  | ret => exact Run.ret (FK n _ _ h)
  | _ => exact h
 | n + 1, ks, .inl j, h => by
  cases ks with
  | nil => exact h
  | cons k ks =>
   cases k with
   | seq c => cases j with
    | normal => exact ET.seq (FK n _ _ h)
    | exit i => exact cH (FK n _ _ h)
    | ret => exact dM (FK n _ _ h)
   | loop c => cases j with
    | normal => exact ET.loop (FK n _ _ h)
    | exit i => exact YU (FK n _ _ h)
    | ret => exact aA (FK n _ _ h)
   | block i => cases j with
    | normal => exact ET.block (FK n _ _ h)
    | exit k =>
     simp only [Nx] at h
     by_cases e : k = i
     ·subst e
      simp only [Nat.beq_refl] at h
      exact ET.block_exit (FK n _ _ h)
     ·have : Nat.beq k i = false := by
       cases hb : Nat.beq k i with
       | false => rfl
       | true => exact absurd (Nat.eq_of_beq_eq_true hb) e
      rw [this] at h
      exact ET.block_pass e (FK n _ _ h)
    | ret => exact ET.block_ret (FK n _ _ h)
def St.atc (s : St) (c n : Nat) : St := { s with ctr := c + n }
theorem tN (s : St) (c n t : Nat) : (s.atc c n).raw t = s.raw t := rfl
theorem qg (s : St) (c n t : Nat) : (s.atc c n).free t = s.free t := rfl
theorem uE (s : St) (c n : Nat) : (s.atc c n).low = s.low := rfl
theorem ub (s : St) (c n : Nat) : (s.atc c n).ctr = c + n := rfl
abbrev Hn := List (Nat × A6)
def klc (t : Nat) : Option A6 → Option Hn → Option Hn
 | some x, some l => some ((t, x) :: l)
 | _, _ => none
def kl : List Nat → St → Option Hn
 | [], _ => some []
 | t :: ts, s => klc t (s.raw t) (kl ts s)
def zp : Option Hn → List Fr → Option (Hn × List Fr)
 | some l, low => some (l, low)
 | none, _ => none
def kn (keep : List Nat) : Option St → Option (Hn × List Fr)
 | some s => zp (kl keep s) s.low
 | none => none
theorem vz (s : St) : kl [] s = some [] := rfl
theorem uL (t : Nat) (ts : List Nat) (s : St) : kl (t :: ts) s = klc t (s.raw t) (kl ts s) := rfl
theorem QR (t : Nat) (x : A6) (l : Hn) : klc t (some x) (some l) = some ((t, x) :: l) := rfl
theorem rH (l : Hn) (low : List Fr) : zp (some l) low = some (l, low) := rfl
theorem um (keep : List Nat) (s : St) : kn keep (some s) = zp (kl keep s) s.low := rfl
def lkd (s : St) (t : Nat) : Hn → Option A6
 | [] => s.raw t
 | (u, x) :: l => if u = t then some x else lkd s t l
def lk (d : Hn) : List Nat → St → Option Hn
 | [], _ => some []
 | t :: ts, s => klc t (lkd s t d) (lk d ts s)
theorem er (d : Hn) (s : St) : lk d [] s = some [] := rfl
theorem VC (d : Hn) (t : Nat) (ts : List Nat) (s : St) : lk d (t :: ts) s = klc t (lkd s t d) (lk d ts s) := rfl
theorem Up (s : St) (t : Nat) : lkd s t [] = s.raw t := rfl
theorem P9 (s : St) (t u : Nat) (x : A6) (l : Hn) : lkd s t ((u, x) :: l) = if u = t then some x else lkd s t l := rfl
theorem tB : ∀ {ks : List Nat} {s : St} {l : Hn}, kl ks s = some l → CB l s ∧ l.all (fun p => ks.contains p.1) = true
 | [], s, l, h => by cases h; exact ⟨trivial, rfl⟩
 | t :: ts, s, l, h => by
  simp only [kl] at h
  cases hx : s.raw t with
  | none => rw [hx] at h; cases h
  | some x =>
   rw [hx] at h
   cases hl : kl ts s with
   | none => rw [hl] at h; cases h
   | some l' =>
    rw [hl] at h; cases h
    obtain ⟨h1, h2⟩ := tB hl
    refine ⟨⟨hx, h1⟩, ?_⟩
    simp only [List.all_cons, List.contains_cons, beq_self_eq_true, Bool.true_or, Bool.true_and]
    rw [List.all_eq_true] at h2 ⊢
    intro p hp
    rw [h2 p hp, Bool.or_true]
theorem gd {keep : List Nat} {LP : Aw} {C : AM} {g : Nat} {o : AD} {r : List AD} {s : St} {w b : Bool} {X : Option (Hn × List Fr)} (h1 : b = true → kn keep (Qq LP C g o r s w (.d (.bool true))) = X)
  (h0 : b = false → kn keep (Qq LP C g o r s w (.d (.bool false))) = X) : kn keep (Qq LP C g o r s w (.d (.bool b))) = X := by
 cases b
 ·exact h0 rfl
 ·exact h1 rfl
theorem zm {keep : List Nat} {LP : Aw} {C : AM} {g : Nat} {o : AD} {r : List AD} {s : St} {w b : Bool} {X : Option (Hn × List Fr)} (h1 : b = true → kn keep (Qq LP C g o r s w (.d (.bool (!b)))) = X)
  (h0 : b = false → kn keep (Qq LP C g o r s w (.d (.bool (!b)))) = X) : kn keep (Qq LP C g o r s w (.d (.bool (!b)))) = X := by
 cases b
 ·exact h0 rfl
 ·exact h1 rfl
theorem zH (a b : Bool) : (a != b) = !(a == b) := rfl
theorem uk {α : Type} [Enc α] (x : Sl α) : x.lv.copy = x.spent.lv := by cases x <;> rfl
def Kq {α : Type} (o : Option α) (x : α) : Prop := o = some x
theorem kq {α : Type} {o : Option α} {x : α} (h : o = some x) : Kq o x := h
theorem bnk {α β : Type} {o : Option α} {f : α → Option β} {b : β} (h : Kq (o.bind f) b) : ∃ a, o = some a ∧ Kq (f a) b := bnd h
theorem oK {α : Type} {a b : α} (h : Kq (some a) b) : a = b := Option.some.inj h
theorem zS {α : Type} {c : Bool} {A B : Option α} {x : α} (k : (if c = true then A else B) = some x) : (c = true ∧ A = some x) ∨ (c = false ∧ B = some x) := by
 cases c
 ·exact .inr ⟨rfl, by simpa using k⟩
 ·exact .inl ⟨rfl, by simpa using k⟩
theorem gb {α β : Type} {A : Option α} {f : α → Option β} {b : β} {G : Prop} (h : ∀ v, A = some v → f v = some b → G) (q : A.bind f = some b) : G := by
 obtain ⟨v, h1, h2⟩ := bnd q
 exact h v h1 h2
theorem gi {β : Type} {c : Bool} {A B : Option β} {b : β} {G : Prop} (h1 : c = true → A = some b → G) (h0 : c = false → B = some b → G) (q : (if c = true then A else B) = some b) : G := by
 rcases zS q with ⟨a, q⟩ | ⟨a, q⟩
 ·exact h1 a q
 ·exact h0 a q
theorem oI {α : Type} {a b : α} (h : some a = some b) : a = b := Option.some.inj h
def ofO {α β : Type} (o : Option α) (F : α → β) (d : Option β) : Option β := match o with
 | some x => some (F x)
 | none => d
theorem qS {α β : Type} (x : α) (F : α → β) (d : Option β) : ofO (some x) F d = some (F x) := rfl
theorem j4 {α β : Type} {o : Option α} {F : α → β} {d : Option β} (h : ∀ x, o = some x → d = some (F x)) : d = ofO o F d := by
 cases o with
 | none => rfl
 | some x => exact h x rfl
def wY (sz : Nat) (x i : LV) : Option LV := mc sz x i
theorem vl {α : Type} [Enc α] (x : Sl α) (i : Int) (sz : Nat) (hz : Enc.n α = sz) : mc sz (.d (Enc.enc x)) (.d (.int i)) = ofO (x.ix i) (fun a => .d (.fptr (Enc.cells a) 0)) (wY sz (.d (Enc.enc x)) (.d (.int i))) :=
 j4 (d := mc sz (.d (Enc.enc x)) (.d (.int i))) fun _ h => pm x h hz
theorem uO {α : Type} [Enc α] (x : Sl α) (i : Int) (sz : Nat) (hz : Enc.n α = sz) : mc sz x.lv (.d (.int i)) = ofO (x.ix i) (fun a => .d (.fptr (Enc.cells a) 0)) (wY sz x.lv (.d (.int i))) :=
 j4 (d := mc sz x.lv (.d (.int i))) fun _ h => uY x h hz
noncomputable def wx (LP : Aw) (n : Nat) (ds : List DV) : Option LV := A5 (om LP) n ds
@[reducible] def Cq {α : Type} (LP : Aw) (n : Nat) (ds : List DV) (o : Option α) (E : α → LV) : Prop := A5 (om LP) n ds = ofO o E (wx LP n ds)
theorem Cq.mk {α : Type} {LP : Aw} {n : Nat} {ds : List DV} {o : Option α} {E : α → DV} (h : ∀ {r}, o = some r → zj LP n ds (E r)) : Cq LP n ds o fun x => .d (E x) :=
 j4 (d := A5 (om LP) n ds) fun _ k => (h k).call
theorem yT : Enc.n Int = 1 := rfl
theorem wh : Enc.n Bool = 1 := rfl
theorem zY {α : Type} [Enc α] : Enc.n (Sl α) = 1 := rfl
theorem zV : Enc.n Fv = 1 := rfl
theorem zU {α : Type} [Enc α] {n : Nat} : Enc.n (Mp n α) = 1 := rfl
theorem zN {α : Type} [Enc α] {n : Nat} : Enc.n (Ar n α) = n * Enc.n α := rfl
def rt := And.intro @rs <| And.intro yT <| And.intro wh <| And.intro @zY <| And.intro zV <| And.intro @zU <| And.intro @zN <| And.intro @tN <| And.intro @qg <| And.intro @uE <| And.intro @ub <| And.intro @vz <| And.intro @uL <| And.intro @QR <| And.intro @rH <| And.intro @um <| And.intro @er <| And.intro @VC <| And.intro @Up <|
 And.intro @P9 <| And.intro @vl <| And.intro @uO <| And.intro @qS <| And.intro @List.length_cons.{0} <| And.intro @List.length_nil.{0} <| And.intro @Y7 <| And.intro @cj <| And.intro @ne_eq.{1} <| And.intro not_false_eq_true <| And.intro @qm <| And.intro @pI <| And.intro @I8 <| And.intro @uk <| And.intro zH <| And.intro @FH <| And.intro @CL <| And.intro @VH <| And.intro @MF <| And.intro @Me @qe
section
variable {LP : Aw} {ks : List gG} {J : zk → St → Prop} {s : St} {B : List Nat} {ops : List AD} {keep : List Nat} {low : List Fr} {l : Nat → Hn}
theorem yc (hl : s.low = low) (hf : NoB B s) (hB : ops.all (opB B) = true) (h : ∀ c, kn keep (Lf.evalOps LP (om LP) c ops (s.atc c ops.length)) = some (l c, low))
  (h' : ∀ c s', Em (l c) s' → s'.low = low → NoB B s' → Nx LP J s' 60 ks (.inl .normal)) : Run LP ks (.ops ops keep) s J := by
 have h0 := h s.ctr
 cases he : Lf.evalOps LP (om LP) s.ctr ops (s.atc s.ctr ops.length) with
 | none => rw [he] at h0; cases h0
 | some s1 =>
  rw [he] at h0
  simp only [kn] at h0
  cases hk : kl keep s1 with
  | none => rw [hk] at h0; cases h0
  | some l1 =>
   rw [hk] at h0
   simp only [zp, Option.some.injEq, Prod.mk.injEq] at h0
   obtain ⟨rfl, h2⟩ := h0
   obtain ⟨h3, h4⟩ := tB hk
   exact iQ (B := B) (l s.ctr) hl hf hB h4 ⟨s1, he, h3, h2⟩ fun s' a b c => FK 60 ks (.inl .normal) (h' s.ctr s' a b c)
theorem lH (l : Hn) (hl : s.low = low) (hf : NoB B s) (h : ∃ s1, Lf.evalOps LP (om LP) s.ctr ops (s.tick ops.length) = some s1 ∧ CB l s1 ∧ s1.low = low)
  (h' : ∀ s', Em l s' → s'.low = low → NoB B s' → Nx LP J s' 60 ks (.inl .normal)) (hB : ops.all (opB B) = true := by rfl) (hk : l.all (fun p => keep.contains p.1) = true := by rfl) : Run LP ks (.ops ops keep) s J :=
 iQ l hl hf hB hk h fun s' a b c => FK 60 ks (.inl .normal) (h' s' a b c)
theorem regS {Q : List Fr → Prop} (l : Hn) (hl : s.low = low) (hf : NoB B s) (h : ∃ s1, Lf.evalOps LP (om LP) s.ctr ops (s.tick ops.length) = some s1 ∧ CB l s1 ∧ Q s1.low)
  (h' : ∀ s', Em l s' → Q s'.low → NoB B s' → Nx LP J s' 60 ks (.inl .normal)) (hB : ops.all (opB B) = true := by rfl) (hk : l.all (fun p => keep.contains p.1) = true := by rfl) : Run LP ks (.ops ops keep) s J :=
 rA l hl hf hB hk h fun s' a b c => FK 60 ks (.inl .normal) (h' s' a b c)
theorem ze {t : Nat} {c : Bool} {a b : B6} (hr : s.raw t = some (.v (.d (.bool c)))) (hc : c = true) (h : Nx LP J s 60 ks (.inr a)) : Run LP ks (.cond (.tmp t) a b) s J := iH hr hc (FK 60 ks (.inr a) h)
theorem zb {t : Nat} {c : Bool} {a b : B6} (hr : s.raw t = some (.v (.d (.bool c)))) (hc : c = false) (h : Nx LP J s 60 ks (.inr b)) : Run LP ks (.cond (.tmp t) a b) s J := hG hr hc (FK 60 ks (.inr b) h)
theorem IJ {t : Nat} {c : Bool} {a b : B6} {α : Type} {A B : Option α} {x : α} (r : s.raw t = some (.v (.d (.bool c)))) (k : Kq (if c = true then A else B) x)
  (h1 : c = true → Kq A x → Nx LP J s 60 ks (.inr a)) (h2 : c = false → Kq B x → Nx LP J s 60 ks (.inr b)) : Run LP ks (.cond (.tmp t) a b) s J :=
 Run.ite r k (fun c k => FK 60 ks (.inr a) (h1 c k)) fun c k => FK 60 ks (.inr b) (h2 c k)
theorem Rz {t : Nat} {c : Bool} {a b : B6} {α : Type} {A B : Option α} {x : α} (r : s.raw t = some (.v (.d (.bool (!c))))) (k : Kq (if c = true then A else B) x)
  (h1 : c = true → Kq A x → Nx LP J s 60 ks (.inr b)) (h2 : c = false → Kq B x → Nx LP J s 60 ks (.inr a)) : Run LP ks (.cond (.tmp t) a b) s J := by
 cases c with
 | true => exact hG r rfl (FK 60 ks (.inr b) (h1 rfl (by simpa [Kq] using k)))
 | false => exact iH r rfl (FK 60 ks (.inr a) (h2 rfl (by simpa [Kq] using k)))
theorem zc {c : B6} {Q : zk → St → Prop} (h : Nx LP Q s 60 [] (.inr c)) (h' : ∀ j s', Q j s' → Nx LP J s' 60 ks (.inl j)) : Run LP ks c s J :=
 Run.sub (FK 60 [] (.inr c) h) fun j s' q => FK 60 ks (.inl j) (h' j s' q)
theorem blk {i : Nat} {c : B6} (h : Nx LP J s 60 (.block i :: ks) (.inr c)) : Run LP ks (.block i c) s J := Run.block (FK 60 (.block i :: ks) (.inr c) h)
theorem Nx.run {c : B6} (h : Nx LP J s 60 [] (.inr c)) : Run LP [] c s J := FK 60 [] (.inr c) h
theorem Bf {c : B6} {σ ρ : Type} {f : σ → Option (σ ⊕ ρ)} {E : σ → St → Prop} {Q : ρ → zk → St → Prop} {r : ρ} {x : σ}
  (hl : Loop f x = some r) (hs : ∀ x s out, E x s → Kq (f x) out → Nx LP (wL E Q out) s 60 [] (.inr c)) (he : E x s) (h' : ∀ j s', Q r j s' → Nx LP J s' 60 ks (.inl j)) : Run LP ks (.loop c) s J :=
 lW (fun x s out a b => FK 60 [] (.inr c) (hs x s out a b)) he hl fun j s' q => FK 60 ks (.inl j) (h' j s' q)
end
theorem yE {LP : Aw} {ks : List gG} {J : zk → St → Prop} {s : St} {j : zk} (h : Nx LP J s 60 ks (.inl j)) : ET LP ks j s J := FK 60 ks (.inl j) h
end Go.Lf
namespace Go.Lf
open Go
section
variable {n m : Nat} {x : Ar n (Ar m Int)} {v : Ar m Int} {i k w : Int}
theorem Wc (v : Ar m Int) : Enc.cells v = v.l.map DV.int := LH v.l
theorem bf (v : Ar m Int) : (Enc.cells v).length = m := by rw [Wc, List.length_map, v.h]
theorem rq (h : x.ix i = some v) (h2 : v.ix k = some w) : Ak none (0 + i.toNat * m + k.toNat * 1) (Enc.cells x) = some (.int w) := by
 obtain ⟨_, hk⟩ := dl h2
 have e := aO h
 have en : Enc.n (Ar m Int) = m := Nat.mul_one m
 rw [en] at e
 have e2 := Cf h2 rfl rfl
 simp only [Ak, Nat.zero_add, Nat.mul_one] at e2 ⊢
 rw [← e, List.getElem?_take_of_lt hk, List.getElem?_drop] at e2
 exact e2
theorem dA : ∀ (l : List (Ar m Int)) (a b : Nat) (v v' : Ar m Int) (y : DV), l[a]? = some v → b < m → Enc.cells v' = (Enc.cells v).set b y → (l.set a v').flatMap Enc.cells = (l.flatMap Enc.cells).set (a * m + b) y
 | [], a, b, v, v', y, h, _, _ => by simp at h
 | r :: l, 0, b, v, v', y, h, hb, hc => by
  simp only [List.getElem?_cons_zero, Option.some.injEq] at h
  subst h
  have := bf r
  simp only [List.set_cons_zero, List.flatMap_cons, Nat.zero_mul, Nat.zero_add]
  rw [List.set_append_left _ _ (by omega), hc]
 | r :: l, a + 1, b, v, v', y, h, hb, hc => by
  simp only [List.getElem?_cons_succ] at h
  have := bf r
  simp only [List.set_cons_succ, List.flatMap_cons]
  rw [List.set_append_right _ _ (by rw [this, Nat.succ_mul]; omega), dA l a b v v' y h hb hc, this]
  congr 2
  rw [Nat.succ_mul]; omega
theorem yI (h : x.ix i = some v) (h2 : v.ix k = some w) (y : Int) : Da 1 (0 + i.toNat * m + k.toNat * 1) [.d (.int y)] ((Enc.cells x).map LV.d) = some ((Enc.cells (x.put i (v.put k y))).map LV.d) := by
 obtain ⟨h1, h1'⟩ := dl h
 obtain ⟨h3, h3'⟩ := dl h2
 have hl : ((Enc.cells x).map LV.d).length = n * m := by
  rw [List.length_map, E6.len]; show n * (m * 1) = _; rw [Nat.mul_one]
 have hlt : i.toNat * m + k.toNat < n * m := by
  have : (i.toNat + 1) * m ≤ n * m := Nat.mul_le_mul_right m h1'
  rw [Nat.succ_mul] at this; omega
 have hc : Enc.cells (v.put k y) = (Enc.cells v).set k.toNat (.int y) := by
  rw [Wc, Wc]
  show (v.l.set k.toNat y).map DV.int = _
  rw [List.map_set]
 have hx : Enc.cells (x.put i (v.put k y)) = (Enc.cells x).set (i.toNat * m + k.toNat) (.int y) := dA x.l i.toNat k.toNat v _ _ (ru h) h3' hc
 simp only [Da, hl, List.length_cons, List.length_nil, Nat.zero_add, Nat.mul_one]
 rw [if_pos ⟨trivial, by omega, rfl⟩, hx, List.map_set]
 congr 1
 have hlt2 : i.toNat * m + k.toNat < ((Enc.cells x).map LV.d).length := by rw [hl]; exact hlt
 rw [setCells, List.set_eq_take_append_cons_drop, if_pos hlt2]
 simp
end
open Classical in
noncomputable def opq {α : Type} [Enc α] (v : Option LV) : Option α := if h : ∃ x : α, v = some (.d (Enc.enc x)) then some h.choose else none
theorem gx {α : Type} [Enc α] {LP : Aw} {n : Nat} {ds : List DV} : Cq LP n ds (opq (α := α) (A5 (om LP) n ds)) fun x => .d (Enc.enc x) :=
 j4 (d := A5 (om LP) n ds) fun x k => by
  unfold opq at k
  split at k
  ·rename_i h
   cases k
   exact h.choose_spec
  ·cases k
theorem rh {v : Option LV} {a b : Int} (h : v = some (.d (Enc.enc ((a, b) : Int × Int)))) : opq (α := Int × Int) v = some (a, b) := by
 have hx : ∃ x : Int × Int, v = some (.d (Enc.enc x)) := ⟨_, h⟩
 unfold opq
 rw [dif_pos hx]
 have e := h.symm.trans hx.choose_spec
 revert e
 generalize hx.choose = y
 intro e
 obtain ⟨c, d⟩ := y
 have e2 : DV.tup [.int a, .int b] = DV.tup [.int c, .int d] := LV.d.inj (Option.some.inj e)
 simp only [DV.tup.injEq, List.cons.injEq, DV.int.injEq, and_true] at e2
 rw [e2.1, e2.2]
def okP (a b : Int) : Option (LV × List Fr × Nat) → Bool
 | some (.d (.tup [.int c, .int d]), [], _) => a == c && b == d
 | _ => false
theorem xR {LP : Aw} {m n : Nat} {ds : List DV} {a b : Int} (h : okP a b ((C5 LP m).call n (ds.map .d) [] 0) = true) : opq (α := Int × Int) (A5 (om LP) n ds) = some (a, b) := by
 refine rh ?_
 cases he : (C5 LP m).call n (ds.map .d) [] 0 with
 | none => rw [he] at h; cases h
 | some r =>
  rw [he] at h
  unfold okP at h
  split at h
  ·rename_i c d k hr
   cases hr
   simp only [Bool.and_eq_true, beq_iff_eq] at h
   obtain ⟨rfl, rfl⟩ := h
   have := JS.mpr ⟨m, he⟩
   simp only [A5, this]
   rfl
  ·cases h
end Go.Lf
namespace Go.Lf
open Go
section
variable {n m off : Nat} {A C : List DV}
theorem Ju {α : Type} [E6 α] (x : Ar n α) : (Enc.cells x).length = n * Enc.n α := E6.len x
theorem nv {x : List DV} {p : Nat} {c : DV} (hA : A.length = off) (h : x[p]? = some c) : (A ++ x ++ C)[off + p]? = some c := by
 obtain ⟨hp, _⟩ := List.getElem?_eq_some_iff.mp h
 rw [List.append_assoc, List.getElem?_append_right (by omega), hA, Nat.add_sub_cancel_left, List.getElem?_append_left hp]
 exact h
theorem ya {x : Ar n Int} {i v : Int} (hA : A.length = off) (h : x.ix i = some v) : Ak none (off + i.toNat * 1) (A ++ Enc.cells x ++ C) = some (.int v) := by
 have e := Cf h rfl rfl
 simp only [Ak, Nat.zero_add] at e ⊢
 exact nv hA e
theorem tX {x : Ar n (Ar m Int)} {r : Ar m Int} {i k w : Int} (hA : A.length = off) (h : x.ix i = some r) (h2 : r.ix k = some w) : Ak none (off + i.toNat * m + k.toNat * 1) (A ++ Enc.cells x ++ C) = some (.int w) := by
 have e := rq h h2
 simp only [Ak, Nat.zero_add] at e ⊢
 rw [Nat.add_assoc]
 exact nv hA e
theorem yS {α : Type} [LX α] {x : Ar n α} {i : Int} {v : α} {sz : Nat} (hA : A.length = off) (h : x.ix i = some v) (hz : Enc.n α = sz) : Ak (some sz) (off + i.toNat * sz) (A ++ Enc.cells x ++ C) = some (Enc.enc v) := by
 subst hz
 obtain ⟨h1, h2⟩ := dl h
 have e := aO h
 have hl : (Enc.cells v).length = Enc.n α := E6.len v
 have hx : (Enc.cells x).length = n * Enc.n α := E6.len x
 have hle : i.toNat * Enc.n α + Enc.n α ≤ n * Enc.n α := by
  have := Nat.mul_le_mul_right (Enc.n α) h2
  rw [Nat.succ_mul] at this; exact this
 have e2 : ((A ++ Enc.cells x ++ C).drop (off + i.toNat * Enc.n α)).take (Enc.n α) = Enc.cells v := by
  rw [List.append_assoc, ← hA, List.drop_append, Nat.add_sub_cancel_left, List.drop_of_length_le (by omega), List.nil_append, List.drop_append_of_le_length (by omega), List.take_append_of_le_length (by rw [List.length_drop]; omega)]
  exact e
 simp only [Ak, e2, hl, if_true, LX.agg]
end
theorem nK {α : Type} {x : α} {P : Prop} (h : Kq none x) : P := by cases h
end Go.Lf
