/- A part of the proof. -/
import Derived.Test.YtdjddljglkeefaaDoorx2
set_option linter.all false
namespace Go.Lf
open Go
def Sl.unf {α : Type} : Sl α → Sl α
 | .full xs => .cold xs
 | x => x
section
variable {α : Type} [zI α]
theorem xd (x : Sl α) : x.unf.lv.copy = .d (zI.enc x) := by cases x <;> rfl
theorem vE {q : Nat} {x v : Sl α} {ys : List α} (h : x.app q ys = some v) (hy : ys ≠ []) : v.lv = v.unf.lv := by
 cases x with
 | nil => simp only [Sl.app, if_neg hy] at h; split at h <;> cases h; rfl
 | cold xs => simp only [Sl.app] at h; cases h
 | hot xs => simp only [Sl.app] at h; split at h <;> cases h; rfl
 | full xs => simp only [Sl.app, if_neg hy] at h; split at h <;> cases h; rfl
theorem xr {s : St} {t g : Nat} {cs cs' : List LV} (h : s.raw t = some (.box g cs)) (e : cs = cs') : s.raw t = some (.box g cs') := e ▸ h
variable {LP : BA} {C : AS}
theorem EY {β : Type} : ∀ (l : List β) (i : Nat) (x : β), l[i]? = some x → l.set i x = l
 | [], i, x, h => by simp at h
 | a :: l, 0, x, h => by simp at h; simp [h]
 | a :: l, i + 1, x, h => by
  simp only [List.getElem?_cons_succ] at h
  simp [EY l i x h]
theorem gp (g : Nat) (r : List AG) (s : St) (d : Nat) (ro : Option (Option Nat)) (p : Opd) (j t gb off : Nat) (cs cs' : List LV) (x : Sl α) (hx : cs[off]? = some x.unf.lv) (hc : cs.set off (.d (zI.enc x)) = cs')
  (hp : s.val LP p = .ptr j t gb off) (hj : j = s.low.length) (hr : Au s.low.length ro (some (LV.ptr j t gb off)) = true) (hb : s.raw t = some (.box gb cs)) (hd : s.free d = true) (hdt : ¬ t = d) :
  evalOps LP C g (⟨some d, .load none p true, none, ro⟩ :: r) s = evalOps LP C (g + 1) r ((s.upd t (.box gb cs')).upd d (.v x.unf.lv)) := by
 subst hj hc
 have hcl : s.cells s.low.length t gb = some cs := by rw [I6, hb]; simp
 have hd2 : ∀ y, (s.upd t y).free d = true := fun y => by rw [J3, if_neg hdt]; exact hd
 have hs : ∀ y, s.setAt s.low.length t y = s.upd t y := fun y => Q9 s t y
 simp only [evalOps, An, zl.addr, Option.map_some, hp, hr, if_true, evalOp, hcl, hx]
 cases x with
 | hot xs =>
  have e2 : zI.enc (Sl.hot xs) = .slice (zI.n α) (xs.map zI.enc) := rfl
  simp only [Sl.unf, Sl.lv, hs, e2, FX _ (hd2 _)]
 | nil =>
  have e3 : cs.set off (.d (zI.enc (Sl.nil : Sl α))) = cs := EY _ _ _ hx
  rw [e3, EI s t _ hb]
  simp only [Sl.unf, Sl.lv, part, hx, Option.map_some, LV.copy, FX _ hd]
 | cold xs =>
  have e3 : cs.set off (.d (zI.enc (Sl.cold xs))) = cs := EY _ _ _ hx
  rw [e3, EI s t _ hb]
  simp only [Sl.unf, Sl.lv, part, hx, Option.map_some, LV.copy, FX _ hd]
 | full xs =>
  have e3 : cs.set off (.d (zI.enc (Sl.full xs))) = cs := EY _ _ _ hx
  rw [e3, EI s t _ hb]
  simp only [Sl.unf, Sl.lv, part, hx, Option.map_some, LV.copy, FX _ hd]
theorem sG (g : Nat) (r : List AG) (s : St) (d : Nat) (p : Opd) (j t gb off : Nat) (cs cs' : List LV) (x : Sl α) (hx : cs[off]? = some x.unf.lv) (hc : cs.set off (.d (zI.enc x)) = cs')
  (hp : s.val LP p = .ptr j t gb off) (hj : j < s.low.length) (hb : IH s.low j t = some (.box gb cs)) (hd : s.free d = true) :
  evalOps LP C g (⟨some d, .load none p true, none, none⟩ :: r) s = evalOps LP C (g + 1) r ((s.setL j t (.box gb cs')).upd d (.v x.unf.lv)) := by
 subst hc
 have hcl : s.cells j t gb = some cs := by rw [LO hj, hb]; simp
 have hr : Au s.low.length none (some (LV.ptr j t gb off)) = true := rfl
 have hd2 : ∀ y, (s.setL j t y).free d = true := fun y => hd
 simp only [evalOps, An, zl.addr, Option.map_some, hp, hr, if_true, evalOp, hcl, hx]
 cases x with
 | hot xs =>
  have e2 : zI.enc (Sl.hot xs) = .slice (zI.n α) (xs.map zI.enc) := rfl
  simp only [Sl.unf, Sl.lv, LY s j t _ hj, e2, FX _ (hd2 _)]
 | nil =>
  have e3 : cs.set off (.d (zI.enc (Sl.nil : Sl α))) = cs := EY _ _ _ hx
  have e4 : s.setL j t (.box gb cs) = s := by simp only [St.setL, Hf hb]
  rw [e3, e4]
  simp only [Sl.unf, Sl.lv, part, hx, Option.map_some, LV.copy, FX _ hd]
 | cold xs =>
  have e3 : cs.set off (.d (zI.enc (Sl.cold xs))) = cs := EY _ _ _ hx
  have e4 : s.setL j t (.box gb cs) = s := by simp only [St.setL, Hf hb]
  rw [e3, e4]
  simp only [Sl.unf, Sl.lv, part, hx, Option.map_some, LV.copy, FX _ hd]
 | full xs =>
  have e3 : cs.set off (.d (zI.enc (Sl.full xs))) = cs := EY _ _ _ hx
  have e4 : s.setL j t (.box gb cs) = s := by simp only [St.setL, Hf hb]
  rw [e3, e4]
  simp only [Sl.unf, Sl.lv, part, hx, Option.map_some, LV.copy, FX _ hd]
end
section
variable {LP : BA} {C : AS}
theorem vp (g : Nat) (r : List AG) (s : St) (d : Nat) (ro : Option (Option Nat)) (p : Opd) (j t gb off : Nat) (cs : List LV) (v : DV) (hx : cs[off]? = some (.d v))
  (hp : s.val LP p = .ptr j t gb off) (hj : j = s.low.length) (hr : Au s.low.length ro (some (LV.ptr j t gb off)) = true) (hb : s.raw t = some (.box gb cs)) :
  evalOps LP C g (⟨some d, .load none p true, none, ro⟩ :: r) s = Gq LP C (g + 1) r s (some d) (some (.d v)) := by
 subst hj
 have hcl : s.cells s.low.length t gb = some cs := by rw [I6, hb]; simp
 simp only [evalOps, An, zl.addr, Option.map_some, hp, hr, if_true, evalOp, hcl, hx, part, LV.copy, Gq, Option.map_some]
 cases s.put (some d) (.d v) <;> rfl
theorem tV (g : Nat) (r : List AG) (s : St) (d : Nat) (p : Opd) (j t gb off : Nat) (cs : List LV) (v : DV) (hx : cs[off]? = some (.d v))
  (hp : s.val LP p = .ptr j t gb off) (hj : j < s.low.length) (hb : IH s.low j t = some (.box gb cs)) :
  evalOps LP C g (⟨some d, .load none p true, none, none⟩ :: r) s = Gq LP C (g + 1) r s (some d) (some (.d v)) := by
 have hcl : s.cells j t gb = some cs := by rw [LO hj, hb]; simp
 have hr : Au s.low.length none (some (LV.ptr j t gb off)) = true := rfl
 simp only [evalOps, An, zl.addr, Option.map_some, hp, hr, if_true, evalOp, hcl, hx, part, LV.copy, Gq, Option.map_some]
 cases s.put (some d) (.d v) <;> rfl
end
section
variable {LP : BA} {C : AS} {β : Type} [zI β]
theorem ZA (g : Nat) (r : List AG) (s : St) (n j t gm u : Nat) (m i : Opd) (key : List Int) (es : List (List Int × Sl β)) (z a : Sl β)
  (hm : s.val LP m = .mref j t gm) (hj : j < s.low.length) (hi : s.val LP i = .d (.int (Gv es key))) (hv : s.raw u = some (.v a.lv)) (he : IH s.low j t = some (.mapo gm n (Dj (FA z F6.coolE es key)))) :
  evalOps LP C g (⟨none, .mstore n m i (.tmp u), none, none⟩ :: r) s = evalOps LP C (g + 1) r ((s.upd u (.v a.spent.lv)).setL j t (.mapo gm n (Dj (Ei es key a)))) :=
 bJ g r s n j t gm u m i key es z a hm hj hi hv he
theorem RR (g : Nat) (r : List AG) (s : St) (tt : Option Nat) (ro : Option (Option Nat)) (n t gm u : Nat) (m i : Opd) (key : List Int) (es : List (List Int × Sl β)) (z a : Sl β)
  (hm : s.val LP m = .mref s.low.length t gm) (hr : Au s.low.length ro (some (.mref s.low.length t gm)) = true) (hi : s.val LP i = .d (.int (Gv es key))) (hv : s.raw u = some (.v a.lv)) (hut : u ≠ t) (he : s.raw t = some (.mapo gm n (Dj (FA z F6.coolE es key)))) :
  evalOps LP C g (⟨tt, .mstore n m i (.tmp u), none, ro⟩ :: r) s = evalOps LP C (g + 1) r ((s.upd u (.v a.spent.lv)).upd t (.mapo gm n (Dj (Ei es key a)))) :=
 gQ g r s tt ro n t gm u m i key es z a hm hr hi hv hut he
end
theorem ot {α : Type} [zI α] (sz : Nat) (x : Sl α) (lo hi mx : Option LV) : Ix sz x.lv lo hi mx = Ix sz (.d (zI.enc x)) lo hi mx := by cases x <;> rfl
theorem Js (j k t g : Nat) (h : j = k) : Au k (some (some t)) (some (.mref j t g)) = true := by simp [Au, h]
theorem iU (f : Nat) (a b : List DV) : Zl 1 (.d (.agg [.fn f a b])) = some [.d (.fn f a b)] := rfl
theorem ky (f : Nat) (a b : List LV) : Zl 1 (.agg [.fn f a b]) = some [.fn f a b] := rfl
section
variable {LP : BA} {C : AS} {β : Type} [zI β]
theorem t4 (g : Nat) (r : List AG) (s : St) (tt : Option Nat) (ro : Option (Option Nat)) (n t gm : Nat) (m k v : Opd) (key : List Int) (es : List (List Int × Sl β)) (a : Sl β) (vd : DV) (hav : a.lv = .d vd)
  (hm : s.val LP m = .mref s.low.length t gm) (hr : Au s.low.length ro (some (.mref s.low.length t gm)) = true) (hk : (s.val LP k).key n = some key) (hv : nU s v = some (.v (.d vd))) (he : s.raw t = some (.mapo gm n (Dj es))) :
  evalOps LP C g (⟨tt, .mapset n m k v, none, ro⟩ :: r) s = evalOps LP C (g + 1) r (s.upd t (.mapo gm n (Dj (Ei es key a)))) :=
 Wj g r s tt ro n t gm m k v key es a vd hav hm hr hk hv he
theorem Qx (g : Nat) (r : List AG) (s : St) (tt : Option Nat) (ro : Option (Option Nat)) (n t gm : Nat) (m k v : Opd) (key : List Int) (a : Sl β) (vd : DV) (hav : a.lv = .d vd)
  (hm : s.val LP m = .mref s.low.length t gm) (hr : Au s.low.length ro (some (.mref s.low.length t gm)) = true) (hk : (s.val LP k).key n = some key) (hv : nU s v = some (.v (.d vd))) (he : s.raw t = some (.mapo gm n [])) :
  evalOps LP C g (⟨tt, .mapset n m k v, none, ro⟩ :: r) s = evalOps LP C (g + 1) r (s.upd t (.mapo gm n (Dj (Ei [] key a)))) :=
 Wj g r s tt ro n t gm m k v key [] a vd hav hm hr hk hv he
end
theorem wE (f : Nat) (a b : List DV) : part (some 1) 0 [.d (.fn f a b)] = some (.d (.agg [.fn f a b])) := rfl
def i5 (f : Nat) (a b : List LV) : Option (List DV) → Option (List DV) → LV
 | some x, some y => .d (.agg [.fn f x y])
 | _, _ => .agg [.fn f a b]
theorem xa (f : Nat) (a b : List LV) : part (some 1) 0 [.fn f a b] = some (i5 f a b (AZ a) (AZ b)) := by
 have : part (some 1) 0 [.fn f a b] = some (LV.norm (.agg [.fn f a b])) := rfl
 rw [this]
 simp only [LV.norm, LV.toD, AZ, i5]
 cases AZ a <;> cases AZ b <;> rfl
theorem sc (f : Nat) (a b : List LV) (x y : List DV) : i5 f a b (some x) (some y) = .d (.agg [.fn f x y]) := rfl
theorem tK (f : Nat) (a b : List LV) (y : Option (List DV)) : i5 f a b none y = .agg [.fn f a b] := by cases y <;> rfl
theorem sV (f : Nat) (a b : List LV) (x : Option (List DV)) : i5 f a b x none = .agg [.fn f a b] := by cases x <;> rfl
theorem bu {α : Type} [zI α] {s : St} {t : Nat} {x : Sl α} (h : s.raw t = some (.v x.spent.lv)) : T9 s (t, none) = some (.d (zI.enc x)) := by
 rw [Ob h, SO]
theorem uW {α : Type} [zI α] {s : St} {t g : Nat} {x : Sl α} (h : s.raw t = some (.box g [x.spent.lv])) : T9 s (t, some none) = some (.d (zI.enc x)) := by
 rw [W5 h, SO]
theorem i6 (c : LV) : Dx 1 0 [.d .nils] [c] = some [.d .nils] := FP c rfl
theorem sE (c : LV) : Dx 1 0 [.d .nilmap] [c] = some [.d .nilmap] := FP c rfl
theorem na (f : Nat) (a b : List LV) : EU [.nilfn] [(0, 1, .fn f a b)] = some (i5 f a b (AZ a) (AZ b)) := by
 have : EU [.nilfn] [(0, 1, .fn f a b)] = some (LV.norm (.agg [.fn f a b])) := rfl
 rw [this]
 simp only [LV.norm, LV.toD, AZ, i5]
 cases AZ a <;> cases AZ b <;> rfl
def xn (b : Bool) (x y : DV) : DV := match b with
 | true => y
 | false => x
theorem tg (x y : DV) : xn true x y = y := rfl
theorem uM (x y : DV) : xn false x y = x := rfl
def wX (i : Int) : Option Bool := if i = 0 then some false else if i = 1 then some true else none
theorem u5 {i : Int} {b : Bool} {x y : DV} (h : wX i = some b) : UA none 1 2 (.d (.agg [x, y])) (.d (.int i)) = some (.d (xn b x y)) := by
 unfold wX at h
 split at h
 ·rename_i hi; subst hi; cases h; rfl
 ·split at h
  ·rename_i hi; subst hi; cases h; rfl
  ·cases h
abbrev t_ (t : Nat) : Opd := .tmp t
abbrev i_ (n : Int) : Opd := .con (.int n)
abbrev m_ (d t : Nat) : AG := ⟨some d, .move (.tmp t) false, none, none⟩
abbrev M_ (d t : Nat) : AG := ⟨some d, .move (.tmp t) true, none, none⟩
abbrev n_ (d t g : Nat) (b : Bool) : AG := ⟨some d, .move (.tmp t) false, some (g, b), none⟩
abbrev c_ (d : Nat) (n : Int) : AG := ⟨some d, .move (.con (.int n)) false, none, none⟩
abbrev q_ (d : Nat) (b : Bool) : AG := ⟨some d, .move (.con (.bool b)) false, none, none⟩
abbrev f_ (d n t : Nat) : AG := ⟨some d, .faddr n (.tmp t), none, none⟩
abbrev F_ (d n t g : Nat) : AG := ⟨some d, .faddr n (.tmp t), some (g, true), none⟩
abbrev l_ (d t : Nat) : AG := ⟨some d, .load none (.tmp t) false, none, none⟩
abbrev L_ (d n t : Nat) : AG := ⟨some d, .load (some n) (.tmp t) false, none, none⟩
abbrev p_ (d a b : Nat) (c : Bool) : AG := ⟨some d, .pick (.tmp a) (.tmp b) (.con (.bool c)), none, none⟩
abbrev P_ (d a b : Nat) (c : Bool) : AG := ⟨some d, .pick (.tmp a) (.con (.bool c)) (.tmp b), none, none⟩
abbrev o_ (d : Nat) (p : zl) : AG := ⟨some d, p, none, none⟩
abbrev g_ (d : Nat) (p : zl) (g : Nat) : AG := ⟨some d, p, some (g, true), none⟩
abbrev r_ (d : Nat) (p : zl) (r : Option Nat) : AG := ⟨some d, p, none, some r⟩
abbrev s_ (n a b : Nat) : AG := ⟨none, .store n (.tmp a) (.tmp b), none, none⟩
abbrev x_ (d n t : Nat) : AG := ⟨some d, .extract n (.tmp t) false, none, none⟩
abbrev a_ (d n s i : Nat) : AG := ⟨some d, .iaddrS n (.tmp s) (.tmp i), none, none⟩
abbrev e_ (d t : Nat) : AG := ⟨some d, .len (.tmp t), none, none⟩
abbrev b_ (d n t : Nat) : AG := ⟨some d, .box n (.tmp t), none, none⟩
abbrev k_ (d f : Nat) (xs : List Opd) : AG := ⟨some d, .call (.con (.fn f [] [])) xs none, none, none⟩
abbrev E_ {α : Type} [zI α] (t : Nat) (x : α) : Nat × BM := (t, .v (.d (zI.enc x)))
abbrev I_ (t : Nat) (x : Int) : Nat × BM := (t, .v (.d (.int x)))
abbrev B_ (t : Nat) (x : Bool) : Nat × BM := (t, .v (.d (.bool x)))
abbrev C_ {α : Type} [zI α] (t g : Nat) (x : α) : Nat × BM := (t, .box g ((zI.cells x).map LV.d))
abbrev N_ (t g : Nat) (x : Int) : Nat × BM := (t, .box g [.d (.int x)])
theorem bnd {α β : Type} {o : Option α} {f : α → Option β} {b : β} (h : o.bind f = some b) : ∃ a, o = some a ∧ f a = some b := Option.bind_eq_some_iff.mp h
theorem uc {LP : BA} {ks : List iW} {J : zR → St → Prop} {s : St} {t : Nat} {c : Bool} {a b : Cd} {α : Type} {A B : Option α} {x : α} (r : s.raw t = some (.v (.d (.bool c)))) (k : (if c = true then A else B) = some x)
  (h1 : c = true → A = some x → Run LP ks a s J) (h2 : c = false → B = some x → Run LP ks b s J) : Run LP ks (.cond (.tmp t) a b) s J := by
 cases c with
 | true => exact ji r rfl (h1 rfl (by simpa using k))
 | false => exact jw r rfl (h2 rfl (by simpa using k))
def rs := And.intro xx <| And.intro @Option.map_none.{0, 0} <| And.intro @Option.map_some.{0, 0} <| And.intro @List.map_cons.{0, 0} <| And.intro @List.map_nil.{0, 0} <| And.intro @if_true.{1} <| And.intro @if_false.{1} <| And.intro @and_true <| And.intro @true_and <|
 And.intro Bool.not_true <| And.intro Bool.not_false <| And.intro @Bool.true_and <| And.intro @Bool.false_and <| And.intro @Bool.true_or <| And.intro @Bool.false_or <| And.intro @List.nil_append.{0} <| And.intro @List.append_nil.{0} @List.cons_append.{0}
theorem Rg {LP : BA} {ks : List iW} {J : zR → St → Prop} {s : St} {B : List Nat} {ops : List AG} {keep : List Nat} {low : List Fr} (l : List (Nat × BM)) (hl : s.low = low) (hf : NoB B s)
  (h' : ∀ s', B6 l s' → s'.low = low → NoB B s' → Eh LP ks .normal s' J) (hB : ops.all (za B) = true := by rfl) (hk : l.all (fun p => keep.contains p.1) = true := by rfl)
  (h : ∃ s1, Lf.evalOps LP (om LP) s.ctr ops (s.tick ops.length) = some s1 ∧ B9 l s1 ∧ s1.low = low := by simp only [rs, hl, nob hf, r, reduceCtorEq, Nat.reduceEqDiff, Nat.reduceAdd]) : Run LP ks (.ops ops keep) s J :=
 i7 l hl hf hB hk h h'
end Go.Lf
namespace Go.Lf
open Go
def Nx (LP : BA) (J : zR → St → Prop) (s : St) : Nat → List iW → zR ⊕ Cd → Prop
 | 0, ks, .inr c => Run LP ks c s J
 | 0, ks, .inl j => Eh LP ks j s J
 | n + 1, ks, .inr (.seq a b) => Nx LP J s n (.seq b :: ks) (.inr a)
 | n + 1, ks, .inr (.scope a) => Nx LP J s n ks (.inr a)
 | n + 1, ks, .inr .skip => Nx LP J s n ks (.inl .normal)
 | n + 1, ks, .inr (.exit i) => Nx LP J s n ks (.inl (.exit i))
 | n + 1, ks, .inr .ret => Nx LP J s n ks (.inl .ret)
 | _ + 1, ks, .inr c => Run LP ks c s J
 | _ + 1, [], .inl j => J j s
 | n + 1, .seq c :: ks, .inl .normal => Nx LP J s n ks (.inr c)
 | n + 1, .seq _ :: ks, .inl j => Nx LP J s n ks (.inl j)
 | n + 1, .loop c :: ks, .inl .normal => Nx LP J s n ks (.inr (.loop c))
 | n + 1, .loop _ :: ks, .inl j => Nx LP J s n ks (.inl j)
 | n + 1, .block i :: ks, .inl (.exit k) => match Nat.beq k i with
  | true => Nx LP J s n ks (.inl .normal)
  | false => Nx LP J s n ks (.inl (.exit k))
 | n + 1, .block _ :: ks, .inl j => Nx LP J s n ks (.inl j)
theorem Fh {LP : BA} {J : zR → St → Prop} {s : St} : ∀ (n : Nat) (ks : List iW) (x : zR ⊕ Cd), Nx LP J s n ks x → match x with | .inr c => Run LP ks c s J | .inl j => Eh LP ks j s J
 | 0, ks, .inr c, h => h
 | 0, ks, .inl j, h => h
 | n + 1, ks, .inr c, h => by
  cases c with
  | seq a b => exact Run.seq (Fh n _ _ h)
  | scope a => exact Run.scope (Fh n _ _ h)
  | skip => exact Run.skip (Fh n _ _ h)
  | exit i => exact Run.exit (Fh n _ _ h)
  | ret => exact Run.ret (Fh n _ _ h)
  | _ => exact h
 | n + 1, ks, .inl j, h => by
  cases ks with
  | nil => exact h
  | cons k ks =>
   cases k with
   | seq c => cases j with
    | normal => exact Eh.seq (Fh n _ _ h)
    | exit i => exact bn (Fh n _ _ h)
    | ret => exact eB (Fh n _ _ h)
   | loop c => cases j with
    | normal => exact Eh.loop (Fh n _ _ h)
    | exit i => exact Y9 (Fh n _ _ h)
    | ret => exact bv (Fh n _ _ h)
   | block i => cases j with
    | normal => exact Eh.block (Fh n _ _ h)
    | exit k =>
     simp only [Nx] at h
     by_cases e : k = i
     ·subst e
      simp only [Nat.beq_refl] at h
      exact Eh.block_exit (Fh n _ _ h)
     ·have : Nat.beq k i = false := by
       cases hb : Nat.beq k i with
       | false => rfl
       | true => exact absurd (Nat.eq_of_beq_eq_true hb) e
      rw [this] at h
      exact Eh.block_pass e (Fh n _ _ h)
    | ret => exact Eh.block_ret (Fh n _ _ h)
def St.atc (s : St) (c n : Nat) : St := { s with ctr := c + n }
theorem ud (s : St) (c n t : Nat) : (s.atc c n).raw t = s.raw t := rfl
theorem sW (s : St) (c n t : Nat) : (s.atc c n).free t = s.free t := rfl
theorem vO (s : St) (c n : Nat) : (s.atc c n).low = s.low := rfl
theorem uw (s : St) (c n : Nat) : (s.atc c n).ctr = c + n := rfl
abbrev IX := List (Nat × BM)
def klc (t : Nat) : Option BM → Option IX → Option IX
 | some x, some l => some ((t, x) :: l)
 | _, _ => none
def kl : List Nat → St → Option IX
 | [], _ => some []
 | t :: ts, s => klc t (s.raw t) (kl ts s)
def knp : Option IX → List Fr → Option (IX × List Fr)
 | some l, low => some (l, low)
 | none, _ => none
def kn (keep : List Nat) : Option St → Option (IX × List Fr)
 | some s => knp (kl keep s) s.low
 | none => none
theorem wo (s : St) : kl [] s = some [] := rfl
theorem vH (t : Nat) (ts : List Nat) (s : St) : kl (t :: ts) s = klc t (s.raw t) (kl ts s) := rfl
theorem Re (t : Nat) (x : BM) (l : IX) : klc t (some x) (some l) = some ((t, x) :: l) := rfl
theorem sL (l : IX) (low : List Fr) : knp (some l) low = some (l, low) := rfl
theorem uz (keep : List Nat) (s : St) : kn keep (some s) = knp (kl keep s) s.low := rfl
def lkd (s : St) (t : Nat) : IX → Option BM
 | [] => s.raw t
 | (u, x) :: l => if u = t then some x else lkd s t l
def lk (d : IX) : List Nat → St → Option IX
 | [], _ => some []
 | t :: ts, s => klc t (lkd s t d) (lk d ts s)
theorem eq (d : IX) (s : St) : lk d [] s = some [] := rfl
theorem Xb (d : IX) (t : Nat) (ts : List Nat) (s : St) : lk d (t :: ts) s = klc t (lkd s t d) (lk d ts s) := rfl
theorem Xo (s : St) (t : Nat) : lkd s t [] = s.raw t := rfl
theorem R7 (s : St) (t u : Nat) (x : BM) (l : IX) : lkd s t ((u, x) :: l) = if u = t then some x else lkd s t l := rfl
theorem to : ∀ {ks : List Nat} {s : St} {l : IX}, kl ks s = some l → B9 l s ∧ l.all (fun p => ks.contains p.1) = true
 | [], s, l, h => by cases h; exact ⟨trivial, rfl⟩
 | t :: ts, s, l, h => by
  simp only [kl] at h
  cases hx : s.raw t with
  | none => rw [hx] at h; cases h
  | some x =>
   rw [hx] at h
   cases hl : kl ts s with
   | none => rw [hl] at h; cases h
   | some l' =>
    rw [hl] at h; cases h
    obtain ⟨h1, h2⟩ := to hl
    refine ⟨⟨hx, h1⟩, ?_⟩
    simp only [List.all_cons, List.contains_cons, beq_self_eq_true, Bool.true_or, Bool.true_and]
    rw [List.all_eq_true] at h2 ⊢
    intro p hp
    rw [h2 p hp, Bool.or_true]
theorem gd {keep : List Nat} {LP : BA} {C : AS} {g : Nat} {o : AG} {r : List AG} {s : St} {w b : Bool} {X : Option (IX × List Fr)} (h1 : b = true → kn keep (TE LP C g o r s w (.d (.bool true))) = X)
  (h0 : b = false → kn keep (TE LP C g o r s w (.d (.bool false))) = X) : kn keep (TE LP C g o r s w (.d (.bool b))) = X := by
 cases b
 ·exact h0 rfl
 ·exact h1 rfl
theorem gdN {keep : List Nat} {LP : BA} {C : AS} {g : Nat} {o : AG} {r : List AG} {s : St} {w b : Bool} {X : Option (IX × List Fr)} (h1 : b = true → kn keep (TE LP C g o r s w (.d (.bool (!b)))) = X)
  (h0 : b = false → kn keep (TE LP C g o r s w (.d (.bool (!b)))) = X) : kn keep (TE LP C g o r s w (.d (.bool (!b)))) = X := by
 cases b
 ·exact h0 rfl
 ·exact h1 rfl
theorem yx (a b : Bool) : (a != b) = !(a == b) := rfl
theorem vI {α : Type} [zI α] (x : Sl α) : x.lv.copy = x.spent.lv := by cases x <;> rfl
def Kq {α : Type} (o : Option α) (x : α) : Prop := o = some x
theorem kq {α : Type} {o : Option α} {x : α} (h : o = some x) : Kq o x := h
theorem bnk {α β : Type} {o : Option α} {f : α → Option β} {b : β} (h : Kq (o.bind f) b) : ∃ a, o = some a ∧ Kq (f a) b := bnd h
theorem oK {α : Type} {a b : α} (h : Kq (some a) b) : a = b := Option.some.inj h
theorem yt {α : Type} {c : Bool} {A B : Option α} {x : α} (k : (if c = true then A else B) = some x) : (c = true ∧ A = some x) ∨ (c = false ∧ B = some x) := by
 cases c
 ·exact .inr ⟨rfl, by simpa using k⟩
 ·exact .inl ⟨rfl, by simpa using k⟩
theorem gb {α β : Type} {A : Option α} {f : α → Option β} {b : β} {G : Prop} (h : ∀ v, A = some v → f v = some b → G) (q : A.bind f = some b) : G := by
 obtain ⟨v, h1, h2⟩ := bnd q
 exact h v h1 h2
theorem gi {β : Type} {c : Bool} {A B : Option β} {b : β} {G : Prop} (h1 : c = true → A = some b → G) (h0 : c = false → B = some b → G) (q : (if c = true then A else B) = some b) : G := by
 rcases yt q with ⟨a, q⟩ | ⟨a, q⟩
 ·exact h1 a q
 ·exact h0 a q
theorem oI {α : Type} {a b : α} (h : some a = some b) : a = b := Option.some.inj h
def zS {α β : Type} (o : Option α) (F : α → β) (d : Option β) : Option β := match o with
 | some x => some (F x)
 | none => d
theorem sB {α β : Type} (x : α) (F : α → β) (d : Option β) : zS (some x) F d = some (F x) := rfl
theorem rf {α β : Type} {o : Option α} {F : α → β} {d : Option β} (h : ∀ x, o = some x → d = some (F x)) : d = zS o F d := by
 cases o with
 | none => rfl
 | some x => exact h x rfl
def wA (sz : Nat) (x i : LV) : Option LV := qc sz x i
theorem wS {α : Type} [zI α] (x : Sl α) (i : Int) (sz : Nat) (hz : zI.n α = sz) : qc sz (.d (zI.enc x)) (.d (.int i)) = zS (x.ix i) (fun a => .d (.fptr (zI.cells a) 0)) (wA sz (.d (zI.enc x)) (.d (.int i))) :=
 rf (d := qc sz (.d (zI.enc x)) (.d (.int i))) fun _ h => rB x h hz
theorem uk {α : Type} [zI α] (x : Sl α) (i : Int) (sz : Nat) (hz : zI.n α = sz) : qc sz x.lv (.d (.int i)) = zS (x.ix i) (fun a => .d (.fptr (zI.cells a) 0)) (wA sz x.lv (.d (.int i))) :=
 rf (d := qc sz x.lv (.d (.int i))) fun _ h => vY x h hz
noncomputable def wu (LP : BA) (n : Nat) (ds : List DV) : Option LV := ON (om LP) n ds
@[reducible] def Cq {α : Type} (LP : BA) (n : Nat) (ds : List DV) (o : Option α) (E : α → LV) : Prop := ON (om LP) n ds = zS o E (wu LP n ds)
theorem Cq.mk {α : Type} {LP : BA} {n : Nat} {ds : List DV} {o : Option α} {E : α → DV} (h : ∀ {r}, o = some r → Fin LP n ds (E r)) : Cq LP n ds o fun x => .d (E x) :=
 rf (d := ON (om LP) n ds) fun _ k => (h k).call
theorem yO : zI.n Int = 1 := rfl
theorem wW : zI.n Bool = 1 := rfl
theorem yz {α : Type} [zI α] : zI.n (Sl α) = 1 := rfl
theorem yr : zI.n Fv = 1 := rfl
theorem yy {α : Type} [zI α] {n : Nat} : zI.n (Mp n α) = 1 := rfl
theorem yu {α : Type} [zI α] {n : Nat} : zI.n (Ar n α) = n * zI.n α := rfl
def rt := And.intro @rs <| And.intro yO <| And.intro wW <| And.intro @yz <| And.intro yr <| And.intro @yy <| And.intro @yu <| And.intro @ud <| And.intro @sW <| And.intro @vO <| And.intro @uw <| And.intro @wo <| And.intro @vH <| And.intro @Re <| And.intro @sL <| And.intro @uz <| And.intro @eq <| And.intro @Xb <| And.intro @Xo <|
 And.intro @R7 <| And.intro @wS <| And.intro @uk <| And.intro @sB <| And.intro @List.length_cons.{0} <| And.intro @List.length_nil.{0} <| And.intro @Zb <| And.intro @iO <| And.intro @ne_eq.{1} <| And.intro not_false_eq_true <| And.intro @tH <| And.intro @eu <| And.intro @G3 <| And.intro @vI <| And.intro yx <| And.intro @DI <| And.intro @Be <| And.intro @Rb <| And.intro @JS <| And.intro @Jp @sS
section
variable {LP : BA} {ks : List iW} {J : zR → St → Prop} {s : St} {B : List Nat} {ops : List AG} {keep : List Nat} {low : List Fr} {l : Nat → IX}
theorem xq (hl : s.low = low) (hf : NoB B s) (hB : ops.all (za B) = true) (h : ∀ c, kn keep (Lf.evalOps LP (om LP) c ops (s.atc c ops.length)) = some (l c, low))
  (h' : ∀ c s', B6 (l c) s' → s'.low = low → NoB B s' → Nx LP J s' 60 ks (.inl .normal)) : Run LP ks (.ops ops keep) s J := by
 have h0 := h s.ctr
 cases he : Lf.evalOps LP (om LP) s.ctr ops (s.atc s.ctr ops.length) with
 | none => rw [he] at h0; cases h0
 | some s1 =>
  rw [he] at h0
  simp only [kn] at h0
  cases hk : kl keep s1 with
  | none => rw [hk] at h0; cases h0
  | some l1 =>
   rw [hk] at h0
   simp only [knp, Option.some.injEq, Prod.mk.injEq] at h0
   obtain ⟨rfl, h2⟩ := h0
   obtain ⟨h3, h4⟩ := to hk
   exact i7 (B := B) (l s.ctr) hl hf hB h4 ⟨s1, he, h3, h2⟩ fun s' a b c => Fh 60 ks (.inl .normal) (h' s.ctr s' a b c)
theorem lb (l : IX) (hl : s.low = low) (hf : NoB B s) (h : ∃ s1, Lf.evalOps LP (om LP) s.ctr ops (s.tick ops.length) = some s1 ∧ B9 l s1 ∧ s1.low = low)
  (h' : ∀ s', B6 l s' → s'.low = low → NoB B s' → Nx LP J s' 60 ks (.inl .normal)) (hB : ops.all (za B) = true := by rfl) (hk : l.all (fun p => keep.contains p.1) = true := by rfl) : Run LP ks (.ops ops keep) s J :=
 i7 l hl hf hB hk h fun s' a b c => Fh 60 ks (.inl .normal) (h' s' a b c)
theorem regS {Q : List Fr → Prop} (l : IX) (hl : s.low = low) (hf : NoB B s) (h : ∃ s1, Lf.evalOps LP (om LP) s.ctr ops (s.tick ops.length) = some s1 ∧ B9 l s1 ∧ Q s1.low)
  (h' : ∀ s', B6 l s' → Q s'.low → NoB B s' → Nx LP J s' 60 ks (.inl .normal)) (hB : ops.all (za B) = true := by rfl) (hk : l.all (fun p => keep.contains p.1) = true := by rfl) : Run LP ks (.ops ops keep) s J :=
 tX l hl hf hB hk h fun s' a b c => Fh 60 ks (.inl .normal) (h' s' a b c)
theorem zC {t : Nat} {c : Bool} {a b : Cd} (hr : s.raw t = some (.v (.d (.bool c)))) (hc : c = true) (h : Nx LP J s 60 ks (.inr a)) : Run LP ks (.cond (.tmp t) a b) s J := ji hr hc (Fh 60 ks (.inr a) h)
theorem zD {t : Nat} {c : Bool} {a b : Cd} (hr : s.raw t = some (.v (.d (.bool c)))) (hc : c = false) (h : Nx LP J s 60 ks (.inr b)) : Run LP ks (.cond (.tmp t) a b) s J := jw hr hc (Fh 60 ks (.inr b) h)
theorem DW {t : Nat} {c : Bool} {a b : Cd} {α : Type} {A B : Option α} {x : α} (r : s.raw t = some (.v (.d (.bool c)))) (k : Kq (if c = true then A else B) x)
  (h1 : c = true → Kq A x → Nx LP J s 60 ks (.inr a)) (h2 : c = false → Kq B x → Nx LP J s 60 ks (.inr b)) : Run LP ks (.cond (.tmp t) a b) s J :=
 uc r k (fun c k => Fh 60 ks (.inr a) (h1 c k)) fun c k => Fh 60 ks (.inr b) (h2 c k)
theorem Kw {t : Nat} {c : Bool} {a b : Cd} {α : Type} {A B : Option α} {x : α} (r : s.raw t = some (.v (.d (.bool (!c))))) (k : Kq (if c = true then A else B) x)
  (h1 : c = true → Kq A x → Nx LP J s 60 ks (.inr b)) (h2 : c = false → Kq B x → Nx LP J s 60 ks (.inr a)) : Run LP ks (.cond (.tmp t) a b) s J := by
 cases c with
 | true => exact jw r rfl (Fh 60 ks (.inr b) (h1 rfl (by simpa [Kq] using k)))
 | false => exact ji r rfl (Fh 60 ks (.inr a) (h2 rfl (by simpa [Kq] using k)))
theorem zA {c : Cd} {Q : zR → St → Prop} (h : Nx LP Q s 60 [] (.inr c)) (h' : ∀ j s', Q j s' → Nx LP J s' 60 ks (.inl j)) : Run LP ks c s J :=
 Run.sub (Fh 60 [] (.inr c) h) fun j s' q => Fh 60 ks (.inl j) (h' j s' q)
theorem blk {i : Nat} {c : Cd} (h : Nx LP J s 60 (.block i :: ks) (.inr c)) : Run LP ks (.block i c) s J := Run.block (Fh 60 (.block i :: ks) (.inr c) h)
theorem Nx.run {c : Cd} (h : Nx LP J s 60 [] (.inr c)) : Run LP [] c s J := Fh 60 [] (.inr c) h
theorem Ax {c : Cd} {σ ρ : Type} {f : σ → Option (σ ⊕ ρ)} {E : σ → St → Prop} {Q : ρ → zR → St → Prop} {r : ρ} {x : σ}
  (hl : Loop f x = some r) (hs : ∀ x s out, E x s → Kq (f x) out → Nx LP (wC E Q out) s 60 [] (.inr c)) (he : E x s) (h' : ∀ j s', Q r j s' → Nx LP J s' 60 ks (.inl j)) : Run LP ks (.loop c) s J :=
 oM (fun x s out a b => Fh 60 [] (.inr c) (hs x s out a b)) he hl fun j s' q => Fh 60 ks (.inl j) (h' j s' q)
end
theorem nX {LP : BA} {ks : List iW} {J : zR → St → Prop} {s : St} {j : zR} (h : Nx LP J s 60 ks (.inl j)) : Eh LP ks j s J := Fh 60 ks (.inl j) h
end Go.Lf
namespace Go.Lf
open Go
section
variable {n m : Nat} {x : Ar n (Ar m Int)} {v : Ar m Int} {i k w : Int}
theorem V4 (v : Ar m Int) : zI.cells v = v.l.map DV.int := SG v.l
theorem rG (v : Ar m Int) : (zI.cells v).length = m := by rw [V4, List.length_map, v.h]
theorem kf (h : x.ix i = some v) (h2 : v.ix k = some w) : A4 none (0 + i.toNat * m + k.toNat * 1) (zI.cells x) = some (.int w) := by
 obtain ⟨_, hk⟩ := cG h2
 have e := jr h
 have en : zI.n (Ar m Int) = m := Nat.mul_one m
 rw [en] at e
 have e2 := D3 h2 rfl rfl
 simp only [A4, Nat.zero_add, Nat.mul_one] at e2 ⊢
 rw [← e, List.getElem?_take_of_lt hk, List.getElem?_drop] at e2
 exact e2
theorem fQ : ∀ (l : List (Ar m Int)) (a b : Nat) (v v' : Ar m Int) (y : DV), l[a]? = some v → b < m → zI.cells v' = (zI.cells v).set b y → (l.set a v').flatMap zI.cells = (l.flatMap zI.cells).set (a * m + b) y
 | [], a, b, v, v', y, h, _, _ => by simp at h
 | r :: l, 0, b, v, v', y, h, hb, hc => by
  simp only [List.getElem?_cons_zero, Option.some.injEq] at h
  subst h
  have := rG r
  simp only [List.set_cons_zero, List.flatMap_cons, Nat.zero_mul, Nat.zero_add]
  rw [List.set_append_left _ _ (by omega), hc]
 | r :: l, a + 1, b, v, v', y, h, hb, hc => by
  simp only [List.getElem?_cons_succ] at h
  have := rG r
  simp only [List.set_cons_succ, List.flatMap_cons]
  rw [List.set_append_right _ _ (by rw [this, Nat.succ_mul]; omega), fQ l a b v v' y h hb hc, this]
  congr 2
  rw [Nat.succ_mul]; omega
theorem ub (h : x.ix i = some v) (h2 : v.ix k = some w) (y : Int) : Dx 1 (0 + i.toNat * m + k.toNat * 1) [.d (.int y)] ((zI.cells x).map LV.d) = some ((zI.cells (x.put i (v.put k y))).map LV.d) := by
 obtain ⟨h1, h1'⟩ := cG h
 obtain ⟨h3, h3'⟩ := cG h2
 have hl : ((zI.cells x).map LV.d).length = n * m := by
  rw [List.length_map, Gu.len]; show n * (m * 1) = _; rw [Nat.mul_one]
 have hlt : i.toNat * m + k.toNat < n * m := by
  have : (i.toNat + 1) * m ≤ n * m := Nat.mul_le_mul_right m h1'
  rw [Nat.succ_mul] at this; omega
 have hc : zI.cells (v.put k y) = (zI.cells v).set k.toNat (.int y) := by
  rw [V4, V4]
  show (v.l.set k.toNat y).map DV.int = _
  rw [List.map_set]
 have hx : zI.cells (x.put i (v.put k y)) = (zI.cells x).set (i.toNat * m + k.toNat) (.int y) := fQ x.l i.toNat k.toNat v _ _ (uA h) h3' hc
 simp only [Dx, hl, List.length_cons, List.length_nil, Nat.zero_add, Nat.mul_one]
 rw [if_pos ⟨trivial, by omega, rfl⟩, hx, List.map_set]
 congr 1
 have hlt2 : i.toNat * m + k.toNat < ((zI.cells x).map LV.d).length := by rw [hl]; exact hlt
 rw [setCells, List.set_eq_take_append_cons_drop, if_pos hlt2]
 simp
end
end Go.Lf
