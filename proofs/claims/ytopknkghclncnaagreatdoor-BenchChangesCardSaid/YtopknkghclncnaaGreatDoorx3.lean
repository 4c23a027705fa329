/- A part of the proof. -/
import Derived.Test.YtopknkghclncnaaGreatDoorx2
set_option linter.all false
namespace Go.Lf
open Go
def Sl.unf {α : Type} : Sl α → Sl α
 | .full xs => .cold xs
 | x => x
section
variable {α : Type} [Enc α]
theorem AAi (x : Sl α) : x.unf.lv.copy = .d (Enc.enc x) := by cases x <;> rfl
theorem xy {q : Nat} {x v : Sl α} {ys : List α} (h : x.app q ys = some v) (hy : ys ≠ []) : v.lv = v.unf.lv := by
 cases x with
 | nil => simp only [Sl.app, if_neg hy] at h; split at h <;> cases h; rfl
 | cold xs => simp only [Sl.app] at h; cases h
 | hot xs => simp only [Sl.app] at h; split at h <;> cases h; rfl
 | full xs => simp only [Sl.app, if_neg hy] at h; split at h <;> cases h; rfl
theorem AAo {s : St} {t g : Nat} {cs cs' : List LV} (h : s.raw t = some (.box g cs)) (e : cs = cs') : s.raw t = some (.box g cs') := e ▸ h
variable {LP : BA} {C : AV}
theorem Ez {β : Type} : ∀ (l : List β) (i : Nat) (x : β), l[i]? = some x → l.set i x = l
 | [], i, x, h => by simp at h
 | a :: l, 0, x, h => by simp at h; simp [h]
 | a :: l, i + 1, x, h => by
  simp only [List.getElem?_cons_succ] at h
  simp [Ez l i x h]
theorem kS (g : Nat) (r : List AI) (s : St) (d : Nat) (ro : Option (Option Nat)) (p : Opd) (j t gb off : Nat) (cs cs' : List LV) (x : Sl α) (hx : cs[off]? = some x.unf.lv) (hc : cs.set off (.d (Enc.enc x)) = cs')
  (hp : s.val LP p = .ptr j t gb off) (hj : j = s.low.length) (hr : Az s.low.length ro (some (LV.ptr j t gb off)) = true) (hb : s.raw t = some (.box gb cs)) (hd : s.free d = true) (hdt : ¬ t = d) :
  evalOps LP C g (⟨some d, .load none p true, none, ro⟩ :: r) s = evalOps LP C (g + 1) r ((s.upd t (.box gb cs')).upd d (.v x.unf.lv)) := by
 subst hj hc
 have hcl : s.cells s.low.length t gb = some cs := by rw [Jh, hb]; simp
 have hd2 : ∀ y, (s.upd t y).free d = true := fun y => by rw [K0, if_neg hdt]; exact hd
 have hs : ∀ y, s.setAt s.low.length t y = s.upd t y := fun y => TA s t y
 simp only [evalOps, Ao, LOp.addr, Option.map_some, hp, hr, if_true, evalOp, hcl, hx]
 cases x with
 | hot xs =>
  have e2 : Enc.enc (Sl.hot xs) = .slice (Enc.n α) (xs.map Enc.enc) := rfl
  simp only [Sl.unf, Sl.lv, hs, e2, Gk _ (hd2 _)]
 | nil =>
  have e3 : cs.set off (.d (Enc.enc (Sl.nil : Sl α))) = cs := Ez _ _ _ hx
  rw [e3, Ed s t _ hb]
  simp only [Sl.unf, Sl.lv, part, hx, Option.map_some, LV.copy, Gk _ hd]
 | cold xs =>
  have e3 : cs.set off (.d (Enc.enc (Sl.cold xs))) = cs := Ez _ _ _ hx
  rw [e3, Ed s t _ hb]
  simp only [Sl.unf, Sl.lv, part, hx, Option.map_some, LV.copy, Gk _ hd]
 | full xs =>
  have e3 : cs.set off (.d (Enc.enc (Sl.full xs))) = cs := Ez _ _ _ hx
  rw [e3, Ed s t _ hb]
  simp only [Sl.unf, Sl.lv, part, hx, Option.map_some, LV.copy, Gk _ hd]
theorem vr (g : Nat) (r : List AI) (s : St) (d : Nat) (p : Opd) (j t gb off : Nat) (cs cs' : List LV) (x : Sl α) (hx : cs[off]? = some x.unf.lv) (hc : cs.set off (.d (Enc.enc x)) = cs')
  (hp : s.val LP p = .ptr j t gb off) (hj : j < s.low.length) (hb : I8 s.low j t = some (.box gb cs)) (hd : s.free d = true) :
  evalOps LP C g (⟨some d, .load none p true, none, none⟩ :: r) s = evalOps LP C (g + 1) r ((s.setL j t (.box gb cs')).upd d (.v x.unf.lv)) := by
 subst hc
 have hcl : s.cells j t gb = some cs := by rw [Lr hj, hb]; simp
 have hr : Az s.low.length none (some (LV.ptr j t gb off)) = true := rfl
 have hd2 : ∀ y, (s.setL j t y).free d = true := fun y => hd
 simp only [evalOps, Ao, LOp.addr, Option.map_some, hp, hr, if_true, evalOp, hcl, hx]
 cases x with
 | hot xs =>
  have e2 : Enc.enc (Sl.hot xs) = .slice (Enc.n α) (xs.map Enc.enc) := rfl
  simp only [Sl.unf, Sl.lv, MU s j t _ hj, e2, Gk _ (hd2 _)]
 | nil =>
  have e3 : cs.set off (.d (Enc.enc (Sl.nil : Sl α))) = cs := Ez _ _ _ hx
  have e4 : s.setL j t (.box gb cs) = s := by simp only [St.setL, Ih hb]
  rw [e3, e4]
  simp only [Sl.unf, Sl.lv, part, hx, Option.map_some, LV.copy, Gk _ hd]
 | cold xs =>
  have e3 : cs.set off (.d (Enc.enc (Sl.cold xs))) = cs := Ez _ _ _ hx
  have e4 : s.setL j t (.box gb cs) = s := by simp only [St.setL, Ih hb]
  rw [e3, e4]
  simp only [Sl.unf, Sl.lv, part, hx, Option.map_some, LV.copy, Gk _ hd]
 | full xs =>
  have e3 : cs.set off (.d (Enc.enc (Sl.full xs))) = cs := Ez _ _ _ hx
  have e4 : s.setL j t (.box gb cs) = s := by simp only [St.setL, Ih hb]
  rw [e3, e4]
  simp only [Sl.unf, Sl.lv, part, hx, Option.map_some, LV.copy, Gk _ hd]
end
section
variable {LP : BA} {C : AV}
theorem yx (g : Nat) (r : List AI) (s : St) (d : Nat) (ro : Option (Option Nat)) (p : Opd) (j t gb off : Nat) (cs : List LV) (v : DV) (hx : cs[off]? = some (.d v))
  (hp : s.val LP p = .ptr j t gb off) (hj : j = s.low.length) (hr : Az s.low.length ro (some (LV.ptr j t gb off)) = true) (hb : s.raw t = some (.box gb cs)) :
  evalOps LP C g (⟨some d, .load none p true, none, ro⟩ :: r) s = HU LP C (g + 1) r s (some d) (some (.d v)) := by
 subst hj
 have hcl : s.cells s.low.length t gb = some cs := by rw [Jh, hb]; simp
 simp only [evalOps, Ao, LOp.addr, Option.map_some, hp, hr, if_true, evalOp, hcl, hx, part, LV.copy, HU, Option.map_some]
 cases s.put (some d) (.d v) <;> rfl
theorem vn (g : Nat) (r : List AI) (s : St) (d : Nat) (p : Opd) (j t gb off : Nat) (cs : List LV) (v : DV) (hx : cs[off]? = some (.d v))
  (hp : s.val LP p = .ptr j t gb off) (hj : j < s.low.length) (hb : I8 s.low j t = some (.box gb cs)) :
  evalOps LP C g (⟨some d, .load none p true, none, none⟩ :: r) s = HU LP C (g + 1) r s (some d) (some (.d v)) := by
 have hcl : s.cells j t gb = some cs := by rw [Lr hj, hb]; simp
 have hr : Az s.low.length none (some (LV.ptr j t gb off)) = true := rfl
 simp only [evalOps, Ao, LOp.addr, Option.map_some, hp, hr, if_true, evalOp, hcl, hx, part, LV.copy, HU, Option.map_some]
 cases s.put (some d) (.d v) <;> rfl
end
section
variable {LP : BA} {C : AV} {β : Type} [Enc β]
theorem aZ (g : Nat) (r : List AI) (s : St) (n j t gm u : Nat) (m i : Opd) (key : List Int) (es : List (List Int × Sl β)) (z a : Sl β)
  (hm : s.val LP m = .mref j t gm) (hj : j < s.low.length) (hi : s.val LP i = .d (.int (HY es key))) (hv : s.raw u = some (.v a.lv)) (he : I8 s.low j t = some (.mapo gm n (D4 (Fg z Gq.coolE es key)))) :
  evalOps LP C g (⟨none, .mstore n m i (.tmp u), none, none⟩ :: r) s = evalOps LP C (g + 1) r ((s.upd u (.v a.spent.lv)).setL j t (.mapo gm n (D4 (FC es key a)))) :=
 gj g r s n j t gm u m i key es z a hm hj hi hv he
theorem SI (g : Nat) (r : List AI) (s : St) (tt : Option Nat) (ro : Option (Option Nat)) (n t gm u : Nat) (m i : Opd) (key : List Int) (es : List (List Int × Sl β)) (z a : Sl β)
  (hm : s.val LP m = .mref s.low.length t gm) (hr : Az s.low.length ro (some (.mref s.low.length t gm)) = true) (hi : s.val LP i = .d (.int (HY es key))) (hv : s.raw u = some (.v a.lv)) (hut : u ≠ t) (he : s.raw t = some (.mapo gm n (D4 (Fg z Gq.coolE es key)))) :
  evalOps LP C g (⟨tt, .mstore n m i (.tmp u), none, ro⟩ :: r) s = evalOps LP C (g + 1) r ((s.upd u (.v a.spent.lv)).upd t (.mapo gm n (D4 (FC es key a)))) :=
 jD g r s tt ro n t gm u m i key es z a hm hr hi hv hut he
end
theorem uU {α : Type} [Enc α] (sz : Nat) (x : Sl α) (lo hi mx : Option LV) : JQ sz x.lv lo hi mx = JQ sz (.d (Enc.enc x)) lo hi mx := by cases x <;> rfl
theorem Jv (j k t g : Nat) (h : j = k) : Az k (some (some t)) (some (.mref j t g)) = true := by simp [Az, h]
theorem lC (f : Nat) (a b : List DV) : cD 1 (.d (.agg [.fn f a b])) = some [.d (.fn f a b)] := rfl
theorem pM (f : Nat) (a b : List LV) : cD 1 (.agg [.fn f a b]) = some [.fn f a b] := rfl
section
variable {LP : BA} {C : AV} {β : Type} [Enc β]
theorem wy (g : Nat) (r : List AI) (s : St) (tt : Option Nat) (ro : Option (Option Nat)) (n t gm : Nat) (m k v : Opd) (key : List Int) (es : List (List Int × Sl β)) (a : Sl β) (vd : DV) (hav : a.lv = .d vd)
  (hm : s.val LP m = .mref s.low.length t gm) (hr : Az s.low.length ro (some (.mref s.low.length t gm)) = true) (hk : (s.val LP k).key n = some key) (hv : sA s v = some (.v (.d vd))) (he : s.raw t = some (.mapo gm n (D4 es))) :
  evalOps LP C g (⟨tt, .mapset n m k v, none, ro⟩ :: r) s = evalOps LP C (g + 1) r (s.upd t (.mapo gm n (D4 (FC es key a)))) :=
 Yd g r s tt ro n t gm m k v key es a vd hav hm hr hk hv he
theorem SO (g : Nat) (r : List AI) (s : St) (tt : Option Nat) (ro : Option (Option Nat)) (n t gm : Nat) (m k v : Opd) (key : List Int) (a : Sl β) (vd : DV) (hav : a.lv = .d vd)
  (hm : s.val LP m = .mref s.low.length t gm) (hr : Az s.low.length ro (some (.mref s.low.length t gm)) = true) (hk : (s.val LP k).key n = some key) (hv : sA s v = some (.v (.d vd))) (he : s.raw t = some (.mapo gm n [])) :
  evalOps LP C g (⟨tt, .mapset n m k v, none, ro⟩ :: r) s = evalOps LP C (g + 1) r (s.upd t (.mapo gm n (D4 (FC [] key a)))) :=
 Yd g r s tt ro n t gm m k v key [] a vd hav hm hr hk hv he
end
theorem zF (f : Nat) (a b : List DV) : part (some 1) 0 [.d (.fn f a b)] = some (.d (.agg [.fn f a b])) := rfl
def nI (f : Nat) (a b : List LV) : Option (List DV) → Option (List DV) → LV
 | some x, some y => .d (.agg [.fn f x y])
 | _, _ => .agg [.fn f a b]
theorem AAe (f : Nat) (a b : List LV) : part (some 1) 0 [.fn f a b] = some (nI f a b (AZ a) (AZ b)) := by
 have : part (some 1) 0 [.fn f a b] = some (LV.norm (.agg [.fn f a b])) := rfl
 rw [this]
 simp only [LV.norm, LV.toD, AZ, nI]
 cases AZ a <;> cases AZ b <;> rfl
theorem wa (f : Nat) (a b : List LV) (x y : List DV) : nI f a b (some x) (some y) = .d (.agg [.fn f x y]) := rfl
theorem wR (f : Nat) (a b : List LV) (y : Option (List DV)) : nI f a b none y = .agg [.fn f a b] := by cases y <;> rfl
theorem vw (f : Nat) (a b : List LV) (x : Option (List DV)) : nI f a b x none = .agg [.fn f a b] := by cases x <;> rfl
theorem fy {α : Type} [Enc α] {s : St} {t : Nat} {x : Sl α} (h : s.raw t = some (.v x.spent.lv)) : VC s (t, none) = some (.d (Enc.enc x)) := by
 rw [JI h, SJ]
theorem xA {α : Type} [Enc α] {s : St} {t g : Nat} {x : Sl α} (h : s.raw t = some (.box g [x.spent.lv])) : VC s (t, some none) = some (.d (Enc.enc x)) := by
 rw [W2 h, SJ]
theorem mM (c : LV) : EP 1 0 [.d .nils] [c] = some [.d .nils] := GT c rfl
theorem vT (c : LV) : EP 1 0 [.d .nilmap] [c] = some [.d .nilmap] := GT c rfl
theorem rQ (f : Nat) (a b : List LV) : Ep [.nilfn] [(0, 1, .fn f a b)] = some (nI f a b (AZ a) (AZ b)) := by
 have : Ep [.nilfn] [(0, 1, .fn f a b)] = some (LV.norm (.agg [.fn f a b])) := rfl
 rw [this]
 simp only [LV.norm, LV.toD, AZ, nI]
 cases AZ a <;> cases AZ b <;> rfl
def AAz (b : Bool) (x y : DV) : DV := match b with
 | true => y
 | false => x
theorem xN (x y : DV) : AAz true x y = y := rfl
theorem wn (x y : DV) : AAz false x y = x := rfl
def zU (i : Int) : Option Bool := if i = 0 then some false else if i = 1 then some true else none
theorem yd {i : Int} {b : Bool} {x y : DV} (h : zU i = some b) : VO none 1 2 (.d (.agg [x, y])) (.d (.int i)) = some (.d (AAz b x y)) := by
 unfold zU at h
 split at h
 ·rename_i hi; subst hi; cases h; rfl
 ·split at h
  ·rename_i hi; subst hi; cases h; rfl
  ·cases h
abbrev t_ (t : Nat) : Opd := .tmp t
abbrev i_ (n : Int) : Opd := .con (.int n)
abbrev m_ (d t : Nat) : AI := ⟨some d, .move (.tmp t) false, none, none⟩
abbrev M_ (d t : Nat) : AI := ⟨some d, .move (.tmp t) true, none, none⟩
abbrev n_ (d t g : Nat) (b : Bool) : AI := ⟨some d, .move (.tmp t) false, some (g, b), none⟩
abbrev c_ (d : Nat) (n : Int) : AI := ⟨some d, .move (.con (.int n)) false, none, none⟩
abbrev q_ (d : Nat) (b : Bool) : AI := ⟨some d, .move (.con (.bool b)) false, none, none⟩
abbrev f_ (d n t : Nat) : AI := ⟨some d, .faddr n (.tmp t), none, none⟩
abbrev F_ (d n t g : Nat) : AI := ⟨some d, .faddr n (.tmp t), some (g, true), none⟩
abbrev l_ (d t : Nat) : AI := ⟨some d, .load none (.tmp t) false, none, none⟩
abbrev L_ (d n t : Nat) : AI := ⟨some d, .load (some n) (.tmp t) false, none, none⟩
abbrev p_ (d a b : Nat) (c : Bool) : AI := ⟨some d, .pick (.tmp a) (.tmp b) (.con (.bool c)), none, none⟩
abbrev P_ (d a b : Nat) (c : Bool) : AI := ⟨some d, .pick (.tmp a) (.con (.bool c)) (.tmp b), none, none⟩
abbrev o_ (d : Nat) (p : LOp) : AI := ⟨some d, p, none, none⟩
abbrev g_ (d : Nat) (p : LOp) (g : Nat) : AI := ⟨some d, p, some (g, true), none⟩
abbrev r_ (d : Nat) (p : LOp) (r : Option Nat) : AI := ⟨some d, p, none, some r⟩
abbrev s_ (n a b : Nat) : AI := ⟨none, .store n (.tmp a) (.tmp b), none, none⟩
abbrev x_ (d n t : Nat) : AI := ⟨some d, .extract n (.tmp t) false, none, none⟩
abbrev a_ (d n s i : Nat) : AI := ⟨some d, .iaddrS n (.tmp s) (.tmp i), none, none⟩
abbrev e_ (d t : Nat) : AI := ⟨some d, .len (.tmp t), none, none⟩
abbrev b_ (d n t : Nat) : AI := ⟨some d, .box n (.tmp t), none, none⟩
abbrev k_ (d f : Nat) (xs : List Opd) : AI := ⟨some d, .call (.con (.fn f [] [])) xs none, none, none⟩
abbrev E_ {α : Type} [Enc α] (t : Nat) (x : α) : Nat × BM := (t, .v (.d (Enc.enc x)))
abbrev I_ (t : Nat) (x : Int) : Nat × BM := (t, .v (.d (.int x)))
abbrev B_ (t : Nat) (x : Bool) : Nat × BM := (t, .v (.d (.bool x)))
abbrev C_ {α : Type} [Enc α] (t g : Nat) (x : α) : Nat × BM := (t, .box g ((Enc.cells x).map LV.d))
abbrev N_ (t g : Nat) (x : Int) : Nat × BM := (t, .box g [.d (.int x)])
theorem bnd {α β : Type} {o : Option α} {f : α → Option β} {b : β} (h : o.bind f = some b) : ∃ a, o = some a ∧ f a = some b := Option.bind_eq_some_iff.mp h
theorem yQ {LP : BA} {ks : List ll} {J : Jmp → St → Prop} {s : St} {t : Nat} {c : Bool} {a b : Ci} {α : Type} {A B : Option α} {x : α} (r : s.raw t = some (.v (.d (.bool c)))) (k : (if c = true then A else B) = some x)
  (h1 : c = true → A = some x → Run LP ks a s J) (h2 : c = false → B = some x → Run LP ks b s J) : Run LP ks (.cond (.tmp t) a b) s J := by
 cases c with
 | true => exact mj r rfl (h1 rfl (by simpa using k))
 | false => exact mK r rfl (h2 rfl (by simpa using k))
def rs := And.intro AAm <| And.intro @Option.map_none.{0, 0} <| And.intro @Option.map_some.{0, 0} <| And.intro @List.map_cons.{0, 0} <| And.intro @List.map_nil.{0, 0} <| And.intro @if_true.{1} <| And.intro @if_false.{1} <| And.intro @and_true <| And.intro @true_and <|
 And.intro Bool.not_true <| And.intro Bool.not_false <| And.intro @Bool.true_and <| And.intro @Bool.false_and <| And.intro @Bool.true_or <| And.intro @Bool.false_or <| And.intro @List.nil_append.{0} <| And.intro @List.append_nil.{0} @List.cons_append.{0}
theorem Rg {LP : BA} {ks : List ll} {J : Jmp → St → Prop} {s : St} {B : List Nat} {ops : List AI} {keep : List Nat} {low : List Fr} (l : List (Nat × BM)) (hl : s.low = low) (hf : NoB B s)
  (h' : ∀ s', BG l s' → s'.low = low → NoB B s' → E8 LP ks .normal s' J) (hB : ops.all (opB B) = true := by rfl) (hk : l.all (fun p => keep.contains p.1) = true := by rfl)
  (h : ∃ s1, Lf.evalOps LP (om LP) s.ctr ops (s.tick ops.length) = some s1 ∧ CH l s1 ∧ s1.low = low := by simp only [rs, hl, nob hf, r, reduceCtorEq, Nat.reduceEqDiff, Nat.reduceAdd]) : Run LP ks (.ops ops keep) s J :=
 ly l hl hf hB hk h h'
end Go.Lf
