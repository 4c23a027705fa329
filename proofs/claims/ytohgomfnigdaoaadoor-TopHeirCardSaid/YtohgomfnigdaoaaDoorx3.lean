/- A part of the proof. -/
import Derived.Test.YtohgomfnigdaoaaDoorx2
set_option linter.all false
namespace Go.Lf
open Go
def Sl.unf {α : Type} : Sl α → Sl α
 | .full xs => .cold xs
 | x => x
section
variable {α : Type} [yA α]
theorem vp (x : Sl α) : x.unf.lv.copy = .d (yA.enc x) := by cases x <;> rfl
theorem bi {q : Nat} {x v : Sl α} {ys : List α} (h : x.app q ys = some v) (hy : ys ≠ []) : v.lv = v.unf.lv := by
 cases x with
 | nil => simp only [Sl.app, if_neg hy] at h; split at h <;> cases h; rfl
 | cold xs => simp only [Sl.app] at h; cases h
 | hot xs => simp only [Sl.app] at h; split at h <;> cases h; rfl
 | full xs => simp only [Sl.app, if_neg hy] at h; split at h <;> cases h; rfl
theorem qf {s : St} {t g : Nat} {cs cs' : List LV} (h : s.raw t = some (.box g cs)) (e : cs = cs') : s.raw t = some (.box g cs') := e ▸ h
variable {LP : A2} {C : AP}
theorem Eh {β : Type} : ∀ (l : List β) (i : Nat) (x : β), l[i]? = some x → l.set i x = l
 | [], i, x, h => by simp at h
 | a :: l, 0, x, h => by simp at h; simp [h]
 | a :: l, i + 1, x, h => by
  simp only [List.getElem?_cons_succ] at h
  simp [Eh l i x h]
theorem Jy (g : Nat) (r : List AH) (s : St) (d : Nat) (ro : Option (Option Nat)) (p : yV) (j t gb off : Nat) (cs cs' : List LV) (x : Sl α) (hx : cs[off]? = some x.unf.lv) (hc : cs.set off (.d (yA.enc x)) = cs')
  (hp : s.val LP p = .ptr j t gb off) (hj : j = s.low.length) (hr : Ao s.low.length ro (some (LV.ptr j t gb off)) = true) (hb : s.raw t = some (.box gb cs)) (hd : s.free d = true) (hdt : ¬ t = d) :
  evalOps LP C g (⟨some d, .load none p true, none, ro⟩ :: r) s = evalOps LP C (g + 1) r ((s.upd t (.box gb cs')).upd d (.v x.unf.lv)) := by
 subst hj hc
 have hcl : s.cells s.low.length t gb = some cs := by rw [I1, hb]; simp
 have hd2 : ∀ y, (s.upd t y).free d = true := fun y => by rw [J9, if_neg hdt]; exact hd
 have hs : ∀ y, s.setAt s.low.length t y = s.upd t y := fun y => RF s t y
 simp only [evalOps, Ai, yE.addr, Option.map_some, hp, hr, if_true, evalOp, hcl, hx]
 cases x with
 | hot xs =>
  have e2 : yA.enc (Sl.hot xs) = .slice (yA.n α) (xs.map yA.enc) := rfl
  simp only [Sl.unf, Sl.lv, hs, e2, FW _ (hd2 _)]
 | nil =>
  have e3 : cs.set off (.d (yA.enc (Sl.nil : Sl α))) = cs := Eh _ _ _ hx
  rw [e3, EN s t _ hb]
  simp only [Sl.unf, Sl.lv, part, hx, Option.map_some, LV.copy, FW _ hd]
 | cold xs =>
  have e3 : cs.set off (.d (yA.enc (Sl.cold xs))) = cs := Eh _ _ _ hx
  rw [e3, EN s t _ hb]
  simp only [Sl.unf, Sl.lv, part, hx, Option.map_some, LV.copy, FW _ hd]
 | full xs =>
  have e3 : cs.set off (.d (yA.enc (Sl.full xs))) = cs := Eh _ _ _ hx
  rw [e3, EN s t _ hb]
  simp only [Sl.unf, Sl.lv, part, hx, Option.map_some, LV.copy, FW _ hd]
theorem rE (g : Nat) (r : List AH) (s : St) (d : Nat) (p : yV) (j t gb off : Nat) (cs cs' : List LV) (x : Sl α) (hx : cs[off]? = some x.unf.lv) (hc : cs.set off (.d (yA.enc x)) = cs')
  (hp : s.val LP p = .ptr j t gb off) (hj : j < s.low.length) (hb : IQ s.low j t = some (.box gb cs)) (hd : s.free d = true) :
  evalOps LP C g (⟨some d, .load none p true, none, none⟩ :: r) s = evalOps LP C (g + 1) r ((s.setL j t (.box gb cs')).upd d (.v x.unf.lv)) := by
 subst hc
 have hcl : s.cells j t gb = some cs := by rw [LX hj, hb]; simp
 have hr : Ao s.low.length none (some (LV.ptr j t gb off)) = true := rfl
 have hd2 : ∀ y, (s.setL j t y).free d = true := fun y => hd
 simp only [evalOps, Ai, yE.addr, Option.map_some, hp, hr, if_true, evalOp, hcl, hx]
 cases x with
 | hot xs =>
  have e2 : yA.enc (Sl.hot xs) = .slice (yA.n α) (xs.map yA.enc) := rfl
  simp only [Sl.unf, Sl.lv, K0 s j t _ hj, e2, FW _ (hd2 _)]
 | nil =>
  have e3 : cs.set off (.d (yA.enc (Sl.nil : Sl α))) = cs := Eh _ _ _ hx
  have e4 : s.setL j t (.box gb cs) = s := by simp only [St.setL, Ht hb]
  rw [e3, e4]
  simp only [Sl.unf, Sl.lv, part, hx, Option.map_some, LV.copy, FW _ hd]
 | cold xs =>
  have e3 : cs.set off (.d (yA.enc (Sl.cold xs))) = cs := Eh _ _ _ hx
  have e4 : s.setL j t (.box gb cs) = s := by simp only [St.setL, Ht hb]
  rw [e3, e4]
  simp only [Sl.unf, Sl.lv, part, hx, Option.map_some, LV.copy, FW _ hd]
 | full xs =>
  have e3 : cs.set off (.d (yA.enc (Sl.full xs))) = cs := Eh _ _ _ hx
  have e4 : s.setL j t (.box gb cs) = s := by simp only [St.setL, Ht hb]
  rw [e3, e4]
  simp only [Sl.unf, Sl.lv, part, hx, Option.map_some, LV.copy, FW _ hd]
end
section
variable {LP : A2} {C : AP}
theorem uQ (g : Nat) (r : List AH) (s : St) (d : Nat) (ro : Option (Option Nat)) (p : yV) (j t gb off : Nat) (cs : List LV) (v : DV) (hx : cs[off]? = some (.d v))
  (hp : s.val LP p = .ptr j t gb off) (hj : j = s.low.length) (hr : Ao s.low.length ro (some (LV.ptr j t gb off)) = true) (hb : s.raw t = some (.box gb cs)) :
  evalOps LP C g (⟨some d, .load none p true, none, ro⟩ :: r) s = G0 LP C (g + 1) r s (some d) (some (.d v)) := by
 subst hj
 have hcl : s.cells s.low.length t gb = some cs := by rw [I1, hb]; simp
 simp only [evalOps, Ai, yE.addr, Option.map_some, hp, hr, if_true, evalOp, hcl, hx, part, LV.copy, G0, Option.map_some]
 cases s.put (some d) (.d v) <;> rfl
theorem rP (g : Nat) (r : List AH) (s : St) (d : Nat) (p : yV) (j t gb off : Nat) (cs : List LV) (v : DV) (hx : cs[off]? = some (.d v))
  (hp : s.val LP p = .ptr j t gb off) (hj : j < s.low.length) (hb : IQ s.low j t = some (.box gb cs)) :
  evalOps LP C g (⟨some d, .load none p true, none, none⟩ :: r) s = G0 LP C (g + 1) r s (some d) (some (.d v)) := by
 have hcl : s.cells j t gb = some cs := by rw [LX hj, hb]; simp
 have hr : Ao s.low.length none (some (LV.ptr j t gb off)) = true := rfl
 simp only [evalOps, Ai, yE.addr, Option.map_some, hp, hr, if_true, evalOp, hcl, hx, part, LV.copy, G0, Option.map_some]
 cases s.put (some d) (.d v) <;> rfl
end
section
variable {LP : A2} {C : AP} {β : Type} [yA β]
theorem YI (g : Nat) (r : List AH) (s : St) (n j t gm u : Nat) (m i : yV) (key : List Int) (es : List (List Int × Sl β)) (z a : Sl β)
  (hm : s.val LP m = .mref j t gm) (hj : j < s.low.length) (hi : s.val LP i = .d (.int (G1 es key))) (hv : s.raw u = some (.v a.lv)) (he : IQ s.low j t = some (.mapo gm n (Ds (E9 z GI.coolE es key)))) :
  evalOps LP C g (⟨none, .mstore n m i (.tmp u), none, none⟩ :: r) s = evalOps LP C (g + 1) r ((s.upd u (.v a.spent.lv)).setL j t (.mapo gm n (Ds (EM es key a)))) :=
 bO g r s n j t gm u m i key es z a hm hj hi hv he
theorem SY (g : Nat) (r : List AH) (s : St) (tt : Option Nat) (ro : Option (Option Nat)) (n t gm u : Nat) (m i : yV) (key : List Int) (es : List (List Int × Sl β)) (z a : Sl β)
  (hm : s.val LP m = .mref s.low.length t gm) (hr : Ao s.low.length ro (some (.mref s.low.length t gm)) = true) (hi : s.val LP i = .d (.int (G1 es key))) (hv : s.raw u = some (.v a.lv)) (hut : u ≠ t) (he : s.raw t = some (.mapo gm n (Ds (E9 z GI.coolE es key)))) :
  evalOps LP C g (⟨tt, .mstore n m i (.tmp u), none, ro⟩ :: r) s = evalOps LP C (g + 1) r ((s.upd u (.v a.spent.lv)).upd t (.mapo gm n (Ds (EM es key a)))) :=
 eD g r s tt ro n t gm u m i key es z a hm hr hi hv hut he
end
theorem pA {α : Type} [yA α] (sz : Nat) (x : Sl α) (lo hi mx : Option LV) : It sz x.lv lo hi mx = It sz (.d (yA.enc x)) lo hi mx := by cases x <;> rfl
theorem Jg (j k t g : Nat) (h : j = k) : Ao k (some (some t)) (some (.mref j t g)) = true := by simp [Ao, h]
theorem eX (f : Nat) (a b : List DV) : aJ 1 (.d (.agg [.fn f a b])) = some [.d (.fn f a b)] := rfl
theorem js (f : Nat) (a b : List LV) : aJ 1 (.agg [.fn f a b]) = some [.fn f a b] := rfl
section
variable {LP : A2} {C : AP} {β : Type} [yA β]
theorem sE (g : Nat) (r : List AH) (s : St) (tt : Option Nat) (ro : Option (Option Nat)) (n t gm : Nat) (m k v : yV) (key : List Int) (es : List (List Int × Sl β)) (a : Sl β) (vd : DV) (hav : a.lv = .d vd)
  (hm : s.val LP m = .mref s.low.length t gm) (hr : Ao s.low.length ro (some (.mref s.low.length t gm)) = true) (hk : (s.val LP k).key n = some key) (hv : m0 s v = some (.v (.d vd))) (he : s.raw t = some (.mapo gm n (Ds es))) :
  evalOps LP C g (⟨tt, .mapset n m k v, none, ro⟩ :: r) s = evalOps LP C (g + 1) r (s.upd t (.mapo gm n (Ds (EM es key a)))) :=
 WS g r s tt ro n t gm m k v key es a vd hav hm hr hk hv he
theorem Q7 (g : Nat) (r : List AH) (s : St) (tt : Option Nat) (ro : Option (Option Nat)) (n t gm : Nat) (m k v : yV) (key : List Int) (a : Sl β) (vd : DV) (hav : a.lv = .d vd)
  (hm : s.val LP m = .mref s.low.length t gm) (hr : Ao s.low.length ro (some (.mref s.low.length t gm)) = true) (hk : (s.val LP k).key n = some key) (hv : m0 s v = some (.v (.d vd))) (he : s.raw t = some (.mapo gm n [])) :
  evalOps LP C g (⟨tt, .mapset n m k v, none, ro⟩ :: r) s = evalOps LP C (g + 1) r (s.upd t (.mapo gm n (Ds (EM [] key a)))) :=
 WS g r s tt ro n t gm m k v key [] a vd hav hm hr hk hv he
end
theorem vX (f : Nat) (a b : List DV) : part (some 1) 0 [.d (.fn f a b)] = some (.d (.agg [.fn f a b])) := rfl
def hZ (f : Nat) (a b : List LV) : Option (List DV) → Option (List DV) → LV
 | some x, some y => .d (.agg [.fn f x y])
 | _, _ => .agg [.fn f a b]
theorem vz (f : Nat) (a b : List LV) : part (some 1) 0 [.fn f a b] = some (hZ f a b (AX a) (AX b)) := by
 have : part (some 1) 0 [.fn f a b] = some (LV.norm (.agg [.fn f a b])) := rfl
 rw [this]
 simp only [LV.norm, LV.toD, AX, hZ]
 cases AX a <;> cases AX b <;> rfl
theorem qa (f : Nat) (a b : List LV) (x y : List DV) : hZ f a b (some x) (some y) = .d (.agg [.fn f x y]) := rfl
theorem rB (f : Nat) (a b : List LV) (y : Option (List DV)) : hZ f a b none y = .agg [.fn f a b] := by cases y <;> rfl
theorem qz (f : Nat) (a b : List LV) (x : Option (List DV)) : hZ f a b x none = .agg [.fn f a b] := by cases x <;> rfl
theorem jx {α : Type} [yA α] {s : St} {t : Nat} {x : Sl α} (h : s.raw t = some (.v x.spent.lv)) : Ut s (t, none) = some (.d (yA.enc x)) := by
 rw [cQ h, Rr]
theorem sG {α : Type} [yA α] {s : St} {t g : Nat} {x : Sl α} (h : s.raw t = some (.box g [x.spent.lv])) : Ut s (t, some none) = some (.d (yA.enc x)) := by
 rw [Vy h, Rr]
theorem ig (c : LV) : C4 1 0 [.d .nils] [c] = some [.d .nils] := Fb c rfl
theorem rG (c : LV) : C4 1 0 [.d .nilmap] [c] = some [.d .nilmap] := Fb c rfl
theorem lm (f : Nat) (a b : List LV) : EZ [.nilfn] [(0, 1, .fn f a b)] = some (hZ f a b (AX a) (AX b)) := by
 have : EZ [.nilfn] [(0, 1, .fn f a b)] = some (LV.norm (.agg [.fn f a b])) := rfl
 rw [this]
 simp only [LV.norm, LV.toD, AX, hZ]
 cases AX a <;> cases AX b <;> rfl
def wN (b : Bool) (x y : DV) : DV := match b with
 | true => y
 | false => x
theorem rp (x y : DV) : wN true x y = y := rfl
theorem sB (x y : DV) : wN false x y = x := rfl
def ua (i : Int) : Option Bool := if i = 0 then some false else if i = 1 then some true else none
theorem t7 {i : Int} {b : Bool} {x y : DV} (h : ua i = some b) : Ur none 1 2 (.d (.agg [x, y])) (.d (.int i)) = some (.d (wN b x y)) := by
 unfold ua at h
 split at h
 ·rename_i hi; subst hi; cases h; rfl
 ·split at h
  ·rename_i hi; subst hi; cases h; rfl
  ·cases h
abbrev t_ (t : Nat) : yV := .tmp t
abbrev i_ (n : Int) : yV := .con (.int n)
abbrev m_ (d t : Nat) : AH := ⟨some d, .move (.tmp t) false, none, none⟩
abbrev M_ (d t : Nat) : AH := ⟨some d, .move (.tmp t) true, none, none⟩
abbrev n_ (d t g : Nat) (b : Bool) : AH := ⟨some d, .move (.tmp t) false, some (g, b), none⟩
abbrev c_ (d : Nat) (n : Int) : AH := ⟨some d, .move (.con (.int n)) false, none, none⟩
abbrev q_ (d : Nat) (b : Bool) : AH := ⟨some d, .move (.con (.bool b)) false, none, none⟩
abbrev f_ (d n t : Nat) : AH := ⟨some d, .faddr n (.tmp t), none, none⟩
abbrev F_ (d n t g : Nat) : AH := ⟨some d, .faddr n (.tmp t), some (g, true), none⟩
abbrev l_ (d t : Nat) : AH := ⟨some d, .load none (.tmp t) false, none, none⟩
abbrev L_ (d n t : Nat) : AH := ⟨some d, .load (some n) (.tmp t) false, none, none⟩
abbrev p_ (d a b : Nat) (c : Bool) : AH := ⟨some d, .pick (.tmp a) (.tmp b) (.con (.bool c)), none, none⟩
abbrev P_ (d a b : Nat) (c : Bool) : AH := ⟨some d, .pick (.tmp a) (.con (.bool c)) (.tmp b), none, none⟩
abbrev o_ (d : Nat) (p : yE) : AH := ⟨some d, p, none, none⟩
abbrev g_ (d : Nat) (p : yE) (g : Nat) : AH := ⟨some d, p, some (g, true), none⟩
abbrev r_ (d : Nat) (p : yE) (r : Option Nat) : AH := ⟨some d, p, none, some r⟩
abbrev s_ (n a b : Nat) : AH := ⟨none, .store n (.tmp a) (.tmp b), none, none⟩
abbrev x_ (d n t : Nat) : AH := ⟨some d, .extract n (.tmp t) false, none, none⟩
abbrev a_ (d n s i : Nat) : AH := ⟨some d, .iaddrS n (.tmp s) (.tmp i), none, none⟩
abbrev e_ (d t : Nat) : AH := ⟨some d, .len (.tmp t), none, none⟩
abbrev b_ (d n t : Nat) : AH := ⟨some d, .box n (.tmp t), none, none⟩
abbrev k_ (d f : Nat) (xs : List yV) : AH := ⟨some d, .call (.con (.fn f [] [])) xs none, none, none⟩
abbrev E_ {α : Type} [yA α] (t : Nat) (x : α) : Nat × BL := (t, .v (.d (yA.enc x)))
abbrev I_ (t : Nat) (x : Int) : Nat × BL := (t, .v (.d (.int x)))
abbrev B_ (t : Nat) (x : Bool) : Nat × BL := (t, .v (.d (.bool x)))
abbrev C_ {α : Type} [yA α] (t g : Nat) (x : α) : Nat × BL := (t, .box g ((yA.cells x).map LV.d))
abbrev N_ (t g : Nat) (x : Int) : Nat × BL := (t, .box g [.d (.int x)])
theorem ya {α β : Type} {o : Option α} {f : α → Option β} {b : β} (h : o.bind f = some b) : ∃ a, o = some a ∧ f a = some b := Option.bind_eq_some_iff.mp h
theorem Run.ite {LP : A2} {ks : List gy} {J : xt → St → Prop} {s : St} {t : Nat} {c : Bool} {a b : C0} {α : Type} {A B : Option α} {x : α} (r : s.raw t = some (.v (.d (.bool c)))) (k : (if c = true then A else B) = some x)
  (h1 : c = true → A = some x → Run LP ks a s J) (h2 : c = false → B = some x → Run LP ks b s J) : Run LP ks (.cond (.tmp t) a b) s J := by
 cases c with
 | true => exact jB r rfl (h1 rfl (by simpa using k))
 | false => exact jT r rfl (h2 rfl (by simpa using k))
def rs := And.intro wW <| And.intro @Option.map_none.{0, 0} <| And.intro @Option.map_some.{0, 0} <| And.intro @List.map_cons.{0, 0} <| And.intro @List.map_nil.{0, 0} <| And.intro @if_true.{1} <| And.intro @if_false.{1} <| And.intro @and_true <| And.intro @true_and <|
 And.intro Bool.not_true <| And.intro Bool.not_false <| And.intro @Bool.true_and <| And.intro @Bool.false_and <| And.intro @Bool.true_or <| And.intro @Bool.false_or <| And.intro @List.nil_append.{0} <| And.intro @List.append_nil.{0} @List.cons_append.{0}
theorem Rg {LP : A2} {ks : List gy} {J : xt → St → Prop} {s : St} {B : List Nat} {ops : List AH} {keep : List Nat} {low : List Fr} (l : List (Nat × BL)) (hl : s.low = low) (hf : yT B s)
  (h' : ∀ s', Dc l s' → s'.low = low → yT B s' → Ep LP ks .normal s' J) (hB : ops.all (yY B) = true := by rfl) (hk : l.all (fun p => keep.contains p.1) = true := by rfl)
  (h : ∃ s1, Lf.evalOps LP (om LP) s.ctr ops (s.tick ops.length) = some s1 ∧ CY l s1 ∧ s1.low = low := by simp only [rs, hl, yO hf, r, reduceCtorEq, Nat.reduceEqDiff, Nat.reduceAdd]) : Run LP ks (.ops ops keep) s J :=
 i9 l hl hf hB hk h h'
end Go.Lf
namespace Go.Lf
open Go
def Nx (LP : A2) (J : xt → St → Prop) (s : St) : Nat → List gy → xt ⊕ C0 → Prop
 | 0, ks, .inr c => Run LP ks c s J
 | 0, ks, .inl j => Ep LP ks j s J
 | n + 1, ks, .inr (.seq a b) => Nx LP J s n (.seq b :: ks) (.inr a)
 | n + 1, ks, .inr (.scope a) => Nx LP J s n ks (.inr a)
 | n + 1, ks, .inr .skip => Nx LP J s n ks (.inl .normal)
 | n + 1, ks, .inr (.exit i) => Nx LP J s n ks (.inl (.exit i))
 | n + 1, ks, .inr .ret => Nx LP J s n ks (.inl .ret)
 | _ + 1, ks, .inr c => Run LP ks c s J
 | _ + 1, [], .inl j => J j s
 | n + 1, .seq c :: ks, .inl .normal => Nx LP J s n ks (.inr c)
 | n + 1, .seq _ :: ks, .inl j => Nx LP J s n ks (.inl j)
 | n + 1, .loop c :: ks, .inl .normal => Nx LP J s n ks (.inr (.loop c))
 | n + 1, .loop _ :: ks, .inl j => Nx LP J s n ks (.inl j)
 | n + 1, .block i :: ks, .inl (.exit k) => match Nat.beq k i with
  | true => Nx LP J s n ks (.inl .normal)
  | false => Nx LP J s n ks (.inl (.exit k))
 | n + 1, .block _ :: ks, .inl j => Nx LP J s n ks (.inl j)
theorem Fj {LP : A2} {J : xt → St → Prop} {s : St} : ∀ (n : Nat) (ks : List gy) (x : xt ⊕ C0), Nx LP J s n ks x → match x with | .inr c => Run LP ks c s J | .inl j => Ep LP ks j s J
 | 0, ks, .inr c, h => h
 | 0, ks, .inl j, h => h
 | n + 1, ks, .inr c, h => by
  cases c with
  | seq a b => exact Run.seq (Fj n _ _ h)
  | scope a => exact Run.scope (Fj n _ _ h)
  | skip => exact Run.skip (Fj n _ _ h)
  | exit i => exact Run.exit (Fj n _ _ h)
  | ret => exact Run.ret (Fj n _ _ h)
  | _ => exact h
 | n + 1, ks, .inl j, h => by
  cases ks with
  | nil => exact h
  | cons k ks =>
   cases k with
   | seq c => cases j with
    | normal => exact Ep.seq (Fj n _ _ h)
    | exit i => exact dH (Fj n _ _ h)
    | ret => exact ep (Fj n _ _ h)
   | loop c => cases j with
    | normal => exact Ep.loop (Fj n _ _ h)
    | exit i => exact YH (Fj n _ _ h)
    | ret => exact cw (Fj n _ _ h)
   | block i => cases j with
    | normal => exact Ep.block (Fj n _ _ h)
    | exit k =>
     simp only [Nx] at h
     by_cases e : k = i
     ·subst e
      simp only [Nat.beq_refl] at h
      exact Ep.block_exit (Fj n _ _ h)
     ·have : Nat.beq k i = false := by
       cases hb : Nat.beq k i with
       | false => rfl
       | true => exact absurd (Nat.eq_of_beq_eq_true hb) e
      rw [this] at h
      exact Ep.block_pass e (Fj n _ _ h)
    | ret => exact Ep.block_ret (Fj n _ _ h)
def St.atc (s : St) (c n : Nat) : St := { s with ctr := c + n }
theorem s9 (s : St) (c n t : Nat) : (s.atc c n).raw t = s.raw t := rfl
theorem rV (s : St) (c n t : Nat) : (s.atc c n).free t = s.free t := rfl
theorem tG (s : St) (c n : Nat) : (s.atc c n).low = s.low := rfl
theorem t3 (s : St) (c n : Nat) : (s.atc c n).ctr = c + n := rfl
abbrev IT := List (Nat × BL)
def xp (t : Nat) : Option BL → Option IT → Option IT
 | some x, some l => some ((t, x) :: l)
 | _, _ => none
def kl : List Nat → St → Option IT
 | [], _ => some []
 | t :: ts, s => xp t (s.raw t) (kl ts s)
def yQ : Option IT → List Fr → Option (IT × List Fr)
 | some l, low => some (l, low)
 | none, _ => none
def kn (keep : List Nat) : Option St → Option (IT × List Fr)
 | some s => yQ (kl keep s) s.low
 | none => none
theorem uz (s : St) : kl [] s = some [] := rfl
theorem tc (t : Nat) (ts : List Nat) (s : St) : kl (t :: ts) s = xp t (s.raw t) (kl ts s) := rfl
theorem SD (t : Nat) (x : BL) (l : IT) : xp t (some x) (some l) = some ((t, x) :: l) := rfl
theorem qo (l : IT) (low : List Fr) : yQ (some l) low = some (l, low) := rfl
theorem ta (keep : List Nat) (s : St) : kn keep (some s) = yQ (kl keep s) s.low := rfl
def yr (s : St) (t : Nat) : IT → Option BL
 | [] => s.raw t
 | (u, x) :: l => if u = t then some x else yr s t l
def lk (d : IT) : List Nat → St → Option IT
 | [], _ => some []
 | t :: ts, s => xp t (yr s t d) (lk d ts s)
theorem fF (d : IT) (s : St) : lk d [] s = some [] := rfl
theorem Xy (d : IT) (t : Nat) (ts : List Nat) (s : St) : lk d (t :: ts) s = xp t (yr s t d) (lk d ts s) := rfl
theorem Xr (s : St) (t : Nat) : yr s t [] = s.raw t := rfl
theorem SJ (s : St) (t u : Nat) (x : BL) (l : IT) : yr s t ((u, x) :: l) = if u = t then some x else yr s t l := rfl
theorem sA : ∀ {ks : List Nat} {s : St} {l : IT}, kl ks s = some l → CY l s ∧ l.all (fun p => ks.contains p.1) = true
 | [], s, l, h => by cases h; exact ⟨trivial, rfl⟩
 | t :: ts, s, l, h => by
  simp only [kl] at h
  cases hx : s.raw t with
  | none => rw [hx] at h; cases h
  | some x =>
   rw [hx] at h
   cases hl : kl ts s with
   | none => rw [hl] at h; cases h
   | some l' =>
    rw [hl] at h; cases h
    obtain ⟨h1, h2⟩ := sA hl
    refine ⟨⟨hx, h1⟩, ?_⟩
    simp only [List.all_cons, List.contains_cons, beq_self_eq_true, Bool.true_or, Bool.true_and]
    rw [List.all_eq_true] at h2 ⊢
    intro p hp
    rw [h2 p hp, Bool.or_true]
theorem gd {keep : List Nat} {LP : A2} {C : AP} {g : Nat} {o : AH} {r : List AH} {s : St} {w b : Bool} {X : Option (IT × List Fr)} (h1 : b = true → kn keep (T0 LP C g o r s w (.d (.bool true))) = X)
  (h0 : b = false → kn keep (T0 LP C g o r s w (.d (.bool false))) = X) : kn keep (T0 LP C g o r s w (.d (.bool b))) = X := by
 cases b
 ·exact h0 rfl
 ·exact h1 rfl
theorem yD {keep : List Nat} {LP : A2} {C : AP} {g : Nat} {o : AH} {r : List AH} {s : St} {w b : Bool} {X : Option (IT × List Fr)} (h1 : b = true → kn keep (T0 LP C g o r s w (.d (.bool (!b)))) = X)
  (h0 : b = false → kn keep (T0 LP C g o r s w (.d (.bool (!b)))) = X) : kn keep (T0 LP C g o r s w (.d (.bool (!b)))) = X := by
 cases b
 ·exact h0 rfl
 ·exact h1 rfl
theorem xR (a b : Bool) : (a != b) = !(a == b) := rfl
theorem tK {α : Type} [yA α] (x : Sl α) : x.lv.copy = x.spent.lv := by cases x <;> rfl
def Kq {α : Type} (o : Option α) (x : α) : Prop := o = some x
theorem kq {α : Type} {o : Option α} {x : α} (h : o = some x) : Kq o x := h
theorem yK {α β : Type} {o : Option α} {f : α → Option β} {b : β} (h : Kq (o.bind f) b) : ∃ a, o = some a ∧ Kq (f a) b := ya h
theorem oK {α : Type} {a b : α} (h : Kq (some a) b) : a = b := Option.some.inj h
theorem xf {α : Type} {c : Bool} {A B : Option α} {x : α} (k : (if c = true then A else B) = some x) : (c = true ∧ A = some x) ∨ (c = false ∧ B = some x) := by
 cases c
 ·exact .inr ⟨rfl, by simpa using k⟩
 ·exact .inl ⟨rfl, by simpa using k⟩
theorem gb {α β : Type} {A : Option α} {f : α → Option β} {b : β} {G : Prop} (h : ∀ v, A = some v → f v = some b → G) (q : A.bind f = some b) : G := by
 obtain ⟨v, h1, h2⟩ := ya q
 exact h v h1 h2
theorem gi {β : Type} {c : Bool} {A B : Option β} {b : β} {G : Prop} (h1 : c = true → A = some b → G) (h0 : c = false → B = some b → G) (q : (if c = true then A else B) = some b) : G := by
 rcases xf q with ⟨a, q⟩ | ⟨a, q⟩
 ·exact h1 a q
 ·exact h0 a q
theorem oI {α : Type} {a b : α} (h : some a = some b) : a = b := Option.some.inj h
def yN {α β : Type} (o : Option α) (F : α → β) (d : Option β) : Option β := match o with
 | some x => some (F x)
 | none => d
theorem qn {α β : Type} (x : α) (F : α → β) (d : Option β) : yN (some x) F d = some (F x) := rfl
theorem kH {α β : Type} {o : Option α} {F : α → β} {d : Option β} (h : ∀ x, o = some x → d = some (F x)) : d = yN o F d := by
 cases o with
 | none => rfl
 | some x => exact h x rfl
def ue (sz : Nat) (x i : LV) : Option LV := nc sz x i
theorem uw {α : Type} [yA α] (x : Sl α) (i : Int) (sz : Nat) (hz : yA.n α = sz) : nc sz (.d (yA.enc x)) (.d (.int i)) = yN (x.ix i) (fun a => .d (.fptr (yA.cells a) 0)) (ue sz (.d (yA.enc x)) (.d (.int i))) :=
 kH (d := nc sz (.d (yA.enc x)) (.d (.int i))) fun _ h => oR x h hz
theorem sw {α : Type} [yA α] (x : Sl α) (i : Int) (sz : Nat) (hz : yA.n α = sz) : nc sz x.lv (.d (.int i)) = yN (x.ix i) (fun a => .d (.fptr (yA.cells a) 0)) (ue sz x.lv (.d (.int i))) :=
 kH (d := nc sz x.lv (.d (.int i))) fun _ h => tZ x h hz
noncomputable def uo (LP : A2) (n : Nat) (ds : List DV) : Option LV := Iq (om LP) n ds
@[reducible] def Cq {α : Type} (LP : A2) (n : Nat) (ds : List DV) (o : Option α) (E : α → LV) : Prop := Iq (om LP) n ds = yN o E (uo LP n ds)
theorem Cq.mk {α : Type} {LP : A2} {n : Nat} {ds : List DV} {o : Option α} {E : α → DV} (h : ∀ {r}, o = some r → Fin LP n ds (E r)) : Cq LP n ds o fun x => .d (E x) :=
 kH (d := Iq (om LP) n ds) fun _ k => (h k).call
theorem wU : yA.n Int = 1 := rfl
theorem ud : yA.n Bool = 1 := rfl
theorem xe {α : Type} [yA α] : yA.n (Sl α) = 1 := rfl
theorem xY : yA.n Fv = 1 := rfl
theorem xd {α : Type} [yA α] {n : Nat} : yA.n (Mp n α) = 1 := rfl
theorem xO {α : Type} [yA α] {n : Nat} : yA.n (Ar n α) = n * yA.n α := rfl
def rt := And.intro @rs <| And.intro wU <| And.intro ud <| And.intro @xe <| And.intro xY <| And.intro @xd <| And.intro @xO <| And.intro @s9 <| And.intro @rV <| And.intro @tG <| And.intro @t3 <| And.intro @uz <| And.intro @tc <| And.intro @SD <| And.intro @qo <| And.intro @ta <| And.intro @fF <| And.intro @Xy <| And.intro @Xr <|
 And.intro @SJ <| And.intro @uw <| And.intro @sw <| And.intro @qn <| And.intro @List.length_cons.{0} <| And.intro @List.length_nil.{0} <| And.intro @aC <| And.intro @dp <| And.intro @ne_eq.{1} <| And.intro not_false_eq_true <| And.intro @qb <| And.intro @fe <| And.intro @HF <| And.intro @tK <| And.intro xR <| And.intro @DR <| And.intro @Bj <| And.intro @Q3 <| And.intro @JY <| And.intro @Ji @rR
section
variable {LP : A2} {ks : List gy} {J : xt → St → Prop} {s : St} {B : List Nat} {ops : List AH} {keep : List Nat} {low : List Fr} {l : Nat → IT}
theorem wV (hl : s.low = low) (hf : yT B s) (hB : ops.all (yY B) = true) (h : ∀ c, kn keep (Lf.evalOps LP (om LP) c ops (s.atc c ops.length)) = some (l c, low))
  (h' : ∀ c s', Dc (l c) s' → s'.low = low → yT B s' → Nx LP J s' 60 ks (.inl .normal)) : Run LP ks (.ops ops keep) s J := by
 have h0 := h s.ctr
 cases he : Lf.evalOps LP (om LP) s.ctr ops (s.atc s.ctr ops.length) with
 | none => rw [he] at h0; cases h0
 | some s1 =>
  rw [he] at h0
  simp only [kn] at h0
  cases hk : kl keep s1 with
  | none => rw [hk] at h0; cases h0
  | some l1 =>
   rw [hk] at h0
   simp only [yQ, Option.some.injEq, Prod.mk.injEq] at h0
   obtain ⟨rfl, h2⟩ := h0
   obtain ⟨h3, h4⟩ := sA hk
   exact i9 (B := B) (l s.ctr) hl hf hB h4 ⟨s1, he, h3, h2⟩ fun s' a b c => Fj 60 ks (.inl .normal) (h' s.ctr s' a b c)
theorem mC (l : IT) (hl : s.low = low) (hf : yT B s) (h : ∃ s1, Lf.evalOps LP (om LP) s.ctr ops (s.tick ops.length) = some s1 ∧ CY l s1 ∧ s1.low = low)
  (h' : ∀ s', Dc l s' → s'.low = low → yT B s' → Nx LP J s' 60 ks (.inl .normal)) (hB : ops.all (yY B) = true := by rfl) (hk : l.all (fun p => keep.contains p.1) = true := by rfl) : Run LP ks (.ops ops keep) s J :=
 i9 l hl hf hB hk h fun s' a b c => Fj 60 ks (.inl .normal) (h' s' a b c)
theorem regS {Q : List Fr → Prop} (l : IT) (hl : s.low = low) (hf : yT B s) (h : ∃ s1, Lf.evalOps LP (om LP) s.ctr ops (s.tick ops.length) = some s1 ∧ CY l s1 ∧ Q s1.low)
  (h' : ∀ s', Dc l s' → Q s'.low → yT B s' → Nx LP J s' 60 ks (.inl .normal)) (hB : ops.all (yY B) = true := by rfl) (hk : l.all (fun p => keep.contains p.1) = true := by rfl) : Run LP ks (.ops ops keep) s J :=
 qB l hl hf hB hk h fun s' a b c => Fj 60 ks (.inl .normal) (h' s' a b c)
theorem xi {t : Nat} {c : Bool} {a b : C0} (hr : s.raw t = some (.v (.d (.bool c)))) (hc : c = true) (h : Nx LP J s 60 ks (.inr a)) : Run LP ks (.cond (.tmp t) a b) s J := jB hr hc (Fj 60 ks (.inr a) h)
theorem xk {t : Nat} {c : Bool} {a b : C0} (hr : s.raw t = some (.v (.d (.bool c)))) (hc : c = false) (h : Nx LP J s 60 ks (.inr b)) : Run LP ks (.cond (.tmp t) a b) s J := jT hr hc (Fj 60 ks (.inr b) h)
theorem FI {t : Nat} {c : Bool} {a b : C0} {α : Type} {A B : Option α} {x : α} (r : s.raw t = some (.v (.d (.bool c)))) (k : Kq (if c = true then A else B) x)
  (h1 : c = true → Kq A x → Nx LP J s 60 ks (.inr a)) (h2 : c = false → Kq B x → Nx LP J s 60 ks (.inr b)) : Run LP ks (.cond (.tmp t) a b) s J :=
 Run.ite r k (fun c k => Fj 60 ks (.inr a) (h1 c k)) fun c k => Fj 60 ks (.inr b) (h2 c k)
theorem Qy {t : Nat} {c : Bool} {a b : C0} {α : Type} {A B : Option α} {x : α} (r : s.raw t = some (.v (.d (.bool (!c))))) (k : Kq (if c = true then A else B) x)
  (h1 : c = true → Kq A x → Nx LP J s 60 ks (.inr b)) (h2 : c = false → Kq B x → Nx LP J s 60 ks (.inr a)) : Run LP ks (.cond (.tmp t) a b) s J := by
 cases c with
 | true => exact jT r rfl (Fj 60 ks (.inr b) (h1 rfl (by simpa [Kq] using k)))
 | false => exact jB r rfl (Fj 60 ks (.inr a) (h2 rfl (by simpa [Kq] using k)))
theorem xZ {c : C0} {Q : xt → St → Prop} (h : Nx LP Q s 60 [] (.inr c)) (h' : ∀ j s', Q j s' → Nx LP J s' 60 ks (.inl j)) : Run LP ks c s J :=
 Run.sub (Fj 60 [] (.inr c) h) fun j s' q => Fj 60 ks (.inl j) (h' j s' q)
theorem ye {i : Nat} {c : C0} (h : Nx LP J s 60 (.block i :: ks) (.inr c)) : Run LP ks (.block i c) s J := Run.block (Fj 60 (.block i :: ks) (.inr c) h)
theorem Nx.run {c : C0} (h : Nx LP J s 60 [] (.inr c)) : Run LP [] c s J := Fj 60 [] (.inr c) h
theorem A8 {c : C0} {σ ρ : Type} {f : σ → Option (σ ⊕ ρ)} {E : σ → St → Prop} {Q : ρ → xt → St → Prop} {r : ρ} {x : σ}
  (hl : Loop f x = some r) (hs : ∀ x s out, E x s → Kq (f x) out → Nx LP (vJ E Q out) s 60 [] (.inr c)) (he : E x s) (h' : ∀ j s', Q r j s' → Nx LP J s' 60 ks (.inl j)) : Run LP ks (.loop c) s J :=
 mM (fun x s out a b => Fj 60 [] (.inr c) (hs x s out a b)) he hl fun j s' q => Fj 60 ks (.inl j) (h' j s' q)
end
theorem rZ {LP : A2} {ks : List gy} {J : xt → St → Prop} {s : St} {j : xt} (h : Nx LP J s 60 ks (.inl j)) : Ep LP ks j s J := Fj 60 ks (.inl j) h
end Go.Lf
namespace Go.Lf
open Go
section
variable {n m : Nat} {x : Ar n (Ar m Int)} {v : Ar m Int} {i k w : Int}
theorem YE (v : Ar m Int) : yA.cells v = v.l.map DV.int := SG v.l
theorem pN (v : Ar m Int) : (yA.cells v).length = m := by rw [YE, List.length_map, v.h]
theorem vl (h : x.ix i = some v) (h2 : v.ix k = some w) : Av none (0 + i.toNat * m + k.toNat * 1) (yA.cells x) = some (.int w) := by
 obtain ⟨_, hk⟩ := ii h2
 have e := hU h
 have en : yA.n (Ar m Int) = m := Nat.mul_one m
 rw [en] at e
 have e2 := CZ h2 rfl rfl
 simp only [Av, Nat.zero_add, Nat.mul_one] at e2 ⊢
 rw [← e, List.getElem?_take_of_lt hk, List.getElem?_drop] at e2
 exact e2
theorem f9 : ∀ (l : List (Ar m Int)) (a b : Nat) (v v' : Ar m Int) (y : DV), l[a]? = some v → b < m → yA.cells v' = (yA.cells v).set b y → (l.set a v').flatMap yA.cells = (l.flatMap yA.cells).set (a * m + b) y
 | [], a, b, v, v', y, h, _, _ => by simp at h
 | r :: l, 0, b, v, v', y, h, hb, hc => by
  simp only [List.getElem?_cons_zero, Option.some.injEq] at h
  subst h
  have := pN r
  simp only [List.set_cons_zero, List.flatMap_cons, Nat.zero_mul, Nat.zero_add]
  rw [List.set_append_left _ _ (by omega), hc]
 | r :: l, a + 1, b, v, v', y, h, hb, hc => by
  simp only [List.getElem?_cons_succ] at h
  have := pN r
  simp only [List.set_cons_succ, List.flatMap_cons]
  rw [List.set_append_right _ _ (by rw [this, Nat.succ_mul]; omega), f9 l a b v v' y h hb hc, this]
  congr 2
  rw [Nat.succ_mul]; omega
theorem we (h : x.ix i = some v) (h2 : v.ix k = some w) (y : Int) : C4 1 (0 + i.toNat * m + k.toNat * 1) [.d (.int y)] ((yA.cells x).map LV.d) = some ((yA.cells (x.put i (v.put k y))).map LV.d) := by
 obtain ⟨h1, h1'⟩ := ii h
 obtain ⟨h3, h3'⟩ := ii h2
 have hl : ((yA.cells x).map LV.d).length = n * m := by
  rw [List.length_map, G2.len]; show n * (m * 1) = _; rw [Nat.mul_one]
 have hlt : i.toNat * m + k.toNat < n * m := by
  have : (i.toNat + 1) * m ≤ n * m := Nat.mul_le_mul_right m h1'
  rw [Nat.succ_mul] at this; omega
 have hc : yA.cells (v.put k y) = (yA.cells v).set k.toNat (.int y) := by
  rw [YE, YE]
  show (v.l.set k.toNat y).map DV.int = _
  rw [List.map_set]
 have hx : yA.cells (x.put i (v.put k y)) = (yA.cells x).set (i.toNat * m + k.toNat) (.int y) := f9 x.l i.toNat k.toNat v _ _ (sF h) h3' hc
 simp only [C4, hl, List.length_cons, List.length_nil, Nat.zero_add, Nat.mul_one]
 rw [if_pos ⟨trivial, by omega, rfl⟩, hx, List.map_set]
 congr 1
 have hlt2 : i.toNat * m + k.toNat < ((yA.cells x).map LV.d).length := by rw [hl]; exact hlt
 rw [setCells, List.set_eq_take_append_cons_drop, if_pos hlt2]
 simp
end
open Classical in
noncomputable def xr {α : Type} [yA α] (v : Option LV) : Option α := if h : ∃ x : α, v = some (.d (yA.enc x)) then some h.choose else none
theorem wJ {α : Type} [yA α] {LP : A2} {n : Nat} {ds : List DV} : Cq LP n ds (xr (α := α) (Iq (om LP) n ds)) fun x => .d (yA.enc x) :=
 kH (d := Iq (om LP) n ds) fun x k => by
  unfold xr at k
  split at k
  ·rename_i h
   cases k
   exact h.choose_spec
  ·cases k
theorem rY {v : Option LV} {a b : Int} (h : v = some (.d (yA.enc ((a, b) : Int × Int)))) : xr (α := Int × Int) v = some (a, b) := by
 have hx : ∃ x : Int × Int, v = some (.d (yA.enc x)) := ⟨_, h⟩
 unfold xr
 rw [dif_pos hx]
 have e := h.symm.trans hx.choose_spec
 revert e
 generalize hx.choose = y
 intro e
 obtain ⟨c, d⟩ := y
 have e2 : DV.tup [.int a, .int b] = DV.tup [.int c, .int d] := LV.d.inj (Option.some.inj e)
 simp only [DV.tup.injEq, List.cons.injEq, DV.int.injEq, and_true] at e2
 rw [e2.1, e2.2]
def yP (a b : Int) : Option (LV × List Fr × Nat) → Bool
 | some (.d (.tup [.int c, .int d]), [], _) => a == c && b == d
 | _ => false
theorem qU {LP : A2} {m n : Nat} {ds : List DV} {a b : Int} (h : yP a b ((GN LP m).call n (ds.map .d) [] 0) = true) : xr (α := Int × Int) (Iq (om LP) n ds) = some (a, b) := by
 refine rY ?_
 cases he : (GN LP m).call n (ds.map .d) [] 0 with
 | none => rw [he] at h; cases h
 | some r =>
  rw [he] at h
  unfold yP at h
  split at h
  ·rename_i c d k hr
   cases hr
   simp only [Bool.and_eq_true, beq_iff_eq] at h
   obtain ⟨rfl, rfl⟩ := h
   have := OY.mpr ⟨m, he⟩
   simp only [Iq, this]
   rfl
  ·cases h
end Go.Lf
