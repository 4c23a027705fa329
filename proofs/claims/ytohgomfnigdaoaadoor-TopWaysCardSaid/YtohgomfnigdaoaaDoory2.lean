/- A part of the proof. -/
import Derived.Test.YtohgomfnigdaoaaDoory1
set_option linter.all false
namespace Go.Lf
open Go
def W (x : Int) : Int := IntKind.i64.wrap x
inductive Sl (α : Type) where
 | nil
 | cold (xs : List α)
 | hot (xs : List α)
 | full (xs : List α)
 deriving Inhabited
namespace Sl
variable {α : Type}
def l : Sl α → List α
 | nil => []
 | cold xs | hot xs | full xs => xs
def len (x : Sl α) : Int := x.l.length
def ix (x : Sl α) (i : Int) : Option α := if 0 ≤ i then x.l[i.toNat]? else none
def cool : Sl α → Sl α
 | nil => nil
 | cold xs | hot xs | full xs => cold xs
def spent : Sl α → Sl α
 | hot xs => cold xs
 | x => x
def app (q : Nat) (x : Sl α) (ys : List α) : Option (Sl α) := match x with
 | nil => if ys = [] then some nil else if KC ys.length q then some (hot ys) else none
 | cold _ => none
 | hot xs => if KC (xs.length + ys.length) q then some (hot (xs ++ ys)) else none
 | full xs => if ys = [] then some (full xs) else if KC (xs.length + ys.length) q then some (hot (xs ++ ys)) else none
def sub (x : Sl α) (lo hi : Option Int) : Option (Sl α) := match x with
 | nil => if lo.getD 0 = 0 ∧ hi.getD 0 = 0 then some nil else none
 | cold xs | hot xs | full xs => if 0 ≤ lo.getD 0 ∧ lo.getD 0 ≤ hi.getD xs.length ∧ hi.getD xs.length ≤ xs.length then some (cold ((xs.take (hi.getD xs.length).toNat).drop (lo.getD 0).toNat)) else none
def sub3 (x : Sl α) (lo : Option Int) (hi : Int) : Option (Sl α) := match x with
 | nil => if lo.getD 0 = 0 ∧ hi = 0 then some nil else none
 | cold xs | hot xs | full xs => if 0 ≤ lo.getD 0 ∧ lo.getD 0 ≤ hi ∧ hi ≤ xs.length then some (full ((xs.take hi.toNat).drop (lo.getD 0).toNat)) else none
end Sl
class Enc (α : Type) where
 n : Nat
 cells : α → List DV
 enc : α → DV
 law : ∀ x, (enc x).cells = cells x
instance : Enc Int := ⟨1, fun x => [.int x], .int, fun _ => rfl⟩
instance : Enc Bool := ⟨1, fun x => [.bool x], .bool, fun _ => rfl⟩
instance : Enc DV := ⟨1, fun x => x.cells, fun x => x, fun _ => rfl⟩
instance {α β : Type} [Enc α] [Enc β] : Enc (α × β) := ⟨1, fun x => [.tup [Enc.enc x.1, Enc.enc x.2]], fun x => .tup [Enc.enc x.1, Enc.enc x.2], fun _ => rfl⟩
section
variable {α : Type} [Enc α]
def Sl.dv : Sl α → DV
 | .nil => .nils
 | .cold xs | .hot xs | .full xs => .slice (Enc.n α) (xs.map Enc.enc)
def Sl.lv : Sl α → LV
 | .nil => .d .nils
 | .cold xs => .d (.slice (Enc.n α) (xs.map Enc.enc))
 | .hot xs => .hot (Enc.n α) (xs.map Enc.enc)
 | .full xs => .full (Enc.n α) (xs.map Enc.enc)
instance : Enc (Sl α) := ⟨1, fun x => [x.dv], Sl.dv, fun x => by cases x <;> rfl⟩
end
def St.upd (s : St) (t : Nat) (x : BQ) : St := { s with env := s.env.set t x }
def BQ.isV : BQ → Bool
 | .v _ => true
 | _ => false
def NK (k t : Nat) : BQ → LV
 | .v x => x.copy
 | .box g _ => .ptr k t g 0
 | .mapo g _ _ => .mref k t g
def St.raw (s : St) (t : Nat) : Option BQ := s.env.get t
def St.free (s : St) (t : Nat) : Bool := match s.raw t with
 | some x => x.isV
 | none => true
theorem J2 (e : Env) (t u : Nat) (x : BQ) : (e.set t x).get u = if t = u then some x else e.get u := by
 induction e with
 | nil => simp [Env.set, Env.get]
 | cons p e ih =>
  obtain ⟨v, y⟩ := p
  simp only [Env.set]
  by_cases h : v = t
  ·subst h
   simp only [if_true, Env.get]
   by_cases h2 : v = u
   ·simp [h2]
   ·simp [h2]
  ·simp only [h, if_false, Env.get]
   by_cases h2 : v = u
   ·subst h2
    simp [Ne.symm h]
   ·simp [h2, ih]
theorem An (s : St) (t u : Nat) (x : BQ) : (s.upd t x).raw u = if t = u then some x else s.raw u := J2 ..
theorem yF (low : List Fr) (ctr t : Nat) : St.raw ⟨[], low, ctr⟩ t = none := rfl
theorem lY (u : Nat) (x : BQ) (e : Env) (low : List Fr) (ctr t : Nat) : St.raw ⟨(u, x) :: e, low, ctr⟩ t = if u = t then some x else St.raw ⟨e, low, ctr⟩ t := rfl
theorem b6 (s : St) (t : Nat) (x : BQ) : (s.upd t x).low = s.low := rfl
theorem yl (s : St) (t : Nat) (x : BQ) : (s.upd t x).ctr = s.ctr := rfl
theorem KG (s : St) (t u : Nat) (x : BQ) : (s.upd t x).free u = if t = u then x.isV else s.free u := by
 simp only [St.free, An]
 by_cases h : t = u <;> simp [h]
theorem xB (low : List Fr) (ctr t : Nat) : St.free ⟨[], low, ctr⟩ t = true := rfl
theorem oh (u : Nat) (x : BQ) (e : Env) (low : List Fr) (ctr t : Nat) : St.free ⟨(u, x) :: e, low, ctr⟩ t = if u = t then x.isV else St.free ⟨e, low, ctr⟩ t := by
 simp only [St.free, lY]
 by_cases h : u = t <;> simp [h]
theorem IP (s : St) (t : Nat) : s.slot t = match s.raw t with
 | some x => NK s.low.length t x
 | none => .d .bot := by
 simp only [St.slot, St.raw]
 cases s.env.get t with
 | none => rfl
 | some x => cases x <;> rfl
theorem wh (s : St) (t u : Nat) (x : BQ) : (s.upd t x).slot u = if t = u then NK s.low.length t x else s.slot u := by
 rw [IP, IP, An, b6]
 by_cases h : t = u <;> simp [h]
theorem vy (u : Nat) (x : BQ) (e : Env) (low : List Fr) (ctr t : Nat) : St.slot ⟨(u, x) :: e, low, ctr⟩ t = if u = t then NK low.length u x else St.slot ⟨e, low, ctr⟩ t := by
 rw [IP, IP, lY]
 by_cases h : u = t <;> simp [h]
theorem QK (k t : Nat) (v : DV) : NK k t (.v (.d v)) = .d v := rfl
theorem wP (k t : Nat) (v : Int) : NK k t (.v (.d (.int v))) = .d (.int v) := rfl
theorem ea (k t j u g o : Nat) : NK k t (.v (.ptr j u g o)) = .ptr j u g o := rfl
theorem az (k t j u g : Nat) : NK k t (.v (.mref j u g)) = .mref j u g := rfl
theorem gk (k t g : Nat) (cs : List LV) : NK k t (.box g cs) = .ptr k t g 0 := rfl
theorem iE (k t g n : Nat) (es : List (List Int × LV)) : NK k t (.mapo g n es) = .mref k t g := rfl
theorem w9 (k t f : Nat) (a b : List LV) : NK k t (.v (.fn f a b)) = .fn f a b := rfl
theorem wl {α : Type} [Enc α] (k t : Nat) (x : Sl α) : (∀ xs, x ≠ .full xs) → NK k t (.v x.lv) = .d (Enc.enc x) := by
 cases x <;> simp [NK, Sl.lv, LV.copy, Enc.enc, Sl.dv]
def HF (LP : A6) (C : AS) (g : Nat) (r : List AH) (s : St) (t : Option Nat) : Option LV → Option St
 | none => none
 | some v => match s.put t v with
  | some s' => evalOps LP C g r s'
  | none => none
def oV (sz : Nat) (x i : LV) : Option LV := match Og x, Gp i with
 | some (z, xs), some i => match xs[i]? with
  | some e => if z = sz then some (.d (.fptr e.cells 0)) else none
  | none => none
 | _, _ => none
def qU (c a b : LV) : Option LV := match GU c with
 | some true => some a
 | some false => some b
 | none => none
def ln (op : BinOp) (x y : LV) : Option LV := match TI x, TI y with
 | some a, some b => (CO (binOp op 0 (.int .i64 a) (.int .i64 b))).map .d
 | _, _ => none
def vc (neg : Bool) (x y : LV) : Option LV := match GU x, GU y with
 | some a, some b => some (.d (.bool (if neg then a != b else a == b)))
 | _, _ => none
def ue (neg : Bool) (n : Nat) (x y : LV) : Option LV := match x.aggKey, y.aggKey with
 | some a, some b => if a.length = n ∧ b.length = n then some (.d (.bool (if neg then decide (a ≠ b) else decide (a = b)))) else none
 | _, _ => none
def vUn (op : UnOp) (x : LV) : Option LV := match x with
 | .d (.int a) => (CO (Op.unary op (.int .i64 a))).map .d
 | .d (.bool a) => (CO (Op.unary op (.bool a))).map .d
 | _ => none
def uD (x : LV) : Option LV := (jb x).map fun n => .d (.int n)
def vMm (isMax : Bool) (xs : List LV) : Option LV := (minmax isMax xs).map fun n => .d (.int n)
def rN (i : Nat) : Option BQ → Option LV
 | some (.v (.d (.tup cs))) => (cs[i]?).map .d
 | some (.v (.tup cs)) => (cs[i]?).map LV.copy
 | _ => none
def HS : Option LV → Option (Option Nat)
 | none => some none
 | some x => (Gp x).map some
def JC (sz : Nat) (x : LV) (lo hi mx : Option LV) : Option LV := match HS lo, HS hi, HS mx with
 | some lo, some hi, some mx => QH sz x lo hi mx
 | _, _, _ => none
def Ej (zs : List DV) (ps : List (Nat × Nat × LV)) : Option LV := (C4 ps (zs.map .d)).map fun cs => LV.norm (.agg cs)
def VR (k : Option Nat) (zs : List DV) (len : Nat) (ps : List (Nat × Nat × LV)) : Option LV :=
 match C4 ps ((List.replicate len zs).flatten.map .d) with
 | some cs => if cs.all LV.cellOk then match AZ cs with
  | some ds => ((List.range len).mapM fun i => A0 k (i * k.getD 1) ds).map fun xs => .hot (k.getD 1) xs
  | none => none else none
 | none => none
def TW (sz n : Nat) (p i : LV) : Option LV := match Gp i with
 | some i => if i < n then Jb (i * sz) p else none
 | none => none
def U8 (k : Option Nat) (sz n : Nat) (x i : LV) : Option LV := match Gp i with
 | some i => if i < n then K5 k (i * sz) x else none
 | none => none
def ik (C : AS) (f : LV) (args : List LV) : Option LV := match target f, AZ args with
 | some (f, a, b), some ds => match AZ a, AZ b with
  | some a, some b => match C.call f ((a ++ ds ++ b).map .d) [] 0 with
   | some (v, _, _) => v.toD.map .d
   | none => none
  | _, _ => none
 | _, _ => none
def an (n : Nat) (x : LV) : Option (List LV) := match x.known with
 | some cs => if cs.length = n ∧ cs.all LV.cellOk then some cs else none
 | none => none
def HZ (k : Option Nat) (off g : Nat) : Option BQ → Option LV
 | some (.box g' cs) => if g' = g then part k off cs else none
 | _ => none
def Ss (s : St) (k : Option Nat) (root : Option (Option Nat)) (p : LV) : Option LV :=
 if Au s.low.length root (some p) then match p with
  | .d (.fptr cs off) => (A0 k off cs).map .d
  | .fptr cs off => part k off cs
  | .ptr j t g off => match s.cells j t g with
   | some cs => part k off cs
   | none => none
  | _ => none
 else none
def TM (n : Nat) (ok : Bool) (z : DV) (m k : LV) : Option LV := match k.key n with
 | none => none
 | some key =>
  let out (r : Option DV) : Option LV := some (if ok then LV.norm (.tup [.d (r.getD z), .d (.bool r.isSome)]) else .d (r.getD z))
  match m with
  | .d (.fmap n' es) => if n' = n then out ((AN key es 0).map (·.2)) else none
  | .d .nilmap => out none
  | _ => none
def G9 (n off g : Nat) (xs : Option (List LV)) : Option BQ → Option BQ
 | some (.box g' cs) => match xs with
  | some xs => if g' = g then (if xs.length = n ∧ off + n ≤ cs.length ∧ xs.all LV.cellOk then some (.box g (setCells cs off xs)) else none) else none
  | none => none
 | _ => none
section
variable (LP : A6) (C : AS)
def ju (g : Nat) (r : List AH) : Option St → Option St
 | some s => evalOps LP C g r s
 | none => none
def du (g : Nat) (r : List AH) (s : St) (t : Option Nat) (x : Nat) : Option BQ → Option St
 | some (.v (.hot z xs)) => HF LP C g r (s.upd x (.v (.d (.slice z xs)))) t (some (.hot z xs))
 | _ => HF LP C g r s t (some (s.slot x))
def fV (g : Nat) (r : List AH) (s : St) (t : Option Nat) (x : Nat) (sz q : Nat) (y : LV) : Option BQ → Option St
 | some (.v (.hot z xs)) => HF LP C g r (s.upd x (.v (.d (.slice z xs)))) t (BH sz q (.hot z xs) y)
 | _ => HF LP C g r s t (BH sz q (s.slot x) y)
def I8 (g : Nat) (r : List AH) (s : St) (n : Nat) (p : LV) (x : Opd) : Option St := ju LP C g r (match p with
 | .ptr j t g' off =>
  let r := s.take LP x
  match r.2.cells j t g', r.1.known with
  | some cs, some xs => if xs.length = n ∧ off + n ≤ cs.length ∧ xs.all LV.cellOk then some (r.2.setAt j t (.box g' (setCells cs off xs))) else none
  | _, _ => none
 | _ => none)
def Tn (g : Nat) (o : AH) (r : List AH) (s : St) (w : Bool) : LV → Option St
 | .d (.bool b) => if b = w then evalOps LP C g (o :: r) s else HF LP C (g + 1) r s o.dst (some (.d .undef))
 | .d .undef => HF LP C (g + 1) r s o.dst (some (.d .undef))
 | _ => none
variable {LP C} (g : Nat) (r : List AH) (s : St) (t : Option Nat) (ro : Option (Option Nat))
theorem fK (u : Nat) (v : LV) (h : s.free u = true) : HF LP C g r s (some u) (some v) = evalOps LP C g r (s.upd u (.v v)) := by
 simp only [HF, St.put, St.free, St.raw, St.upd] at *
 cases hx : s.env.get u with
 | none => rfl
 | some x => rw [hx] at h; cases x <;> simp_all [BQ.isV]
theorem gC (v : LV) : HF LP C g r s none (some v) = evalOps LP C g r s := rfl
theorem tM : evalOps LP C g [] s = some s := rfl
theorem hO : ju LP C g r (some s) = evalOps LP C g r s := rfl
theorem BN {o : LOp} {v : Option LV} (hm : o.addr = none) (h : evalOp LP C g t o s = match v with | some v => s.put t v | none => none) :
  evalOps LP C g (⟨t, o, none, ro⟩ :: r) s = HF LP C (g + 1) r s t v := by
 have hr : Au s.low.length ro none = true := by cases ro <;> rfl
 simp only [evalOps, Am, hm, Option.map_none, hr, if_true, h]
 cases v with
 | none => rfl
 | some v => rfl
theorem lu (o : LOp) (b : Nat) (w : Bool) : evalOps LP C g (⟨t, o, some (b, w), ro⟩ :: r) s = Tn LP C g ⟨t, o, none, ro⟩ r s w (s.slot b) := by
 simp only [evalOps, Am, Tn]
 split <;> rename_i h <;> split at h <;> simp_all [HF]
 all_goals (try split at h <;> simp_all)
 all_goals (try (split <;> simp_all))
theorem kQ (o : AH) : Tn LP C g o r s true (.d (.bool true)) = evalOps LP C g (o :: r) s := rfl
theorem kt (o : AH) : Tn LP C g o r s false (.d (.bool false)) = evalOps LP C g (o :: r) s := rfl
theorem lx (o : AH) : Tn LP C g o r s true (.d (.bool false)) = HF LP C (g + 1) r s o.dst (some (.d .undef)) := rfl
theorem lU (o : AH) : Tn LP C g o r s false (.d (.bool true)) = HF LP C (g + 1) r s o.dst (some (.d .undef)) := rfl
theorem kh (o : AH) (w : Bool) : Tn LP C g o r s w (.d .undef) = HF LP C (g + 1) r s o.dst (some (.d .undef)) := by cases w <;> rfl
theorem pf (x : Opd) : evalOps LP C g (⟨t, .move x false, none, ro⟩ :: r) s = HF LP C (g + 1) r s t (some (s.val LP x)) := BN (v := some (s.val LP x)) _ _ _ _ _ rfl rfl
theorem pB (c a b : Opd) : evalOps LP C g (⟨t, .pick c a b, none, ro⟩ :: r) s = HF LP C (g + 1) r s t (qU (s.val LP c) (s.val LP a) (s.val LP b)) :=
 BN (v := qU (s.val LP c) (s.val LP a) (s.val LP b)) _ _ _ _ _ rfl (by simp only [evalOp, qU]; cases GU (s.val LP c) with | none => rfl | some b => cases b <;> rfl)
theorem tg (op : BinOp) (x y : Opd) : evalOps LP C g (⟨t, .bin op x y, none, ro⟩ :: r) s = HF LP C (g + 1) r s t (ln op (s.val LP x) (s.val LP y)) :=
 BN (v := ln op (s.val LP x) (s.val LP y)) _ _ _ _ _ rfl (by
  simp only [evalOp, ln]; cases TI (s.val LP x) with
  | none => rfl
  | some a => cases TI (s.val LP y) with
   | none => rfl
   | some b => simp only; cases CO (binOp op 0 (.int .i64 a) (.int .i64 b)) <;> rfl)
theorem tX (neg : Bool) (x y : Opd) : evalOps LP C g (⟨t, .eqb neg x y, none, ro⟩ :: r) s = HF LP C (g + 1) r s t (vc neg (s.val LP x) (s.val LP y)) :=
 BN (v := vc neg (s.val LP x) (s.val LP y)) _ _ _ _ _ rfl (by
  simp only [evalOp, vc]; cases GU (s.val LP x) with
  | none => rfl
  | some a => cases GU (s.val LP y) <;> rfl)
theorem tK (neg : Bool) (n : Nat) (x y : Opd) : evalOps LP C g (⟨t, .eqa neg n x y, none, ro⟩ :: r) s = HF LP C (g + 1) r s t (ue neg n (s.val LP x) (s.val LP y)) :=
 BN (v := ue neg n (s.val LP x) (s.val LP y)) _ _ _ _ _ rfl (by
  simp only [evalOp, ue]; cases (s.val LP x).aggKey with
  | none => rfl
  | some a => cases (s.val LP y).aggKey with
   | none => rfl
   | some b => simp only; split <;> rfl)
theorem vl (op : UnOp) (x : Opd) : evalOps LP C g (⟨t, .un op x, none, ro⟩ :: r) s = HF LP C (g + 1) r s t (vUn op (s.val LP x)) :=
 BN (v := vUn op (s.val LP x)) _ _ _ _ _ rfl (by
  simp only [evalOp, vUn]
  cases s.val LP x with
  | d v => cases v with
   | int a => simp only; cases CO (Op.unary op (.int .i64 a)) <;> rfl
   | bool a => simp only; cases CO (Op.unary op (.bool a)) <;> rfl
   | _ => rfl
  | _ => rfl)
theorem tI (x : Opd) : evalOps LP C g (⟨t, .len x, none, ro⟩ :: r) s = HF LP C (g + 1) r s t (uD (s.val LP x)) :=
 BN (v := uD (s.val LP x)) _ _ _ _ _ rfl (by simp only [evalOp, uD]; cases jb (s.val LP x) <;> rfl)
theorem vu (b : Bool) (xs : List Opd) : evalOps LP C g (⟨t, .minmax b xs, none, ro⟩ :: r) s = HF LP C (g + 1) r s t (vMm b (xs.map (s.val LP))) :=
 BN (v := vMm b (xs.map (s.val LP))) _ _ _ _ _ rfl (by simp only [evalOp, vMm]; cases minmax b (xs.map (s.val LP)) <;> rfl)
theorem sw (i x : Nat) : evalOps LP C g (⟨t, .extract i (.tmp x) false, none, ro⟩ :: r) s = HF LP C (g + 1) r s t (rN i (s.raw x)) :=
 BN (v := rN i (s.raw x)) _ _ _ _ _ rfl (by
  simp only [evalOp, St.raw]
  cases s.env.get x with
  | none => rfl
  | some y => cases y with
   | v y => cases y with
    | d y => cases y with
     | tup cs => simp only [rN]; cases cs[i]? <;> rfl
     | _ => rfl
    | tup cs => simp only [rN]; cases cs[i]? <;> rfl
    | _ => rfl
   | _ => rfl)
theorem kE (sz : Nat) (x : Opd) (lo hi mx : Option Opd) : evalOps LP C g (⟨t, .slice sz x lo hi mx, none, ro⟩ :: r) s = HF LP C (g + 1) r s t (JC sz (s.val LP x) (lo.map (s.val LP)) (hi.map (s.val LP)) (mx.map (s.val LP))) :=
 BN (v := JC sz (s.val LP x) (lo.map (s.val LP)) (hi.map (s.val LP)) (mx.map (s.val LP))) _ _ _ _ _ rfl (by
  have e : ∀ o : Option Opd, optNat (s.val LP) o = HS (o.map (s.val LP)) := fun o => by cases o <;> rfl
  simp only [evalOp, JC, e]
  cases HS (lo.map (s.val LP)) with
  | none => rfl
  | some a => cases HS (hi.map (s.val LP)) with
   | none => rfl
   | some b => cases HS (mx.map (s.val LP)) with
    | none => rfl
    | some c => simp only; cases QH sz (s.val LP x) a b c <;> rfl)
theorem ku (zs : List DV) (ps : List (Nat × Nat × Opd)) : evalOps LP C g (⟨t, .build zs ps, none, ro⟩ :: r) s = HF LP C (g + 1) r s t (Ej zs (ps.map fun p => (p.1, p.2.1, s.val LP p.2.2))) :=
 BN (v := Ej zs (ps.map fun p => (p.1, p.2.1, s.val LP p.2.2))) _ _ _ _ _ rfl (by
  simp only [evalOp, Ej]; cases C4 (ps.map fun p => (p.1, p.2.1, s.val LP p.2.2)) (zs.map .d) <;> rfl)
theorem tD (k : Option Nat) (zs : List DV) (len : Nat) (ps : List (Nat × Nat × Opd)) : evalOps LP C g (⟨t, .lit k zs len ps, none, ro⟩ :: r) s = HF LP C (g + 1) r s t (VR k zs len (ps.map fun p => (p.1, p.2.1, s.val LP p.2.2))) :=
 BN (v := VR k zs len (ps.map fun p => (p.1, p.2.1, s.val LP p.2.2))) _ _ _ _ _ rfl (by
  simp only [evalOp, VR]
  cases C4 (ps.map fun p => (p.1, p.2.1, s.val LP p.2.2)) ((List.replicate len zs).flatten.map .d) with
  | none => rfl
  | some cs =>
   simp only
   split
   ·cases AZ cs with
    | none => rfl
    | some ds => simp only; cases (List.range len).mapM fun i => A0 k (i * k.getD 1) ds <;> rfl
   ·rfl)
theorem eA (sz : Nat) (x i : Opd) : evalOps LP C g (⟨t, .iaddrS sz x i, none, ro⟩ :: r) s = HF LP C (g + 1) r s t (oV sz (s.val LP x) (s.val LP i)) :=
 BN (v := oV sz (s.val LP x) (s.val LP i)) _ _ _ _ _ rfl (by
  simp only [evalOp, oV]
  cases Og (s.val LP x) with
  | none => rfl
  | some p => cases Gp (s.val LP i) with
   | none => rfl
   | some k =>
    simp only
    cases p.2[k]? with
    | none => rfl
    | some e => simp only; split <;> rfl)
theorem d5 (sz n : Nat) (p i : Opd) : evalOps LP C g (⟨t, .iaddrA sz n p i, none, ro⟩ :: r) s = HF LP C (g + 1) r s t (TW sz n (s.val LP p) (s.val LP i)) :=
 BN (v := TW sz n (s.val LP p) (s.val LP i)) _ _ _ _ _ rfl (by
  simp only [evalOp, TW]
  cases Gp (s.val LP i) with
  | none => rfl
  | some k => simp only; split <;> rfl)
theorem mJ (k : Option Nat) (sz n : Nat) (x i : Opd) : evalOps LP C g (⟨t, .index k sz n x i, none, ro⟩ :: r) s = HF LP C (g + 1) r s t (U8 k sz n (s.val LP x) (s.val LP i)) :=
 BN (v := U8 k sz n (s.val LP x) (s.val LP i)) _ _ _ _ _ rfl (by
  simp only [evalOp, U8]
  cases Gp (s.val LP i) with
  | none => rfl
  | some m => simp only; split <;> rfl)
theorem lV (off : Nat) (p : Opd) : evalOps LP C g (⟨t, .faddr off p, none, ro⟩ :: r) s = HF LP C (g + 1) r s t (Jb off (s.val LP p)) :=
 BN (v := Jb off (s.val LP p)) _ _ _ _ _ rfl (by simp only [evalOp]; cases Jb off (s.val LP p) <;> rfl)
theorem km (k : Option Nat) (off : Nat) (x : Opd) : evalOps LP C g (⟨t, .field k off x, none, ro⟩ :: r) s = HF LP C (g + 1) r s t (K5 k off (s.val LP x)) :=
 BN (v := K5 k off (s.val LP x)) _ _ _ _ _ rfl (by simp only [evalOp]; cases K5 k off (s.val LP x) <;> rfl)
theorem oa (f : Nat) (a b : List Opd) : evalOps LP C g (⟨t, .mkfn f a b, none, ro⟩ :: r) s = HF LP C (g + 1) r s t (some (LV.norm (.fn f (a.map (s.val LP)) (b.map (s.val LP))))) :=
 BN (v := some (LV.norm (.fn f (a.map (s.val LP)) (b.map (s.val LP))))) _ _ _ _ _ rfl rfl
theorem od (f : Opd) (args : List Opd) : evalOps LP C g (⟨t, .call f args none, none, ro⟩ :: r) s = HF LP C (g + 1) r s t (ik C (s.val LP f) (args.map (s.val LP))) :=
 BN (v := ik C (s.val LP f) (args.map (s.val LP))) _ _ _ _ _ rfl (by
  simp only [evalOp, ik]
  split
  ·rename_i f' a b ds h1 h2
   simp only [h1, h2]
   cases AZ a with
   | none => rfl
   | some a => cases AZ b with
    | none => rfl
    | some b =>
     simp only
     cases C.call f' (List.map LV.d (a ++ ds ++ b)) [] 0 with
     | none => rfl
     | some p => obtain ⟨v, x, y⟩ := p; simp only; cases v.toD <;> rfl
  ·rename_i h
   cases h1 : target (s.val LP f) with
   | none => rfl
   | some p => cases h2 : AZ (args.map (s.val LP)) with
    | none => rfl
    | some ds => exact absurd h2 (h _ _ _ _ h1))
theorem kW (u : Nat) (zs : List DV) : evalOps LP C g (⟨some u, .alloc zs, none, ro⟩ :: r) s = evalOps LP C (g + 1) r (s.upd u (.box g (zs.map .d))) := by
 have hr : Au s.low.length ro none = true := by cases ro <;> rfl
 simp only [evalOps, Am, LOp.addr, Option.map_none, hr, if_true, evalOp, St.upd]
theorem tW (u n : Nat) (x : Opd) : evalOps LP C g (⟨some u, .box n x, none, ro⟩ :: r) s = ju LP C (g + 1) r ((an n (s.val LP x)).map fun cs => s.upd u (.box g cs)) := by
 have hr : Au s.low.length ro none = true := by cases ro <;> rfl
 simp only [evalOps, Am, LOp.addr, Option.map_none, hr, if_true, evalOp, an]
 cases (s.val LP x).known with
 | none => rfl
 | some cs =>
  simp only
  by_cases h : cs.length = n ∧ cs.all LV.cellOk = true
  ·simp only [if_pos h]; rfl
  ·simp only [if_neg h]; rfl
theorem lW (u n : Nat) : evalOps LP C g (⟨some u, .mkmap n, none, ro⟩ :: r) s = evalOps LP C (g + 1) r (s.upd u (.mapo g n [])) := by
 have hr : Au s.low.length ro none = true := by cases ro <;> rfl
 simp only [evalOps, Am, LOp.addr, Option.map_none, hr, if_true, evalOp, St.upd]
theorem qE (k : Option Nat) (p : Opd) : evalOps LP C g (⟨t, .load k p false, none, ro⟩ :: r) s = HF LP C (g + 1) r s t (Ss s k ro (s.val LP p)) := by
 have e : Am LP C g ⟨t, .load k p false, none, ro⟩ s = if Au s.low.length ro (some (s.val LP p)) = true then evalOp LP C g t (.load k p false) s else none := rfl
 simp only [evalOps, e, Ss]
 by_cases h : Au s.low.length ro (some (s.val LP p)) = true
 case neg => rw [if_neg h, if_neg h]; rfl
 case pos =>
  rw [if_pos h, if_pos h]
  simp only [evalOp]
  cases s.val LP p with
  | d v => cases v with
   | fptr cs off => simp only; cases A0 k off cs <;> rfl
   | _ => rfl
  | fptr cs off => simp only; cases part k off cs <;> rfl
  | ptr j t' g' off => simp only; cases s.cells j t' g' with
   | none => rfl
   | some cs => simp only; cases part k off cs <;> rfl
  | _ => rfl
theorem lL (n : Nat) (p x : Opd) (h : Au s.low.length ro (some (s.val LP p)) = true) : evalOps LP C g (⟨t, .store n p x, none, ro⟩ :: r) s = I8 LP C (g + 1) r s n (s.val LP p) x := by
 simp only [evalOps, Am, LOp.addr, Option.map_some, h, if_true, evalOp, I8]
 cases s.val LP p with
 | ptr j t' g' off =>
  simp only
  cases (s.take LP x).2.cells j t' g' with
  | none => rfl
  | some cs => cases (s.take LP x).1.known with
   | none => rfl
   | some xs =>
    simp only
    by_cases hc : xs.length = n ∧ off + n ≤ cs.length ∧ xs.all LV.cellOk = true
    ·simp only [if_pos hc, ju]
    ·simp only [if_neg hc, ju]
 | _ => rfl
def rF (s : St) (n : Nat) (ok : Bool) (z : DV) (ro : Option (Option Nat)) (m k : LV) : Option LV :=
 if Au s.low.length ro (some m) then match m with
  | .mref j t g' => match k.key n with
   | none => none
   | some key => match s.entries j t g' n with
    | some es => some (if ok then LV.norm (.tup [((AN key es 0).map fun p => p.2.copy).getD (.d z), .d (.bool (AN key es 0).isSome)]) else ((AN key es 0).map fun p => p.2.copy).getD (.d z))
    | none => none
  | m => TM n ok z m k
 else none
theorem iO (n : Nat) (m k : Opd) (ok : Bool) (z : DV) : evalOps LP C g (⟨t, .lookup n m k ok z, none, ro⟩ :: r) s = HF LP C (g + 1) r s t (rF s n ok z ro (s.val LP m) (s.val LP k)) := by
 have e : Am LP C g ⟨t, .lookup n m k ok z, none, ro⟩ s = if Au s.low.length ro (some (s.val LP m)) = true then evalOp LP C g t (.lookup n m k ok z) s else none := rfl
 simp only [evalOps, e, rF]
 by_cases h : Au s.low.length ro (some (s.val LP m)) = true
 case neg => rw [if_neg h, if_neg h]; rfl
 case pos =>
  rw [if_pos h, if_pos h]
  simp only [evalOp]
  cases hk : (s.val LP k).key n with
  | none => cases s.val LP m <;> simp only [TM, hk] <;> rfl
  | some key => cases hm : s.val LP m with
   | mref j t' g' =>
    simp only
    cases s.entries j t' g' n with
    | none => rfl
    | some es => simp only; cases AN key es 0 <;> cases ok <;> rfl
   | d v => cases v with
    | fmap n' es =>
     simp only [TM, hk]
     by_cases hn : n' = n
     ·simp only [if_pos hn]; cases AN key es 0 <;> cases ok <;> rfl
     ·simp only [if_neg hn]; rfl
    | nilmap => simp only [TM, hk]; cases ok <;> rfl
    | _ => simp only [TM, hk]; rfl
   | _ => simp only [TM, hk]; rfl
theorem mO (x : Nat) : evalOps LP C g (⟨t, .move (.tmp x) true, none, ro⟩ :: r) s = du LP C (g + 1) r s t x (s.raw x) := by
 have hr : Au s.low.length ro none = true := by cases ro <;> rfl
 simp only [evalOps, Am, LOp.addr, Option.map_none, hr, if_true, evalOp, St.take, du, St.raw]
 cases s.env.get x with
 | none => rfl
 | some y => cases y with
  | v y => cases y <;> rfl
  | _ => rfl
theorem nT (x : Nat) (z : Nat) (xs : List DV) (y : Opd) (h : s.env.get x = some (.v (.hot z xs))) : ({ s with env := s.env.set x (.v (.d (.slice z xs))) } : St).val LP y = s.val LP y := by
 cases y with
 | tmp u =>
  simp only [St.val, St.slot, J2]
  by_cases hu : x = u
  ·subst hu; simp [h, LV.copy]
  ·simp only [hu, if_false]
 | con v => rfl
 | glob v => rfl
theorem eP (sz q x : Nat) (y : Opd) : evalOps LP C g (⟨t, .append sz q (.tmp x) y, none, ro⟩ :: r) s = fV LP C (g + 1) r s t x sz q (s.val LP y) (s.raw x) := by
 have hr : Au s.low.length ro none = true := by cases ro <;> rfl
 simp only [evalOps, Am, LOp.addr, Option.map_none, hr, if_true, evalOp, St.take, fV, St.raw]
 cases he : s.env.get x with
 | none => simp only; cases BH sz q (s.slot x) (s.val LP y) <;> rfl
 | some z => cases z with
  | v z => cases z with
   | hot z xs => simp only [nT s x z xs y he]; cases BH sz q (.hot z xs) (s.val LP y) <;> rfl
   | _ => simp only; cases BH sz q (s.slot x) (s.val LP y) <;> rfl
  | _ => simp only; cases BH sz q (s.slot x) (s.val LP y) <;> rfl
end
section
variable (LP : A6)
open Classical in
noncomputable def om : AS where
 call f args low ctr := if h : ∃ r, ∃ n, (Gm LP n).call f args low ctr = some r then some h.choose else none
 round j g args low ctr := if h : ∃ r, ∃ n, (Gm LP n).round j g args low ctr = some r then some h.choose else none
variable {LP}
theorem Oe {f : Nat} {args : List LV} {low : List Fr} {ctr : Nat} {r : LV × List Fr × Nat} : (om LP).call f args low ctr = some r ↔ ∃ n, (Gm LP n).call f args low ctr = some r := by
 constructor
 ·intro h
  simp only [om] at h
  split at h
  ·rename_i h'
   simp only [Option.some.injEq] at h
   exact h ▸ h'.choose_spec
  ·simp at h
 ·intro h
  have h' : ∃ r, ∃ n, (Gm LP n).call f args low ctr = some r := ⟨r, h⟩
  simp only [om, dif_pos h', Option.some.injEq]
  obtain ⟨n, hn⟩ := h'.choose_spec
  obtain ⟨m, hm⟩ := h
  have h1 := (Fa LP (Nat.le_max_left n m)).1 _ _ _ _ _ hn
  have h2 := (Fa LP (Nat.le_max_right n m)).1 _ _ _ _ _ hm
  rw [h1] at h2
  exact Option.some.inj h2
theorem mA {j g : Nat} {args : List LV} {low : List Fr} {ctr : Nat} {r : Bool × List Fr × Nat} : (om LP).round j g args low ctr = some r ↔ ∃ n, (Gm LP n).round j g args low ctr = some r := by
 constructor
 ·intro h
  simp only [om] at h
  split at h
  ·rename_i h'
   simp only [Option.some.injEq] at h
   exact h ▸ h'.choose_spec
  ·simp at h
 ·intro h
  have h' : ∃ r, ∃ n, (Gm LP n).round j g args low ctr = some r := ⟨r, h⟩
  simp only [om, dif_pos h', Option.some.injEq]
  obtain ⟨n, hn⟩ := h'.choose_spec
  obtain ⟨m, hm⟩ := h
  have h1 := (Fa LP (Nat.le_max_left n m)).2 _ _ _ _ _ _ hn
  have h2 := (Fa LP (Nat.le_max_right n m)).2 _ _ _ _ _ _ hm
  rw [h1] at h2
  exact Option.some.inj h2
theorem iT {g : Nat} {dst : Option Nat} {o : LOp} {s s' : St} (h : evalOp LP (om LP) g dst o s = some s') : ∃ n, evalOp LP (Gm LP n) g dst o s = some s' := by
 cases o with
 | call f args vis =>
  cases vis with
  | none =>
   simp only [evalOp] at h
   split at h
   ·rename_i f' a b ds h1 h2
    split at h
    ·rename_i a' b' h3 h4
     split at h
     ·rename_i v x y h5
      obtain ⟨n, hn⟩ := Oe.mp h5
      refine ⟨n, ?_⟩
      simp only [evalOp, h1, h2, h3, h4, hn]
      exact h
     ·simp at h
    ·simp at h
   ·simp at h
  | some vis =>
   have key : ∀ fv, s.val LP f = fv → (∀ j g', fv ≠ .yield j g') → ∃ n, evalOp LP (Gm LP n) g dst (.call f args (some vis)) s = some s' := by
    intro fv hf hy
    have e : ∀ C, evalOp LP C g dst (.call f args (some vis)) s = match target fv with
      | some (f, a, b) => match C.call f (a ++ args.map (s.val LP) ++ b) (s.low ++ [{ env := s.env.keep vis, loop := none }]) s.ctr with
       | some (v, low', c') => match low'.getLast? with
        | some fr => if low'.length = s.low.length + 1 then ({ env := Env.merge vis s.env fr.env, low := low'.dropLast, ctr := c' } : St).put dst v else none
        | none => none
       | none => none
      | none => none := by
     intro C
     simp only [evalOp, hf]
     cases fv with
     | yield j g' => exact absurd rfl (hy j g')
     | _ => rfl
    rw [e] at h
    split at h
    ·rename_i f' a b ht
     split at h
     ·rename_i v low' c' h5
      obtain ⟨n, hn⟩ := Oe.mp h5
      refine ⟨n, ?_⟩
      rw [e]
      simp only [ht, hn]
      exact h
     ·simp at h
    ·simp at h
   cases hf : s.val LP f with
   | yield j g' =>
    simp only [evalOp, hf] at h
    split at h
    ·rename_i b low' c' h5
     obtain ⟨n, hn⟩ := mA.mp h5
     refine ⟨n, ?_⟩
     simp only [evalOp, hf, hn]
     exact h
    ·simp at h
   | _ => exact key _ hf (by intro j g' e; cases e)
 | move x t => exact ⟨0, by cases t <;> exact h⟩
 | _ => exact ⟨0, h⟩
theorem jf {g : Nat} {o : AH} {s s' : St} (h : Am LP (om LP) g o s = some s') : ∃ n, Am LP (Gm LP n) g o s = some s' := by
 obtain ⟨dst, op, guard, root⟩ := o
 cases guard with
 | none =>
  simp only [Am] at h ⊢
  by_cases hr : Au s.low.length root (op.addr.map (s.val LP)) = true
  ·simp only [hr, if_true] at h ⊢
   exact iT h
  ·simp only [hr] at h
   simp at h
 | some p =>
  obtain ⟨t, w⟩ := p
  simp only [Am] at h ⊢
  split at h
  ·rename_i b hb
   by_cases hw : b = w
   ·simp only [hw, if_true] at h ⊢
    by_cases hr : Au s.low.length root (op.addr.map (s.val LP)) = true
    ·simp only [hr, if_true] at h ⊢
     exact iT h
    ·simp only [hr] at h
     simp at h
   ·simp only [hw, if_false] at h ⊢
    exact ⟨0, h⟩
  ·exact ⟨0, h⟩
  ·simp at h
theorem PN : ∀ {ops : List AH} {g : Nat} {s s' : St}, evalOps LP (om LP) g ops s = some s' → Ix LP g ops s s'
 | [], g, s, s', h => by
  simp only [evalOps, Option.some.injEq] at h
  subst h; exact .nil
 | o :: r, g, s, s', h => by
  simp only [evalOps] at h
  split at h
  ·rename_i s1 h1
   exact .cons (jf h1) (PN h)
  ·simp at h
end
inductive ia where
 | seq (c : DC)
 | block (id : Nat)
 | loop (c : DC)
section
variable (LP : A6)
def E4 : List ia → Jmp → St → (Jmp → St → Prop) → Prop
 | [], j, s, J => J j s
 | .seq c :: ks, j, s, J => if j = .normal then ∃ j' s', Ag LP c s j' s' ∧ E4 ks j' s' J else E4 ks j s J
 | .block id :: ks, j, s, J => if j = .exit id then E4 ks .normal s J else E4 ks j s J
 | .loop c :: ks, j, s, J => if j = .normal then ∃ j' s', Ag LP (.loop c) s j' s' ∧ E4 ks j' s' J else E4 ks j s J
def Run (ks : List ia) (c : DC) (s : St) (J : Jmp → St → Prop) : Prop := ∃ j s', Ag LP c s j s' ∧ E4 LP ks j s' J
variable {LP} {ks : List ia} {s s' : St} {J : Jmp → St → Prop} {a b c : DC}
theorem E4.nil {j : Jmp} (h : J j s) : E4 LP [] j s J := h
theorem E4.seq (h : Run LP ks c s J) : E4 LP (.seq c :: ks) .normal s J := by simp only [E4, if_true]; exact h
theorem cS {i : Nat} (h : E4 LP ks (.exit i) s J) : E4 LP (.seq c :: ks) (.exit i) s J := by simp only [E4, reduceCtorEq, if_false]; exact h
theorem ek (h : E4 LP ks .ret s J) : E4 LP (.seq c :: ks) .ret s J := by simp only [E4, reduceCtorEq, if_false]; exact h
theorem E4.loop (h : Run LP ks (.loop c) s J) : E4 LP (.loop c :: ks) .normal s J := by simp only [E4, if_true]; exact h
theorem Yl {i : Nat} (h : E4 LP ks (.exit i) s J) : E4 LP (.loop c :: ks) (.exit i) s J := by simp only [E4, reduceCtorEq, if_false]; exact h
theorem bI (h : E4 LP ks .ret s J) : E4 LP (.loop c :: ks) .ret s J := by simp only [E4, reduceCtorEq, if_false]; exact h
theorem E4.block {id : Nat} (h : E4 LP ks .normal s J) : E4 LP (.block id :: ks) .normal s J := by simp only [E4, reduceCtorEq, if_false]; exact h
theorem E4.block_exit {id : Nat} (h : E4 LP ks .normal s J) : E4 LP (.block id :: ks) (.exit id) s J := by simp only [E4, if_true]; exact h
theorem E4.block_pass {id i : Nat} (hi : i ≠ id) (h : E4 LP ks (.exit i) s J) : E4 LP (.block id :: ks) (.exit i) s J := by simp only [E4, Jmp.exit.injEq, hi, if_false]; exact h
theorem E4.block_ret {id : Nat} (h : E4 LP ks .ret s J) : E4 LP (.block id :: ks) .ret s J := by simp only [E4, reduceCtorEq, if_false]; exact h
theorem Run.skip (h : E4 LP ks .normal s J) : Run LP ks .skip s J := ⟨_, _, .skip, h⟩
theorem Run.exit {i : Nat} (h : E4 LP ks (.exit i) s J) : Run LP ks (.exit i) s J := ⟨_, _, .exit, h⟩
theorem Run.ret (h : E4 LP ks .ret s J) : Run LP ks .ret s J := ⟨_, _, .ret, h⟩
theorem Run.seq (h : Run LP (.seq b :: ks) a s J) : Run LP ks (.seq a b) s J := by
 obtain ⟨j, s', h1, h2⟩ := h
 by_cases hj : j = .normal
 ·subst hj
  simp only [E4, if_true] at h2
  obtain ⟨j', s'', h3, h4⟩ := h2
  exact ⟨j', s'', .seq h1 h3, h4⟩
 ·simp only [E4, hj, if_false] at h2
  exact ⟨j, s', .seq_jump h1 hj, h2⟩
theorem Run.block {id : Nat} (h : Run LP (.block id :: ks) c s J) : Run LP ks (.block id c) s J := by
 obtain ⟨j, s', h1, h2⟩ := h
 cases j with
 | normal => simp only [E4, reduceCtorEq, if_false] at h2; exact ⟨_, _, .block h1, h2⟩
 | ret => simp only [E4, reduceCtorEq, if_false] at h2; exact ⟨_, _, .block_ret h1, h2⟩
 | exit i =>
  by_cases hi : i = id
  ·subst hi; simp only [E4, if_true] at h2; exact ⟨_, _, .block_exit h1, h2⟩
  ·simp only [E4, Jmp.exit.injEq, hi, if_false] at h2; exact ⟨_, _, .block_pass h1 hi, h2⟩
theorem Run.scope (h : Run LP ks c s J) : Run LP ks (.scope c) s J := by
 obtain ⟨j, s', h1, h2⟩ := h
 exact ⟨j, s', .scope h1, h2⟩
theorem Run.cond {x : Opd} {v : Bool} (hv : s.val LP x = .d (.bool v)) (h : Run LP ks (if v = true then a else b) s J) : Run LP ks (.cond x a b) s J := by
 obtain ⟨j, s', h1, h2⟩ := h
 exact ⟨j, s', .cond (c := v) (by rw [hv]; rfl) h1, h2⟩
theorem Run.condT {x : Opd} (hv : s.val LP x = .d (.bool true)) (h : Run LP ks a s J) : Run LP ks (.cond x a b) s J := Run.cond hv h
theorem Run.condF {x : Opd} (hv : s.val LP x = .d (.bool false)) (h : Run LP ks b s J) : Run LP ks (.cond x a b) s J := Run.cond hv h
def sV (keep : List Nat) : Option St → Option (Env × List Fr)
 | some s => some (s.env.keep keep, s.low)
 | none => none
theorem Run.ops {ops : List AH} {keep : List Nat} {e e' : Env} {low low' : List Fr} {ctr : Nat} (h : sV keep (evalOps LP (om LP) ctr ops ⟨e, low, ctr + ops.length⟩) = some (e', low'))
  (h' : ∀ ctr', E4 LP ks .normal ⟨e', low', ctr'⟩ J) : Run LP ks (.ops ops keep) ⟨e, low, ctr⟩ J := by
 cases he : evalOps LP (om LP) ctr ops ⟨e, low, ctr + ops.length⟩ with
 | none => rw [he] at h; simp [sV] at h
 | some s' =>
  rw [he] at h
  simp only [sV, Option.some.injEq, Prod.mk.injEq] at h
  obtain ⟨rfl, rfl⟩ := h
  exact ⟨.normal, { s' with env := s'.env.keep keep }, .ops (PN he), h' s'.ctr⟩
theorem qN (h : Run LP (.loop c :: ks) c s J) : Run LP ks (.loop c) s J := by
 obtain ⟨j, s', h1, h2⟩ := h
 by_cases hj : j = .normal
 ·subst hj
  simp only [E4, if_true] at h2
  obtain ⟨j', s'', h3, h4⟩ := h2
  exact ⟨j', s'', .loop h1 h3, h4⟩
 ·simp only [E4, hj, if_false] at h2
  exact ⟨j, s', .loop_jump h1 hj, h2⟩
end
def turns {σ ρ : Type} (f : σ → Option (σ ⊕ ρ)) : Nat → σ → Option ρ
 | 0, _ => none
 | n + 1, x => match f x with
  | none => none
  | some (.inr r) => some r
  | some (.inl x') => turns f n x'
theorem cm {σ ρ : Type} {f : σ → Option (σ ⊕ ρ)} : ∀ {n m : Nat} {x : σ} {r : ρ}, n ≤ m → turns f n x = some r → turns f m x = some r
 | 0, _, _, _, _, h => by simp [turns] at h
 | n + 1, 0, _, _, hm, _ => by omega
 | n + 1, m + 1, x, r, hm, h => by
  simp only [turns] at h ⊢
  split at h
  ·simp at h
  ·exact h
  ·exact cm (by omega) h
open Classical in
noncomputable def Loop {σ ρ : Type} (f : σ → Option (σ ⊕ ρ)) (x : σ) : Option ρ := if h : ∃ r, ∃ n, turns f n x = some r then some h.choose else none
theorem PH {σ ρ : Type} {f : σ → Option (σ ⊕ ρ)} {x : σ} {r : ρ} : Loop f x = some r ↔ ∃ n, turns f n x = some r := by
 constructor
 ·intro h
  simp only [Loop] at h
  split at h
  ·rename_i h'
   simp only [Option.some.injEq] at h
   exact h ▸ h'.choose_spec
  ·simp at h
 ·intro h
  have h' : ∃ r, ∃ n, turns f n x = some r := ⟨r, h⟩
  simp only [Loop, dif_pos h', Option.some.injEq]
  obtain ⟨n, hn⟩ := h'.choose_spec
  obtain ⟨m, hm⟩ := h
  have h1 := cm (Nat.le_max_left n m) hn
  have h2 := cm (Nat.le_max_right n m) hm
  rw [h1] at h2
  exact Option.some.inj h2
theorem Loop.step {σ ρ : Type} {f : σ → Option (σ ⊕ ρ)} {x x' : σ} (h : f x = some (.inl x')) : Loop f x = Loop f x' := by
 apply Option.ext
 intro r
 rw [PH, PH]
 constructor
 ·rintro ⟨n, hn⟩
  cases n with
  | zero => simp [turns] at hn
  | succ n => simp only [turns, h] at hn; exact ⟨n, hn⟩
 ·rintro ⟨n, hn⟩
  exact ⟨n + 1, by simp only [turns, h]; exact hn⟩
theorem Loop.done {σ ρ : Type} {f : σ → Option (σ ⊕ ρ)} {x : σ} {r : ρ} (h : f x = some (.inr r)) : Loop f x = some r :=
 PH.mpr ⟨1, by simp only [turns, h]⟩
theorem Run.loop {LP : A6} {ks : List ia} {c : DC} {σ ρ : Type} {f : σ → Option (σ ⊕ ρ)} {E : σ → St → Prop} {J : Jmp → St → Prop} {r : ρ}
  (hs : ∀ x s out, E x s → f x = some out → (∀ x', out = .inl x' → ∀ s', E x' s' → Run LP ks (.loop c) s' J) → (∀ r', out = .inr r' → r' = r) → Run LP (.loop c :: ks) c s J)
  {x : σ} {s : St} (he : E x s) (hl : Loop f x = some r) : Run LP ks (.loop c) s J := by
 obtain ⟨n, hn⟩ := PH.mp hl
 clear hl
 induction n generalizing x s with
 | zero => simp [turns] at hn
 | succ n ih =>
  simp only [turns] at hn
  apply qN
  cases ho : f x with
  | none => rw [ho] at hn; simp at hn
  | some out =>
   rw [ho] at hn
   refine hs x s out he ho ?_ ?_
   ·rintro x' rfl s' hs'
    exact ih hs' hn
   ·rintro r' rfl
    exact Option.some.inj hn
class HH (α : Type) extends Enc α where
 len : ∀ x : α, (Enc.cells x).length = Enc.n α
 ok : ∀ x : α, ((Enc.cells x).map LV.d).all LV.cellOk = true
class TJ (α : Type) extends HH α where
 agg : ∀ x : α, Enc.enc x = .agg (Enc.cells x)
class Bc (α : Type) extends TJ α where
 key : α → List Int
 hkey : ∀ x : α, Enc.cells x = (key x).map .int
instance : HH Int := ⟨fun _ => rfl, fun _ => rfl⟩
instance : HH Bool := ⟨fun _ => rfl, fun _ => rfl⟩
inductive Fv where
 | nil
 | mk (f : Nat) (first cap : List DV)
 deriving Inhabited
def Fv.dv : Fv → DV
 | nil => .nilfn
 | mk f a b => .fn f a b
instance : Enc Fv := ⟨1, fun x => [x.dv], Fv.dv, fun x => by cases x <;> rfl⟩
inductive Mp (n : Nat) (α : Type) where
 | nil
 | mk (es : List (List Int × α))
 deriving Inhabited
section
variable {α : Type} [Enc α] {n : Nat}
def Mp.dv : Mp n α → DV
 | nil => .nilmap
 | mk es => .fmap n (es.map fun p => (p.1, Enc.enc p.2))
instance : Enc (Mp n α) := ⟨1, fun x => [x.dv], Mp.dv, fun x => by cases x <;> rfl⟩
end
structure Ar (n : Nat) (α : Type) where
 l : List α
 h : l.length = n
instance {n : Nat} {α : Type} [Enc α] : Enc (Ar n α) := ⟨n * Enc.n α, fun x => x.l.flatMap Enc.cells, fun x => .agg (x.l.flatMap Enc.cells), fun _ => rfl⟩
def Ar.ix {n : Nat} {α : Type} (x : Ar n α) (i : Int) : Option α := if 0 ≤ i then x.l[i.toNat]? else none
def Ar.put {n : Nat} {α : Type} (x : Ar n α) (i : Int) (v : α) : Ar n α := ⟨x.l.set i.toNat v, by rw [List.length_set]; exact x.h⟩
section
variable {α : Type} (x : Sl α)
theorem gz : x.spent.len = x.len := by cases x <;> rfl
theorem W7 : x.spent.spent = x.spent := by cases x <;> rfl
theorem xz : x.spent.l = x.l := by cases x <;> rfl
theorem ke (i : Int) : x.spent.ix i = x.ix i := by cases x <;> rfl
theorem f9 (xs : List α) : (Sl.hot xs).spent = .cold xs := rfl
theorem aI (xs : List α) : (Sl.cold xs).spent = .cold xs := rfl
theorem fP : (Sl.nil : Sl α).spent = .nil := rfl
theorem ay (xs : List α) : (Sl.full xs).spent = .full xs := rfl
variable [Enc α]
theorem hH : LV.cellOk (.d (Enc.enc x)) = true := by cases x <;> rfl
theorem qM : LV.cellOk x.lv = true := by cases x <;> rfl
theorem dB : LV.known (.d (Enc.enc x)) = some [.d (Enc.enc x)] := by cases x <;> rfl
theorem V0 : LV.known x.lv = some [x.lv] := by cases x <;> rfl
theorem lq : Enc.cells x = [Enc.enc x] := rfl
theorem tA : LV.toD x.lv = some (Enc.enc x) := by cases x <;> rfl
theorem qB (xs : List α) : (Sl.cold xs).lv = .d (Enc.enc (Sl.cold xs)) := rfl
theorem tO : (Sl.nil : Sl α).lv = .d .nils := rfl
theorem ql : Enc.enc (Sl.nil : Sl α) = .nils := rfl
theorem LC (k t : Nat) : NK k t (.v x.lv) = x.spent.lv := by cases x <;> rfl
theorem mM : uD (.d (Enc.enc x)) = some (.d (.int x.len)) := by cases x <;> simp [uD, jb, Og, Enc.enc, Sl.dv, Sl.len, Sl.l]
theorem mB : uD x.lv = some (.d (.int x.len)) := by cases x <;> simp [uD, jb, Og, Sl.lv, Sl.len, Sl.l]
theorem Ru : Enc.enc x.spent = Enc.enc x := by cases x <;> rfl
theorem kG : Enc.enc x.cool = Enc.enc x := by cases x <;> rfl
theorem qn {i : Int} {a : α} {sz : Nat} (h : x.ix i = some a) (hz : Enc.n α = sz) : oV sz (.d (Enc.enc x)) (.d (.int i)) = some (.d (.fptr (Enc.cells a) 0)) := by
 unfold Sl.ix at h
 split at h
 ·rename_i hi
  cases x <;> simp_all [Sl.l, oV, Og, Gp, Enc.enc, Sl.dv, Enc.law]
  all_goals (obtain ⟨hl, rfl⟩ := List.getElem?_eq_some_iff.mp h; exact (Enc.law _).symm ▸ rfl)
 ·simp at h
theorem uk {i : Int} {a : α} {sz : Nat} (h : x.ix i = some a) (hz : Enc.n α = sz) : oV sz x.lv (.d (.int i)) = some (.d (.fptr (Enc.cells a) 0)) := by
 have := qn x h hz
 cases x <;> exact this
end
section
variable {α : Type} [TJ α] (x : α)
theorem Re : LV.known (.d (Enc.enc x)) = some ((Enc.cells x).map .d) := by rw [TJ.agg]; rfl
theorem rz {n : Nat} (hn : Enc.n α = n) : an n (.d (Enc.enc x)) = some ((Enc.cells x).map .d) := by
 simp only [an, Re, List.length_map, HH.len, hn, HH.ok, and_self, if_true]
end
theorem kj (a : Int) : an 1 (.d (.int a)) = some [.d (.int a)] := rfl
theorem fF (a : Bool) : an 1 (.d (.bool a)) = some [.d (.bool a)] := rfl
theorem pD {α : Type} [Enc α] (x : Sl α) : an 1 (.d (Enc.enc x)) = some [.d (Enc.enc x)] := by
 simp [an, dB, hH]
theorem He (v : DV) : (LV.d v).copy = .d v := rfl
theorem S7 (cs : List DV) : AZ (cs.map .d) = some cs := by
 induction cs with
 | nil => rfl
 | cons c cs ih => simp [AZ, LV.toD, ih]
theorem cf (k : Option Nat) (off : Nat) (cs : List DV) : part k off (cs.map .d) = (A0 k off cs).map .d := by
 cases k with
 | none => simp only [part, A0, List.getElem?_map, Option.map_map]; rfl
 | some n =>
  have hm : (((cs.map LV.d).drop off).take n).map LV.copy = ((cs.drop off).take n).map LV.d := by
   rw [← List.map_drop, ← List.map_take, List.map_map]
   rfl
  have hl : (((cs.map LV.d).drop off).take n).length = ((cs.drop off).take n).length := by
   rw [← List.map_drop, ← List.map_take, List.length_map]
  simp only [part, A0, hm, hl]
  split
  ·simp only [LV.norm, LV.toD, S7, Option.map_some]
  ·rfl
theorem kJ (k : Option Nat) (off : Nat) (cs : List DV) : K5 k off (.d (.agg cs)) = (A0 k off cs).map .d := rfl
theorem PQ {α : Type} [TJ α] (x : α) (k : Option Nat) (off : Nat) : K5 k off (.d (Enc.enc x)) = (A0 k off (Enc.cells x)).map .d := by rw [TJ.agg]; rfl
theorem aB (k : Option Nat) (off g : Nat) (cs : List DV) : HZ k off g (some (.box g (cs.map .d))) = (A0 k off cs).map .d := by simp only [HZ, if_true, cf]
theorem XW (g : Nat) (v : DV) : HZ none 0 g (some (.box g [.d v])) = some (.d v) := by simp [HZ, part, LV.copy]
theorem JG (s : St) (t g : Nat) : s.cells s.low.length t g = match s.raw t with
  | some (.box g' cs) => if g' = g then some cs else none
  | _ => none := by
 simp only [St.cells, St.at, if_true, St.raw]
 cases s.env.get t with
 | none => rfl
 | some x => cases x <;> rfl
theorem er (s : St) (k : Option Nat) (j t g off : Nat) (hj : j = s.low.length) : Ss s k none (.ptr j t g off) = HZ k off g (s.raw t) := by
 subst hj
 simp only [Ss, Au, if_true, JG]
 cases s.raw t with
 | none => rfl
 | some x => cases x with
  | box g' cs =>
   simp only [HZ]
   by_cases hg : g' = g
   ·simp only [if_pos hg]
   ·simp only [if_neg hg]
  | _ => rfl
theorem aD (s : St) (k : Option Nat) (j t g off : Nat) (hj : j = s.low.length) : Ss s k (some (some t)) (.ptr j t g off) = HZ k off g (s.raw t) := by
 subst hj
 have h : Au s.low.length (some (some t)) (some (.ptr s.low.length t g off)) = true := by simp [Au]
 simp only [Ss, h, if_true, JG]
 cases s.raw t with
 | none => rfl
 | some x => cases x with
  | box g' cs =>
   simp only [HZ]
   by_cases hg : g' = g
   ·simp only [if_pos hg]
   ·simp only [if_neg hg]
  | _ => rfl
theorem aS (s : St) (k : Option Nat) (ro : Option (Option Nat)) (cs : List DV) (off : Nat) : Ss s k ro (.d (.fptr cs off)) = (A0 k off cs).map .d := by
 have h : Au s.low.length ro (some (.d (.fptr cs off))) = true := by cases ro <;> rfl
 simp only [Ss, h, if_true]
theorem Zu (off j t g o : Nat) : Jb off (.ptr j t g o) = some (.ptr j t g (o + off)) := rfl
theorem WW (off : Nat) (cs : List DV) (o : Nat) : Jb off (.d (.fptr cs o)) = some (.d (.fptr cs (o + off))) := rfl
theorem Z6 (k : Nat) (p : Option LV) : Au k none p = true := rfl
theorem au (j k t g off : Nat) (h : j = k) : Au k (some (some t)) (some (.ptr j t g off)) = true := by simp [Au, h]
theorem YD (k : Nat) (ro : Option (Option Nat)) (v : DV) : Au k ro (some (.d v)) = true := by cases ro <;> rfl
def nF (s : St) : Opd → Option BQ
 | .tmp u => s.raw u
 | .con v => some (.v (.d v))
 | .glob _ => none
section
variable (LP : A6) (C : AS)
def Tz (g : Nat) (r : List AH) (s : St) (n t g' off : Nat) (x : Opd) : Option BQ → Option St
 | some (.v (.d v)) => ju LP C g r ((G9 n off g' (LV.known (.d v)) (s.raw t)).map fun b => s.upd t b)
 | some (.v (.hot z xs)) => match x with
  | .tmp u => ju LP C g r ((G9 n off g' (some [.hot z xs]) (if u = t then some (.v (.d (.slice z xs))) else s.raw t)).map fun b => (s.upd u (.v (.d (.slice z xs)))).upd t b)
  | _ => none
 | _ => I8 LP C g r s n (.ptr s.low.length t g' off) x
variable {LP C} (g : Nat) (r : List AH) (s : St)
theorem ac (n j t g' off : Nat) (x : Opd) (hj : j = s.low.length) : I8 LP C g r s n (.ptr j t g' off) x = Tz LP C g r s n t g' off x (nF s x) := by
 subst hj
 have main : ∀ (y : LV) (s1 : St), s1.low = s.low → s.take LP x = (y, s1) → I8 LP C g r s n (.ptr s.low.length t g' off) x = ju LP C g r ((G9 n off g' y.known (s1.raw t)).map fun b => s1.upd t b) := by
  intro y s1 hl ht
  simp only [I8, ht]
  rw [← hl, JG]
  cases hx : s1.raw t with
  | none => rfl
  | some z => cases z with
   | box g2 cs =>
    simp only [G9]
    by_cases hg : g2 = g'
    ·subst hg
     simp only [if_true]
     cases y.known with
     | none => rfl
     | some xs =>
      simp only
      by_cases hc : xs.length = n ∧ off + n ≤ cs.length ∧ xs.all LV.cellOk = true
      ·simp only [if_pos hc, Option.map_some, St.setAt, hl, if_true, St.upd]
      ·simp only [if_neg hc]; rfl
    ·simp only [if_neg hg]
     cases y.known <;> rfl
   | _ => rfl
 cases x with
 | con v => exact main (.d v) s rfl rfl
 | glob n => rfl
 | tmp u =>
  simp only [nF]
  cases hu : s.raw u with
  | none => rfl
  | some z => cases z with
   | v z => cases z with
    | d v => exact main (.d v) s rfl (by simp only [St.take]; unfold St.raw at hu; simp only [hu, St.slot, LV.copy])
    | hot z xs =>
     rw [main (.hot z xs) (s.upd u (.v (.d (.slice z xs)))) rfl (by simp only [St.take]; unfold St.raw at hu; simp only [hu]; rfl)]
     simp only [Tz, An, LV.known]
    | _ => rfl
   | _ => rfl
end
theorem vL {n g : Nat} {xs cs : List LV} (h1 : cs.length = n) (h2 : xs.length = n) (h3 : xs.all LV.cellOk = true) : G9 n 0 g (some xs) (some (.box g cs)) = some (.box g xs) := by
 simp only [G9, if_true, h1, h2, h3, Nat.zero_add, Nat.le_refl, and_self, Option.some.injEq, BQ.box.injEq, true_and]
 simp [setCells, h1, h2]
def JB (C : AS) (f : Nat) (ds : List DV) : Option LV := match C.call f (ds.map .d) [] 0 with
 | some (v, _, _) => v.toD.map .d
 | none => none
def tZ (C : AS) (f : Nat) : Option (List DV) → Option LV
 | some ds => JB C f ds
 | none => none
theorem kd (C : AS) (f : Nat) (args : List LV) : ik C (.d (.fn f [] [])) args = tZ C f (AZ args) := by
 simp only [ik, target, List.map_nil]
 cases AZ args with
 | none => rfl
 | some ds => simp only [AZ, List.nil_append, List.append_nil]; rfl
theorem WE (C : AS) (f : Nat) (ds : List DV) : tZ C f (some ds) = JB C f ds := rfl
theorem Vx : AZ [] = some [] := rfl
theorem lm (v : DV) (r : List LV) : AZ (.d v :: r) = (AZ r).map (v :: ·) := by
 simp only [AZ, LV.toD]; cases AZ r <;> rfl
theorem qa {α : Type} [Enc α] (x : Sl α) (r : List LV) : AZ (x.lv :: r) = (AZ r).map (Enc.enc x :: ·) := by
 simp only [AZ, tA]; cases AZ r <;> rfl
theorem ec {α β : Type} [Enc α] [Enc β] (x : α × β) : rN 0 (some (.v (.d (Enc.enc x)))) = some (.d (Enc.enc x.1)) := rfl
theorem aC {α β : Type} [Enc α] [Enc β] (x : α × β) : rN 1 (some (.v (.d (Enc.enc x)))) = some (.d (Enc.enc x.2)) := rfl
theorem oQ (x : Int) : Enc.enc x = .int x := rfl
theorem mG (x : Bool) : Enc.enc x = .bool x := rfl
theorem gr (x : Int) : Enc.cells x = [.int x] := rfl
theorem aH (x : Bool) : Enc.cells x = [.bool x] := rfl
theorem gK (x : DV) : A0 none 0 [x] = some x := rfl
theorem Qh (LP : A6) (s : St) (t : Nat) : s.val LP (.tmp t) = s.slot t := rfl
theorem qb (LP : A6) (s : St) (v : DV) : s.val LP (.con v) = .d v := rfl
theorem pO (a b : LV) : qU (.d (.bool true)) a b = some a := rfl
theorem oZ (a b : LV) : qU (.d (.bool false)) a b = some b := rfl
theorem mK (a b : Int) : ln .add (.d (.int a)) (.d (.int b)) = some (.d (.int (W (a + b)))) := rfl
theorem l3 (a b : Int) : ln .sub (.d (.int a)) (.d (.int b)) = some (.d (.int (W (a - b)))) := rfl
theorem mL (a b : Int) : ln .mul (.d (.int a)) (.d (.int b)) = some (.d (.int (W (a * b)))) := rfl
theorem lg (a b : Int) : ln .lss (.d (.int a)) (.d (.int b)) = some (.d (.bool (decide (a < b)))) := rfl
theorem l5 (a b : Int) : ln .leq (.d (.int a)) (.d (.int b)) = some (.d (.bool (decide (a ≤ b)))) := rfl
theorem mE (a b : Int) : ln .gtr (.d (.int a)) (.d (.int b)) = some (.d (.bool (decide (b < a)))) := rfl
theorem kF (a b : Int) : ln .geq (.d (.int a)) (.d (.int b)) = some (.d (.bool (decide (b ≤ a)))) := rfl
theorem lN (a b : Int) : ln .eql (.d (.int a)) (.d (.int b)) = some (.d (.bool (decide (a = b)))) := by
 show (CO (binOp .eql 0 (.int .i64 a) (.int .i64 b))).map LV.d = _
 rw [vP]; rfl
theorem kH (a b : Int) : ln .neq (.d (.int a)) (.d (.int b)) = some (.d (.bool (!decide (a = b)))) := by
 show (CO (binOp .neq 0 (.int .i64 a) (.int .i64 b))).map LV.d = _
 rw [wK]; rfl
theorem qg (b : Bool) : vUn .not (.d (.bool b)) = some (.d (.bool (!b))) := rfl
theorem vA (keep : List Nat) (s : St) : sV keep (some s) = some (s.env.keep keep, s.low) := rfl
def cM : List Nat → St → Env
 | [], _ => []
 | t :: ts, s => match s.raw t with
  | some x => (t, x) :: cM ts s
  | none => cM ts s
theorem xH (ks : List Nat) (s : St) : s.env.keep ks = cM ks s := by
 induction ks with
 | nil => rfl
 | cons t ts ih =>
  simp only [Env.keep, List.filterMap_cons, cM, St.raw] at *
  cases s.env.get t with
  | none => exact ih
  | some x => simp only [Option.map_some]; rw [ih]
def vw (t : Nat) (ts : List Nat) (s : St) : Option BQ → Env
 | some x => (t, x) :: cM ts s
 | none => cM ts s
theorem vE (t : Nat) (ts : List Nat) (s : St) : cM (t :: ts) s = vw t ts s (s.raw t) := rfl
theorem u7 (t : Nat) (ts : List Nat) (s : St) (x : BQ) : vw t ts s (some x) = (t, x) :: cM ts s := rfl
theorem wJ (s : St) : cM [] s = [] := rfl
instance {α : Type} [Enc α] : HH (Sl α) := ⟨fun _ => rfl, fun x => by cases x <;> rfl⟩
instance : HH Fv := ⟨fun _ => rfl, fun x => by cases x <;> rfl⟩
instance {n : Nat} {α : Type} [Enc α] : HH (Mp n α) := ⟨fun _ => rfl, fun x => by cases x <;> rfl⟩
theorem mI {α : Type} [HH α] : ∀ l : List α, (l.flatMap Enc.cells).length = l.length * Enc.n α
 | [] => by simp
 | x :: l => by simp only [List.flatMap_cons, List.length_append, HH.len, mI l, List.length_cons]; rw [Nat.add_mul, Nat.one_mul, Nat.add_comm]
theorem i4 {α : Type} [HH α] : ∀ l : List α, ((l.flatMap Enc.cells).map LV.d).all LV.cellOk = true
 | [] => rfl
 | x :: l => by rw [List.flatMap_cons, List.map_append, List.all_append, HH.ok, i4 l]; rfl
instance {n : Nat} {α : Type} [HH α] : TJ (Ar n α) := { len := fun x => by show (x.l.flatMap Enc.cells).length = n * Enc.n α; rw [mI, x.h], ok := fun x => i4 x.l, agg := fun _ => rfl }
theorem wu {n : Nat} {α : Type} [Enc α] (x : Ar n α) : Enc.cells x = x.l.flatMap Enc.cells := rfl
theorem Rh : ∀ l : List Int, l.flatMap Enc.cells = l.map DV.int
 | [] => rfl
 | x :: l => by rw [List.flatMap_cons, Rh l]; rfl
instance {n : Nat} : Bc (Ar n Int) := { key := fun x => x.l, hkey := fun x => Rh x.l }
theorem fQ (a : Int) : LV.known (.d (.int a)) = some [.d (.int a)] := rfl
theorem aO (a : Bool) : LV.known (.d (.bool a)) = some [.d (.bool a)] := rfl
theorem Z2 : LV.known (.d .nils) = some [.d .nils] := rfl
theorem lT (a : Fv) : LV.known (.d (Enc.enc a)) = some [.d (Enc.enc a)] := by cases a <;> rfl
theorem lR {n : Nat} {α : Type} [Enc α] (a : Mp n α) : LV.known (.d (Enc.enc a)) = some [.d (Enc.enc a)] := by cases a <;> rfl
theorem kC (x : Fv) : Enc.cells x = [Enc.enc x] := rfl
theorem mC {n : Nat} {α : Type} [Enc α] (x : Mp n α) : Enc.cells x = [Enc.enc x] := rfl
theorem qf (x : Fv) : an 1 (.d (Enc.enc x)) = some [.d (Enc.enc x)] := by cases x <;> rfl
theorem gg : an 1 (.d .nils) = some [.d .nils] := rfl
theorem oN {α : Type} [Enc α] (x : Sl α) : an 1 x.lv = some [x.lv] := by cases x <;> rfl
def DD (n off : Nat) (xs cs : List LV) : Option (List LV) := if xs.length = n ∧ off + n ≤ cs.length ∧ xs.all LV.cellOk then some (setCells cs off xs) else none
theorem aV (n off g : Nat) (xs cs : List LV) : G9 n off g (some xs) (some (.box g cs)) = (DD n off xs cs).map fun c => .box g c := by
 simp only [G9, DD, if_true]
 by_cases h : xs.length = n ∧ off + n ≤ cs.length ∧ xs.all LV.cellOk = true
 ·simp only [if_pos h, Option.map_some]
 ·simp only [if_neg h, Option.map_none]
theorem aW {α : Type} [TJ α] (x : α) {n : Nat} {cs : List LV} (h1 : cs.length = n) (h2 : Enc.n α = n) : DD n 0 ((Enc.cells x).map LV.d) cs = some ((Enc.cells x).map LV.d) := by
 have h3 := HH.len x
 have h4 := HH.ok x
 simp only [DD, List.length_map, h3, h2, h4, Nat.zero_add, h1, Nat.le_refl, and_self, if_true]
 simp [setCells, h1, h2, h3]
theorem GQ {y : LV} (c : LV) (h : y.cellOk = true) : DD 1 0 [y] [c] = some [y] := by
 simp [DD, h, setCells]
theorem aA (c : LV) (a : Int) : DD 1 0 [.d (.int a)] [c] = some [.d (.int a)] := GQ c rfl
theorem Xy (c : LV) (a : Bool) : DD 1 0 [.d (.bool a)] [c] = some [.d (.bool a)] := GQ c rfl
theorem ej {α : Type} [Enc α] (c : LV) (a : Sl α) : DD 1 0 [.d (Enc.enc a)] [c] = some [.d (Enc.enc a)] := GQ c (hH a)
theorem eC {α : Type} [Enc α] (c : LV) (a : Sl α) : DD 1 0 [a.lv] [c] = some [a.lv] := GQ c (qM a)
theorem gY (c : LV) (a : Fv) : DD 1 0 [.d (Enc.enc a)] [c] = some [.d (Enc.enc a)] := GQ c (by cases a <;> rfl)
theorem gx {α : Type} [HH α] (x : α) : ((Enc.cells x).map LV.d).length = Enc.n α := by rw [List.length_map, HH.len]
theorem Is {α : Type} {x v : Sl α} {lo hi : Option Int} (h : x.sub lo hi = some v) : (∀ a, lo = some a → 0 ≤ a) ∧ (∀ a, hi = some a → 0 ≤ a) := by
 have : 0 ≤ lo.getD 0 ∧ 0 ≤ hi.getD 0 := by
  cases x <;> simp only [Sl.sub] at h <;> split at h <;> rename_i hc <;> first | (cases h; done) | (cases hi <;> simp_all <;> omega)
 constructor
 ·rintro a rfl; exact this.1
 ·rintro a rfl; exact this.2
section
variable {LP : A6} {C : AS} {α : Type} [Enc α]
theorem fS (g : Nat) (r : List AH) (s : St) (n t g' off : Nat) (x : Opd) (v : DV) : Tz LP C g r s n t g' off x (some (.v (.d v))) = ju LP C g r ((G9 n off g' (LV.known (.d v)) (s.raw t)).map fun b => s.upd t b) := rfl
theorem OP : ∀ (e : Env) (t : Nat) (x : BQ), e.get t = some x → e.set t x = e
 | [], t, x, h => by simp [Env.get] at h
 | (u, y) :: e, t, x, h => by
  simp only [Env.get] at h
  simp only [Env.set]
  by_cases hu : u = t
  ·subst hu; simp only [if_true, Option.some.injEq] at h ⊢; rw [h]
  ·simp only [if_neg hu] at h ⊢; rw [OP e t x h]
theorem EX (s : St) (t : Nat) (x : BQ) (h : s.raw t = some x) : s.upd t x = s := by
 obtain ⟨e, low, ctr⟩ := s
 simp only [St.upd, OP e t x h]
theorem eH (g : Nat) (r : List AH) (s : St) (t : Option Nat) (u : Nat) (x : Sl α) (h : s.raw u = some (.v x.lv)) : du LP C g r s t u (some (.v x.lv)) = HF LP C g r (s.upd u (.v x.spent.lv)) t (some x.lv) := by
 have hs : s.slot u = x.spent.lv := by rw [IP, h]; exact LC x _ _
 cases x with
 | hot xs => rfl
 | nil => rw [show (Sl.nil : Sl α).spent = Sl.nil from rfl, EX s u _ h]; exact congrArg (fun y => HF LP C g r s t (some y)) hs
 | cold xs => rw [show (Sl.cold xs).spent = Sl.cold xs from rfl, EX s u _ h]; exact congrArg (fun y => HF LP C g r s t (some y)) hs
 | full xs => rw [show (Sl.full xs).spent = Sl.full xs from rfl, EX s u _ h]; exact congrArg (fun y => HF LP C g r s t (some y)) hs
theorem sQ (g : Nat) (r : List AH) (s : St) (t : Option Nat) (u : Nat) (v : DV) (h : s.raw u = some (.v (.d v))) : du LP C g r s t u (some (.v (.d v))) = HF LP C g r s t (some (.d v)) := by
 have hs : s.slot u = .d v := by rw [IP, h]; rfl
 simp only [du, hs]
theorem TN (g : Nat) (r : List AH) (s : St) (t : Option Nat) (u sz q : Nat) (y : LV) (x : Sl α) (h : s.raw u = some (.v x.lv)) : fV LP C g r s t u sz q y (some (.v x.lv)) = HF LP C g r (s.upd u (.v x.spent.lv)) t (BH sz q x.lv y) := by
 have hs : s.slot u = x.spent.lv := by rw [IP, h]; exact LC x _ _
 cases x with
 | hot xs => rfl
 | nil => rw [show (Sl.nil : Sl α).spent = Sl.nil from rfl, EX s u _ h]; exact congrArg (fun z => HF LP C g r s t (BH sz q z y)) hs
 | cold xs => rw [show (Sl.cold xs).spent = Sl.cold xs from rfl, EX s u _ h]; exact congrArg (fun z => HF LP C g r s t (BH sz q z y)) hs
 | full xs => rw [show (Sl.full xs).spent = Sl.full xs from rfl, EX s u _ h]; exact congrArg (fun z => HF LP C g r s t (BH sz q z y)) hs
theorem ww (g : Nat) (r : List AH) (s : St) (t : Option Nat) (u sz q : Nat) (y : LV) (v : DV) (h : s.raw u = some (.v (.d v))) : fV LP C g r s t u sz q y (some (.v (.d v))) = HF LP C g r s t (BH sz q (.d v) y) := by
 have hs : s.slot u = .d v := by rw [IP, h]; rfl
 simp only [fV, hs]
theorem lS {q : Nat} {x r : Sl α} {ys : List α} {Y : LV} (hY : Y ≠ .d .nils) (hE : Og Y = some (Enc.n α, ys.map Enc.enc)) (h : x.app q ys = some r) : BH (Enc.n α) q x.lv Y = some r.lv := by
 have e : BH (Enc.n α) q x.lv Y = match x.lv with
   | .d .nils => if ys.map (Enc.enc (α := α)) = [] then some (.d .nils) else if KC (ys.map (Enc.enc (α := α))).length q then some (.hot (Enc.n α) (ys.map Enc.enc)) else none
   | .full z xs => if z = Enc.n α then (if ys.map (Enc.enc (α := α)) = [] then some (.full z xs) else if KC (xs.length + (ys.map (Enc.enc (α := α))).length) q then some (.hot (Enc.n α) (xs ++ ys.map Enc.enc)) else none) else none
   | .hot z xs => if z = Enc.n α ∧ KC (xs.length + (ys.map (Enc.enc (α := α))).length) q = true then some (.hot (Enc.n α) (xs ++ ys.map Enc.enc)) else none
   | _ => none := by
  unfold BH
  split
  ·exact absurd rfl hY
  ·simp only [hE, ne_eq, not_true_eq_false, if_false]
   rfl
 rw [e]
 cases x with
 | nil =>
  simp only [Sl.app] at h
  simp only [Sl.lv, List.map_eq_nil_iff, List.length_map]
  by_cases h1 : ys = []
  ·rw [if_pos h1] at h ⊢; cases h; rfl
  ·rw [if_neg h1] at h ⊢
   by_cases h2 : KC ys.length q = true
   ·rw [if_pos h2] at h ⊢; cases h; rfl
   ·rw [if_neg h2] at h; cases h
 | cold xs => simp only [Sl.app] at h; cases h
 | hot xs =>
  simp only [Sl.app] at h
  simp only [Sl.lv, List.length_map, true_and]
  by_cases h2 : KC (xs.length + ys.length) q = true
  ·rw [if_pos h2] at h ⊢; cases h; simp
  ·rw [if_neg h2] at h; cases h
 | full xs =>
  simp only [Sl.app] at h
  simp only [Sl.lv, List.map_eq_nil_iff, List.length_map, if_true]
  by_cases h1 : ys = []
  ·rw [if_pos h1] at h ⊢; cases h; rfl
  ·rw [if_neg h1] at h ⊢
   by_cases h2 : KC (xs.length + ys.length) q = true
   ·rw [if_pos h2] at h ⊢; cases h; simp
   ·rw [if_neg h2] at h; cases h
theorem lI {q : Nat} {x r : Sl α} (h : x.app q [] = some r) : BH (Enc.n α) q x.lv (.d .nils) = some r.lv := by
 cases x with
 | nil => simp only [Sl.app, if_true] at h; cases h; rfl
 | cold xs => simp only [Sl.app] at h; cases h
 | hot xs =>
  simp only [Sl.app, List.append_nil] at h
  simp only [BH, Sl.lv, if_true]
  by_cases h2 : KC (xs.length + ([] : List α).length) q = true
  ·rw [if_pos h2] at h; cases h; rfl
  ·rw [if_neg h2] at h; cases h
 | full xs => simp only [Sl.app, if_true] at h; cases h; simp [BH, Sl.lv]
theorem ou {q sz : Nat} {x y r : Sl α} (hz : Enc.n α = sz) (h : x.app q y.l = some r) : BH sz q x.lv y.lv = some r.lv := by
 subst hz
 cases y with
 | nil => exact lI h
 | _ => exact lS (by simp [Sl.lv]) rfl h
theorem ot {q sz : Nat} {x y r : Sl α} (hz : Enc.n α = sz) (h : x.app q y.l = some r) : BH sz q x.lv (.d (Enc.enc y)) = some r.lv := by
 subst hz
 cases y with
 | nil => exact lI h
 | _ => exact lS (by simp [Enc.enc, Sl.dv]) rfl h
theorem PV (x : Sl α) : x.cool.lv = .d (Enc.enc x) := by cases x <;> rfl
theorem wS {q sz : Nat} {x y r : Sl α} (hz : Enc.n α = sz) (h : x.cool.app q y.l = some r) : BH sz q (.d (Enc.enc x)) (.d (Enc.enc y)) = some r.lv := by
 have := ot hz h
 rwa [PV] at this
theorem vN {q sz : Nat} {x y r : Sl α} (hz : Enc.n α = sz) (h : x.cool.app q y.l = some r) : BH sz q (.d (Enc.enc x)) y.lv = some r.lv := by
 have := ou hz h
 rwa [PV] at this
theorem zM {q sz : Nat} {x y r : Sl α} {ys : List α} (hz : Enc.n α = sz) (hy : y.l = ys) (h : x.app q ys = some r) : BH sz q x.lv y.lv = some r.lv := ou hz (hy ▸ h)
theorem Es {q sz : Nat} {x y r : Sl α} {ys : List α} (hz : Enc.n α = sz) (hy : y.l = ys) (h : x.app q ys = some r) : BH sz q x.lv (.d (Enc.enc y)) = some r.lv := ot hz (hy ▸ h)
theorem zV {q sz : Nat} {y r : Sl α} {ys : List α} (hz : Enc.n α = sz) (hy : y.l = ys) (h : (Sl.nil : Sl α).app q ys = some r) : BH sz q (.d .nils) (.d (Enc.enc y)) = some r.lv := ot (x := Sl.nil) hz (hy ▸ h)
theorem zC {q sz : Nat} {y r : Sl α} {ys : List α} (hz : Enc.n α = sz) (hy : y.l = ys) (h : (Sl.nil : Sl α).app q ys = some r) : BH sz q (.d .nils) y.lv = some r.lv := ou (x := Sl.nil) hz (hy ▸ h)
theorem yp {q sz : Nat} {x y r : Sl α} {ys : List α} (hz : Enc.n α = sz) (hy : y.l = ys) (h : x.cool.app q ys = some r) : BH sz q (.d (Enc.enc x)) (.d (Enc.enc y)) = some r.lv := wS hz (hy ▸ h)
theorem xO {q sz : Nat} {x y r : Sl α} {ys : List α} (hz : Enc.n α = sz) (hy : y.l = ys) (h : x.cool.app q ys = some r) : BH sz q (.d (Enc.enc x)) y.lv = some r.lv := vN hz (hy ▸ h)
theorem ly {q : Nat} {x v : Sl α} {ys : List α} (h : x.app q ys = some v) (hy : ys ≠ []) : v.spent.lv = .d (Enc.enc v) := by
 cases x with
 | nil => simp only [Sl.app, if_neg hy] at h; split at h <;> cases h; rfl
 | cold xs => simp only [Sl.app] at h; cases h
 | hot xs => simp only [Sl.app] at h; split at h <;> cases h; rfl
 | full xs => simp only [Sl.app, if_neg hy] at h; split at h <;> cases h; rfl
theorem rR {q : Nat} {xs : List α} {v : Sl α} {ys : List α} (h : (Sl.hot xs).app q ys = some v) : v.spent.lv = .d (Enc.enc v) := by
 simp only [Sl.app] at h; split at h <;> cases h; rfl
theorem Zr {i : Int} (h : 0 ≤ i) : Gp (.d (.int i)) = some i.toNat := by simp [Gp, h]
theorem PL {x v : Sl α} {sz : Nat} {lo hi : Option Int} (hz : Enc.n α = sz) (h : x.sub lo hi = some v) (h0 : ∀ a, lo = some a → 0 ≤ a) (h1 : ∀ a, hi = some a → 0 ≤ a) :
  QH sz (.d (Enc.enc x)) (lo.map Int.toNat) (hi.map Int.toNat) none = some (.d (Enc.enc v)) := by
 subst hz
 have main : ∀ xs : List α, (if 0 ≤ lo.getD 0 ∧ lo.getD 0 ≤ hi.getD xs.length ∧ hi.getD xs.length ≤ xs.length then some (Sl.cold ((xs.take (hi.getD xs.length).toNat).drop (lo.getD 0).toNat)) else none) = some v →
   QH (Enc.n α) (.d (.slice (Enc.n α) (xs.map Enc.enc))) (lo.map Int.toNat) (hi.map Int.toNat) none = some (.d (Enc.enc v)) := by
  intro xs h
  split at h
  ·rename_i hc
   cases h
   have e1 : (lo.map Int.toNat).getD 0 = (lo.getD 0).toNat := by cases lo <;> rfl
   have e2 : (hi.map Int.toNat).getD xs.length = (hi.getD xs.length).toNat := by cases hi <;> simp
   simp only [QH, Og, e1, List.length_map, e2]
   rw [if_pos ⟨trivial, by omega, by omega⟩]
   simp [Enc.enc, Sl.dv, List.map_take, List.map_drop]
  ·cases h
 cases x with
 | nil =>
  simp only [Sl.sub] at h
  split at h
  ·rename_i hc
   cases h
   have e1 : (lo.map Int.toNat).getD 0 = 0 := by cases lo <;> simp_all
   have e2 : (hi.map Int.toNat).getD 0 = 0 := by cases hi <;> simp_all
   simp [Enc.enc, Sl.dv, QH, e1, e2]
  ·cases h
 | cold xs => exact main xs h
 | hot xs => exact main xs h
 | full xs => exact main xs h
theorem Iq {a : Int} (h : 0 ≤ a) : HS (some (.d (.int a))) = some (some a.toNat) := by simp [HS, Gp, h]
theorem wj {x v : Sl α} {sz : Nat} (hz : Enc.n α = sz) (h : x.sub none none = some v) : JC sz (.d (Enc.enc x)) none none none = some (.d (Enc.enc v)) := by
 have := PL hz h (Is h).1 (Is h).2
 simpa [JC, HS] using this
theorem lZ {x v : Sl α} {sz : Nat} {a : Int} (hz : Enc.n α = sz) (h : x.sub (some a) none = some v) : JC sz (.d (Enc.enc x)) (some (.d (.int a))) none none = some (.d (Enc.enc v)) := by
 have := PL hz h (Is h).1 (Is h).2
 simpa [JC, Iq ((Is h).1 a rfl), show HS none = some none from rfl] using this
theorem ll {x v : Sl α} {sz : Nat} {b : Int} (hz : Enc.n α = sz) (h : x.sub none (some b) = some v) : JC sz (.d (Enc.enc x)) none (some (.d (.int b))) none = some (.d (Enc.enc v)) := by
 have := PL hz h (Is h).1 (Is h).2
 simpa [JC, Iq ((Is h).2 b rfl), show HS none = some none from rfl] using this
theorem wZ {x v : Sl α} {sz : Nat} {a b : Int} (hz : Enc.n α = sz) (h : x.sub (some a) (some b) = some v) : JC sz (.d (Enc.enc x)) (some (.d (.int a))) (some (.d (.int b))) none = some (.d (Enc.enc v)) := by
 have := PL hz h (Is h).1 (Is h).2
 simpa [JC, Iq ((Is h).1 a rfl), Iq ((Is h).2 b rfl), show HS none = some none from rfl] using this
theorem OY {x v : Sl α} {sz : Nat} {b : Int} (hz : Enc.n α = sz) (h : x.sub3 none b = some v) : JC sz (.d (Enc.enc x)) none (some (.d (.int b))) (some (.d (.int b))) = some v.lv := by
 subst hz
 have main : ∀ xs : List α, (if 0 ≤ (none : Option Int).getD 0 ∧ (none : Option Int).getD 0 ≤ b ∧ b ≤ xs.length then some (Sl.full ((xs.take b.toNat).drop ((none : Option Int).getD 0).toNat)) else none) = some v →
   JC (Enc.n α) (.d (.slice (Enc.n α) (xs.map Enc.enc))) none (some (.d (.int b))) (some (.d (.int b))) = some v.lv := by
  intro xs h
  split at h
  ·rename_i hc
   cases h
   simp only [Option.getD_none] at hc
   have hb : 0 ≤ b := by omega
   simp only [JC, Iq hb, show HS none = some none from rfl, QH, Og, Option.getD_some, Option.getD_none, List.length_map]
   rw [if_pos ⟨trivial, by omega, by omega⟩]
   simp [Sl.lv, List.map_take]
  ·cases h
 cases x with
 | nil =>
  simp only [Sl.sub3] at h
  split at h
  ·rename_i hc
   obtain ⟨_, rfl⟩ := hc
   cases h
   rfl
  ·cases h
 | cold xs => exact main xs h
 | hot xs => exact main xs h
 | full xs => exact main xs h
end
theorem NS {α : Type} [Enc α] (x : Sl α) : LV.cellOk (.d (Enc.enc x)) = true := by cases x <;> rfl
theorem I5 (x : Int) : LV.cellOk (.d (.int x)) = true := rfl
theorem V2 (j t g : Nat) : LV.cellOk (.mref j t g) = true := rfl
theorem Gq (x : Bool) : LV.cellOk (.d (.bool x)) = true := rfl
theorem NT (x : Fv) : LV.cellOk (.d (Enc.enc x)) = true := by cases x <;> rfl
theorem NV {n : Nat} {α : Type} [Enc α] (x : Mp n α) : LV.cellOk (.d (Enc.enc x)) = true := by cases x <;> rfl
def St.tick (s : St) (n : Nat) : St := { s with ctr := s.ctr + n }
theorem mN (s : St) (n t : Nat) : (s.tick n).raw t = s.raw t := rfl
theorem eG (s : St) (n t : Nat) : (s.tick n).free t = s.free t := rfl
theorem mH (s : St) (n : Nat) : (s.tick n).low = s.low := rfl
def uH (k t : Nat) : Option BQ → LV
 | some x => NK k t x
 | none => .d .bot
theorem G7 (k t : Nat) (x : BQ) : uH k t (some x) = NK k t x := rfl
theorem KY (s : St) (t : Nat) : s.slot t = uH s.low.length t (s.raw t) := by
 rw [IP]; cases s.raw t <;> rfl
def NoB (B : List Nat) (s : St) : Prop := ∀ u, B.contains u = false → s.free u = true
def Cj : List (Nat × BQ) → St → Prop
 | [], _ => True
 | (t, x) :: l, s => s.raw t = some x ∧ Cj l s
@[reducible] def Dn : List (Nat × BQ) → St → Prop
 | [], _ => True
 | (t, x) :: l, s => s.raw t = some x ∧ Dn l s
theorem Cj.r {s : St} : ∀ {l : List (Nat × BQ)}, Cj l s → Dn l s
 | [], _ => trivial
 | _ :: _, h => ⟨h.1, Cj.r h.2⟩
theorem aM (s : St) : Cj [] s = True := rfl
theorem WT (t : Nat) (x : BQ) (l : List (Nat × BQ)) (s : St) : Cj ((t, x) :: l) s = (s.raw t = some x ∧ Cj l s) := rfl
theorem KU (ks : List Nat) (e : Env) (t : Nat) : (e.keep ks).get t = if ks.contains t then e.get t else none := by
 induction ks with
 | nil => rfl
 | cons k ks ih =>
  simp only [Env.keep, List.filterMap_cons] at ih ⊢
  rw [List.contains_cons]
  by_cases h : t = k
  ·subst h
   cases he : e.get t with
   | none =>
    simp only [Option.map_none, ih, he]
    simp
   | some x => simp [Env.get, he]
  ·have hk : (t == k) = false := by simpa using h
   rw [hk, Bool.false_or]
   cases he : e.get k with
   | none => simp only [Option.map_none]; exact ih
   | some x =>
    simp only [Option.map_some, Env.get, if_neg (Ne.symm h)]
    exact ih
theorem lr (s : St) (ks : List Nat) (t : Nat) : St.raw { s with env := s.env.keep ks } t = if ks.contains t then s.raw t else none := KU ..
theorem Cj.keep {s : St} {ks : List Nat} : ∀ {l : List (Nat × BQ)}, l.all (fun p => ks.contains p.1) = true → Cj l s → Cj l { s with env := s.env.keep ks }
 | [], _, _ => trivial
 | (t, x) :: l, h, hr => by
  simp only [List.all_cons, Bool.and_eq_true] at h
  exact ⟨by rw [lr, h.1]; exact hr.1, Cj.keep h.2 hr.2⟩
theorem NoB.keep {B : List Nat} {s : St} (ks : List Nat) (h : NoB B s) : NoB B { s with env := s.env.keep ks } := by
 intro u hu
 have := h u hu
 simp only [St.free] at this ⊢
 rw [lr]
 by_cases hk : ks.contains u = true
 ·rw [if_pos hk]; exact this
 ·rw [if_neg hk]
theorem XE {B : List Nat} {s : St} (t : Nat) (x : LV) (h : NoB B s) : NoB B (s.upd t (.v x)) := by
 intro u hu
 rw [KG]
 split
 ·rfl
 ·exact h u hu
theorem Ob {B : List Nat} {s : St} (t : Nat) (x : BQ) (ht : B.contains t = true) (h : NoB B s) : NoB B (s.upd t x) := by
 intro u hu
 rw [KG]
 split
 ·rename_i e; subst e; rw [ht] at hu; cases hu
 ·exact h u hu
theorem NoB.put {B : List Nat} {s s' : St} {t : Option Nat} {v : LV} (h : NoB B s) (hp : s.put t v = some s') : NoB B s' := by
 cases t with
 | none => simp only [St.put, Option.some.injEq] at hp; subst hp; exact h
 | some t =>
  simp only [St.put] at hp
  split at hp
  ·cases hp
  ·cases hp
  ·simp only [Option.some.injEq] at hp; subst hp; exact XE t v h
theorem NoB.take {B : List Nat} {s : St} {LP : A6} (x : Opd) (h : NoB B s) : NoB B (s.take LP x).2 := by
 cases x with
 | tmp t =>
  simp only [St.take]
  split
  ·exact XE t _ h
  ·exact h
 | con v => exact h
 | glob v => exact h
theorem NoB.setAt {B : List Nat} {s : St} {j t : Nat} {x : BQ} (h : NoB B s) (hb : j = s.low.length → s.free t = false) : NoB B (s.setAt j t x) := by
 simp only [St.setAt]
 split
 ·rename_i hj
  refine Ob t x ?_ h
  cases hc : B.contains t with
  | true => rfl
  | false => have := h t hc; rw [hb hj] at this; cases this
 ·exact h
theorem ai {s : St} {j t g : Nat} {cs : List LV} (h : s.cells j t g = some cs) : j = s.low.length → s.free t = false := by
 rintro rfl
 rw [JG] at h
 simp only [St.free]
 cases hr : s.raw t with
 | none => rw [hr] at h; cases h
 | some x => rw [hr] at h; cases x with
  | box g' cs => rfl
  | _ => cases h
theorem Ik {s : St} {j t g n : Nat} {es : List (List Int × LV)} (h : s.entries j t g n = some es) : j = s.low.length → s.free t = false := by
 rintro rfl
 simp only [St.entries, St.at, if_true] at h
 simp only [St.free, St.raw]
 cases hr : s.env.get t with
 | none => rw [hr] at h; cases h
 | some x => rw [hr] at h; cases x with
  | mapo g' n es => rfl
  | _ => cases h
def opB (B : List Nat) (o : AH) : Bool := match o.op with
 | .alloc _ | .box _ _ | .mkmap _ => match o.dst with
  | some t => B.contains t
  | none => true
 | .call _ _ (some vis) => vis.all B.contains
 | _ => true
theorem NoB.merge {B vis : List Nat} {e e' : Env} {low low' : List Fr} {c c' : Nat} (hv : vis.all B.contains = true) (h : NoB B ⟨e, low, c⟩) : NoB B ⟨Env.merge vis e e', low', c'⟩ := by
 intro u hu
 have hvu : vis.contains u = false := by
  cases hc : vis.contains u with
  | false => rfl
  | true =>
   have := List.all_eq_true.mp hv u (by simpa using hc)
   rw [hu] at this; cases this
 have hg : (Env.merge vis e e').get u = e.get u := by
  clear h
  induction e with
  | nil => rfl
  | cons p e ih =>
   obtain ⟨t, x⟩ := p
   simp only [Env.merge, List.filterMap_cons] at ih ⊢
   by_cases ht : t = u
   ·subst ht
    simp only [hvu, Bool.false_eq_true, if_false, Env.get, if_true]
   ·cases hc : vis.contains t with
    | false => simp only [Bool.false_eq_true, if_false, Env.get, if_neg ht]; exact ih
    | true =>
     simp only [if_true]
     cases e'.get t with
     | none => simp only [Option.map_none, Env.get, if_neg ht]; exact ih
     | some y => simp only [Option.map_some, Env.get, if_neg ht]; exact ih
 have := h u hu
 simp only [St.free, St.raw] at this ⊢
 rw [hg]; exact this
theorem NoB.evalOp {LP : A6} {C : AS} {B : List Nat} {g : Nat} {o : AH} {s s' : St} (ho : opB B o = true) (h : NoB B s) (he : evalOp LP C g o.dst o.op s = some s') : NoB B s' := by
 obtain ⟨dst, op, guard, root⟩ := o
 simp only at he
 cases op with
 | move x t => cases t with
  | false => exact h.put he
  | true => exact (NoB.take x h).put he
 | alloc zs => cases dst with
  | none => cases he
  | some t => simp only [Lf.evalOp, Option.some.injEq] at he; subst he; exact Ob t _ ho h
 | box n x => cases dst with
  | none => cases he
  | some t =>
   simp only [Lf.evalOp] at he
   split at he
   ·split at he
    ·simp only [Option.some.injEq] at he; subst he; exact Ob t _ ho h
    ·cases he
   ·cases he
 | mkmap n => cases dst with
  | none => cases he
  | some t => simp only [Lf.evalOp, Option.some.injEq] at he; subst he; exact Ob t _ ho h
 | mapset n m k v =>
  simp only [Lf.evalOp] at he
  split at he
  ·split at he
   ·rename_i es hes
    split at he
    ·simp only [Option.some.injEq] at he; subst he; exact (NoB.take v h).setAt (Ik hes)
    ·simp only [Option.some.injEq] at he; subst he; exact (NoB.take v h).setAt (Ik hes)
   ·cases he
  ·cases he
 | load k p take =>
  simp only [Lf.evalOp] at he
  split at he
  ·split at he
   ·exact h.put he
   ·cases he
  ·split at he
   ·exact h.put he
   ·cases he
  ·split at he
   ·rename_i cs hcs
    split at he
    ·exact (h.setAt (ai hcs)).put he
    ·split at he
     ·exact h.put he
     ·cases he
   ·cases he
  ·cases he
 | store n p x =>
  simp only [Lf.evalOp] at he
  split at he
  ·split at he
   ·rename_i cs xs hcs _
    split at he
    ·simp only [Option.some.injEq] at he; subst he; exact (NoB.take x h).setAt (ai hcs)
    ·cases he
   ·cases he
  ·cases he
 | call f args vis => cases vis with
  | some vis =>
   simp only [opB] at ho
   simp only [Lf.evalOp] at he
   repeat' split at he
   all_goals first | exact NoB.put (NoB.merge (e := s.env) (low := s.low) (c := s.ctr) ho h) he | cases he
  | none =>
   simp only [Lf.evalOp] at he
   repeat' split at he
   all_goals first | exact h.put he | cases he
 | append sz q x y =>
  simp only [Lf.evalOp] at he
  split at he
  ·exact (NoB.take x h).put he
  ·cases he
 | extract i x t =>
  simp only [Lf.evalOp] at he
  repeat' split at he
  all_goals first | exact h.put he | exact NoB.put (XE _ _ h) he | cases he
 | lookup n m k ok z =>
  simp only [Lf.evalOp] at he
  repeat' split at he
  all_goals first | exact h.put he | cases he
 | mentry n m k z =>
  simp only [Lf.evalOp] at he
  split at he
  ·split at he
   ·rename_i es hes
    split at he
    ·exact (h.setAt (Ik hes)).put he
    ·exact (h.setAt (Ik hes)).put he
   ·cases he
  ·cases he
 | mstore n m i x =>
  simp only [Lf.evalOp] at he
  split at he
  ·split at he
   ·rename_i es hes
    split at he
    ·simp only [Option.some.injEq] at he; subst he; exact (NoB.take x h).setAt (Ik hes)
    ·cases he
   ·cases he
  ·cases he
 | bad => cases he
 | mkfn f a b => exact h.put he
 | _ =>
  simp only [Lf.evalOp] at he
  repeat' split at he
  all_goals first | exact h.put he | cases he
theorem NoB.evalOps {LP : A6} {C : AS} {B : List Nat} : ∀ {ops : List AH} {g : Nat} {s s' : St}, ops.all (opB B) = true → NoB B s → evalOps LP C g ops s = some s' → NoB B s'
 | [], _, s, s', _, h, he => by simp only [Lf.evalOps, Option.some.injEq] at he; subst he; exact h
 | o :: r, g, s, s', ho, h, he => by
  simp only [List.all_cons, Bool.and_eq_true] at ho
  simp only [Lf.evalOps] at he
  split at he
  ·rename_i s1 h1
   refine NoB.evalOps ho.2 ?_ he
   simp only [Am] at h1
   split at h1
   ·split at h1
    ·exact NoB.evalOp ho.1 h h1
    ·cases h1
   ·split at h1
    ·split at h1
     ·split at h1
      ·exact NoB.evalOp ho.1 h h1
      ·cases h1
     ·exact h.put h1
    ·exact h.put h1
    ·cases h1
  ·cases he
section
variable {LP : A6} {ks : List ia} {J : Jmp → St → Prop} {a b : DC} {s : St}
theorem jx {B : List Nat} {ops : List AH} {keep : List Nat} {low : List Fr} (l : List (Nat × BQ)) (hl : s.low = low) (hf : NoB B s) (hB : ops.all (opB B) = true) (hk : l.all (fun p => keep.contains p.1) = true)
  (h : ∃ s1, Lf.evalOps LP (om LP) s.ctr ops (s.tick ops.length) = some s1 ∧ Cj l s1 ∧ s1.low = low)
  (h' : ∀ s', Dn l s' → s'.low = low → NoB B s' → E4 LP ks .normal s' J) : Run LP ks (.ops ops keep) s J := by
 obtain ⟨s1, he, hr, hl1⟩ := h
 have hf1 : NoB B s1 := NoB.evalOps hB (show NoB B (s.tick ops.length) from hf) he
 obtain ⟨e, lw, c⟩ := s
 exact ⟨.normal, { s1 with env := s1.env.keep keep }, .ops (PN he), h' _ (Cj.keep hk hr).r hl1 (NoB.keep keep hf1)⟩
theorem jL {t : Nat} {c : Bool} (hr : s.raw t = some (.v (.d (.bool c)))) (hc : c = true) (h : Run LP ks a s J) : Run LP ks (.cond (.tmp t) a b) s J := by
 subst hc
 refine Run.condT ?_ h
 rw [Qh, KY, hr]; rfl
theorem jh {t : Nat} {c : Bool} (hr : s.raw t = some (.v (.d (.bool c)))) (hc : c = false) (h : Run LP ks b s J) : Run LP ks (.cond (.tmp t) a b) s J := by
 subst hc
 refine Run.condF ?_ h
 rw [Qh, KY, hr]; rfl
end
theorem Run.sub {LP : A6} {ks : List ia} {J : Jmp → St → Prop} {c : DC} {s : St} {Q : Jmp → St → Prop} (h : Run LP [] c s Q) (h' : ∀ j s', Q j s' → E4 LP ks j s' J) : Run LP ks c s J := by
 obtain ⟨j, s', h1, h2⟩ := h
 exact ⟨j, s', h1, h' j s' h2⟩
def vt {σ ρ : Type} (E : σ → St → Prop) (Q : ρ → Jmp → St → Prop) (out : σ ⊕ ρ) (j : Jmp) (s : St) : Prop := match out with
 | .inl x => j = .normal ∧ E x s
 | .inr r => j ≠ .normal ∧ Q r j s
theorem mi {LP : A6} {ks : List ia} {c : DC} {σ ρ : Type} {f : σ → Option (σ ⊕ ρ)} {E : σ → St → Prop} {Q : ρ → Jmp → St → Prop} {J : Jmp → St → Prop} {r : ρ} {x : σ} {s : St}
  (hs : ∀ x s out, E x s → f x = some out → Run LP [] c s (vt E Q out)) (he : E x s) (hl : Loop f x = some r) (h' : ∀ j s', Q r j s' → E4 LP ks j s' J) : Run LP ks (.loop c) s J := by
 obtain ⟨n, hn⟩ := PH.mp hl
 clear hl
 induction n generalizing x s with
 | zero => simp [turns] at hn
 | succ n ih =>
  simp only [turns] at hn
  cases ho : f x with
  | none => rw [ho] at hn; simp at hn
  | some out =>
   rw [ho] at hn
   obtain ⟨j, s', h1, h2⟩ := hs x s out he ho
   cases out with
   | inl x' =>
    obtain ⟨rfl, hx⟩ := h2
    obtain ⟨j', s'', h3, h4⟩ := ih hx hn
    exact ⟨j', s'', .loop h1 h3, h4⟩
   | inr r' =>
    obtain ⟨hj, hq⟩ := h2
    obtain rfl := Option.some.inj hn
    exact ⟨j, s', .loop_jump h1 hj, h' j s' hq⟩
theorem qO {α : Type} [Enc α] {s : St} {t : Nat} {x : Sl α} (h : s.raw t = some (.v (.d (Enc.enc x)))) : s.raw t = some (.v x.cool.lv) := by rw [h, PV]
def St.merged (s : St) (vis : List Nat) (c : Nat) : St := ⟨Env.merge vis s.env (s.env.keep vis), s.low, c⟩
theorem eT (vis : List Nat) (E : Env) (t : Nat) : ∀ e : Env, (∀ u x, e.get u = some x → E.get u = some x ∨ (∃ y, E.get u = some y)) → (Env.merge vis e (E.keep vis)).get t = if vis.contains t then (match e.get t with | some _ => E.get t | none => none) else e.get t
 | [], _ => by simp [Env.merge, Env.get]
 | (u, x) :: e, h => by
  have hu : ∃ y, Env.get u E = some y := by
   rcases h u x (by simp [Env.get]) with h1 | h1
   ·exact ⟨x, h1⟩
   ·exact h1
  obtain ⟨y, hy⟩ := hu
  have ih := eT vis E t e
  by_cases hut : u = t
  ·subst hut
   cases hc : vis.contains u with
   | false => simp only [Env.merge, List.filterMap_cons, hc, Bool.false_eq_true, if_false, Env.get, if_true]
   | true => simp only [Env.merge, List.filterMap_cons, hc, if_true, KU, hy, Option.map_some, Env.get]
  ·have ih' : (Env.merge vis e (E.keep vis)).get t = if vis.contains t then (match Env.get t e with | some _ => Env.get t E | none => none) else Env.get t e := by
    apply ih
    intro u' x' hx'
    by_cases hu2 : u = u'
    ·subst hu2; exact .inr ⟨y, hy⟩
    ·exact h u' x' (by simp only [Env.get, if_neg hu2]; exact hx')
   simp only [Env.get, if_neg hut]
   rw [← ih']
   cases hc : vis.contains u with
   | false => simp only [Env.merge, List.filterMap_cons, hc, Bool.false_eq_true, if_false, Env.get, if_neg hut]
   | true => simp only [Env.merge, List.filterMap_cons, hc, if_true, KU, hy, Option.map_some, Env.get, if_neg hut]
theorem PG (s : St) (vis : List Nat) (c t : Nat) : (s.merged vis c).raw t = s.raw t := by
 simp only [St.raw, St.merged]
 rw [eT vis s.env t s.env (fun u x h => .inl h)]
 split
 ·cases s.env.get t <;> rfl
 ·rfl
theorem RD (s : St) (vis : List Nat) (c t : Nat) : (s.merged vis c).free t = s.free t := by
 simp only [St.free, PG]
theorem Z5 (s : St) (vis : List Nat) (c : Nat) : (s.merged vis c).low = s.low := rfl
section
variable (LP : A6) (C : AS)
def OR (g : Nat) (r : List AH) (s : St) (t : Option Nat) (vis : List Nat) : Option (LV × List Fr × Nat) → Option St
 | some (v, low', c') => match low'.getLast? with
  | some fr => if low'.length = s.low.length + 1 then HF LP C g r { env := Env.merge vis s.env fr.env, low := low'.dropLast, ctr := c' } t (some v) else none
  | none => none
 | none => none
variable {LP C} (g : Nat) (r : List AH) (s : St) (t : Option Nat) (ro : Option (Option Nat))
theorem Zv (vis : List Nat) (v : LV) (c : Nat) (low2 : List Fr) (h : low2 = s.low) : OR LP C g r s t vis (some (v, low2 ++ [⟨s.env.keep vis, none⟩], c)) = HF LP C g r (s.merged vis c) t (some v) := by
 subst h
 simp [OR, St.merged]
theorem rK (fv : DV) (f : Nat) (a b : List DV) (fo : Opd) (args : List Opd) (vis : List Nat) (h : s.val LP fo = .d fv) (hf : fv = .fn f a b) :
  evalOps LP C g (⟨t, .call fo args (some vis), none, ro⟩ :: r) s = OR LP C (g + 1) r s t vis (C.call f (a.map .d ++ args.map (s.val LP) ++ b.map .d) (s.low ++ [⟨s.env.keep vis, none⟩]) s.ctr) := by
 subst hf
 have hr : Au s.low.length ro none = true := by cases ro <;> rfl
 simp only [evalOps, Am, LOp.addr, Option.map_none, hr, if_true, evalOp, h, target]
 cases C.call f (List.map LV.d a ++ List.map (St.val LP s) args ++ List.map LV.d b) (s.low ++ [⟨s.env.keep vis, none⟩]) s.ctr with
 | none => rfl
 | some p =>
  obtain ⟨v, low', c'⟩ := p
  simp only [OR]
  cases low'.getLast? with
  | none => rfl
  | some fr =>
   simp only
   by_cases hl : low'.length = s.low.length + 1
   ·simp only [if_pos hl]; rfl
   ·simp only [if_neg hl]
theorem kB (f : Nat) (a b : List DV) (args : List Opd) (vis : List Nat) :
  evalOps LP C g (⟨t, .call (.con (.fn f a b)) args (some vis), none, ro⟩ :: r) s = OR LP C (g + 1) r s t vis (C.call f (a.map .d ++ args.map (s.val LP) ++ b.map .d) (s.low ++ [⟨s.env.keep vis, none⟩]) s.ctr) :=
 rK g r s t ro _ f a b _ args vis rfl rfl
end
theorem lK (LP : A6) (s : St) (n : Nat) : s.val LP (.glob n) = .d (.fptr (LP.globs n) 0) := rfl
def U4 (s : St) (r : Nat × Option (Option Nat)) : Option LV := (Db s r).bind (freeze s.low.length s.env 9)
def fin (rs : List (Nat × Option (Option Nat))) (s : St) : Option LV := match rs.mapM (U4 s) with
 | some [x] => some x
 | some xs => some (LV.norm (.tup xs))
 | none => none
theorem AU {s : St} {r : Nat × Option (Option Nat)} {v : DV} (h : U4 s r = some (.d v)) : fin [r] s = some (.d v) := by
 simp [fin, h]
theorem Bn {s : St} {r1 r2 : Nat × Option (Option Nat)} {v1 v2 : DV} (h1 : U4 s r1 = some (.d v1)) (h2 : U4 s r2 = some (.d v2)) : fin [r1, r2] s = some (.d (.tup [v1, v2])) := by
 simp [fin, h1, h2, LV.norm, LV.toD, AZ]
theorem XB {s : St} {r1 r2 r3 : Nat × Option (Option Nat)} {v1 v2 v3 : DV} (h1 : U4 s r1 = some (.d v1)) (h2 : U4 s r2 = some (.d v2)) (h3 : U4 s r3 = some (.d v3)) : fin [r1, r2, r3] s = some (.d (.tup [v1, v2, v3])) := by
 simp [fin, h1, h2, h3, LV.norm, LV.toD, AZ]
theorem AO {s : St} {t : Nat} {v : DV} (h : s.raw t = some (.v (.d v))) : U4 s (t, none) = some (.d v) := by
 simp only [U4, Db, KY, h]; rfl
theorem cF {α : Type} [Enc α] {s : St} {t : Nat} {x : Sl α} (h : s.raw t = some (.v x.lv)) : U4 s (t, none) = some (.d (Enc.enc x)) := by
 simp only [U4, Db, KY, h, G7, LC]; cases x <;> rfl
theorem EG {α : Type} [TJ α] {s : St} {t g n : Nat} {x : α} (h : s.raw t = some (.box g ((Enc.cells x).map .d))) (hn : Enc.n α = n) : U4 s (t, some (some n)) = some (.d (Enc.enc x)) := by
 have hl : ((Enc.cells x).map LV.d).length = n := by rw [List.length_map, HH.len, hn]
 have hc : ((Enc.cells x).map LV.d).map LV.copy = (Enc.cells x).map LV.d := by rw [List.map_map]; rfl
 simp only [St.raw] at h
 simp only [U4, Db, h, hl, if_true, hc, LV.norm, LV.toD, S7, Option.map_some, Option.bind_some, TJ.agg]
 rfl
theorem YA {s : St} {t g : Nat} {v : DV} (h : s.raw t = some (.box g [.d v])) : U4 s (t, some none) = some (.d v) := by
 simp only [St.raw] at h
 simp [U4, Db, h, LV.copy, freeze]
theorem XO {α : Type} [Enc α] {s : St} {t g : Nat} {x : Sl α} (h : s.raw t = some (.box g [x.lv])) : U4 s (t, some none) = some (.d (Enc.enc x)) := by
 simp only [St.raw] at h
 cases x <;> simp [U4, Db, h, LV.copy, freeze, Sl.lv, Enc.enc, Sl.dv]
def FnJ (lf : Nq) (low : List Fr) (v : LV) (j : Jmp) (s : St) : Prop := (j = .normal ∨ j = .ret) ∧ s.low = low ∧ fin lf.results s = some v
theorem tY {LP : A6} {n : Nat} {lf : Nq} {args : List LV} {low : List Fr} {ctr : Nat} {v : LV} {B : List Nat} (hf : LP.funcs n = some lf) (hl : args.length = lf.nparams)
  (hB : NoB B { env := Dw 0 args, low, ctr }) (h : ∀ s, (∀ t, s.raw t = (Dw 0 args).get t) → s.low = low → NoB B s → Run LP [] lf.body s (FnJ lf low v)) : ∃ ctr', sY LP n args low ctr v low ctr' := by
 obtain ⟨j, s', hc, hj, hl', hr⟩ := h { env := Dw 0 args, low, ctr } (fun _ => rfl) rfl hB
 refine ⟨s'.ctr, ?_⟩
 have := sY.func (jmp := j) hf hl hc hj (v := v) hr
 rwa [hl'] at this
theorem XL (args : List LV) (low : List Fr) (ctr : Nat) (B : List Nat) : NoB B { env := Dw 0 args, low, ctr } := by
 intro u _
 have main : ∀ (args : List LV) (k : Nat), St.free { env := Dw k args, low, ctr } u = true := by
  intro args
  induction args with
  | nil => intro k; rfl
  | cons a args ih =>
   intro k
   simp only [Dw]
   rw [oh]
   split
   ·rfl
   ·exact ih (k + 1)
 exact main args 0
def Fin (LP : A6) (n : Nat) (ds : List DV) (v : DV) : Prop := ∀ low ctr, ∃ ctr', sY LP n (ds.map .d) low ctr (.d v) low ctr'
theorem Fin.call {LP : A6} {n : Nat} {ds : List DV} {v : DV} (h : Fin LP n ds v) : JB (om LP) n ds = some (.d v) := by
 obtain ⟨c, he⟩ := h [] 0
 simp only [JB, Oe.mpr he]
 rfl
theorem Il {LP : A6} {n : Nat} {ds : List DV} {v : DV} (h : Fin LP n ds v) : ∃ c : List Fr → Nat → Nat, ∀ low ctr, (om LP).call n (ds.map LV.d) low ctr = some (.d v, low, c low ctr) := by
 have h' : ∀ (p : List Fr × Nat), ∃ c, (om LP).call n (ds.map LV.d) p.1 p.2 = some (.d v, p.1, c) := fun p => by
  obtain ⟨c, hc⟩ := h p.1 p.2
  exact ⟨c, Oe.mpr hc⟩
 exact ⟨fun l c => (h' (l, c)).choose, fun l c => (h' (l, c)).choose_spec⟩
theorem yi {LP : A6} {n : Nat} {lf : Nq} {ds : List DV} {v : DV} (B : List Nat) (hf : LP.funcs n = some lf) (hl : ds.length = lf.nparams)
  (h : ∀ low s, (∀ t, s.raw t = (Dw 0 (ds.map LV.d)).get t) → s.low = low → NoB B s → Run LP [] lf.body s (FnJ lf low (.d v))) : Fin LP n ds v := by
 intro low ctr
 exact tY (B := B) hf (by simpa using hl) (XL _ _ _ _) (h low)
def Im (low : List Fr) (j t : Nat) : Option BQ := match low[j]? with
 | some fr => fr.env.get t
 | none => none
theorem iu {low : List Fr} {j t : Nat} {x : BQ} (h : Im low j t = some x) : j < low.length := by
 simp only [Im] at h
 by_cases hj : j < low.length
 ·exact hj
 ·rw [List.getElem?_eq_none (by omega)] at h; cases h
theorem Ha {low : List Fr} {fr : Fr} {j t : Nat} {x : BQ} (h : Im low j t = some x) : Im (low ++ [fr]) j t = some x := by
 have := iu h
 simp only [Im] at h ⊢
 rw [List.getElem?_append_left this]; exact h
theorem SB {low : List Fr} {e : Env} {l : Option NM} {t : Nat} {x : BQ} (h : Env.get t e = some x) : Im (low ++ [⟨e, l⟩]) low.length t = some x := by
 simp only [Im]
 rw [List.getElem?_append_right (Nat.le_refl _), Nat.sub_self]; exact h
theorem Eu {low : List Fr} {j t g : Nat} {cs : List LV} (h : Im low j t = some (.box g cs)) (s : St) (k : Option Nat) (off : Nat) (hl : s.low = low) : Ss s k none (.ptr j t g off) = part k off cs := by
 subst hl
 have hj := iu h
 have hc : s.cells j t g = some cs := by
  simp only [St.cells, St.at, if_neg (show ¬ j = s.low.length by omega)]
  simp only [Im] at h
  cases hx : s.low[j]? with
  | none => rw [hx] at h; cases h
  | some fr => rw [hx] at h; simp only at h ⊢; rw [h]; simp
 simp only [Ss, Au, if_true, hc]
theorem WR (s : St) (k : Option Nat) (ro : Option (Option Nat)) (cs : List LV) (off : Nat) : Ss s k ro (.fptr cs off) = part k off cs := by
 have h : Au s.low.length ro (some (.fptr cs off)) = true := by cases ro <;> rfl
 simp only [Ss, h, if_true]
theorem Br (k : Option Nat) (off g : Nat) (cs : List LV) : HZ k off g (some (.box g cs)) = part k off cs := by simp only [HZ, if_true]
theorem Dc (x : LV) : part none 0 [x] = some x.copy := rfl
theorem Iw (f : Nat) (a b : List LV) : part none 0 [LV.fn f a b] = some (.fn f a b) := rfl
theorem pA (s : St) (t : Nat) : Env.get t s.env = s.raw t := rfl
theorem get_keep (ks : List Nat) (e : Env) (t : Nat) : Env.get t (Env.keep ks e) = if ks.contains t then Env.get t e else none := KU ..
def LW (LP : A6) (n : Nat) (args : List LV) (low : List Fr) (v : LV) : Prop := ∀ ctr, ∃ ctr', sY LP n args low ctr v low ctr'
noncomputable def TU (LP : A6) (n : Nat) (args : List LV) (low : List Fr) (ctr : Nat) : Nat := match (om LP).call n args low ctr with
 | some (_, _, c) => c
 | none => 0
theorem LW.om {LP : A6} {n : Nat} {args : List LV} {low : List Fr} {v : LV} (h : LW LP n args low v) (ctr : Nat) : (om LP).call n args low ctr = some (v, low, TU LP n args low ctr) := by
 obtain ⟨c, hc⟩ := h ctr
 have := Oe.mpr hc
 simp only [TU, this]
theorem Fin.low {LP : A6} {n : Nat} {ds : List DV} {v : DV} (h : Fin LP n ds v) (low : List Fr) : LW LP n (ds.map .d) low (.d v) := h low
theorem LW.call {LP : A6} {n : Nat} {ds : List DV} {v : DV} (h : LW LP n (ds.map .d) [] (.d v)) : JB (Lf.om LP) n ds = some (.d v) := by
 obtain ⟨c, he⟩ := h 0
 simp only [JB, Oe.mpr he]
 rfl
theorem vx {LP : A6} {n : Nat} {lf : Nq} {args : List LV} {low : List Fr} {v : LV} (B : List Nat) (hf : LP.funcs n = some lf) (hl : args.length = lf.nparams)
  (h : ∀ s, (∀ t, s.raw t = (Dw 0 args).get t) → s.low = low → NoB B s → Run LP [] lf.body s (FnJ lf low v)) : LW LP n args low v := by
 intro ctr
 exact tY (B := B) hf hl (XL _ _ _ _) h
def uK (LP : A6) (C : AS) (g : Nat) (r : List AH) (s : St) (t : Option Nat) (ro : Option (Option Nat)) (u : Nat) (args : List Opd) (vis : List Nat) : Option (Nat × List LV × List LV) → Option St
 | some (f, a, b) => OR LP C (g + 1) r s t vis (C.call f (a ++ args.map (s.val LP) ++ b) (s.low ++ [⟨s.env.keep vis, none⟩]) s.ctr)
 | none => evalOps LP C g (⟨t, .call (.tmp u) args (some vis), none, ro⟩ :: r) s
theorem vB (LP : A6) (C : AS) (g : Nat) (r : List AH) (s : St) (t : Option Nat) (ro : Option (Option Nat)) (u : Nat) (args : List Opd) (vis : List Nat) (f : Nat) (a b : List LV) :
 uK LP C g r s t ro u args vis (some (f, a, b)) = OR LP C (g + 1) r s t vis (C.call f (a ++ args.map (s.val LP) ++ b) (s.low ++ [⟨s.env.keep vis, none⟩]) s.ctr) := rfl
theorem rf {LP : A6} {C : AS} (g : Nat) (r : List AH) (s : St) (t : Option Nat) (ro : Option (Option Nat)) (u : Nat) (args : List Opd) (vis : List Nat) :
  evalOps LP C g (⟨t, .call (.tmp u) args (some vis), none, ro⟩ :: r) s = uK LP C g r s t ro u args vis (target (s.slot u)) := by
 cases ht : target (s.slot u) with
 | none => rfl
 | some p =>
  obtain ⟨f, a, b⟩ := p
  have hr : Au s.low.length ro none = true := by cases ro <;> rfl
  have hy : ∀ j g', s.slot u ≠ .yield j g' := by intro j g' e; rw [e] at ht; cases ht
  simp only [evalOps, Am, LOp.addr, Option.map_none, hr, if_true, evalOp, St.val, uK]
  cases hs : s.slot u with
  | yield j g' => exact absurd hs (hy j g')
  | _ =>
   rw [hs] at ht
   simp only [ht]
   cases C.call f (a ++ List.map (s.val LP) args ++ b) (s.low ++ [⟨s.env.keep vis, none⟩]) s.ctr with
   | none => rfl
   | some p =>
    obtain ⟨v, low', c'⟩ := p
    simp only [OR]
    cases low'.getLast? with
    | none => rfl
    | some fr =>
     simp only
     by_cases hl : low'.length = s.low.length + 1
     ·simp only [if_pos hl]; rfl
     ·simp only [if_neg hl]
def oz (C : AS) (f : Nat) (a b : List DV) : Option (List DV) → Option LV
 | some ds => JB C f (a ++ ds ++ b)
 | none => none
theorem Ub (C : AS) (f : Nat) (a b ds : List DV) : oz C f a b (some ds) = JB C f (a ++ ds ++ b) := rfl
theorem aY (C : AS) (f : Nat) (a b : List DV) (args : List LV) : ik C (.d (.fn f a b)) args = oz C f a b (AZ args) := by
 simp only [ik, target]
 cases AZ args with
 | none => rfl
 | some ds => simp only [S7]; rfl
theorem dn (f : Nat) (a b : List DV) : target (.d (.fn f a b)) = some (f, a.map .d, b.map .d) := rfl
theorem XJ (f : Nat) (a b : List LV) : target (.fn f a b) = some (f, a, b) := rfl
theorem gG (c : LV) (f : Nat) (x y : List LV) : DD 1 0 [.fn f x y] [c] = some [.fn f x y] := GQ c rfl
theorem aU (c : LV) (f : Nat) (x y : List DV) : DD 1 0 [.d (.fn f x y)] [c] = some [.d (.fn f x y)] := GQ c rfl
theorem Ww (f : Nat) (x y : List LV) : LV.known (.fn f x y) = some [.fn f x y] := rfl
theorem eX (f : Nat) (x y : List DV) : LV.known (.d (.fn f x y)) = some [.d (.fn f x y)] := rfl
theorem WM : LV.known (.d .nilfn) = some [.d .nilfn] := rfl
theorem O5 {LP : A6} {C : AS} (g : Nat) (r : List AH) (s : St) (n t g' off u : Nat) (f : Nat) (a b : List LV) (h : s.raw u = some (.v (.fn f a b))) :
  Tz LP C g r s n t g' off (.tmp u) (some (.v (.fn f a b))) = ju LP C g r ((G9 n off g' (some [.fn f a b]) (s.raw t)).map fun x => s.upd t x) := by
 show I8 LP C g r s n (.ptr s.low.length t g' off) (.tmp u) = _
 have ht : s.take LP (.tmp u) = (.fn f a b, s) := by
  unfold St.raw at h
  simp only [St.take, h, St.slot, LV.copy]
 simp only [I8, ht, JG, Ww]
 cases hr : s.raw t with
 | none => rfl
 | some z => cases z with
  | box g2 cs =>
   simp only [G9]
   by_cases hg : g2 = g'
   ·subst hg
    simp only [if_true]
    by_cases hc : [LV.fn f a b].length = n ∧ off + n ≤ cs.length ∧ [LV.fn f a b].all LV.cellOk = true
    ·simp only [if_pos hc, Option.map_some, St.setAt, if_true, St.upd]
    ·simp only [if_neg hc, Option.map_none]
   ·simp only [if_neg hg]; rfl
  | _ => rfl
def fg (f : Nat) (a b : List LV) : Option (List DV) → Option (List DV) → LV
 | some x, some y => .d (.fn f x y)
 | _, _ => .fn f a b
theorem bT (f : Nat) (a b : List LV) : LV.norm (.fn f a b) = fg f a b (AZ a) (AZ b) := by
 simp only [LV.norm, LV.toD, fg]
 cases AZ a <;> cases AZ b <;> rfl
theorem SN (f : Nat) (a b : List LV) (x y : List DV) : fg f a b (some x) (some y) = .d (.fn f x y) := rfl
theorem S4 (f : Nat) (a b : List LV) (y : Option (List DV)) : fg f a b none y = .fn f a b := by cases y <;> rfl
theorem TD (f : Nat) (a b : List LV) (x : Option (List DV)) : fg f a b x none = .fn f a b := by cases x <;> rfl
theorem kL (j t g o : Nat) (r : List LV) : AZ (.ptr j t g o :: r) = none := rfl
theorem wa (f : Nat) (a b r : List LV) (h : LV.toD (.fn f a b) = none) : AZ (.fn f a b :: r) = none := by simp only [AZ, h]
theorem Jw (k t f : Nat) (a b : List LV) : NK k t (.v (.fn f a b)) = .fn f a b := rfl
theorem eF (k t : Nat) (a : List LV) : NK k t (.v (.agg a)) = .agg a := rfl
theorem aX (k t o : Nat) (a : List LV) : NK k t (.v (.fptr a o)) = .fptr a o := rfl
theorem pH (f : Nat) (a b : List LV) : an 1 (.fn f a b) = some [.fn f a b] := rfl
theorem lb (f : Nat) (a b : List DV) : an 1 (.d (.fn f a b)) = some [.d (.fn f a b)] := rfl
theorem lA (s : St) (n : Nat) : (s.tick n).ctr = s.ctr + n := rfl
theorem oJ (a b : Bool) : vc false (.d (.bool a)) (.d (.bool b)) = some (.d (.bool (a == b))) := rfl
theorem pU (a b : Bool) : vc true (.d (.bool a)) (.d (.bool b)) = some (.d (.bool (a != b))) := rfl
theorem bC (a b : Nat) (l : List Nat) : (a :: l).contains b = if b = a then true else l.contains b := by
 rw [List.contains_cons]
 by_cases h : b = a
 ·subst h; simp
 ·rw [if_neg h, show (b == a) = false from by simpa using h, Bool.false_or]
theorem bN (b : Nat) : ([] : List Nat).contains b = false := rfl
theorem pn {P : St → Prop} (s : St) : (∃ s1, some s = some s1 ∧ P s1) = P s := by simp
theorem nob {B : List Nat} {s : St} (h : NoB B s) : ∀ u, B.contains u = false → s.free u = true := h
theorem ky (s : St) (u : Nat) : nF s (.tmp u) = s.raw u := rfl
theorem kb (s : St) (v : DV) : nF s (.con v) = some (.v (.d v)) := rfl
theorem wX (x : LV) : (BQ.v x).isV = true := rfl
theorem wE (g : Nat) (cs : List LV) : (BQ.box g cs).isV = false := rfl
theorem wQ (g n : Nat) (es : List (List Int × LV)) : (BQ.mapo g n es).isV = false := rfl
theorem Bj {α : Type} [TJ α] (x : α) {n : Nat} (h : Enc.n α = n) : A0 (some n) 0 (Enc.cells x) = some (Enc.enc x) := by
 have := HH.len x
 simp only [A0, List.drop_zero]
 rw [List.take_of_length_le (by omega), if_pos (by omega), TJ.agg]
def opI (op : BinOp) (a b : Int) : Option Int := match CO (binOp op 0 (.int .i64 a) (.int .i64 b)) with
 | some (.int n) => some n
 | _ => none
theorem rE {op : BinOp} {a b n : Int} (h : opI op a b = some n) : ln op (.d (.int a)) (.d (.int b)) = some (.d (.int n)) := by
 unfold opI at h
 split at h
 ·rename_i m hm
  cases h
  simp only [ln, TI, hm, Option.map_some]
 ·cases h
def SD {α : Type} [Enc α] : Nat → List α → List (Nat × Nat × LV)
 | _, [] => []
 | i, a :: l => (i, Enc.n α, .d (Enc.enc a)) :: SD (i + Enc.n α) l
theorem kV {α : Type} [TJ α] : ∀ (l : List α) (d r : List LV), r.length = l.length * Enc.n α → C4 (SD d.length l) (d ++ r) = some (d ++ (l.flatMap Enc.cells).map LV.d)
 | [], d, r, h => by
  simp only [List.length_nil, Nat.zero_mul, List.length_eq_zero_iff] at h
  subst h
  simp [SD, C4]
 | a :: l, d, r, h => by
  have hl : ((Enc.cells a).map LV.d).length = Enc.n α := by rw [List.length_map, HH.len]
  have hr : Enc.n α ≤ r.length := by rw [h, List.length_cons, Nat.add_mul]; omega
  simp only [SD, C4, Re]
  rw [if_pos ⟨hl, by rw [List.length_append]; omega⟩]
  have hs : setCells (d ++ r) d.length ((Enc.cells a).map LV.d) = (d ++ (Enc.cells a).map LV.d) ++ r.drop (Enc.n α) := by
   rw [setCells, List.take_left' rfl, hl, ← List.drop_drop, List.drop_left' rfl]
  have hd : d.length + Enc.n α = (d ++ (Enc.cells a).map LV.d).length := by rw [List.length_append, hl]
  rw [hs, hd, kV l (d ++ (Enc.cells a).map LV.d) (r.drop (Enc.n α)) (by rw [List.length_drop, h, List.length_cons, Nat.add_mul]; omega)]
  simp
theorem gA {α : Type} [HH α] : ∀ (l : List α) (k : Nat) (v : α), l[k]? = some v → ((l.flatMap Enc.cells).drop (k * Enc.n α)).take (Enc.n α) = Enc.cells v
 | [], k, v, h => by simp at h
 | a :: l, 0, v, h => by
  simp only [List.getElem?_cons_zero, Option.some.injEq] at h
  subst h
  have := HH.len a
  simp only [List.flatMap_cons, Nat.zero_mul, List.drop_zero]
  rw [List.take_append_of_le_length (by omega), List.take_of_length_le (by omega)]
 | a :: l, k + 1, v, h => by
  simp only [List.getElem?_cons_succ] at h
  have := HH.len a
  rw [← gA l k v h]
  simp only [List.flatMap_cons]
  rw [List.drop_append, List.drop_of_length_le (by rw [this, Nat.add_mul]; omega), List.nil_append, this, Nat.add_mul, Nat.one_mul, Nat.add_sub_cancel]
theorem nN {α β : Type} (f : Nat → Option β) (g : α → β) (l : List α) (h : ∀ (i : Nat) (v : α), l[i]? = some v → f i = some (g v)) : (List.range l.length).mapM f = some (l.map g) := by
 have main : ∀ (k : Nat), k ≤ l.length → (List.range' (l.length - k) k).mapM f = some ((l.drop (l.length - k)).map g) := by
  intro k
  induction k with
  | zero => intro _; simp
  | succ k ih =>
   intro hk
   have hlt : l.length - (k + 1) < l.length := by omega
   rw [List.range'_succ, List.mapM_cons, h _ _ (List.getElem?_eq_getElem hlt)]
   have e : l.length - (k + 1) + 1 = l.length - k := by omega
   rw [e, ih (by omega), List.drop_eq_getElem_cons hlt, e]
   rfl
 have := main l.length (Nat.le_refl _)
 rw [Nat.sub_self] at this
 rw [List.range_eq_range']
 simpa using this
theorem KJ {α : Type} [TJ α] (l : List α) {zs : List DV} {n sz : Nat} {ps : List (Nat × Nat × LV)} (hz : zs.length = Enc.n α) (hp : (n, sz, ps) = (l.length, Enc.n α, SD 0 l)) : VR (some sz) zs n ps = some (Sl.hot l).lv := by
 simp only [Prod.mk.injEq] at hp
 obtain ⟨rfl, rfl, rfl⟩ := hp
 have hr : (((List.replicate l.length zs).flatten).map LV.d).length = l.length * Enc.n α := by simp [hz]
 have := kV l [] _ hr
 simp only [List.length_nil, List.nil_append] at this
 simp only [VR, this, i4, if_true, S7, Option.getD_some]
 rw [nN (fun i => A0 (some (Enc.n α)) (i * Enc.n α) (l.flatMap Enc.cells)) Enc.enc l]
 ·rfl
 ·intro i v hv
  simp only [A0, gA l i v hv, HH.len, if_true, TJ.agg]
structure T3 (α β γ : Type) where
 a : α
 b : β
 c : γ
instance {α β γ : Type} [Enc α] [Enc β] [Enc γ] : Enc (T3 α β γ) := ⟨1, fun x => [.tup [Enc.enc x.a, Enc.enc x.b, Enc.enc x.c]], fun x => .tup [Enc.enc x.a, Enc.enc x.b, Enc.enc x.c], fun _ => rfl⟩
theorem qY {α β γ : Type} [Enc α] [Enc β] [Enc γ] (x : T3 α β γ) : rN 0 (some (.v (.d (Enc.enc x)))) = some (.d (Enc.enc x.a)) ∧ rN 1 (some (.v (.d (Enc.enc x)))) = some (.d (Enc.enc x.b)) ∧ rN 2 (some (.v (.d (Enc.enc x)))) = some (.d (Enc.enc x.c)) := ⟨rfl, rfl, rfl⟩
def Mp.get {n : Nat} {α : Type} (m : Mp n α) (k : List Int) : Option α := match m with
 | .nil => none
 | .mk es => (AN k es 0).map (·.2)
theorem N7 {α β : Type} (f : α → β) (k : List Int) : ∀ (es : List (List Int × α)) (i : Nat), AN k (es.map fun p => (p.1, f p.2)) i = (AN k es i).map fun p => (p.1, f p.2)
 | [], _ => rfl
 | (k', v) :: es, i => by
  simp only [List.map_cons, AN]
  by_cases h : k' = k
  ·simp [h]
  ·simp only [if_neg h]; exact N7 f k es (i + 1)
theorem UX {α : Type} [Bc α] {n : Nat} (x : α) (hn : Enc.n α = n) (h1 : n ≠ 1) : LV.key n (.d (Enc.enc x)) = some (Bc.key x) := by
 have hl := HH.len x
 rw [Bc.hkey, List.length_map] at hl
 have hi : ∀ l : List Int, DV.ints (l.map .int) = some l := by
  intro l; induction l with
  | nil => rfl
  | cons a l ih => simp [DV.ints, ih]
 rw [TJ.agg, Bc.hkey]
 simp only [LV.key, hi]
 rw [if_pos ⟨by omega, h1⟩]
theorem aN {α : Type} [Bc α] (x : α) : LV.aggKey (.d (Enc.enc x)) = some (Bc.key x) := by
 have hi : ∀ l : List Int, DV.ints (l.map .int) = some l := by
  intro l; induction l with
  | nil => rfl
  | cons a l ih => simp [DV.ints, ih]
 rw [TJ.agg, Bc.hkey]
 simp only [LV.aggKey, hi]
theorem JY {α : Type} [Bc α] (x y : α) (n : Nat) (hn : Enc.n α = n) : ue false n (.d (Enc.enc x)) (.d (Enc.enc y)) = some (.d (.bool (decide (Bc.key x = Bc.key y)))) := by
 have hx := HH.len x
 have hy := HH.len y
 rw [Bc.hkey, List.length_map] at hx hy
 simp [ue, aN, hx, hy, hn]
theorem J3 {α : Type} [Bc α] (x y : α) (n : Nat) (hn : Enc.n α = n) : ue true n (.d (Enc.enc x)) (.d (Enc.enc y)) = some (.d (.bool (!decide (Bc.key x = Bc.key y)))) := by
 have hx := HH.len x
 have hy := HH.len y
 rw [Bc.hkey, List.length_map] at hx hy
 simp [ue, aN, hx, hy, hn]
theorem oY {n : Nat} {α : Type} [Enc α] (m : Mp n α) (k : LV) (key : List Int) (z : DV) (hk : k.key n = some key) : TM n false z (.d (Enc.enc m)) k = some (.d (((m.get key).map Enc.enc).getD z)) := by
 cases m with
 | nil => simp only [TM, hk, Enc.enc, Mp.dv]; rfl
 | mk es =>
  simp only [TM, hk, Enc.enc, Mp.dv, if_true, Mp.get, N7]
  cases AN key es 0 <;> rfl
theorem ci {n : Nat} {α κ : Type} [Enc α] [Bc κ] (s : St) (ro : Option (Option Nat)) (m : Mp n α) (k : κ) (z : α) (zd : DV) (hn : Enc.n κ = n) (h1 : n ≠ 1) (hz : Enc.enc z = zd) : rF s n false zd ro (.d (Enc.enc m)) (.d (Enc.enc k)) = some (.d (Enc.enc ((m.get (Bc.key k)).getD z))) := by
 have e := oY m (.d (Enc.enc k)) (Bc.key k) zd (UX k hn h1)
 have hr : Au s.low.length ro (some (.d (Enc.enc m))) = true := YD _ _ _
 simp only [rF, hr, if_true]
 rw [e, ← hz]
 cases m.get (Bc.key k) <;> rfl
theorem dV (a b : Int) : vMm false [.d (.int a), .d (.int b)] = some (.d (.int (min a b))) := by
 simp only [vMm, minmax, Qd, TI, List.foldl_cons, List.foldl_nil, Option.map_some, Bool.false_eq_true, if_false, Option.some.injEq, LV.d.injEq, DV.int.injEq]
 split <;> omega
theorem yV (a b : Int) : vMm true [.d (.int a), .d (.int b)] = some (.d (.int (max a b))) := by
 simp only [vMm, minmax, Qd, TI, List.foldl_cons, List.foldl_nil, Option.map_some, if_true, Option.some.injEq, LV.d.injEq, DV.int.injEq]
 split <;> omega
theorem xn (a : Int) : vUn .neg (.d (.int a)) = some (.d (.int (W (0 - a)))) := rfl
section
variable {n : Nat} {α : Type} {x : Ar n α} {i : Int} {v : α}
theorem jE (h : x.ix i = some v) : 0 ≤ i ∧ i.toNat < n := by
 unfold Ar.ix at h
 split at h
 ·rename_i hi
  obtain ⟨hl, _⟩ := List.getElem?_eq_some_iff.mp h
  exact ⟨hi, x.h ▸ hl⟩
 ·cases h
theorem ES (h : x.ix i = some v) (sz j t g o : Nat) : TW sz n (.ptr j t g o) (.d (.int i)) = some (.ptr j t g (o + i.toNat * sz)) := by
 obtain ⟨h1, h2⟩ := jE h
 simp [TW, Gp, h1, h2, Jb]
theorem tG (h : x.ix i = some v) : x.l[i.toNat]? = some v := by
 unfold Ar.ix at h
 split at h
 ·exact h
 ·cases h
variable [HH α]
theorem kU : ∀ (l : List α) (k : Nat) (v : α), l[k]? = some v → ((l.flatMap Enc.cells).drop (k * Enc.n α)).take (Enc.n α) = Enc.cells v
 | [], k, v, h => by simp at h
 | a :: l, 0, v, h => by
  simp only [List.getElem?_cons_zero, Option.some.injEq] at h
  subst h
  have := HH.len a
  simp only [List.flatMap_cons, Nat.zero_mul, List.drop_zero]
  rw [List.take_append_of_le_length (by omega), List.take_of_length_le (by omega)]
 | a :: l, k + 1, v, h => by
  simp only [List.getElem?_cons_succ] at h
  have := HH.len a
  rw [← kU l k v h]
  simp only [List.flatMap_cons]
  rw [List.drop_append, List.drop_of_length_le (by rw [this, Nat.add_mul]; omega), List.nil_append, this, Nat.add_mul, Nat.one_mul, Nat.add_sub_cancel]
theorem jU (h : x.ix i = some v) : ((Enc.cells x).drop (i.toNat * Enc.n α)).take (Enc.n α) = Enc.cells v := kU x.l i.toNat v (tG h)
theorem C0 (h : x.ix i = some v) (h1 : Enc.n α = 1) (hc : Enc.cells v = [Enc.enc v]) : A0 none (0 + i.toNat * 1) (Enc.cells x) = some (Enc.enc v) := by
 have := jU h
 rw [h1, hc] at this
 simp only [A0, Nat.zero_add]
 have h2 : ((Enc.cells x).drop (i.toNat * 1))[0]? = some (Enc.enc v) := by
  have h3 : (((Enc.cells x).drop (i.toNat * 1)).take 1)[0]? = some (Enc.enc v) := by rw [this]; rfl
  rwa [List.getElem?_take_of_lt (by omega)] at h3
 rw [List.getElem?_drop] at h2
 simpa using h2
theorem lC {α : Type} [TJ α] {x : Ar n α} {v : α} (h : x.ix i = some v) {sz : Nat} (hz : Enc.n α = sz) : A0 (some sz) (0 + i.toNat * sz) (Enc.cells x) = some (Enc.enc v) := by
 subst hz
 have := jU h
 simp only [A0, Nat.zero_add, this, HH.len, if_true, TJ.agg]
theorem wW (h : x.ix i = some v) (h1 : Enc.n α = 1) (hc : Enc.cells v = [Enc.enc v]) : U8 none 1 n (.d (Enc.enc x)) (.d (.int i)) = some (.d (Enc.enc v)) := by
 obtain ⟨h2, h3⟩ := jE h
 have e := C0 h h1 hc
 rw [Nat.zero_add] at e
 simp only [U8, Gp, h2, if_true, h3, PQ, e]
 rfl
theorem vq {α : Type} [TJ α] {x : Ar n α} {v : α} (h : x.ix i = some v) {sz : Nat} (hz : Enc.n α = sz) : U8 (some sz) sz n (.d (Enc.enc x)) (.d (.int i)) = some (.d (Enc.enc v)) := by
 obtain ⟨h2, h3⟩ := jE h
 have e := lC h hz
 rw [Nat.zero_add] at e
 simp only [U8, Gp, h2, if_true, h3, PQ, e]
 rfl
end
theorem tJ {n : Nat} {x : Ar n Int} {i v : Int} (h : x.ix i = some v) (y : Int) : DD 1 (0 + i.toNat * 1) [.d (.int y)] ((Enc.cells x).map LV.d) = some ((Enc.cells (x.put i y)).map LV.d) := by
 obtain ⟨h1, h2⟩ := jE h
 have hl : ((Enc.cells x).map LV.d).length = n := by rw [List.length_map, HH.len]; exact Nat.mul_one n
 have hc : Enc.cells x = x.l.map DV.int := Rh x.l
 have hc2 : Enc.cells (x.put i y) = (x.l.set i.toNat y).map DV.int := Rh _
 simp only [DD, hl, List.length_cons, List.length_nil, Nat.zero_add, Nat.mul_one]
 rw [if_pos ⟨trivial, by omega, rfl⟩, hc, hc2, List.map_set, List.map_set]
 congr 1
 have hlt : i.toNat < (List.map LV.d (List.map DV.int x.l)).length := by simp [x.h, h2]
 rw [setCells, List.set_eq_take_append_cons_drop, if_pos hlt]
 simp
theorem O3 {LP : A6} {C : AS} {α : Type} [Enc α] (g : Nat) (r : List AH) (s : St) (n t g' off u : Nat) (x : Sl α) (h : s.raw u = some (.v x.lv)) (hut : (s.upd u (.v x.spent.lv)).raw t = s.raw t) :
  Tz LP C g r s n t g' off (.tmp u) (some (.v x.lv)) = ju LP C g r ((G9 n off g' (some [x.lv]) (s.raw t)).map fun b => (s.upd u (.v x.spent.lv)).upd t b) := by
 cases x with
 | hot xs =>
  show ju LP C g r (Option.map _ (G9 n off g' (some [(Sl.hot xs).lv]) (if u = t then _ else s.raw t))) = _
  rw [An] at hut
  by_cases hu : u = t
  ·subst hu
   rw [if_pos rfl] at hut ⊢
   rw [← hut]; rfl
  ·rw [if_neg hu]; rfl
 | nil =>
  rw [show (Sl.nil : Sl α).spent = Sl.nil from rfl, EX s u _ h]; rfl
 | cold xs =>
  rw [show (Sl.cold xs).spent = Sl.cold xs from rfl, EX s u _ h]; rfl
 | full xs =>
  rw [show (Sl.full xs).spent = Sl.full xs from rfl, EX s u _ h]
  have ht : s.take LP (.tmp u) = ((Sl.full xs).lv, s) := by
   unfold St.raw at h
   simp only [St.take, h, Sl.lv, St.slot, LV.copy]
  show I8 LP C g r s n (.ptr s.low.length t g' off) (.tmp u) = _
  simp only [I8, ht, JG, V0]
  cases hr : s.raw t with
  | none => rfl
  | some z => cases z with
   | box g2 cs =>
    simp only [G9]
    by_cases hg : g2 = g'
    ·subst hg
     simp only [if_true]
     by_cases hc : [(Sl.full xs).lv].length = n ∧ off + n ≤ cs.length ∧ [(Sl.full xs).lv].all LV.cellOk = true
     ·simp only [if_pos hc, Option.map_some, St.setAt, if_true, St.upd]
     ·simp only [if_neg hc, Option.map_none]
    ·simp only [if_neg hg]; rfl
   | _ => rfl
theorem u9 {α : Type} [Enc α] (x : Sl α) (g : Nat) : HZ none 0 g (some (.box g [x.lv])) = some x.spent.lv := by cases x <;> simp [HZ, part, LV.copy, Sl.lv, Sl.spent]
class Gk (α : Type) extends HH α where
 elv : α → LV
 coolE : α → α
 hd : ∀ x, (elv x).toD = some (Enc.enc x)
 hc : ∀ x, (elv x).cool = elv (coolE x)
 hcp : ∀ x, (elv x).copy = elv (coolE x)
 he : ∀ x, Enc.enc (coolE x) = Enc.enc x
 hf : ∀ k env d x, freeze k env (d + 1) (elv x) = some (.d (Enc.enc x))
instance {α : Type} [Enc α] : Gk (Sl α) := ⟨Sl.lv, Sl.spent, fun x => tA x, fun x => by cases x <;> rfl, fun x => by cases x <;> rfl, fun x => by cases x <;> rfl, fun _ _ _ x => by cases x <;> rfl⟩
instance : Gk Int := ⟨fun x => .d (.int x), id, fun _ => rfl, fun _ => rfl, fun _ => rfl, fun _ => rfl, fun _ _ _ _ => rfl⟩
instance : Gk Bool := ⟨fun x => .d (.bool x), id, fun _ => rfl, fun _ => rfl, fun _ => rfl, fun _ => rfl, fun _ _ _ _ => rfl⟩
section
variable {α : Type}
def EW (es : List (List Int × α)) (k : List Int) (v : α) : List (List Int × α) := match AN k es 0 with
 | some (i, _) => es.set i (k, v)
 | none => es ++ [(k, v)]
def Nb (z : α) (es : List (List Int × α)) (k : List Int) : α := match AN k es 0 with
 | some (_, v) => v
 | none => z
def HG (es : List (List Int × α)) (k : List Int) : Int := match AN k es 0 with
 | some (i, _) => i
 | none => es.length
def FU (z : α) (c : α → α) (es : List (List Int × α)) (k : List Int) : List (List Int × α) := match AN k es 0 with
 | some (i, v) => es.set i (k, c v)
 | none => es ++ [(k, z)]
theorem MK (k : List Int) : ∀ (es : List (List Int × α)) (b i : Nat) (v : α), AN k es b = some (i, v) → b ≤ i ∧ i < b + es.length ∧ es[i - b]? = some (k, v)
 | [], b, i, v, h => by simp [AN] at h
 | (k', x) :: es, b, i, v, h => by
  simp only [AN] at h
  by_cases hk : k' = k
  ·rw [if_pos hk] at h
   simp only [Option.some.injEq, Prod.mk.injEq] at h
   obtain ⟨rfl, rfl⟩ := h
   simp [hk]
  ·rw [if_neg hk] at h
   obtain ⟨h1, h2, h3⟩ := MK k es (b + 1) i v h
   refine ⟨by omega, by simp only [List.length_cons]; omega, ?_⟩
   rw [show i - b = (i - (b + 1)) + 1 by omega, List.getElem?_cons_succ]; exact h3
variable [Gk α]
def D1 (es : List (List Int × α)) : List (List Int × LV) := es.map fun p => (p.1, Gk.elv p.2)
theorem dZ (k : List Int) (es : List (List Int × α)) : AN k (D1 es) 0 = (AN k es 0).map fun p => (p.1, Gk.elv p.2) := N7 Gk.elv k es 0
theorem rU (es : List (List Int × α)) (k : List Int) (v : α) : (match AN k (D1 es) 0 with
  | some (i, _) => (D1 es).set i (k, Gk.elv v)
  | none => D1 es ++ [(k, Gk.elv v)]) = D1 (EW es k v) := by
 rw [dZ]
 simp only [EW]
 cases AN k es 0 with
 | none => simp [D1]
 | some p => simp [D1, List.map_set]
theorem Ql (s : St) (t g n : Nat) (es : List (List Int × LV)) (h : s.raw t = some (.mapo g n es)) : s.entries s.low.length t g n = some es := by
 simp only [St.raw] at h
 simp [St.entries, St.at, h]
theorem Ri (s : St) (t : Nat) (x : BQ) : s.setAt s.low.length t x = s.upd t x := by simp [St.setAt, St.upd]
variable {LP : A6} {C : AS}
def gI (LP : A6) (s : St) (x : Opd) (v : LV) (s' : St) : Prop := s.take LP x = (v, s')
theorem jB {s : St} {x : Opd} {v : DV} (h : nF s x = some (.v (.d v))) : gI LP s x (.d v) s := by
 cases x with
 | con w => simp only [nF, Option.some.injEq, BQ.v.injEq, LV.d.injEq] at h; subst h; rfl
 | glob n => simp [nF] at h
 | tmp u => simp only [nF, St.raw] at h; simp only [gI, St.take, h, St.slot, LV.copy]
theorem V4 {β : Type} [Enc β] {s : St} {u : Nat} {x : Sl β} (h : s.raw u = some (.v x.lv)) : gI LP s (.tmp u) x.lv (s.upd u (.v x.spent.lv)) := by
 have hs : s.slot u = x.spent.lv := by rw [IP, h]; exact LC x _ _
 simp only [gI, St.take]
 have h' := h
 simp only [St.raw] at h
 cases x with
 | hot xs => rw [h]; rfl
 | nil => rw [show (Sl.nil : Sl β).spent = Sl.nil from rfl, EX s u _ h', h]; simp only [hs]; rfl
 | cold xs => rw [show (Sl.cold xs).spent = Sl.cold xs from rfl, EX s u _ h', h]; simp only [hs]; rfl
 | full xs => rw [show (Sl.full xs).spent = Sl.full xs from rfl, EX s u _ h', h]; simp only [hs]; rfl
theorem SQ (g : Nat) (r : List AH) (s s1 : St) (tt : Option Nat) (ro : Option (Option Nat)) (n t gm : Nat) (m k v : Opd) (key : List Int) (es : List (List Int × α)) (a : α)
  (hm : s.val LP m = .mref s.low.length t gm) (hr : Au s.low.length ro (some (.mref s.low.length t gm)) = true) (hk : (s.val LP k).key n = some key) (hv : gI LP s v (Gk.elv a) s1) (hl : s1.low = s.low) (he : s1.raw t = some (.mapo gm n (D1 es))) :
  evalOps LP C g (⟨tt, .mapset n m k v, none, ro⟩ :: r) s = evalOps LP C (g + 1) r (s1.upd t (.mapo gm n (D1 (EW es key a)))) := by
 have h1 : s1.entries s.low.length t gm n = some (D1 es) := by rw [← hl]; exact Ql s1 t gm n _ he
 have h2 : ∀ x, s1.setAt s.low.length t x = s1.upd t x := fun x => by rw [← hl]; exact Ri s1 t x
 simp only [evalOps, Am, LOp.addr, Option.map_some, hm, hr, if_true, evalOp, hk]
 unfold gI at hv
 simp only [hv, h1, h2]
 rw [← rU]
 cases AN key (D1 es) 0 with
 | none => rfl
 | some p => obtain ⟨i, x⟩ := p; rfl
theorem RU (g : Nat) (r : List AH) (s : St) (u : Nat) (ro : Option (Option Nat)) (n t gm : Nat) (m k : Opd) (zd : DV) (key : List Int) (es : List (List Int × α)) (z : α)
  (hm : s.val LP m = .mref s.low.length t gm) (hr : Au s.low.length ro (some (.mref s.low.length t gm)) = true) (hk : (s.val LP k).key n = some key) (he : s.raw t = some (.mapo gm n (D1 es))) (hz : Gk.elv z = .d zd) (hu : s.free u = true) (hut : u ≠ t) :
  evalOps LP C g (⟨some u, .mentry n m k zd, none, ro⟩ :: r) s = evalOps LP C (g + 1) r ((s.upd t (.mapo gm n (D1 (FU z Gk.coolE es key)))).upd u (.v (.tup [Gk.elv (Nb z es key), .d (.int (HG es key))]))) := by
 have h1 : s.entries s.low.length t gm n = some (D1 es) := Ql s t gm n _ he
 have h2 : ∀ x, s.setAt s.low.length t x = s.upd t x := fun x => Ri s t x
 have hf : ∀ x, (s.upd t x).free u = true := fun x => by rw [KG, if_neg (Ne.symm hut)]; exact hu
 have hp : ∀ (x : BQ) (y : LV), (s.upd t x).put (some u) y = some ((s.upd t x).upd u (.v y)) := by
  intro x y
  have := hf x
  simp only [St.put, St.free, St.raw] at this ⊢
  cases hx : (s.upd t x).env.get u with
  | none => rfl
  | some w => rw [hx] at this; cases w <;> simp_all [BQ.isV, St.upd]
 simp only [evalOps, Am, LOp.addr, Option.map_some, hm, hr, if_true, evalOp, hk, h1, h2, dZ, Nb, HG, FU]
 cases AN key es 0 with
 | none =>
  simp only [Option.map_none, hp, ← hz]
  congr 3
  ·simp [D1]
  ·simp [D1]
 | some p =>
  obtain ⟨i, x⟩ := p
  simp only [Option.map_some, hp, Gk.hc]
  congr 3
  simp [D1, List.map_set]
theorem TO (g : Nat) (r : List AH) (s s1 : St) (tt : Option Nat) (ro : Option (Option Nat)) (n t gm : Nat) (m i v : Opd) (key : List Int) (es : List (List Int × α)) (z a : α)
  (hm : s.val LP m = .mref s.low.length t gm) (hr : Au s.low.length ro (some (.mref s.low.length t gm)) = true) (hi : s.val LP i = .d (.int (HG es key))) (hv : gI LP s v (Gk.elv a) s1) (hl : s1.low = s.low) (he : s1.raw t = some (.mapo gm n (D1 (FU z Gk.coolE es key)))) :
  evalOps LP C g (⟨tt, .mstore n m i v, none, ro⟩ :: r) s = evalOps LP C (g + 1) r (s1.upd t (.mapo gm n (D1 (EW es key a)))) := by
 have h1 : s1.entries s.low.length t gm n = some (D1 (FU z Gk.coolE es key)) := by rw [← hl]; exact Ql s1 t gm n _ he
 have h2 : ∀ x, s1.setAt s.low.length t x = s1.upd t x := fun x => by rw [← hl]; exact Ri s1 t x
 have h3 : Gp (.d (.int (HG es key))) = some (HG es key).toNat := by
  apply Zr
  simp only [HG]; cases AN key es 0 with
  | none => simp
  | some p => simp
 simp only [evalOps, Am, LOp.addr, Option.map_some, hm, hr, if_true, evalOp, hi, h3]
 unfold gI at hv
 simp only [hv, h1, h2]
 cases hg : AN key es 0 with
 | none =>
  have e1 : (HG es key).toNat = es.length := by simp [HG, hg]
  have e2 : FU z Gk.coolE es key = es ++ [(key, z)] := by simp [FU, hg]
  have e3 : EW es key a = es ++ [(key, a)] := by simp [EW, hg]
  rw [e1, e2, e3]
  have e4 : (D1 (es ++ [(key, z)]))[es.length]? = some (key, Gk.elv z) := by simp [D1]
  rw [e4]
  simp only
  congr 3
  simp [D1]
 | some p =>
  obtain ⟨j, x⟩ := p
  obtain ⟨_, hj, hjx⟩ := MK key es 0 j x hg
  have e1 : (HG es key).toNat = j := by simp [HG, hg]
  have e2 : FU z Gk.coolE es key = es.set j (key, Gk.coolE x) := by simp [FU, hg]
  have e3 : EW es key a = es.set j (key, a) := by simp [EW, hg]
  rw [e1, e2, e3]
  have e4 : (D1 (es.set j (key, Gk.coolE x)))[j]? = some (key, Gk.elv (Gk.coolE x)) := by
   simp only [D1, List.getElem?_map]
   rw [List.getElem?_set_self (by omega)]; rfl
  rw [e4]
  simp only
  congr 3
  simp [D1, List.map_set, List.set_set]
theorem XG (g : Nat) (r : List AH) (s : St) (tt : Option Nat) (ro : Option (Option Nat)) (n t gm : Nat) (m k v : Opd) (key : List Int) (es : List (List Int × α)) (a : α) (vd : DV) (hav : Gk.elv a = .d vd)
  (hm : s.val LP m = .mref s.low.length t gm) (hr : Au s.low.length ro (some (.mref s.low.length t gm)) = true) (hk : (s.val LP k).key n = some key) (hv : nF s v = some (.v (.d vd))) (he : s.raw t = some (.mapo gm n (D1 es))) :
  evalOps LP C g (⟨tt, .mapset n m k v, none, ro⟩ :: r) s = evalOps LP C (g + 1) r (s.upd t (.mapo gm n (D1 (EW es key a)))) :=
 SQ g r s s tt ro n t gm m k v key es a hm hr hk (by rw [hav]; exact jB hv) rfl he
theorem uB (g : Nat) (r : List AH) (s : St) (tt : Option Nat) (ro : Option (Option Nat)) (n t gm : Nat) (m i v : Opd) (key : List Int) (es : List (List Int × α)) (z a : α) (vd : DV) (hav : Gk.elv a = .d vd)
  (hm : s.val LP m = .mref s.low.length t gm) (hr : Au s.low.length ro (some (.mref s.low.length t gm)) = true) (hi : s.val LP i = .d (.int (HG es key))) (hv : nF s v = some (.v (.d vd))) (he : s.raw t = some (.mapo gm n (D1 (FU z Gk.coolE es key)))) :
  evalOps LP C g (⟨tt, .mstore n m i v, none, ro⟩ :: r) s = evalOps LP C (g + 1) r (s.upd t (.mapo gm n (D1 (EW es key a)))) :=
 TO g r s s tt ro n t gm m i v key es z a hm hr hi (by rw [hav]; exact jB hv) rfl he
theorem cA (g : Nat) (r : List AH) (s : St) (d u : Nat) (ro : Option (Option Nat)) (a : α) (y : LV) (hu : s.raw u = some (.v (.tup [Gk.elv a, y]))) (hd : s.free d = true) (hdu : d ≠ u) :
  evalOps LP C g (⟨some d, .extract 0 (.tmp u) true, none, ro⟩ :: r) s = evalOps LP C (g + 1) r ((s.upd u (.v (.tup [Gk.elv (Gk.coolE a), y]))).upd d (.v (Gk.elv a))) := by
 have hr : Au s.low.length ro none = true := by cases ro <;> rfl
 have hput : ∀ (s2 : St) (v : LV), s2.free d = true → s2.put (some d) v = some (s2.upd d (.v v)) := by
  intro s2 v h
  simp only [St.put, St.free, St.raw] at h ⊢
  cases hx : s2.env.get d with
  | none => rfl
  | some w => rw [hx] at h; cases w <;> simp_all [BQ.isV, St.upd]
 by_cases hh : ∃ z xs, Gk.elv a = .hot z xs
 ·obtain ⟨z, xs, hx⟩ := hh
  have hc := Gk.hc a
  rw [hx] at hc hu
  have hf : (s.upd u (.v (.tup [Gk.elv (Gk.coolE a), y]))).free d = true := by rw [KG, if_neg (Ne.symm hdu)]; exact hd
  have hp := hput _ (.hot z xs) hf
  have hu' := hu
  simp only [St.raw] at hu
  simp only [evalOps, Am, LOp.addr, Option.map_none, hr, if_true, evalOp, hu, List.getElem?_cons_zero, List.set_cons_zero]
  rw [← hc] at hp ⊢
  rw [hx]
  have hp' : ({ s with env := s.env.set u (.v (.tup [.d (.slice z xs), y])) } : St).put (some d) (.hot z xs) = some ((s.upd u (.v (.tup [LV.cool (.hot z xs), y]))).upd d (.v (.hot z xs))) := hp
  rw [hp']
 ·have hcp : (Gk.elv a).copy = Gk.elv a := by
   cases ha : Gk.elv a with
   | hot z xs => exact absurd ⟨z, xs, ha⟩ hh
   | tup cs => have h2 := Gk.hcp a; rw [ha] at h2; have h3 := Gk.hc a; rw [ha] at h3; rw [← h3] at h2; exact h2
   | _ => rfl
  have he : Gk.elv (Gk.coolE a) = Gk.elv a := by rw [← Gk.hcp]; exact hcp
  have hp := hput s (Gk.elv a) hd
  rw [he, EX s u _ hu]
  simp only [St.raw] at hu
  simp only [evalOps, Am, LOp.addr, Option.map_none, hr, if_true, evalOp, hu]
  simp only [List.getElem?_cons_zero]
  cases ha : Gk.elv a with
  | hot z xs => exact absurd ⟨z, xs, ha⟩ hh
  | _ => rw [ha] at hcp hp; simp only [hcp, hp]
theorem S8 (g : Nat) (r : List AH) (s : St) (d : Option Nat) (u : Nat) (ro : Option (Option Nat)) (x : LV) (y : DV) (hu : s.raw u = some (.v (.tup [x, .d y]))) :
  evalOps LP C g (⟨d, .extract 1 (.tmp u) true, none, ro⟩ :: r) s = HF LP C (g + 1) r s d (some (.d y)) := by
 have hr : Au s.low.length ro none = true := by cases ro <;> rfl
 simp only [St.raw] at hu
 simp only [evalOps, Am, LOp.addr, Option.map_none, hr, if_true, evalOp, hu, List.getElem?_cons_succ, List.getElem?_cons_zero, LV.copy, HF]
 cases s.put d (.d y) <;> rfl
theorem kR {β : Type} [Enc β] (x : Sl β) : Gk.elv x = x.lv := rfl
theorem lO {β : Type} [Enc β] (x : Sl β) : Gk.coolE x = x.spent := rfl
theorem og (x : Int) : Gk.elv x = .d (.int x) := rfl
theorem eU (x : Int) : Gk.coolE x = x := rfl
theorem kx (x : Bool) : Gk.elv x = .d (.bool x) := rfl
theorem ax (x : Bool) : Gk.coolE x = x := rfl
theorem PR : D1 ([] : List (List Int × α)) = [] := rfl
theorem kf (k : Nat) (env : Env) (d : Nat) (v : DV) : freeze k env (d + 1) (.d v) = some (.d v) := rfl
theorem aR (k : Nat) (env : Env) (d tm gm n : Nat) (es : List (List Int × α)) (h : env.get tm = some (.mapo gm n (D1 es))) : freeze k env (d + 2) (.mref k tm gm) = some (.d (.fmap n (es.map fun p => (p.1, Enc.enc p.2)))) := by
 have hm : ∀ es : List (List Int × α), (D1 es).mapM (fun p => ((freeze k env (d + 1) p.2).bind LV.toD).map fun v => (p.1, v)) = some (es.map fun p => (p.1, Enc.enc p.2)) := by
  intro es
  induction es with
  | nil => rfl
  | cons p es ih =>
   simp only [D1] at ih
   simp only [D1, List.map_cons, List.mapM_cons, Gk.hf, Option.bind_some, LV.toD, Option.map_some, ih]
   rfl
 show (if k = k then match env.get tm with
   | some (.mapo g' n es) => if g' = gm then (es.mapM fun p => ((freeze k env (d + 1) p.2).bind LV.toD).map fun v => (p.1, v)).map fun es => LV.d (.fmap n es) else none
   | _ => none
  else some (.mref k tm gm)) = _
 simp only [if_true, h, hm, Option.map_some]
theorem gh {β : Type} [Enc β] (g : Nat) (r : List AH) (s : St) (tt : Option Nat) (ro : Option (Option Nat)) (n t gm u : Nat) (m i : Opd) (key : List Int) (es : List (List Int × Sl β)) (z a : Sl β)
  (hm : s.val LP m = .mref s.low.length t gm) (hr : Au s.low.length ro (some (.mref s.low.length t gm)) = true) (hi : s.val LP i = .d (.int (HG es key))) (hv : s.raw u = some (.v a.lv)) (hut : u ≠ t) (he : s.raw t = some (.mapo gm n (D1 (FU z Sl.spent es key)))) :
  evalOps LP C g (⟨tt, .mstore n m i (.tmp u), none, ro⟩ :: r) s = evalOps LP C (g + 1) r ((s.upd u (.v a.spent.lv)).upd t (.mapo gm n (D1 (EW es key a)))) :=
 TO g r s _ tt ro n t gm m i (.tmp u) key es z a hm hr hi (V4 hv) rfl (by rw [An, if_neg hut]; exact he)
theorem tB {β : Type} [Enc β] (g : Nat) (r : List AH) (s : St) (tt : Option Nat) (ro : Option (Option Nat)) (n t gm u : Nat) (m k : Opd) (key : List Int) (es : List (List Int × Sl β)) (a : Sl β)
  (hm : s.val LP m = .mref s.low.length t gm) (hr : Au s.low.length ro (some (.mref s.low.length t gm)) = true) (hk : (s.val LP k).key n = some key) (hv : s.raw u = some (.v a.lv)) (hut : u ≠ t) (he : s.raw t = some (.mapo gm n (D1 es))) :
  evalOps LP C g (⟨tt, .mapset n m k (.tmp u), none, ro⟩ :: r) s = evalOps LP C (g + 1) r ((s.upd u (.v a.spent.lv)).upd t (.mapo gm n (D1 (EW es key a)))) :=
 SQ g r s _ tt ro n t gm m k (.tmp u) key es a hm hr hk (V4 hv) rfl (by rw [An, if_neg hut]; exact he)
end
theorem xW (k : Nat) (env : Env) (d : Nat) (v : DV) : freeze k env (d + 1) (.d v) = some (.d v) := rfl
def xN (f : Nat) : Option (List LV) → Option (List LV) → Option LV
 | some a, some b => some (LV.norm (.fn f a b))
 | _, _ => none
theorem wU (k : Nat) (env : Env) (d f : Nat) (a b : List LV) : freeze k env (d + 1) (.fn f a b) = xN f (a.mapM (freeze k env d)) (b.mapM (freeze k env d)) := by
 simp only [freeze, xN]; cases a.mapM (freeze k env d) <;> cases b.mapM (freeze k env d) <;> rfl
theorem ey (f : Nat) (a b : List LV) : xN f (some a) (some b) = some (LV.norm (.fn f a b)) := rfl
def fzP (off : Nat) : Option (List LV) → Option LV
 | some cs => some (LV.norm (.fptr cs off))
 | none => none
theorem dz {k t g : Nat} {env : Env} {cs : List LV} (h : env.get t = some (.box g cs)) (d off : Nat) : freeze k env (d + 1) (.ptr k t g off) = fzP off (cs.mapM (freeze k env d)) := by
 simp only [freeze, if_true, h]; cases cs.mapM (freeze k env d) <;> rfl
theorem kM (off : Nat) (cs : List LV) : fzP off (some cs) = some (LV.norm (.fptr cs off)) := rfl
theorem yd {k j : Nat} (h : j < k) (t g : Nat) (env : Env) (d off : Nat) : freeze k env (d + 1) (.ptr j t g off) = some (.ptr j t g off) := by
 simp only [freeze, if_neg (show ¬ j = k by omega)]
theorem sU {k j : Nat} (h : j < k) (t g : Nat) (env : Env) (d : Nat) : freeze k env (d + 1) (.mref j t g) = some (.mref j t g) := by
 simp only [freeze, if_neg (show ¬ j = k by omega)]
theorem Sm (j t g : Nat) (r : List LV) : AZ (.mref j t g :: r) = none := rfl
theorem oS {s : St} {r : Nat × Option (Option Nat)} {v : LV} (h : U4 s r = some v) : fin [r] s = some v := by
 simp [fin, h]
theorem d6 : Enc.enc Fv.nil = .nilfn := rfl
theorem lF (k : Nat) (env : Env) (d : Nat) (ds : List DV) : (ds.map LV.d).mapM (freeze k env (d + 1)) = some (ds.map LV.d) := by
 induction ds with
 | nil => rfl
 | cons v ds ih => simp only [List.map_cons, List.mapM_cons, xW, ih]; rfl
theorem fh (ds : List DV) (off : Nat) : LV.norm (.fptr (ds.map LV.d) off) = .d (.fptr ds off) := by
 simp only [LV.norm, LV.toD, S7, Option.map_some]
theorem aK (v : DV) (off : Nat) : LV.norm (.fptr [.d v] off) = .d (.fptr [v] off) := rfl
theorem O6 (cs : List LV) (off : Nat) (r : List LV) (h : AZ cs = none) : AZ (.fptr cs off :: r) = none := by simp only [AZ, LV.toD, h, Option.map_none]
theorem Z8 (cs : List LV) (off : Nat) (h : AZ cs = none) : LV.norm (.fptr cs off) = .fptr cs off := by simp only [LV.norm, LV.toD, h, Option.map_none]
def wH : Option LV → Option (List LV) → Option (List LV)
 | some y, some ys => some (y :: ys)
 | _, _ => none
theorem aP (y : LV) (ys : List LV) : wH (some y) (some ys) = some (y :: ys) := rfl
theorem tq (f : LV → Option LV) : ([] : List LV).mapM f = some [] := rfl
theorem tz (f : LV → Option LV) (x : LV) (r : List LV) : (x :: r).mapM f = wH (f x) (r.mapM f) := by
 simp only [List.mapM_cons]; cases f x with
 | none => rfl
 | some y => cases r.mapM f <;> rfl
theorem iL (s : St) (t : Nat) : U4 s (t, none) = freeze s.low.length s.env 9 (uH s.low.length t (s.raw t)) := by
 simp only [U4, Db, KY]; rfl
theorem VF {n : Nat} {xs cs : List LV} (h1 : cs.length = n) (h2 : xs.length = n) (h3 : xs.all LV.cellOk = true) : DD n 0 xs cs = some xs := by
 simp only [DD, h1, h2, h3, Nat.zero_add, Nat.le_refl, and_self, if_true]
 simp [setCells, h1, h2]
theorem UG (cs : List LV) : LV.known (.agg cs) = some cs := rfl
theorem IB {LP : A6} {C : AS} (g : Nat) (r : List AH) (s : St) (n t g' off u : Nat) (xs : List LV) (h : s.raw u = some (.v (.agg xs))) :
  Tz LP C g r s n t g' off (.tmp u) (some (.v (.agg xs))) = ju LP C g r ((G9 n off g' (some xs) (s.raw t)).map fun x => s.upd t x) := by
 show I8 LP C g r s n (.ptr s.low.length t g' off) (.tmp u) = _
 have ht : s.take LP (.tmp u) = (.agg xs, s) := by
  unfold St.raw at h
  simp only [St.take, h, St.slot, LV.copy]
 simp only [I8, ht, JG, UG]
 cases hr : s.raw t with
 | none => rfl
 | some z => cases z with
  | box g2 cs =>
   simp only [G9]
   by_cases hg : g2 = g'
   ·subst hg
    simp only [if_true]
    by_cases hc : xs.length = n ∧ off + n ≤ cs.length ∧ xs.all LV.cellOk = true
    ·simp only [if_pos hc, Option.map_some, St.setAt, if_true, St.upd]
    ·simp only [if_neg hc, Option.map_none]
   ·simp only [if_neg hg]; rfl
  | _ => rfl
def Ie {σ α : Type} (LP : A6) (R : σ → List Fr → Prop) (j g : Nat) (A : α → List LV) (yf : α → σ → Option (Bool × σ)) : Prop :=
 ∀ x s b s', yf x s = some (b, s') → ∀ low, R s low → ∀ (above : List Fr) (ctr : Nat), ∃ low' c, R s' low' ∧ (om LP).round j g (A x) (low ++ above) ctr = some (b, low' ++ above, c)
def qt {σ : Type} (R : σ → List Fr → Prop) (fr : Fr) (s : σ) (low1 : List Fr) : Prop := ∃ low, low1 = low ++ [fr] ∧ R s low
def kg {σ : Type} (LP : A6) (n : Nat) (args : List LV) (R : σ → List Fr → Prop) (low : List Fr) (v : LV) (s' : σ) : Prop := ∀ ctr, ∃ low' ctr', R s' low' ∧ sY LP n args low ctr v low' ctr'
section
variable {σ α : Type} {LP : A6} {R : σ → List Fr → Prop} {N : Nat}
theorem Ie.push {j g : Nat} {A : α → List LV} {yf : α → σ → Option (Bool × σ)} (h : Ie LP R j g A yf) (fr : Fr) : Ie LP (qt R fr) j g A yf := by
 rintro x s b s' hx low1 ⟨low, rfl, hR⟩ above ctr
 obtain ⟨low', c, hR', he⟩ := h x s b s' hx low hR ([fr] ++ above) ctr
 exact ⟨low' ++ [fr], c, ⟨low', rfl, hR'⟩, by simpa using he⟩
theorem S3 (hN : ∀ s low, R s low → low.length = N) (fr : Fr) : ∀ s low1, qt R fr s low1 → low1.length = N + 1 := by
 rintro s low1 ⟨low, rfl, hR⟩
 simp [hN s low hR]
theorem HE {j t : Nat} {x : BQ} (h : ∀ s low, R s low → Im low j t = some x) (fr : Fr) : ∀ s low1, qt R fr s low1 → Im low1 j t = some x := by
 rintro s low1 ⟨low, rfl, hR⟩
 exact Ha (h s low hR)
theorem LE {N : Nat} {low : List Fr} {e : Env} {l : Option NM} {t : Nat} {x : BQ} (hN : low.length = N) (h : Env.get t e = some x) : Im (low ++ [⟨e, l⟩]) N t = some x := by
 rw [← hN]
 exact SB h
theorem LN (hN : ∀ s low, R s low → low.length = N) {e : Env} {l : Option NM} {t : Nat} {x : BQ} (h : Env.get t e = some x) : ∀ s low1, qt R ⟨e, l⟩ s low1 → Im low1 N t = some x := by
 rintro s low1 ⟨low, rfl, hR⟩
 rw [← hN s low hR]
 exact SB h
noncomputable def Z9 (LP : A6) (n : Nat) (args : List LV) (low : List Fr) (ctr : Nat) : List Fr := match (om LP).call n args low ctr with
 | some (_, l, _) => l.dropLast
 | none => []
noncomputable def oH (LP : A6) (j g : Nat) (args : List LV) (low : List Fr) (ctr : Nat) : List Fr := match (om LP).round j g args low ctr with
 | some (_, l, _) => l.dropLast
 | none => []
noncomputable def vT (LP : A6) (j g : Nat) (args : List LV) (low : List Fr) (ctr : Nat) : Nat := match (om LP).round j g args low ctr with
 | some (_, _, c) => c
 | none => 0
theorem kg.om {n : Nat} {args : List LV} {low : List Fr} {fr : Fr} {v : LV} {s' : σ} (hN : ∀ s low, R s low → low.length = N) {s : σ} (hR : R s low) (h : kg LP n args (qt R fr) (low ++ [fr]) v s') (ctr : Nat) :
  (Lf.om LP).call n args (low ++ [fr]) ctr = some (v, Z9 LP n args (low ++ [fr]) ctr ++ [fr], TU LP n args (low ++ [fr]) ctr) ∧ R s' (Z9 LP n args (low ++ [fr]) ctr) ∧ (Z9 LP n args (low ++ [fr]) ctr).length = low.length := by
 obtain ⟨low1, c, ⟨low', rfl, hR'⟩, he⟩ := h ctr
 have := Oe.mpr he
 have e1 : Z9 LP n args (low ++ [fr]) ctr = low' := by simp [Z9, this]
 have e2 : TU LP n args (low ++ [fr]) ctr = c := by simp [TU, this]
 rw [e1, e2]
 exact ⟨this, hR', by rw [hN _ _ hR, hN _ _ hR']⟩
theorem Ie.om {j g : Nat} {A : α → List LV} {yf : α → σ → Option (Bool × σ)} (h : Ie LP R j g A yf) (hN : ∀ s low, R s low → low.length = N) {x : α} {s s' : σ} {b : Bool} {low : List Fr} (hR : R s low) (hx : yf x s = some (b, s')) (fr : Fr) (ctr : Nat) :
  (Lf.om LP).round j g (A x) (low ++ [fr]) ctr = some (b, oH LP j g (A x) (low ++ [fr]) ctr ++ [fr], vT LP j g (A x) (low ++ [fr]) ctr) ∧ R s' (oH LP j g (A x) (low ++ [fr]) ctr) ∧ (oH LP j g (A x) (low ++ [fr]) ctr).length = low.length := by
 obtain ⟨low', c, hR', he⟩ := h x s b s' hx low hR [fr] ctr
 have e1 : oH LP j g (A x) (low ++ [fr]) ctr = low' := by simp [oH, he]
 have e2 : vT LP j g (A x) (low ++ [fr]) ctr = c := by simp [vT, he]
 rw [e1, e2]
 exact ⟨he, hR', by rw [hN _ _ hR, hN _ _ hR']⟩
def wo (lf : Nq) (R : σ → List Fr → Prop) (s' : σ) (v : LV) (j : Jmp) (s : St) : Prop := (j = .normal ∨ j = .ret) ∧ R s' s.low ∧ fin lf.results s = some v
theorem wI {n : Nat} {lf : Nq} {args : List LV} {low : List Fr} {v : LV} {s' : σ} (B : List Nat) (hf : LP.funcs n = some lf) (hl : args.length = lf.nparams)
  (h : ∀ s, (∀ t, s.raw t = (Dw 0 args).get t) → s.low = low → NoB B s → Run LP [] lf.body s (wo lf R s' v)) : kg LP n args R low v s' := by
 intro ctr
 obtain ⟨j, s1, hc, hj, hR, hr⟩ := h { env := Dw 0 args, low, ctr } (fun _ => rfl) rfl (XL _ _ _ _)
 exact ⟨s1.low, s1.ctr, hR, sY.func (jmp := j) hf hl hc hj (v := v) hr⟩
end
def St.mergedL (s : St) (vis : List Nat) (low : List Fr) (c : Nat) : St := ⟨Env.merge vis s.env (s.env.keep vis), low, c⟩
theorem WY (s : St) (vis : List Nat) (low : List Fr) (c t : Nat) : (s.mergedL vis low c).raw t = s.raw t := PG s vis c t
theorem U1 (s : St) (vis : List Nat) (low : List Fr) (c t : Nat) : (s.mergedL vis low c).free t = s.free t := RD s vis c t
theorem YB (s : St) (vis : List Nat) (low : List Fr) (c : Nat) : (s.mergedL vis low c).low = low := rfl
theorem gZ {LP : A6} {C : AS} (g : Nat) (r : List AH) (s : St) (t : Option Nat) (vis : List Nat) (v : LV) (c : Nat) (low2 : List Fr) (h : low2.length = s.low.length) :
  OR LP C g r s t vis (some (v, low2 ++ [⟨s.env.keep vis, none⟩], c)) = HF LP C g r (s.mergedL vis low2 c) t (some v) := by
 simp [OR, St.mergedL, h]
theorem kY (j g : Nat) : (LV.yield j g).copy = .yield j g := rfl
theorem pJ (f : Nat) (a b : List LV) : (LV.fn f a b).copy = .fn f a b := rfl
theorem kN (j t g o : Nat) : (LV.ptr j t g o).copy = .ptr j t g o := rfl
theorem gP (j t g : Nat) : (LV.mref j t g).copy = .mref j t g := rfl
theorem li (a : List LV) : (LV.agg a).copy = .agg a := rfl
theorem gX (a : List LV) (o : Nat) : (LV.fptr a o).copy = .fptr a o := rfl
theorem U2 (off : Nat) (cs : List LV) (o : Nat) : Jb off (.fptr cs o) = some (.fptr cs (o + off)) := rfl
theorem sy (j g : Nat) : an 1 (.yield j g) = some [.yield j g] := rfl
theorem qT (k t j g : Nat) : NK k t (.v (.yield j g)) = .yield j g := rfl
def yv : Option (Bool × List Fr × Nat) → Option (LV × List Fr × Nat)
 | some (b, l, c) => some (.d (.bool b), l, c)
 | none => none
theorem qS (b : Bool) (l : List Fr) (c : Nat) : yv (some (b, l, c)) = some (.d (.bool b), l, c) := rfl
def nc (LP : A6) (C : AS) (g : Nat) (r : List AH) (s : St) (t : Option Nat) (ro : Option (Option Nat)) (u : Nat) (args : List Opd) (vis : List Nat) : LV → Option St
 | .d (.fn f a b) => OR LP C (g + 1) r s t vis (C.call f (a.map .d ++ args.map (s.val LP) ++ b.map .d) (s.low ++ [⟨s.env.keep vis, none⟩]) s.ctr)
 | .fn f a b => OR LP C (g + 1) r s t vis (C.call f (a ++ args.map (s.val LP) ++ b) (s.low ++ [⟨s.env.keep vis, none⟩]) s.ctr)
 | .yield j g' => OR LP C (g + 1) r s t vis (yv (C.round j g' (args.map (s.val LP)) (s.low ++ [⟨s.env.keep vis, none⟩]) s.ctr))
 | _ => evalOps LP C g (⟨t, .call (.tmp u) args (some vis), none, ro⟩ :: r) s
theorem kX {LP : A6} {C : AS} (g : Nat) (r : List AH) (s : St) (t : Option Nat) (ro : Option (Option Nat)) (u : Nat) (args : List Opd) (vis : List Nat) :
  evalOps LP C g (⟨t, .call (.tmp u) args (some vis), none, ro⟩ :: r) s = nc LP C g r s t ro u args vis (s.slot u) := by
 have key : ∀ x, s.slot u = x → evalOps LP C g (⟨t, .call (.tmp u) args (some vis), none, ro⟩ :: r) s = nc LP C g r s t ro u args vis x := by
  intro x hx
  have h1 := rf (LP := LP) (C := C) g r s t ro u args vis
  cases x with
  | d v => cases v with
   | fn f a b => rw [h1, hx]; rfl
   | _ => rfl
  | fn f a b => rw [h1, hx]; rfl
  | yield j g' =>
   have hr : Au s.low.length ro none = true := by cases ro <;> rfl
   simp only [evalOps, Am, LOp.addr, Option.map_none, hr, if_true, evalOp, St.val, hx, nc]
   cases C.round j g' (args.map (s.val LP)) (s.low ++ [⟨s.env.keep vis, none⟩]) s.ctr with
   | none => rfl
   | some p =>
    obtain ⟨b, low', c'⟩ := p
    simp only [OR, yv]
    cases low'.getLast? with
    | none => rfl
    | some fr =>
     simp only
     by_cases hl : low'.length = s.low.length + 1
     ·simp only [if_pos hl]; rfl
     ·simp only [if_neg hl]
  | _ => rfl
 exact key _ rfl
theorem pE (LP : A6) (C : AS) (g : Nat) (r : List AH) (s : St) (t : Option Nat) (ro : Option (Option Nat)) (u : Nat) (args : List Opd) (vis : List Nat) (f : Nat) (a b : List DV) :
 nc LP C g r s t ro u args vis (.d (.fn f a b)) = OR LP C (g + 1) r s t vis (C.call f (a.map .d ++ args.map (s.val LP) ++ b.map .d) (s.low ++ [⟨s.env.keep vis, none⟩]) s.ctr) := rfl
theorem lJ (LP : A6) (C : AS) (g : Nat) (r : List AH) (s : St) (t : Option Nat) (ro : Option (Option Nat)) (u : Nat) (args : List Opd) (vis : List Nat) (f : Nat) (a b : List LV) :
 nc LP C g r s t ro u args vis (.fn f a b) = OR LP C (g + 1) r s t vis (C.call f (a ++ args.map (s.val LP) ++ b) (s.low ++ [⟨s.env.keep vis, none⟩]) s.ctr) := rfl
theorem qD (LP : A6) (C : AS) (g : Nat) (r : List AH) (s : St) (t : Option Nat) (ro : Option (Option Nat)) (u : Nat) (args : List Opd) (vis : List Nat) (j g' : Nat) :
 nc LP C g r s t ro u args vis (.yield j g') = OR LP C (g + 1) r s t vis (yv (C.round j g' (args.map (s.val LP)) (s.low ++ [⟨s.env.keep vis, none⟩]) s.ctr)) := rfl
theorem rr {LP : A6} {ks : List ia} {J : Jmp → St → Prop} {s : St} {B : List Nat} {ops : List AH} {keep : List Nat} {low : List Fr} {Q : List Fr → Prop} (l : List (Nat × BQ)) (hl : s.low = low) (hf : NoB B s) (hB : ops.all (opB B) = true) (hk : l.all (fun p => keep.contains p.1) = true)
  (h : ∃ s1, Lf.evalOps LP (om LP) s.ctr ops (s.tick ops.length) = some s1 ∧ Cj l s1 ∧ Q s1.low)
  (h' : ∀ s', Dn l s' → Q s'.low → NoB B s' → E4 LP ks .normal s' J) : Run LP ks (.ops ops keep) s J := by
 obtain ⟨s1, he, hr, hl1⟩ := h
 have hf1 : NoB B s1 := NoB.evalOps hB (show NoB B (s.tick ops.length) from hf) he
 obtain ⟨e, lw, c⟩ := s
 exact ⟨.normal, { s1 with env := s1.env.keep keep }, .ops (PN he), h' _ (Cj.keep hk hr).r hl1 (NoB.keep keep hf1)⟩
theorem oG (s : St) : fin [] s = some (.d (.tup [])) := rfl
def Du (low : List Fr) (j t : Nat) (x : BQ) : List Fr := low.modify j fun fr => { fr with env := fr.env.set t x }
def St.setL (s : St) (j t : Nat) (x : BQ) : St := { s with low := Du s.low j t x }
theorem JS (low : List Fr) (j t : Nat) (x : BQ) : (Du low j t x).length = low.length := by simp [Du]
theorem PK (s : St) (j t u : Nat) (x : BQ) : (s.setL j t x).raw u = s.raw u := rfl
theorem LL (s : St) (j t u : Nat) (x : BQ) : (s.setL j t x).free u = s.free u := rfl
theorem PU (s : St) (j t : Nat) (x : BQ) : (s.setL j t x).low = Du s.low j t x := rfl
theorem LQ (s : St) (j t : Nat) (x : BQ) (h : j < s.low.length) : s.setAt j t x = s.setL j t x := by
 simp only [St.setAt, if_neg (show ¬ j = s.low.length by omega)]; rfl
theorem IE {low : List Fr} {j t t' : Nat} {x : BQ} (h : j < low.length) : Im (Du low j t x) j t' = if t = t' then some x else Im low j t' := by
 simp only [Im, Du, List.getElem?_modify_eq]
 rw [List.getElem?_eq_getElem h]
 exact J2 ..
theorem LG {s : St} {j t g : Nat} (h : j < s.low.length) : s.cells j t g = match Im s.low j t with
  | some (.box g' cs) => if g' = g then some cs else none
  | _ => none := by
 simp only [St.cells, St.at, if_neg (show ¬ j = s.low.length by omega), Im]
 rw [List.getElem?_eq_getElem h]
 simp only
 cases (s.low[j]).env.get t with
 | none => rfl
 | some x => cases x <;> rfl
theorem LD (s : St) (k : Option Nat) (j t g off : Nat) (h : j < s.low.length) : Ss s k none (.ptr j t g off) = HZ k off g (Im s.low j t) := by
 simp only [Ss, Au, if_true, LG h]
 cases Im s.low j t with
 | none => rfl
 | some x => cases x with
  | box g' cs =>
   simp only [HZ]
   by_cases hg : g' = g
   ·simp only [if_pos hg]
   ·simp only [if_neg hg]
  | _ => rfl
theorem II {low : List Fr} {j t : Nat} {x : BQ} (h : Im low j t = some x) : Du low j t x = low := by
 have hj := iu h
 simp only [Im] at h
 rw [List.getElem?_eq_getElem hj] at h
 simp only [Du]
 apply List.ext_getElem?
 intro i
 rw [List.getElem?_modify]
 by_cases hi : j = i
 ·subst hi
  rw [List.getElem?_eq_getElem hj]
  have h2 := OP _ _ _ h
  show some (if j = j then { low[j] with env := low[j].env.set t x } else low[j]) = some low[j]
  rw [if_pos rfl, h2]
 ·simp [hi]
section
variable {LP : A6} {C : AS}
theorem YK (g : Nat) (r : List AH) (s : St) (n j t g' off : Nat) (x : Opd) (v : DV) (hj : j < s.low.length) (hx : nF s x = some (.v (.d v))) :
  I8 LP C g r s n (.ptr j t g' off) x = ju LP C g r ((G9 n off g' (LV.known (.d v)) (Im s.low j t)).map fun b => s.setL j t b) := by
 have ht : s.take LP x = (.d v, s) := jB hx
 simp only [I8, ht, LG hj]
 cases Im s.low j t with
 | none => rfl
 | some z => cases z with
  | box g2 cs =>
   simp only [G9]
   by_cases hg : g2 = g'
   ·subst hg
    simp only [if_true]
    cases LV.known (.d v) with
    | none => rfl
    | some xs =>
     simp only
     by_cases hc : xs.length = n ∧ off + n ≤ cs.length ∧ xs.all LV.cellOk = true
     ·simp only [if_pos hc, Option.map_some, LQ s j t _ hj]
     ·simp only [if_neg hc]; rfl
   ·simp only [if_neg hg]
    cases LV.known (.d v) <;> rfl
  | _ => rfl
theorem U0 {β : Type} [Enc β] (g : Nat) (r : List AH) (s : St) (n j t g' off u : Nat) (x : Sl β) (hj : j < s.low.length) (hx : s.raw u = some (.v x.lv)) :
  I8 LP C g r s n (.ptr j t g' off) (.tmp u) = ju LP C g r ((G9 n off g' (some [x.lv]) (Im s.low j t)).map fun b => (s.upd u (.v x.spent.lv)).setL j t b) := by
 have ht : s.take LP (.tmp u) = (x.lv, s.upd u (.v x.spent.lv)) := V4 hx
 have hj2 : j < (s.upd u (.v x.spent.lv)).low.length := hj
 simp only [I8, ht, LG hj2, V0, b6]
 cases Im s.low j t with
 | none => rfl
 | some z => cases z with
  | box g2 cs =>
   simp only [G9]
   by_cases hg : g2 = g'
   ·subst hg
    simp only [if_true]
    by_cases hc : [x.lv].length = n ∧ off + n ≤ cs.length ∧ [x.lv].all LV.cellOk = true
    ·simp only [if_pos hc, Option.map_some, LQ _ j t _ hj2]
    ·simp only [if_neg hc]; rfl
   ·simp only [if_neg hg]; rfl
  | _ => rfl
theorem F7 {s : St} {d : Nat} (v : LV) (h : s.free d = true) : s.put (some d) v = some (s.upd d (.v v)) := by
 simp only [St.put, St.free, St.raw] at h ⊢
 cases hx : s.env.get d with
 | none => rfl
 | some w => rw [hx] at h; cases w <;> simp_all [BQ.isV, St.upd]
theorem iV {β : Type} [Enc β] (g : Nat) (r : List AH) (s : St) (d : Nat) (p : Opd) (j t gb : Nat) (x : Sl β) (hp : s.val LP p = .ptr j t gb 0) (hj : j < s.low.length) (hb : Im s.low j t = some (.box gb [x.lv])) (hd : s.free d = true) :
  evalOps LP C g (⟨some d, .load none p true, none, none⟩ :: r) s = evalOps LP C (g + 1) r ((s.setL j t (.box gb [x.spent.lv])).upd d (.v x.lv)) := by
 have hc : s.cells j t gb = some [x.lv] := by rw [LG hj, hb]; simp
 have hr : Au s.low.length none (some (LV.ptr j t gb 0)) = true := rfl
 have hd2 : ∀ y, (s.setL j t y).free d = true := fun y => hd
 simp only [evalOps, Am, LOp.addr, Option.map_some, hp, hr, if_true, evalOp, hc]
 cases x with
 | hot xs =>
  have e : (Sl.hot xs).lv = LV.hot (Enc.n β) (xs.map Enc.enc) := rfl
  have e2 : (Sl.hot xs).spent.lv = LV.d (.slice (Enc.n β) (xs.map Enc.enc)) := rfl
  simp only [e, e2, List.getElem?_cons_zero, List.set_cons_zero, LQ s j t _ hj, F7 _ (hd2 _)]
 | nil =>
  rw [show (Sl.nil : Sl β).spent = Sl.nil from rfl]
  have e3 : s.setL j t (.box gb [(Sl.nil : Sl β).lv]) = s := by simp only [St.setL, II hb]
  rw [e3]
  simp only [Sl.lv, List.getElem?_cons_zero, part, Option.map_some, LV.copy, F7 _ hd]
 | cold xs =>
  rw [show (Sl.cold xs).spent = Sl.cold xs from rfl]
  have e3 : s.setL j t (.box gb [(Sl.cold xs).lv]) = s := by simp only [St.setL, II hb]
  rw [e3]
  simp only [Sl.lv, List.getElem?_cons_zero, part, Option.map_some, LV.copy, F7 _ hd]
 | full xs =>
  rw [show (Sl.full xs).spent = Sl.full xs from rfl]
  have e3 : s.setL j t (.box gb [(Sl.full xs).lv]) = s := by simp only [St.setL, II hb]
  rw [e3]
  simp only [Sl.lv, List.getElem?_cons_zero, part, Option.map_some, LV.copy, F7 _ hd]
theorem W9 {s : St} {j t g n : Nat} {es : List (List Int × LV)} (hj : j < s.low.length) (h : Im s.low j t = some (.mapo g n es)) : s.entries j t g n = some es := by
 simp only [Im] at h
 simp only [St.entries, St.at, if_neg (show ¬ j = s.low.length by omega)]
 rw [List.getElem?_eq_getElem hj] at h ⊢
 simp only at h ⊢
 rw [h]; simp
variable {α : Type} [Gk α]
theorem dJ (g : Nat) (r : List AH) (s : St) (u : Nat) (n j t gm : Nat) (m k : Opd) (zd : DV) (key : List Int) (es : List (List Int × α)) (z : α)
  (hm : s.val LP m = .mref j t gm) (hj : j < s.low.length) (hk : (s.val LP k).key n = some key) (he : Im s.low j t = some (.mapo gm n (D1 es))) (hz : Gk.elv z = .d zd) (hu : s.free u = true) :
  evalOps LP C g (⟨some u, .mentry n m k zd, none, none⟩ :: r) s = evalOps LP C (g + 1) r ((s.setL j t (.mapo gm n (D1 (FU z Gk.coolE es key)))).upd u (.v (.tup [Gk.elv (Nb z es key), .d (.int (HG es key))]))) := by
 have h1 : s.entries j t gm n = some (D1 es) := W9 hj he
 have hp : ∀ (x : BQ) (y : LV), (s.setL j t x).put (some u) y = some ((s.setL j t x).upd u (.v y)) := fun x y => F7 y hu
 have hr : Au s.low.length none (some (LV.mref j t gm)) = true := rfl
 simp only [evalOps, Am, LOp.addr, Option.map_some, hm, hr, if_true, evalOp, hk, h1, LQ s j t _ hj, dZ, Nb, HG, FU]
 cases AN key es 0 with
 | none =>
  simp only [Option.map_none, hp, ← hz]
  congr 3
  ·simp [D1]
  ·simp [D1]
 | some p =>
  obtain ⟨i, x⟩ := p
  simp only [Option.map_some, hp, Gk.hc]
  congr 3
  simp [D1, List.map_set]
theorem dY {β : Type} [Enc β] (g : Nat) (r : List AH) (s : St) (n j t gm u : Nat) (m i : Opd) (key : List Int) (es : List (List Int × Sl β)) (z a : Sl β)
  (hm : s.val LP m = .mref j t gm) (hj : j < s.low.length) (hi : s.val LP i = .d (.int (HG es key))) (hv : s.raw u = some (.v a.lv)) (he : Im s.low j t = some (.mapo gm n (D1 (FU z Sl.spent es key)))) :
  evalOps LP C g (⟨none, .mstore n m i (.tmp u), none, none⟩ :: r) s = evalOps LP C (g + 1) r ((s.upd u (.v a.spent.lv)).setL j t (.mapo gm n (D1 (EW es key a)))) := by
 have hj2 : j < (s.upd u (.v a.spent.lv)).low.length := hj
 have h1 : (s.upd u (.v a.spent.lv)).entries j t gm n = some (D1 (FU z Sl.spent es key)) := W9 hj2 he
 have hg : s.take LP (.tmp u) = (a.lv, s.upd u (.v a.spent.lv)) := V4 hv
 have hr : Au s.low.length none (some (LV.mref j t gm)) = true := rfl
 have h3 : Gp (.d (.int (HG es key))) = some (HG es key).toNat := by
  apply Zr
  simp only [HG]; cases AN key es 0 with
  | none => simp
  | some p => simp
 simp only [evalOps, Am, LOp.addr, Option.map_some, hm, hr, if_true, evalOp, hi, h3, hg, h1, LQ _ j t _ hj2]
 cases hq : AN key es 0 with
 | none =>
  have e1 : (HG es key).toNat = es.length := by simp [HG, hq]
  have e2 : FU z Sl.spent es key = es ++ [(key, z)] := by simp [FU, hq]
  have e3 : EW es key a = es ++ [(key, a)] := by simp [EW, hq]
  rw [e1, e2, e3]
  have e4 : (D1 (es ++ [(key, z)]))[es.length]? = some (key, Gk.elv z) := by simp [D1]
  rw [e4]
  simp only
  congr 3
  simp [D1, kR]
 | some p =>
  obtain ⟨q, x⟩ := p
  obtain ⟨_, hjx, _⟩ := MK key es 0 q x hq
  have e1 : (HG es key).toNat = q := by simp [HG, hq]
  have e2 : FU z Sl.spent es key = es.set q (key, x.spent) := by simp [FU, hq]
  have e3 : EW es key a = es.set q (key, a) := by simp [EW, hq]
  rw [e1, e2, e3]
  have e4 : (D1 (es.set q (key, x.spent)))[q]? = some (key, Gk.elv x.spent) := by
   simp only [D1, List.getElem?_map]
   rw [List.getElem?_set_self (by omega)]; rfl
  rw [e4]
  simp only
  congr 3
  simp [D1, List.map_set, List.set_set, kR]
end
def KA (B : List Nat) (base above : List Fr) (lp : NM) (l : List (Nat × BQ)) (low : List Fr) : Prop :=
 ∃ e, low = base ++ [⟨e, some lp⟩] ++ above ∧ NoB B ⟨e, base, 0⟩ ∧ Cj l ⟨e, base, 0⟩
def s9 (j : Nat) : List (Nat × BQ) → List Fr → Prop
 | [], _ => True
 | (t, x) :: l, low => Im low j t = some x ∧ s9 j l low
section
variable {B : List Nat} {base above : List Fr} {lp : NM} {l l' : List (Nat × BQ)} {low : List Fr}
theorem KA.len (h : KA B base above lp l low) : low.length = base.length + 1 + above.length := by
 obtain ⟨e, rfl, _⟩ := h; simp; omega
theorem sW (base above : List Fr) (e : Env) (o : Option NM) (t : Nat) : Im (base ++ [⟨e, o⟩] ++ above) base.length t = e.get t := by
 simp [Im]
theorem KA.all (h : KA B base above lp l low) : s9 base.length l low := by
 obtain ⟨e, rfl, _, hr⟩ := h
 induction l with
 | nil => trivial
 | cons p l ih => obtain ⟨t, x⟩ := p; exact ⟨by rw [sW]; exact hr.1, ih hr.2⟩
theorem Tj (f : Fr → Fr) (x : Fr) (b : List Fr) : ∀ a : List Fr, (a ++ [x] ++ b).modify a.length f = a ++ [f x] ++ b
 | [] => rfl
 | y :: a => by
  have := Tj f x b a
  show (y :: (a ++ [x] ++ b)).modify (a.length + 1) f = _
  rw [List.modify_succ_cons, this]; rfl
theorem nX (base above : List Fr) (e : Env) (o : Option NM) (t : Nat) (x : BQ) : Du (base ++ [⟨e, o⟩] ++ above) base.length t x = base ++ [⟨e.set t x, o⟩] ++ above := Tj _ _ _ _
theorem KA.set (h : KA B base above lp l low) (t : Nat) (x : BQ) (hB : B.contains t = true) (hl : ∀ s, Cj l s → Cj l' (s.upd t x)) : KA B base above lp l' (Du low base.length t x) := by
 obtain ⟨e, rfl, hn, hr⟩ := h
 exact ⟨e.set t x, nX .., Ob (s := ⟨e, base, 0⟩) t x hB hn, hl _ hr⟩
theorem WL (h : KA B base above lp l low) (hl : ∀ s, Cj l s → Cj l' s) : KA B base above lp l' low := by
 obtain ⟨e, rfl, hn, hr⟩ := h
 exact ⟨e, rfl, hn, hl _ hr⟩
end
def onL {α τ X : Type} (F : α → τ → Option (Bool × (τ ⊕ X))) (x : α) : τ ⊕ X → Option (Bool × (τ ⊕ X))
 | .inl t => F x t
 | .inr _ => none
def Ue {τ X : Type} (g : Nat) (params : List Nat) (assign body : DC) (jm : X → Jmp) : τ ⊕ X → NM
 | .inl _ => { gen := g, params, assign, body, ready := true, pending := none }
 | .inr x => { gen := g, params, assign, body, ready := false, pending := some (jm x) }
def sf {τ X : Type} (B : List Nat) (base : List Fr) (g : Nat) (params : List Nat) (assign body : DC) (jm : X → Jmp) (l : τ ⊕ X → List (Nat × BQ)) (st : τ ⊕ X) (low : List Fr) : Prop :=
 KA B base [] (Ue g params assign body jm st) (l st) low
theorem Q9 (base above : List Fr) (e : Env) (r : NM) (a : Bool) (p : Option Jmp) : I3 (base ++ [⟨e, some r⟩] ++ above) base.length a p = base ++ [⟨e, some { r with ready := a, pending := p }⟩] ++ above := by
 exact Tj _ _ _ _
theorem Td (base above : List Fr) (e : Env) (r : NM) : QA (base ++ [⟨e, some r⟩] ++ above) base.length r.gen = some r := by
 simp [QA]
def qd {τ X : Type} (B : List Nat) (base above : List Fr) (lp : NM) (jm : X → Jmp) (l : τ ⊕ X → List (Nat × BQ)) (out : Bool × (τ ⊕ X)) (j : Jmp) (s : St) : Prop := match out.2 with
 | .inl t => out.1 = true ∧ j = .normal ∧ KA B base above lp (l (.inl t)) s.low
 | .inr x => out.1 = false ∧ j = jm x ∧ jm x ≠ .normal ∧ KA B base above lp (l (.inr x)) s.low
theorem Zn {LP : A6} {α τ X : Type} {B : List Nat} {base : List Fr} {g : Nat} {params : List Nat} {assign body : DC} {jm : X → Jmp} {l : τ ⊕ X → List (Nat × BQ)} {A : α → List LV} {F : α → τ → Option (Bool × (τ ⊕ X))}
  (hA : ∀ x, (A x).length = params.length)
  (h : ∀ (x : α) (t : τ) (out : Bool × (τ ⊕ X)), F x t = some out → ∀ (e : Env) (above : List Fr) (ctr : Nat), NoB B ⟨e, base, 0⟩ → Cj (l (.inl t)) ⟨e, base, 0⟩ →
   Run LP [] assign ⟨F3 params (A x) (e.map fun p => (p.1, E8 base.length p.1 p.2)), base ++ [⟨e, some { gen := g, params, assign, body, ready := true, pending := none }⟩] ++ above, ctr⟩ fun j s1 => j = .normal ∧
    s1.low = base ++ [⟨e, some { gen := g, params, assign, body, ready := true, pending := none }⟩] ++ above ∧
    Run LP [] body { s1 with low := base ++ [⟨e, some { gen := g, params, assign, body, ready := false, pending := none }⟩] ++ above } (qd B base above { gen := g, params, assign, body, ready := false, pending := none } jm l out)) :
  Ie LP (sf B base g params assign body jm l) base.length g A (onL F) := by
 rintro x st b st' hF low1 ⟨e, rfl, hn, hr⟩ above ctr
 cases st with
 | inr y => simp [onL] at hF
 | inl t =>
  simp only [onL] at hF
  obtain ⟨j1, s1, hc1, rfl, hl1, j2, s2, hc2, he2⟩ := h x t (b, st') hF e above ctr hn hr
  obtain ⟨n1, hn1⟩ := hc1
  obtain ⟨n2, hn2⟩ := hc2
  have a1 := Dy LP (Fa LP (Nat.le_max_left n1 n2)) (Nat.le_max_left n1 n2) hn1
  have a2 := Dy LP (Fa LP (Nat.le_max_right n1 n2)) (Nat.le_max_right n1 n2) hn2
  have hsl : I3 s1.low base.length false none = base ++ [⟨e, some { gen := g, params, assign, body, ready := false, pending := none }⟩] ++ above := by
   rw [hl1]; exact Q9 ..
  have hla : QA s1.low base.length g = some { gen := g, params, assign, body, ready := true, pending := none } := by
   rw [hl1]; exact Td base above e { gen := g, params, assign, body, ready := true, pending := none }
  have hlow : (base ++ [⟨e, some (Ue g params assign body jm (.inl t : τ ⊕ X))⟩] ++ [] ++ above)[base.length]? = some ⟨e, some (Ue g params assign body jm (.inl t : τ ⊕ X))⟩ := by simp
  have key : ∀ r, endRound base.length g j2 s2 = some r → (Lf.om LP).round base.length g (A x) (base ++ [⟨e, some (Ue g params assign body jm (.inl t : τ ⊕ X))⟩] ++ [] ++ above) ctr = some r := by
   intro r hr2
   refine mA.mpr ⟨max n1 n2 + 1, ?_⟩
   simp only [Gm, Jm, hlow]
   have hcond : (Ue g params assign body jm (.inl t : τ ⊕ X)).gen = g ∧ (Ue g params assign body jm (.inl t : τ ⊕ X)).ready = true ∧ (Ue g params assign body jm (.inl t : τ ⊕ X)).pending = none ∧ (A x).length = (Ue g params assign body jm (.inl t : τ ⊕ X)).params.length := ⟨rfl, rfl, rfl, hA x⟩
   rw [if_pos hcond]
   simp only [List.append_nil]
   have a1' : Af LP (Gm LP (max n1 n2)) (max n1 n2) (Ue g params assign body jm (.inl t : τ ⊕ X)).assign { env := F3 (Ue g params assign body jm (.inl t : τ ⊕ X)).params (A x) (List.map (fun p => (p.1, E8 base.length p.1 p.2)) e), low := base ++ [⟨e, some (Ue g params assign body jm (.inl t : τ ⊕ X))⟩] ++ above, ctr } = some (.normal, s1) := a1
   rw [a1']
   simp only [hla, and_self, if_true, hsl]
   have a2' : Af LP (Gm LP (max n1 n2)) (max n1 n2) (Ue g params assign body jm (.inl t : τ ⊕ X)).body { s1 with low := base ++ [⟨e, some { gen := g, params, assign, body, ready := false, pending := none }⟩] ++ above } = some (j2, s2) := a2
   rw [a2']
   exact hr2
  cases st' with
  | inl t' =>
   obtain ⟨hb, rfl, e', hl2, hn2, hr2⟩ := he2
   simp only at hb
   subst hb
   refine ⟨base ++ [⟨e', some (Ue g params assign body jm (.inl t' : τ ⊕ X))⟩] ++ [], s2.ctr, ⟨e', rfl, hn2, hr2⟩, key _ ?_⟩
   have : QA s2.low base.length g = some { gen := g, params, assign, body, ready := false, pending := none } := by
    rw [hl2]; exact Td base above e' { gen := g, params, assign, body, ready := false, pending := none }
   rw [hl2] at this
   simp only [endRound, hl2, this, Q9, List.append_nil, Ue]
  | inr y =>
   obtain ⟨hb, hj, hne, e', hl2, hn2, hr2⟩ := he2
   simp only at hb
   subst hb
   refine ⟨base ++ [⟨e', some (Ue g params assign body jm (.inr y : τ ⊕ X))⟩] ++ [], s2.ctr, ⟨e', rfl, hn2, hr2⟩, key _ ?_⟩
   have : QA s2.low base.length g = some { gen := g, params, assign, body, ready := false, pending := none } := by
    rw [hl2]; exact Td base above e' { gen := g, params, assign, body, ready := false, pending := none }
   rw [hj]
   rw [hl2] at this
   simp only [endRound, hl2, this, Q9, List.append_nil]
   cases hjm : jm y with
   | normal => exact absurd hjm hne
   | exit i => simp only [Ue, hjm]
   | ret => simp only [Ue, hjm]
theorem Run.rng {LP : A6} {ks : List ia} {J : Jmp → St → Prop} {τ X : Type} {B : List Nat} {base : List Fr} {f : Opd} {params : List Nat} {assign body : DC} {s : St} {n : Nat} {a b : List LV} {jm : X → Jmp} {l : τ ⊕ X → List (Nat × BQ)} {t0 : τ} {st' : τ ⊕ X} {v : LV}
  (hl : s.low = base) (hf : NoB B s) (ht : target (s.val LP f) = some (n, a, b)) (hr : Cj (l (.inl t0)) s)
  (hp : ∀ g low1, sf B base g params assign body jm l (.inl t0) low1 → kg LP n (a ++ [.yield base.length g] ++ b) (sf B base g params assign body jm l) low1 v st')
  (hJ : ∀ s', s'.low = base → NoB B s' → Cj (l st') s' → E4 LP ks (match st' with | .inl _ => .normal | .inr x => jm x) s' J) : Run LP ks (.rng f params assign body) s J := by
 have raw_eq : ∀ (s2 : St) (e : Env) (c : Nat), s2.env = e → ∀ l, Cj l s2 → Cj l ⟨e, base, c⟩ := by
  intro s2 e c he l
  induction l with
  | nil => intro _; trivial
  | cons p l ih => obtain ⟨t, x⟩ := p; subst he; exact fun h => ⟨h.1, ih h.2⟩
 have nob_eq : ∀ (s2 : St) (e : Env) (c : Nat), s2.env = e → NoB B s2 → NoB B ⟨e, base, c⟩ := by
  intro s2 e c he h u hu; subst he; exact h u hu
 have hc : sf B base s.ctr params assign body jm l (.inl t0) (base ++ [⟨s.env, some (Ue s.ctr params assign body jm (.inl t0 : τ ⊕ X))⟩] ++ []) :=
  ⟨s.env, rfl, nob_eq s _ _ rfl hf, raw_eq s _ _ rfl _ hr⟩
 obtain ⟨low', ctr', ⟨e', hl', hn', hr'⟩, m, hm⟩ := hp s.ctr _ hc (s.ctr + 1)
 simp only [List.append_nil] at hl' hm
 subst hl'
 have hlast : (base ++ [(⟨e', some (Ue s.ctr params assign body jm st')⟩ : Fr)]).getLast? = some ⟨e', some (Ue s.ctr params assign body jm st')⟩ := by simp
 refine ⟨(Ue s.ctr params assign body jm st').pending.getD .normal, ⟨e', base, ctr'⟩, ⟨m, ?_⟩, ?_⟩
 ·simp only [Af, ht, hl]
  have hm' : (Gm LP m).call n (a ++ [LV.yield base.length s.ctr] ++ b) (base ++ [{ env := s.env, loop := some { gen := s.ctr, params, assign, body, ready := true, pending := none } }]) (s.ctr + 1) = some (v, base ++ [⟨e', some (Ue s.ctr params assign body jm st')⟩], ctr') := hm
  rw [hm']
  simp only [hlast]
  have hcond : (base ++ [(⟨e', some (Ue s.ctr params assign body jm st')⟩ : Fr)]).length = base.length + 1 ∧ (Ue s.ctr params assign body jm st').gen = s.ctr ∧ ((Ue s.ctr params assign body jm st').ready = true ∨ (Ue s.ctr params assign body jm st').pending.isSome = true) := by
   refine ⟨by simp, by cases st' <;> rfl, ?_⟩
   cases st' with
   | inl _ => exact .inl rfl
   | inr _ => exact .inr rfl
  rw [if_pos hcond]
  simp
 ·have := hJ ⟨e', base, ctr'⟩ rfl (nob_eq ⟨e', base, 0⟩ e' ctr' rfl hn') (raw_eq ⟨e', base, 0⟩ e' ctr' rfl _ hr')
  cases st' with
  | inl _ => exact this
  | inr _ => exact this
theorem MC (j : Nat) (t : Nat) : ∀ e : Env, Env.get t (e.map fun p => (p.1, E8 j p.1 p.2)) = (Env.get t e).map (E8 j t)
 | [] => rfl
 | (u, x) :: e => by
  simp only [List.map_cons, Env.get]
  by_cases h : u = t
  ·subst h; simp
  ·simp only [if_neg h]; exact MC j t e
theorem Ju : ∀ (ps : List Nat) (xs : List LV) (e : Env) (t : Nat), ps.contains t = false → Env.get t (F3 ps xs e) = Env.get t e
 | [], _, _, _, _ => by simp [F3]
 | _ :: _, [], _, _, _ => by simp [F3]
 | p :: ps, x :: xs, e, t, h => by
  rw [List.contains_cons, Bool.or_eq_false_iff] at h
  simp only [F3]
  rw [Ju ps xs _ t h.2, J2, if_neg]
  intro hp; subst hp; simp at h
theorem WJ : ∀ (ps : List Nat) (xs : List LV) (e : Env) (low : List Fr) (c : Nat), ps.Nodup → Cj ((ps.zip xs).map fun p => (p.1, BQ.v p.2)) ⟨F3 ps xs e, low, c⟩
 | [], _, _, _, _, _ => trivial
 | _ :: _, [], _, _, _, _ => trivial
 | p :: ps, x :: xs, e, low, c, h => by
  rw [List.nodup_cons] at h
  refine ⟨?_, WJ ps xs (e.set p (.v x)) low c h.2⟩
  show Env.get p (F3 ps xs (e.set p (.v x))) = some (.v x)
  rw [Ju ps xs _ p (by simpa using h.1), J2, if_pos rfl]
theorem Um : ∀ (ps : List Nat) (xs : List LV) (e : Env) (low : List Fr) (c t : Nat), (∀ u, St.free ⟨e, low, c⟩ u = true) → St.free ⟨F3 ps xs e, low, c⟩ t = true
 | [], _, _, _, _, t, h => h t
 | _ :: _, [], _, _, _, t, h => h t
 | p :: ps, x :: xs, e, low, c, t, h => by
  refine Um ps xs (e.set p (.v x)) low c t ?_
  intro u
  have := KG ⟨e, low, c⟩ p u (.v x)
  show St.free (St.upd ⟨e, low, c⟩ p (.v x)) u = true
  rw [this]
  by_cases hu : p = u
  ·rw [if_pos hu]; rfl
  ·rw [if_neg hu]; exact h u
theorem nk (j : Nat) (e : Env) (low : List Fr) (c u : Nat) : St.free ⟨e.map fun p => (p.1, E8 j p.1 p.2), low, c⟩ u = true := by
 simp only [St.free, St.raw, MC]
 cases Env.get u e with
 | none => rfl
 | some x => cases x <;> rfl
theorem NoB.congr {B : List Nat} {s s' : St} (h : NoB B s) (hr : ∀ u, s'.raw u = s.raw u) : NoB B s' := by
 intro u hu
 have := h u hu
 simp only [St.free] at this ⊢
 rw [hr]; exact this
theorem Kv {LP : A6} {α τ X : Type} {B : List Nat} {base : List Fr} {g : Nat} {params : List Nat} {assign body : DC} {jm : X → Jmp} {l : τ ⊕ X → List (Nat × BQ)} {A : α → List LV} {F : α → τ → Option (Bool × (τ ⊕ X))}
  (hnd : params.Nodup) (hA : ∀ x, (A x).length = params.length)
  (h : ∀ (x : α) (t : τ) (out : Bool × (τ ⊕ X)), F x t = some out → ∀ (e : Env) (above low0 low : List Fr) (lp : NM) (s : St),
   (∀ u y, params.contains u = false → Env.get u e = some y → s.raw u = some (E8 base.length u y)) → Cj ((params.zip (A x)).map fun p => (p.1, BQ.v p.2)) s → Cj (l (.inl t)) ⟨e, base, 0⟩ → KA B base above lp (l (.inl t)) low → s.low = low0 → NoB B s →
   Run LP [] assign s fun j s1 => j = .normal ∧ s1.low = low0 ∧ ∀ s2 : St, (∀ u, s2.raw u = s1.raw u) → s2.low = low → Run LP [] body s2 (qd B base above lp jm l out)) :
  Ie LP (sf B base g params assign body jm l) base.length g A (onL F) := by
 refine Zn hA ?_
 intro x t out hF e above ctr hn hr
 have hb : KA B base above { gen := g, params, assign, body, ready := false, pending := none } (l (.inl t)) (base ++ [⟨e, some { gen := g, params, assign, body, ready := false, pending := none }⟩] ++ above) := ⟨e, rfl, hn, hr⟩
 obtain ⟨j, s1, h1, rfl, h2, h3⟩ := h x t out hF e above (base ++ [⟨e, some { gen := g, params, assign, body, ready := true, pending := none }⟩] ++ above) _ { gen := g, params, assign, body, ready := false, pending := none }
  ⟨F3 params (A x) (e.map fun p => (p.1, E8 base.length p.1 p.2)), base ++ [⟨e, some { gen := g, params, assign, body, ready := true, pending := none }⟩] ++ above, ctr⟩
  (fun u y hu hy => by
   show Env.get u (F3 params (A x) _) = _
   rw [Ju _ _ _ _ hu, MC, hy]; rfl)
  (WJ _ _ _ _ _ hnd) hr hb rfl (fun u _ => Um _ _ _ _ _ _ (fun u => nk _ _ _ _ _))
 exact ⟨.normal, s1, h1, rfl, h2, h3 _ (fun u => rfl) rfl⟩
theorem yB {α : Type} [Enc α] {s : St} {t g : Nat} {x : Sl α} (h : s.raw t = some (.box g [.d (Enc.enc x)])) : s.raw t = some (.box g [x.cool.lv]) := by rw [h, PV]
theorem db {τ X : Type} {B : List Nat} {base : List Fr} {g : Nat} {params : List Nat} {assign body : DC} {jm : X → Jmp} {l : τ ⊕ X → List (Nat × BQ)} (st : τ ⊕ X) (low : List Fr) (h : sf B base g params assign body jm l st low) : low.length = base.length + 1 := by
 have := KA.len h
 simpa using this
theorem xi : type_of% (And.intro @fK <| And.intro @gC <| And.intro @tM <| And.intro @hO <| And.intro @lu <| And.intro @kQ <| And.intro @kt <| And.intro @lx <| And.intro @lU <| And.intro @kh <| And.intro @pf <| And.intro @pB <| And.intro @tg <| And.intro @tX <| And.intro @tK <| And.intro @vl <| And.intro @tI <| And.intro @vu <| And.intro @sw <| And.intro @kE <| And.intro @ku <| And.intro @tD <| And.intro @eA <| And.intro @d5 <| And.intro @mJ <| And.intro @lV <| And.intro @km <| And.intro @oa <| And.intro @od <| And.intro @kW <| And.intro @tW <| And.intro @qE <| And.intro @lL <| And.intro @iO <| And.intro @mO <| And.intro @eP <| And.intro @An <| And.intro @mN <| And.intro @b6 <| And.intro @mH <| And.intro @lA <| And.intro @KG <| And.intro @eG <| And.intro @KY <| And.intro @G7 <| And.intro @QK <| And.intro @ea <| And.intro @gk <| And.intro @LC <| And.intro @f9 <| And.intro @aI <| And.intro @fP <| And.intro @ay <| And.intro @qB <| And.intro @tO <| And.intro @ql <| And.intro @mM <| And.intro @mB <| And.intro @gz <| And.intro @ke <| And.intro @Ru <| And.intro @kG <| And.intro @kj <| And.intro @fF <| And.intro @pD <| And.intro @qf <| And.intro @gg <| And.intro @oN <| And.intro @cf <| And.intro @kJ <| And.intro @PQ <| And.intro @aB <| And.intro @XW <| And.intro @er <| And.intro @aD <| And.intro @aS <| And.intro @Zu <| And.intro @WW <| And.intro @Z6 <| And.intro @au <| And.intro @YD <| And.intro @ac <| And.intro @fS <| And.intro @fQ <| And.intro @aO <| And.intro @Z2 <| And.intro @dB <| And.intro @lT <| And.intro @lR <| And.intro @Re <| And.intro @V0 <| And.intro @aV <| And.intro @aA <| And.intro @Xy <| And.intro @ej <| And.intro @eC <| And.intro @gY <| And.intro @kd <| And.intro @WE <| And.intro @Vx <| And.intro @lm <| And.intro @qa <| And.intro @ec <| And.intro @aC <| And.intro @oQ <| And.intro @mG <| And.intro @gr <| And.intro @aH <| And.intro @lq <| And.intro @kC <| And.intro @mC <| And.intro @gK <| And.intro @Qh <| And.intro @qb <| And.intro @pO <| And.intro @oZ <| And.intro @mK <| And.intro @l3 <| And.intro @mL <| And.intro @lg <| And.intro @l5 <| And.intro @mE <| And.intro @kF <| And.intro @lN <| And.intro @kH <| And.intro @qg <| And.intro @oJ <| And.intro @pU <| And.intro @aM <| And.intro @WT <| And.intro @bC <| And.intro @bN <| And.intro @pn <| And.intro @ky <| And.intro @kb <| And.intro @wX <| And.intro @kB <| And.intro @Zv <| And.intro @PG <| And.intro @RD <| And.intro @Z5 <| And.intro @lK <| And.intro @d6 <| And.intro @Sm <| And.intro @O6 <| And.intro @lW <| And.intro @az <| And.intro @iE <| And.intro @kR <| And.intro @lO <| And.intro @og <| And.intro @eU <| And.intro @kx <| And.intro @ax <| And.intro @S8 <| And.intro @W7 <| And.intro @gG <| And.intro @aU <| And.intro @Ww <| And.intro @eX <| And.intro @WM <| And.intro @bT <| And.intro @SN <| And.intro @S4 <| And.intro @TD <| And.intro @kL <| And.intro @Jw <| And.intro @eF <| And.intro @aX <| And.intro @pH <| And.intro @lb <| And.intro @WR <| And.intro @kX <| And.intro @pE <| And.intro @lJ <| And.intro @qD <| And.intro @qS <| And.intro @gZ <| And.intro @WY <| And.intro @U1 <| And.intro @YB <| And.intro @sy <| And.intro @U2 <| And.intro @He <| And.intro @pJ <| And.intro @kN <| And.intro @gP <| And.intro @li <| And.intro @gX <| And.intro @kY <| And.intro @qT <| And.intro @pA <| And.intro @get_keep <| And.intro @Ub <| And.intro @aY <| And.intro @wE @wQ) :=
 And.intro @fK <| And.intro @gC <| And.intro @tM <| And.intro @hO <| And.intro @lu <| And.intro @kQ <| And.intro @kt <| And.intro @lx <| And.intro @lU <| And.intro @kh <| And.intro @pf <| And.intro @pB <| And.intro @tg <| And.intro @tX <| And.intro @tK <| And.intro @vl <| And.intro @tI <| And.intro @vu <| And.intro @sw <| And.intro @kE <| And.intro @ku <| And.intro @tD <| And.intro @eA <| And.intro @d5 <| And.intro @mJ <| And.intro @lV <| And.intro @km <| And.intro @oa <| And.intro @od <| And.intro @kW <| And.intro @tW <| And.intro @qE <| And.intro @lL <| And.intro @iO <| And.intro @mO <| And.intro @eP <| And.intro @An <| And.intro @mN <| And.intro @b6 <| And.intro @mH <| And.intro @lA <| And.intro @KG <| And.intro @eG <| And.intro @KY <| And.intro @G7 <| And.intro @QK <| And.intro @ea <| And.intro @gk <| And.intro @LC <| And.intro @f9 <| And.intro @aI <| And.intro @fP <| And.intro @ay <| And.intro @qB <| And.intro @tO <| And.intro @ql <| And.intro @mM <| And.intro @mB <| And.intro @gz <| And.intro @ke <| And.intro @Ru <| And.intro @kG <| And.intro @kj <| And.intro @fF <| And.intro @pD <| And.intro @qf <| And.intro @gg <| And.intro @oN <| And.intro @cf <| And.intro @kJ <| And.intro @PQ <| And.intro @aB <| And.intro @XW <| And.intro @er <| And.intro @aD <| And.intro @aS <| And.intro @Zu <| And.intro @WW <| And.intro @Z6 <| And.intro @au <| And.intro @YD <| And.intro @ac <| And.intro @fS <| And.intro @fQ <| And.intro @aO <| And.intro @Z2 <| And.intro @dB <| And.intro @lT <| And.intro @lR <| And.intro @Re <| And.intro @V0 <| And.intro @aV <| And.intro @aA <| And.intro @Xy <| And.intro @ej <| And.intro @eC <| And.intro @gY <| And.intro @kd <| And.intro @WE <| And.intro @Vx <| And.intro @lm <| And.intro @qa <| And.intro @ec <| And.intro @aC <| And.intro @oQ <| And.intro @mG <| And.intro @gr <| And.intro @aH <| And.intro @lq <| And.intro @kC <| And.intro @mC <| And.intro @gK <| And.intro @Qh <| And.intro @qb <| And.intro @pO <| And.intro @oZ <| And.intro @mK <| And.intro @l3 <| And.intro @mL <| And.intro @lg <| And.intro @l5 <| And.intro @mE <| And.intro @kF <| And.intro @lN <| And.intro @kH <| And.intro @qg <| And.intro @oJ <| And.intro @pU <| And.intro @aM <| And.intro @WT <| And.intro @bC <| And.intro @bN <| And.intro @pn <| And.intro @ky <| And.intro @kb <| And.intro @wX <| And.intro @kB <| And.intro @Zv <| And.intro @PG <| And.intro @RD <| And.intro @Z5 <| And.intro @lK <| And.intro @d6 <| And.intro @Sm <| And.intro @O6 <| And.intro @lW <| And.intro @az <| And.intro @iE <| And.intro @kR <| And.intro @lO <| And.intro @og <| And.intro @eU <| And.intro @kx <| And.intro @ax <| And.intro @S8 <| And.intro @W7 <| And.intro @gG <| And.intro @aU <| And.intro @Ww <| And.intro @eX <| And.intro @WM <| And.intro @bT <| And.intro @SN <| And.intro @S4 <| And.intro @TD <| And.intro @kL <| And.intro @Jw <| And.intro @eF <| And.intro @aX <| And.intro @pH <| And.intro @lb <| And.intro @WR <| And.intro @kX <| And.intro @pE <| And.intro @lJ <| And.intro @qD <| And.intro @qS <| And.intro @gZ <| And.intro @WY <| And.intro @U1 <| And.intro @YB <| And.intro @sy <| And.intro @U2 <| And.intro @He <| And.intro @pJ <| And.intro @kN <| And.intro @gP <| And.intro @li <| And.intro @gX <| And.intro @kY <| And.intro @qT <| And.intro @pA <| And.intro @get_keep <| And.intro @Ub <| And.intro @aY <| And.intro @wE @wQ
end Go.Lf
